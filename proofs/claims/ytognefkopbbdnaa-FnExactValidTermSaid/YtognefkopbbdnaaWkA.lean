import Derived.Test.YtognefkopbbdnaaProg
import Derived.Test.YtognefkopbbdnaaMore3
namespace Go.Proofs.Ytognefkopbbdnaa
open Go.Sx
set_option maxRecDepth 100000
set_option linter.unusedVariables false
set_option linter.unusedSimpArgs false

/-! laws.szByteS -/
def laws_szByteS.f (x1 : List UInt8) (x6 : Int) : Option Int := (if (IntKind.i64.wrap (x6 - (x1.length : Int))) < 0 then some (-1) else some (IntKind.i64.wrap (x6 - (x1.length : Int))))
theorem laws_szByteS.calls (w : World) (x1 : List UInt8) (A2 : Option Addr) (c3 : Nat) (x6 : Int) (h4 : Rd tByte w any A2 x1) (l5 : x1.length ≤ c3) (r : Int) (H : laws_szByteS.f x1 x6 = some r) :
    Calls Try.prog 102 #[.slice A2 x1.length c3, .int .i64 x6] w (fun e e_w => e = .returned (.int .i64 r) ∧ Chg [] w e_w) := by
  rw [laws_szByteS.f] at H
  refine enter (l := [.slice A2 x1.length c3, .int .i64 x6]) 12 Try.func102 rfl rfl rfl ?_
  replace h4 := rd_canon (M := []) (by decide) h4 (by simp)
  have hC := Chg.refl [] w
  refine wp_seq ?_
  refine wp_region_lit ?_
  refine lv (d := 4) rfl rfl (by kernel_rfl) (e_assign (v := .int .i64 0) rfl) ?_
  refine wpList_nil ?_
  refine then_n ?_
  refine wp_seq ?_
  refine wp_region_lit ?_
  refine lv (d := 5) rfl rfl (by kernel_rfl) (e_move (v := .int .i64 x6) (by kernel_rfl)) ?_
  refine lv (d := 6) rfl rfl (by kernel_rfl) (e_move (v := .slice A2 x1.length c3) (by kernel_rfl)) ?_
  refine lv (d := 7) rfl rfl (by kernel_rfl) (e_len (A := A2) (n := x1.length) (c := c3) Try.underlying59 (by kernel_rfl)) ?_
  refine lv (d := 8) rfl rfl (by kernel_rfl) (e_sub (k := .i64) (a := x6) (b := (x1.length : Int)) (by kernel_rfl) (by kernel_rfl)) ?_
  refine lv (d := 1) rfl rfl (by kernel_rfl) (e_assign (v := .int .i64 (IntKind.i64.wrap (x6 - (x1.length : Int)))) (by kernel_rfl)) ?_
  refine wpList_nil ?_
  refine then_n ?_
  refine wp_seq ?_
  refine wp_seq ?_
  refine wp_region_lit ?_
  refine lv (d := 9) rfl rfl (by kernel_rfl) (e_move (v := .int .i64 (IntKind.i64.wrap (x6 - (x1.length : Int)))) (by kernel_rfl)) ?_
  refine lv (d := 10) rfl rfl (by kernel_rfl) (e_lss (k := .i64) (a := (IntKind.i64.wrap (x6 - (x1.length : Int)))) (b := 0) (by kernel_rfl) rfl) ?_
  refine wpList_nil ?_
  refine then_n ?_
  by_cases q7 : (IntKind.i64.wrap (x6 - (x1.length : Int))) < 0
  · replace H := ifp q7 H
    refine cond_t rfl (bt q7 (by kernel_rfl)) ?_
    refine wp_seq ?_
    refine wp_region_lit ?_
    refine lv (d := 4) rfl rfl (by kernel_rfl) (e_assign (v := .int .i64 (-1)) rfl) ?_
    refine wpList_nil ?_
    refine then_n ?_
    refine wp_ret ?_
    refine then_r ?_
    obtain rfl := Option.some.inj H
    exact ret1 (rfl) rfl  (show _ = .int .i64 (-1) from (by kernel_rfl)) ⟨rfl, hC⟩
  replace H := ifn q7 H
  refine cond_f rfl (bf q7 (by kernel_rfl)) ?_
  refine wp_skip ?_
  refine then_n ?_
  refine wp_seq ?_
  refine wp_region_lit ?_
  refine lv (d := 11) rfl rfl (by kernel_rfl) (e_move (v := .int .i64 (IntKind.i64.wrap (x6 - (x1.length : Int)))) (by kernel_rfl)) ?_
  refine lv (d := 4) rfl rfl (by kernel_rfl) (e_assign (v := .int .i64 (IntKind.i64.wrap (x6 - (x1.length : Int)))) (by kernel_rfl)) ?_
  refine wpList_nil ?_
  refine then_n ?_
  refine wp_ret ?_
  obtain rfl := Option.some.inj H
  exact ret1 (rfl) rfl  (show _ = .int .i64 (IntKind.i64.wrap (x6 - (x1.length : Int))) from (by kernel_rfl)) ⟨rfl, hC⟩

/-! laws.szCell -/
def laws_szCell.f (x1 : Cell) (x6 : Int) : Option Int := ((laws_szByteS.f x1.text x6).bind fun t14 => (if t14 < 0 then some (-1) else some t14))
theorem laws_szCell.calls (w : World) (x1 : Cell) (A2 : Option Addr) (c3 : Nat) (x6 : Int) (h4 : Rd tByte w any A2 x1.text) (l5 : x1.text.length ≤ c3) (r : Int) (H : laws_szCell.f x1 x6 = some r) :
    Calls Try.prog 55 #[.agg #[.int .i64 x1.kind, .int .i64 x1.n, .slice A2 x1.text.length c3], .int .i64 x6] w (fun e e_w => e = .returned (.int .i64 r) ∧ Chg [] w e_w) := by
  rw [laws_szCell.f] at H
  refine enter (l := [.agg #[.int .i64 x1.kind, .int .i64 x1.n, .slice A2 x1.text.length c3], .int .i64 x6]) 12 Try.func55 rfl rfl rfl ?_
  replace h4 := rd_canon (M := []) (by decide) h4 (by simp)
  have hC := Chg.refl [] w
  refine wp_seq ?_
  refine wp_region_lit ?_
  refine lve (d := 2) rfl rfl (by kernel_rfl) (new_blk (v := fun g_ => .pointer (some ⟨g_, 0, none⟩)) (cs := #[.int .i64 x1.kind, .int .i64 x1.n, .slice A2 x1.text.length c3]) (t := 68) (by kernel_rfl)) ?_
  rintro _ w7 ⟨g8, rfl, b9, n10, C11⟩
  have m12 := heap_lt b9
  have z13 := C11.size
  replace h4 := Rd.mono (fp_new (g := g8) (by omega)) (Rd.move (fp_chg C11 (by omega) (by simp)) h4)
  replace hC := hC.step C11 (fun _ h_ => by cases h_)
  refine lv (d := 4) rfl rfl (by kernel_rfl) (e_assign (v := .int .i64 0) rfl) ?_
  refine wpList_nil ?_
  refine then_n ?_
  refine wp_seq ?_
  refine wp_region_lit ?_
  refine lv (d := 5) rfl rfl (by kernel_rfl) (e_fieldAddr (b := g8) (off := 0) (o := 2) Try.underlying68 rfl rfl (sz := 1) (by kernel_rfl) (by decide) (by kernel_rfl)) ?_
  refine lv (d := 6) rfl rfl (by kernel_rfl) (e_load1 (ad := ⟨g8, 0 + 2, none⟩) (v := .slice A2 x1.text.length c3) Try.underlying59 rfl (by kernel_rfl) ((cell_of_row _ _ _ _ _ _ b9).trans rfl)) ?_
  refine lv (d := 7) rfl rfl (by kernel_rfl) (e_move (v := .int .i64 x6) (by kernel_rfl)) ?_
  obtain ⟨t14, u15, H⟩ := bnd H
  refine lcall (d := 8) rfl rfl (by kernel_rfl) (e_call (l := [.tmp 6, .tmp 7]) (vs := [.slice A2 x1.text.length c3, .int .i64 x6]) Try.func102 (by kernel_rfl) rfl (by kernel_rfl) rfl) (laws_szByteS.calls w7 x1.text A2 c3 x6 (Rd.mono (fun _ _ => trivial) h4) l5 t14 u15) ?_
  rintro _ w16 ⟨rfl, C17⟩
  refine ⟨_, rfl, ?_⟩
  have u18 : Lt [some g8] w7.heap.size := (Lt.blk b9 (Lt.nil _))
  have z19 := C17.size
  replace hC := hC.step C17 (fun _ h_ => by cases h_)
  refine lv (d := 1) rfl rfl (by kernel_rfl) (e_assign (v := .int .i64 t14) (by kernel_rfl)) ?_
  refine wpList_nil ?_
  refine then_n ?_
  refine wp_seq ?_
  refine wp_seq ?_
  refine wp_region_lit ?_
  refine lv (d := 9) rfl rfl (by kernel_rfl) (e_move (v := .int .i64 t14) (by kernel_rfl)) ?_
  refine lv (d := 10) rfl rfl (by kernel_rfl) (e_lss (k := .i64) (a := t14) (b := 0) (by kernel_rfl) rfl) ?_
  refine wpList_nil ?_
  refine then_n ?_
  by_cases q20 : t14 < 0
  · replace H := ifp q20 H
    refine cond_t rfl (bt q20 (by kernel_rfl)) ?_
    refine wp_seq ?_
    refine wp_region_lit ?_
    refine lv (d := 4) rfl rfl (by kernel_rfl) (e_assign (v := .int .i64 (-1)) rfl) ?_
    refine wpList_nil ?_
    refine then_n ?_
    refine wp_ret ?_
    refine then_r ?_
    obtain rfl := Option.some.inj H
    exact ret1 (rfl) rfl  (show _ = .int .i64 (-1) from (by kernel_rfl)) ⟨rfl, hC⟩
  replace H := ifn q20 H
  refine cond_f rfl (bf q20 (by kernel_rfl)) ?_
  refine wp_skip ?_
  refine then_n ?_
  refine wp_seq ?_
  refine wp_region_lit ?_
  refine lv (d := 11) rfl rfl (by kernel_rfl) (e_move (v := .int .i64 t14) (by kernel_rfl)) ?_
  refine lv (d := 4) rfl rfl (by kernel_rfl) (e_assign (v := .int .i64 t14) (by kernel_rfl)) ?_
  refine wpList_nil ?_
  refine then_n ?_
  refine wp_ret ?_
  obtain rfl := Option.some.inj H
  exact ret1 (rfl) rfl  (show _ = .int .i64 t14 from (by kernel_rfl)) ⟨rfl, hC⟩

/-! laws.szCellS -/
def sl5 : Ty (List UInt8) := slice 5 tByte (by decide)
def st68 : Ty Cell := iso (pair tInt (pair tInt sl5)) (fun x => (x.kind, x.n, x.text))
theorem st68_open {w : World} {F : Foot} {x : Cell} {cs : List Value} (h : st68.R w F x cs) : ∃ (A2 : Option Addr) (c2 : Nat), cs = [.int .i64 x.kind, .int .i64 x.n, .slice A2 x.text.length c2] ∧ x.text.length ≤ c2 ∧ Rd tByte w F A2 x.text := by
  obtain ⟨_, _, rfl, rfl, ⟨_, _, rfl, rfl, ⟨A2, c2, rfl, l2, h2⟩⟩⟩ := h
  exact ⟨A2, c2, rfl, l2, h2⟩
theorem st68_mkR {w : World} {F : Foot} {x : Cell} {A2 : Option Addr} {c2 : Nat} (l2 : x.text.length ≤ c2) (h2 : Rd tByte w F A2 x.text) : st68.R w F x [.int .i64 x.kind, .int .i64 x.n, .slice A2 x.text.length c2] := ⟨[.int .i64 x.kind], [.int .i64 x.n, .slice A2 x.text.length c2], rfl, rfl, ⟨[.int .i64 x.n], [.slice A2 x.text.length c2], rfl, rfl, ⟨A2, c2, rfl, l2, h2⟩⟩⟩
theorem st68_mkO {w : World} {F : Foot} {x : Cell} {A2 : Option Addr} {c2 : Nat} (h2 : Row tByte 5 w F A2 c2 x.text) : st68.O w F x [.int .i64 x.kind, .int .i64 x.n, .slice A2 x.text.length c2] := (pairO0 (a := tInt) (b := (pair tInt sl5)) (x := (x.kind, (x.n, x.text))) (c0 := [.int .i64 x.kind]) (c1 := [.int .i64 x.n, .slice A2 x.text.length c2]) rfl (pairO0 (a := tInt) (b := sl5) (x := (x.n, x.text)) (c0 := [.int .i64 x.n]) (c1 := [.slice A2 x.text.length c2]) rfl ⟨A2, c2, rfl, h2⟩))
def z68 : Cell := ⟨(0 : Int), (0 : Int), ([] : List UInt8)⟩
theorem z68_O (w : World) : st68.O w (fun _ => False) z68 [.int .i64 (0 : Int), .int .i64 (0 : Int), .slice none 0 0] := st68_mkO (x := z68) (Row.nil _ _ _ _)
def laws_szCellS.l0 : Nat → (List Cell) → Int → Int → Option Int
  | 0, _, _, _ => none
  | k18 + 1, x1, x11, x13 => (if x13 < (x1.length : Int) then (if 0 ≤ x13 then ((laws_szCell.f (x1.getD (x13).toNat z68) x11).bind fun t31 => (if t31 < 0 then some (-1) else (laws_szCellS.l0 k18 x1 t31 (IntKind.i64.wrap (x13 + 1))))) else none) else some x11)
def laws_szCellS.f (k : Nat) (x1 : List Cell) (x6 : Int) : Option Int := (if (IntKind.i64.wrap (x6 - (x1.length : Int))) < 0 then some (-1) else (laws_szCellS.l0 k x1 (IntKind.i64.wrap (x6 - (x1.length : Int))) 0))
theorem laws_szCellS.calls (k : Nat) (w : World) (x1 : List Cell) (A2 : Option Addr) (c3 : Nat) (x6 : Int) (h4 : Rd st68 w any A2 x1) (l5 : x1.length ≤ c3) (r : Int) (H : laws_szCellS.f k x1 x6 = some r) :
    Calls Try.prog 14 #[.slice A2 x1.length c3, .int .i64 x6] w (fun e e_w => e = .returned (.int .i64 r) ∧ Chg [] w e_w) := by
  rw [laws_szCellS.f] at H
  refine enter (l := [.slice A2 x1.length c3, .int .i64 x6]) 27 Try.func14 rfl rfl rfl ?_
  replace h4 := rd_canon (M := []) (by decide) h4 (by simp)
  have hC := Chg.refl [] w
  refine wp_seq ?_
  refine wp_region_lit ?_
  refine lv (d := 4) rfl rfl (by kernel_rfl) (e_assign (v := .int .i64 0) rfl) ?_
  refine wpList_nil ?_
  refine then_n ?_
  refine wp_seq ?_
  refine wp_region_lit ?_
  refine lv (d := 6) rfl rfl (by kernel_rfl) (e_move (v := .int .i64 x6) (by kernel_rfl)) ?_
  refine lv (d := 7) rfl rfl (by kernel_rfl) (e_move (v := .slice A2 x1.length c3) (by kernel_rfl)) ?_
  refine lv (d := 8) rfl rfl (by kernel_rfl) (e_len (A := A2) (n := x1.length) (c := c3) Try.underlying22 (by kernel_rfl)) ?_
  refine lv (d := 9) rfl rfl (by kernel_rfl) (e_sub (k := .i64) (a := x6) (b := (x1.length : Int)) (by kernel_rfl) (by kernel_rfl)) ?_
  refine lv (d := 1) rfl rfl (by kernel_rfl) (e_assign (v := .int .i64 (IntKind.i64.wrap (x6 - (x1.length : Int)))) (by kernel_rfl)) ?_
  refine wpList_nil ?_
  refine then_n ?_
  refine wp_seq ?_
  refine wp_seq ?_
  refine wp_region_lit ?_
  refine lv (d := 10) rfl rfl (by kernel_rfl) (e_move (v := .int .i64 (IntKind.i64.wrap (x6 - (x1.length : Int)))) (by kernel_rfl)) ?_
  refine lv (d := 11) rfl rfl (by kernel_rfl) (e_lss (k := .i64) (a := (IntKind.i64.wrap (x6 - (x1.length : Int)))) (b := 0) (by kernel_rfl) rfl) ?_
  refine wpList_nil ?_
  refine then_n ?_
  by_cases q7 : (IntKind.i64.wrap (x6 - (x1.length : Int))) < 0
  · replace H := ifp q7 H
    refine cond_t rfl (bt q7 (by kernel_rfl)) ?_
    refine wp_seq ?_
    refine wp_region_lit ?_
    refine lv (d := 4) rfl rfl (by kernel_rfl) (e_assign (v := .int .i64 (-1)) rfl) ?_
    refine wpList_nil ?_
    refine then_n ?_
    refine wp_ret ?_
    refine then_r ?_
    obtain rfl := Option.some.inj H
    exact ret1 (rfl) rfl  (show _ = .int .i64 (-1) from (by kernel_rfl)) ⟨rfl, hC⟩
  replace H := ifn q7 H
  refine cond_f rfl (bf q7 (by kernel_rfl)) ?_
  refine wp_skip ?_
  refine then_n ?_
  refine wp_seq ?_
  refine wp_seq ?_
  refine wp_region_lit ?_
  refine lv (d := 5) rfl rfl (by kernel_rfl) (e_assign (v := .int .i64 0) rfl) ?_
  refine wpList_nil ?_
  refine then_n ?_
  refine wp_block ?_
  refine wp_loop_g (fun k16 a17 w8 => ∃ (f9 : Nat → Value) (x11 : Int) (x13 : Int), a17 = mk 27 f9 ∧ f9 0 = .slice A2 x1.length c3 ∧ f9 1 = .int .i64 x11 ∧ f9 5 = .int .i64 x13 ∧ Rd st68 w8 (FP any w.heap.size []) A2 x1 ∧ Chg [] w w8 ∧ w.heap.size ≤ w8.heap.size ∧ laws_szCellS.l0 k16 x1 x11 x13 = some r) k ⟨_, (IntKind.i64.wrap (x6 - (x1.length : Int))), 0, rfl, (by kernel_rfl), (by kernel_rfl), (by kernel_rfl), (Rd.mono (fp_sub (fun _ h_ => h_) (by omega) (by simp [bk])) h4), hC, (by omega), H⟩ ?_
  rintro k16 a17 w8 ⟨f9, x11, x13, rfl, e10, e12, e14, h4, hC, z15, H⟩
  rcases k16 with _ | k18
  · rw [laws_szCellS.l0] at H
    cases H
  rw [laws_szCellS.l0] at H
  refine wp_seq ?_
  refine wp_seq ?_
  refine wp_region_lit ?_
  refine lv (d := 12) rfl rfl (by kernel_rfl) (e_move (v := .int .i64 x13) (by exact e14)) ?_
  refine lv (d := 13) rfl rfl (by kernel_rfl) (e_move (v := .slice A2 x1.length c3) (by exact e10)) ?_
  refine lv (d := 14) rfl rfl (by kernel_rfl) (e_len (A := A2) (n := x1.length) (c := c3) Try.underlying22 (by kernel_rfl)) ?_
  refine lv (d := 15) rfl rfl (by kernel_rfl) (e_lss (k := .i64) (a := x13) (b := (x1.length : Int)) (by kernel_rfl) (by kernel_rfl)) ?_
  refine wpList_nil ?_
  refine then_n ?_
  by_cases q19 : x13 < (x1.length : Int)
  · replace H := ifp q19 H
    refine cond_t rfl (bt q19 (by kernel_rfl)) ?_
    refine wp_skip ?_
    refine then_n ?_
    refine wp_seq ?_
    refine wp_block ?_
    refine wp_seq ?_
    refine wp_region_lit ?_
    refine lv (d := 18) rfl rfl (by kernel_rfl) (e_move (v := .slice A2 x1.length c3) (by exact e10)) ?_
    refine lv (d := 19) rfl rfl (by kernel_rfl) (e_move (v := .int .i64 x13) (by exact e14)) ?_
    obtain ⟨q20, H⟩ := chk H
    obtain ⟨b21, o22, y23, e26, _, r24, k25⟩ := Rd.get h4 (x13).toNat _ (getD_some z68 (by omega))
    obtain ⟨A27, c28, rfl, l29, h30⟩ := st68_open r24
    refine lv (d := 20) rfl rfl (by kernel_rfl) (e_indexAddr (b := b21) (off := o22) (n := x1.length) (c := c3) (sz := 3) (i := x13) (k := .i64) Try.underlying22 e26 (by kernel_rfl) (by kernel_rfl) (by kernel_rfl) q20 q19) ?_
    refine lv (d := 21) rfl rfl (by kernel_rfl) (e_loadS (b := b21) (off := o22 + (x13 : Int).toNat * 3) (cs := [.int .i64 ((x1.getD (x13).toNat z68).kind), .int .i64 ((x1.getD (x13).toNat z68).n), .slice A27 ((x1.getD (x13).toNat z68).text).length c28]) Try.underlying68 rfl (by kernel_rfl) (by kernel_rfl) k25) ?_
    refine lv (d := 22) rfl rfl (by kernel_rfl) (e_move (v := .int .i64 x11) (by exact e12)) ?_
    obtain ⟨t31, u32, H⟩ := bnd H
    refine lcall (d := 23) rfl rfl (by kernel_rfl) (e_call (l := [.tmp 21, .tmp 22]) (vs := [.agg #[.int .i64 ((x1.getD (x13).toNat z68).kind), .int .i64 ((x1.getD (x13).toNat z68).n), .slice A27 ((x1.getD (x13).toNat z68).text).length c28], .int .i64 x11]) Try.func55 (by kernel_rfl) rfl (by kernel_rfl) rfl) (laws_szCell.calls w8 (x1.getD (x13).toNat z68) A27 c28 x11 (Rd.mono (fun _ _ => trivial) h30) l29 t31 u32) ?_
    rintro _ w33 ⟨rfl, C34⟩
    refine ⟨_, rfl, ?_⟩
    have u35 : Lt [] w8.heap.size := (Lt.nil _)
    have z36 := C34.size
    replace h4 := Rd.move (fp_chg C34 (by omega) (by simp)) h4
    replace hC := hC.step C34 (fun _ h_ => by cases h_)
    refine lv (d := 1) rfl rfl (by kernel_rfl) (e_assign (v := .int .i64 t31) (by kernel_rfl)) ?_
    refine wpList_nil ?_
    refine then_n ?_
    refine wp_seq ?_
    refine wp_region_lit ?_
    refine lv (d := 24) rfl rfl (by kernel_rfl) (e_move (v := .int .i64 t31) (by kernel_rfl)) ?_
    refine lv (d := 25) rfl rfl (by kernel_rfl) (e_lss (k := .i64) (a := t31) (b := 0) (by kernel_rfl) rfl) ?_
    refine wpList_nil ?_
    refine then_n ?_
    by_cases q37 : t31 < 0
    · replace H := ifp q37 H
      refine cond_t rfl (bt q37 (by kernel_rfl)) ?_
      refine wp_seq ?_
      refine wp_region_lit ?_
      refine lv (d := 4) rfl rfl (by kernel_rfl) (e_assign (v := .int .i64 (-1)) rfl) ?_
      refine wpList_nil ?_
      refine then_n ?_
      refine wp_ret ?_
      refine inb_r ?_
      refine then_r ?_
      refine then_r ?_
      refine inb_r ?_
      refine then_r ?_
      obtain rfl := Option.some.inj H
      exact ret1 (rfl) rfl  (show _ = .int .i64 (-1) from (by kernel_rfl)) ⟨rfl, hC⟩
    replace H := ifn q37 H
    refine cond_f rfl (bf q37 (by kernel_rfl)) ?_
    refine wp_skip ?_
    refine inb_n ?_
    refine then_n ?_
    refine wp_region_lit ?_
    refine lv (d := 16) rfl rfl (by kernel_rfl) (e_move (v := .int .i64 x13) (by exact e14)) ?_
    refine lv (d := 17) rfl rfl (by kernel_rfl) (e_add (k := .i64) (a := x13) (b := 1) (by kernel_rfl) rfl) ?_
    refine lv (d := 5) rfl rfl (by kernel_rfl) (e_assign (v := .int .i64 (IntKind.i64.wrap (x13 + 1))) (by kernel_rfl)) ?_
    refine wpList_nil ?_
    refine then_n ?_
    exact ⟨k18, Nat.lt_succ_self _, _, t31, (IntKind.i64.wrap (x13 + 1)), rfl, (by exact e10), (by kernel_rfl), (by kernel_rfl), (Rd.mono (fp_sub (fun _ h_ => h_) (by omega) (by simp [bk])) h4), hC, (by omega), H⟩
  replace H := ifn q19 H
  refine cond_f rfl (bf q19 (by kernel_rfl)) ?_
  refine wp_exit ?_
  refine then_e ?_
  refine then_e ?_
  refine inb_hit ?_
  refine then_n ?_
  refine wp_seq ?_
  refine wp_region_lit ?_
  refine lv (d := 26) rfl rfl (by kernel_rfl) (e_move (v := .int .i64 x11) (by exact e12)) ?_
  refine lv (d := 4) rfl rfl (by kernel_rfl) (e_assign (v := .int .i64 x11) (by kernel_rfl)) ?_
  refine wpList_nil ?_
  refine then_n ?_
  refine wp_ret ?_
  obtain rfl := Option.some.inj H
  exact ret1 (rfl) rfl  (show _ = .int .i64 x11 from (by kernel_rfl)) ⟨rfl, hC⟩

/-! spec.l2cell -/
def spec_l2cell.f (x1 : Cell) : Option Bool := (if x1.kind = 0 then (if x1.n ≥ 0 then (if x1.n ≤ 1000000 then some (decide ((x1.text.length : Int) = 0)) else some false) else some false) else (if x1.kind = 1 then (if x1.n ≥ (-1000000000000000) then (if x1.n ≤ 1000000000000000 then some (decide ((x1.text.length : Int) = 0)) else some false) else some false) else (if (x1.text.length : Int) > 100 then some false else (if x1.kind = 2 then some (decide (x1.n = 0)) else (if x1.kind = 3 then (if x1.n ≥ 1 then some (decide (x1.n ≤ 20)) else some false) else some false)))))
theorem spec_l2cell.calls (w : World) (x1 : Cell) (A2 : Option Addr) (c3 : Nat) (h4 : Rd tByte w any A2 x1.text) (l5 : x1.text.length ≤ c3) (r : Bool) (H : spec_l2cell.f x1 = some r) :
    Calls Try.prog 56 #[.agg #[.int .i64 x1.kind, .int .i64 x1.n, .slice A2 x1.text.length c3]] w (fun e e_w => e = .returned (.bool r) ∧ Chg [] w e_w) := by
  rw [spec_l2cell.f] at H
  refine enter (l := [.agg #[.int .i64 x1.kind, .int .i64 x1.n, .slice A2 x1.text.length c3]]) 60 Try.func56 rfl rfl rfl ?_
  replace h4 := rd_canon (M := []) (by decide) h4 (by simp)
  have hC := Chg.refl [] w
  refine wp_seq ?_
  refine wp_region_lit ?_
  refine lve (d := 1) rfl rfl (by kernel_rfl) (new_blk (v := fun g_ => .pointer (some ⟨g_, 0, none⟩)) (cs := #[.int .i64 x1.kind, .int .i64 x1.n, .slice A2 x1.text.length c3]) (t := 65) (by kernel_rfl)) ?_
  rintro _ w6 ⟨g7, rfl, b8, n9, C10⟩
  have m11 := heap_lt b8
  have z12 := C10.size
  replace h4 := Rd.mono (fp_new (g := g7) (by omega)) (Rd.move (fp_chg C10 (by omega) (by simp)) h4)
  replace hC := hC.step C10 (fun _ h_ => by cases h_)
  refine lv (d := 2) rfl rfl (by kernel_rfl) (e_assign (v := .bool false) rfl) ?_
  refine wpList_nil ?_
  refine then_n ?_
  refine wp_seq ?_
  refine wp_seq ?_
  refine wp_region_lit ?_
  refine lv (d := 3) rfl rfl (by kernel_rfl) (e_fieldAddr (b := g7) (off := 0) (o := 0) Try.underlying65 rfl rfl (sz := 1) (by kernel_rfl) (by decide) (by kernel_rfl)) ?_
  refine lv (d := 4) rfl rfl (by kernel_rfl) (e_load1 (ad := ⟨g7, 0 + 0, none⟩) (v := .int .i64 x1.kind) Try.underlying3 rfl (by kernel_rfl) ((cell_of_row _ _ _ _ _ _ b8).trans rfl)) ?_
  refine lv (d := 5) rfl rfl (by kernel_rfl) (e_eql (k := .i64) (a := x1.kind) (b := 0) (by kernel_rfl) rfl) ?_
  refine wpList_nil ?_
  refine then_n ?_
  by_cases q13 : x1.kind = 0
  · replace H := ifp q13 H
    refine cond_t rfl (bt q13 (by kernel_rfl)) ?_
    refine wp_seq ?_
    refine wp_region_lit ?_
    refine lv (d := 6) rfl rfl (by kernel_rfl) (e_fieldAddr (b := g7) (off := 0) (o := 1) Try.underlying65 rfl rfl (sz := 1) (by kernel_rfl) (by decide) (by kernel_rfl)) ?_
    refine lv (d := 7) rfl rfl (by kernel_rfl) (e_load1 (ad := ⟨g7, 0 + 1, none⟩) (v := .int .i64 x1.n) Try.underlying3 rfl (by kernel_rfl) ((cell_of_row _ _ _ _ _ _ b8).trans rfl)) ?_
    refine lv (d := 8) rfl rfl (by kernel_rfl) (e_geq (k := .i64) (a := x1.n) (b := 0) (by kernel_rfl) rfl) ?_
    refine lv (d := 9) rfl rfl (by kernel_rfl) (e_move (v := .bool (decide (x1.n ≥ 0))) (by kernel_rfl)) ?_
    by_cases q14 : x1.n ≥ 0
    · replace H := ifp q14 H
      refine lvg (d := 10) (t := 9) rfl (by kernel_rfl) rfl (bt q14 (by kernel_rfl)) rfl (by kernel_rfl) (e_fieldAddr (b := g7) (off := 0) (o := 1) Try.underlying65 rfl rfl (sz := 1) (by kernel_rfl) (by decide) (by kernel_rfl)) ?_
      refine lvg (d := 11) (t := 9) rfl (by kernel_rfl) rfl (bt q14 (by kernel_rfl)) rfl (by kernel_rfl) (e_load1 (ad := ⟨g7, 0 + 1, none⟩) (v := .int .i64 x1.n) Try.underlying3 rfl (by kernel_rfl) ((cell_of_row _ _ _ _ _ _ b8).trans rfl)) ?_
      refine lvg (d := 12) (t := 9) rfl (by kernel_rfl) rfl (bt q14 (by kernel_rfl)) rfl (by kernel_rfl) (e_leq (k := .i64) (a := x1.n) (b := 1000000) (by kernel_rfl) rfl) ?_
      refine lv (d := 13) rfl rfl (by kernel_rfl) (e_pick_t (v := .bool (decide (x1.n ≤ 1000000))) (bt q14 (by kernel_rfl)) (by kernel_rfl)) ?_
      refine lv (d := 14) rfl rfl (by kernel_rfl) (e_move (v := .bool (decide (x1.n ≤ 1000000))) (by kernel_rfl)) ?_
      by_cases q15 : x1.n ≤ 1000000
      · replace H := ifp q15 H
        refine lvg (d := 15) (t := 14) rfl (by kernel_rfl) rfl (bt q15 (by kernel_rfl)) rfl (by kernel_rfl) (e_fieldAddr (b := g7) (off := 0) (o := 2) Try.underlying65 rfl rfl (sz := 1) (by kernel_rfl) (by decide) (by kernel_rfl)) ?_
        refine lvg (d := 16) (t := 14) rfl (by kernel_rfl) rfl (bt q15 (by kernel_rfl)) rfl (by kernel_rfl) (e_load1 (ad := ⟨g7, 0 + 2, none⟩) (v := .slice A2 x1.text.length c3) Try.underlying59 rfl (by kernel_rfl) ((cell_of_row _ _ _ _ _ _ b8).trans rfl)) ?_
        refine lvg (d := 17) (t := 14) rfl (by kernel_rfl) rfl (bt q15 (by kernel_rfl)) rfl (by kernel_rfl) (e_len (A := A2) (n := x1.text.length) (c := c3) Try.underlying59 (by kernel_rfl)) ?_
        refine lvg (d := 18) (t := 14) rfl (by kernel_rfl) rfl (bt q15 (by kernel_rfl)) rfl (by kernel_rfl) (e_eql (k := .i64) (a := (x1.text.length : Int)) (b := 0) (by kernel_rfl) rfl) ?_
        refine lv (d := 19) rfl rfl (by kernel_rfl) (e_pick_t (v := .bool (decide ((x1.text.length : Int) = 0))) (bt q15 (by kernel_rfl)) (by kernel_rfl)) ?_
        refine lv (d := 2) rfl rfl (by kernel_rfl) (e_assign (v := .bool (decide ((x1.text.length : Int) = 0))) (by kernel_rfl)) ?_
        refine wpList_nil ?_
        refine then_n ?_
        refine wp_ret ?_
        refine then_r ?_
        obtain rfl := Option.some.inj H
        exact ret1 (rfl) rfl  (show _ = .bool (decide ((x1.text.length : Int) = 0)) from (by kernel_rfl)) ⟨rfl, hC⟩
      replace H := ifn q15 H
      refine lskip (t := 14) (c := false) rfl (by kernel_rfl) rfl (bf q15 (by kernel_rfl)) rfl rfl ?_
      refine lskip (t := 14) (c := false) rfl (by kernel_rfl) rfl (bf q15 (by kernel_rfl)) rfl rfl ?_
      refine lskip (t := 14) (c := false) rfl (by kernel_rfl) rfl (bf q15 (by kernel_rfl)) rfl rfl ?_
      refine lskip (t := 14) (c := false) rfl (by kernel_rfl) rfl (bf q15 (by kernel_rfl)) rfl rfl ?_
      refine lv (d := 19) rfl rfl (by kernel_rfl) (e_pick_f (v := .bool false) (bf q15 (by kernel_rfl)) rfl) ?_
      refine lv (d := 2) rfl rfl (by kernel_rfl) (e_assign (v := .bool false) (by kernel_rfl)) ?_
      refine wpList_nil ?_
      refine then_n ?_
      refine wp_ret ?_
      refine then_r ?_
      obtain rfl := Option.some.inj H
      exact ret1 (rfl) rfl  (show _ = .bool false from (by kernel_rfl)) ⟨rfl, hC⟩
    replace H := ifn q14 H
    refine lskip (t := 9) (c := false) rfl (by kernel_rfl) rfl (bf q14 (by kernel_rfl)) rfl rfl ?_
    refine lskip (t := 9) (c := false) rfl (by kernel_rfl) rfl (bf q14 (by kernel_rfl)) rfl rfl ?_
    refine lskip (t := 9) (c := false) rfl (by kernel_rfl) rfl (bf q14 (by kernel_rfl)) rfl rfl ?_
    refine lv (d := 13) rfl rfl (by kernel_rfl) (e_pick_f (v := .bool false) (bf q14 (by kernel_rfl)) rfl) ?_
    refine lv (d := 14) rfl rfl (by kernel_rfl) (e_move (v := .bool false) (by kernel_rfl)) ?_
    refine lskip (t := 14) (c := false) rfl (by kernel_rfl) rfl (by kernel_rfl) rfl rfl ?_
    refine lskip (t := 14) (c := false) rfl (by kernel_rfl) rfl (by kernel_rfl) rfl rfl ?_
    refine lskip (t := 14) (c := false) rfl (by kernel_rfl) rfl (by kernel_rfl) rfl rfl ?_
    refine lskip (t := 14) (c := false) rfl (by kernel_rfl) rfl (by kernel_rfl) rfl rfl ?_
    refine lv (d := 19) rfl rfl (by kernel_rfl) (e_pick_f (v := .bool false) (by kernel_rfl) rfl) ?_
    refine lv (d := 2) rfl rfl (by kernel_rfl) (e_assign (v := .bool false) (by kernel_rfl)) ?_
    refine wpList_nil ?_
    refine then_n ?_
    refine wp_ret ?_
    refine then_r ?_
    obtain rfl := Option.some.inj H
    exact ret1 (rfl) rfl  (show _ = .bool false from (by kernel_rfl)) ⟨rfl, hC⟩
  replace H := ifn q13 H
  refine cond_f rfl (bf q13 (by kernel_rfl)) ?_
  refine wp_skip ?_
  refine then_n ?_
  refine wp_seq ?_
  refine wp_seq ?_
  refine wp_region_lit ?_
  refine lv (d := 20) rfl rfl (by kernel_rfl) (e_fieldAddr (b := g7) (off := 0) (o := 0) Try.underlying65 rfl rfl (sz := 1) (by kernel_rfl) (by decide) (by kernel_rfl)) ?_
  refine lv (d := 21) rfl rfl (by kernel_rfl) (e_load1 (ad := ⟨g7, 0 + 0, none⟩) (v := .int .i64 x1.kind) Try.underlying3 rfl (by kernel_rfl) ((cell_of_row _ _ _ _ _ _ b8).trans rfl)) ?_
  refine lv (d := 22) rfl rfl (by kernel_rfl) (e_eql (k := .i64) (a := x1.kind) (b := 1) (by kernel_rfl) rfl) ?_
  refine wpList_nil ?_
  refine then_n ?_
  by_cases q16 : x1.kind = 1
  · replace H := ifp q16 H
    refine cond_t rfl (bt q16 (by kernel_rfl)) ?_
    refine wp_seq ?_
    refine wp_region_lit ?_
    refine lv (d := 23) rfl rfl (by kernel_rfl) (e_fieldAddr (b := g7) (off := 0) (o := 1) Try.underlying65 rfl rfl (sz := 1) (by kernel_rfl) (by decide) (by kernel_rfl)) ?_
    refine lv (d := 24) rfl rfl (by kernel_rfl) (e_load1 (ad := ⟨g7, 0 + 1, none⟩) (v := .int .i64 x1.n) Try.underlying3 rfl (by kernel_rfl) ((cell_of_row _ _ _ _ _ _ b8).trans rfl)) ?_
    refine lv (d := 25) rfl rfl (by kernel_rfl) (e_geq (k := .i64) (a := x1.n) (b := (-1000000000000000)) (by kernel_rfl) rfl) ?_
    refine lv (d := 26) rfl rfl (by kernel_rfl) (e_move (v := .bool (decide (x1.n ≥ (-1000000000000000)))) (by kernel_rfl)) ?_
    by_cases q17 : x1.n ≥ (-1000000000000000)
    · replace H := ifp q17 H
      refine lvg (d := 27) (t := 26) rfl (by kernel_rfl) rfl (bt q17 (by kernel_rfl)) rfl (by kernel_rfl) (e_fieldAddr (b := g7) (off := 0) (o := 1) Try.underlying65 rfl rfl (sz := 1) (by kernel_rfl) (by decide) (by kernel_rfl)) ?_
      refine lvg (d := 28) (t := 26) rfl (by kernel_rfl) rfl (bt q17 (by kernel_rfl)) rfl (by kernel_rfl) (e_load1 (ad := ⟨g7, 0 + 1, none⟩) (v := .int .i64 x1.n) Try.underlying3 rfl (by kernel_rfl) ((cell_of_row _ _ _ _ _ _ b8).trans rfl)) ?_
      refine lvg (d := 29) (t := 26) rfl (by kernel_rfl) rfl (bt q17 (by kernel_rfl)) rfl (by kernel_rfl) (e_leq (k := .i64) (a := x1.n) (b := 1000000000000000) (by kernel_rfl) rfl) ?_
      refine lv (d := 30) rfl rfl (by kernel_rfl) (e_pick_t (v := .bool (decide (x1.n ≤ 1000000000000000))) (bt q17 (by kernel_rfl)) (by kernel_rfl)) ?_
      refine lv (d := 31) rfl rfl (by kernel_rfl) (e_move (v := .bool (decide (x1.n ≤ 1000000000000000))) (by kernel_rfl)) ?_
      by_cases q18 : x1.n ≤ 1000000000000000
      · replace H := ifp q18 H
        refine lvg (d := 32) (t := 31) rfl (by kernel_rfl) rfl (bt q18 (by kernel_rfl)) rfl (by kernel_rfl) (e_fieldAddr (b := g7) (off := 0) (o := 2) Try.underlying65 rfl rfl (sz := 1) (by kernel_rfl) (by decide) (by kernel_rfl)) ?_
        refine lvg (d := 33) (t := 31) rfl (by kernel_rfl) rfl (bt q18 (by kernel_rfl)) rfl (by kernel_rfl) (e_load1 (ad := ⟨g7, 0 + 2, none⟩) (v := .slice A2 x1.text.length c3) Try.underlying59 rfl (by kernel_rfl) ((cell_of_row _ _ _ _ _ _ b8).trans rfl)) ?_
        refine lvg (d := 34) (t := 31) rfl (by kernel_rfl) rfl (bt q18 (by kernel_rfl)) rfl (by kernel_rfl) (e_len (A := A2) (n := x1.text.length) (c := c3) Try.underlying59 (by kernel_rfl)) ?_
        refine lvg (d := 35) (t := 31) rfl (by kernel_rfl) rfl (bt q18 (by kernel_rfl)) rfl (by kernel_rfl) (e_eql (k := .i64) (a := (x1.text.length : Int)) (b := 0) (by kernel_rfl) rfl) ?_
        refine lv (d := 36) rfl rfl (by kernel_rfl) (e_pick_t (v := .bool (decide ((x1.text.length : Int) = 0))) (bt q18 (by kernel_rfl)) (by kernel_rfl)) ?_
        refine lv (d := 2) rfl rfl (by kernel_rfl) (e_assign (v := .bool (decide ((x1.text.length : Int) = 0))) (by kernel_rfl)) ?_
        refine wpList_nil ?_
        refine then_n ?_
        refine wp_ret ?_
        refine then_r ?_
        obtain rfl := Option.some.inj H
        exact ret1 (rfl) rfl  (show _ = .bool (decide ((x1.text.length : Int) = 0)) from (by kernel_rfl)) ⟨rfl, hC⟩
      replace H := ifn q18 H
      refine lskip (t := 31) (c := false) rfl (by kernel_rfl) rfl (bf q18 (by kernel_rfl)) rfl rfl ?_
      refine lskip (t := 31) (c := false) rfl (by kernel_rfl) rfl (bf q18 (by kernel_rfl)) rfl rfl ?_
      refine lskip (t := 31) (c := false) rfl (by kernel_rfl) rfl (bf q18 (by kernel_rfl)) rfl rfl ?_
      refine lskip (t := 31) (c := false) rfl (by kernel_rfl) rfl (bf q18 (by kernel_rfl)) rfl rfl ?_
      refine lv (d := 36) rfl rfl (by kernel_rfl) (e_pick_f (v := .bool false) (bf q18 (by kernel_rfl)) rfl) ?_
      refine lv (d := 2) rfl rfl (by kernel_rfl) (e_assign (v := .bool false) (by kernel_rfl)) ?_
      refine wpList_nil ?_
      refine then_n ?_
      refine wp_ret ?_
      refine then_r ?_
      obtain rfl := Option.some.inj H
      exact ret1 (rfl) rfl  (show _ = .bool false from (by kernel_rfl)) ⟨rfl, hC⟩
    replace H := ifn q17 H
    refine lskip (t := 26) (c := false) rfl (by kernel_rfl) rfl (bf q17 (by kernel_rfl)) rfl rfl ?_
    refine lskip (t := 26) (c := false) rfl (by kernel_rfl) rfl (bf q17 (by kernel_rfl)) rfl rfl ?_
    refine lskip (t := 26) (c := false) rfl (by kernel_rfl) rfl (bf q17 (by kernel_rfl)) rfl rfl ?_
    refine lv (d := 30) rfl rfl (by kernel_rfl) (e_pick_f (v := .bool false) (bf q17 (by kernel_rfl)) rfl) ?_
    refine lv (d := 31) rfl rfl (by kernel_rfl) (e_move (v := .bool false) (by kernel_rfl)) ?_
    refine lskip (t := 31) (c := false) rfl (by kernel_rfl) rfl (by kernel_rfl) rfl rfl ?_
    refine lskip (t := 31) (c := false) rfl (by kernel_rfl) rfl (by kernel_rfl) rfl rfl ?_
    refine lskip (t := 31) (c := false) rfl (by kernel_rfl) rfl (by kernel_rfl) rfl rfl ?_
    refine lskip (t := 31) (c := false) rfl (by kernel_rfl) rfl (by kernel_rfl) rfl rfl ?_
    refine lv (d := 36) rfl rfl (by kernel_rfl) (e_pick_f (v := .bool false) (by kernel_rfl) rfl) ?_
    refine lv (d := 2) rfl rfl (by kernel_rfl) (e_assign (v := .bool false) (by kernel_rfl)) ?_
    refine wpList_nil ?_
    refine then_n ?_
    refine wp_ret ?_
    refine then_r ?_
    obtain rfl := Option.some.inj H
    exact ret1 (rfl) rfl  (show _ = .bool false from (by kernel_rfl)) ⟨rfl, hC⟩
  replace H := ifn q16 H
  refine cond_f rfl (bf q16 (by kernel_rfl)) ?_
  refine wp_skip ?_
  refine then_n ?_
  refine wp_seq ?_
  refine wp_seq ?_
  refine wp_region_lit ?_
  refine lv (d := 37) rfl rfl (by kernel_rfl) (e_fieldAddr (b := g7) (off := 0) (o := 2) Try.underlying65 rfl rfl (sz := 1) (by kernel_rfl) (by decide) (by kernel_rfl)) ?_
  refine lv (d := 38) rfl rfl (by kernel_rfl) (e_load1 (ad := ⟨g7, 0 + 2, none⟩) (v := .slice A2 x1.text.length c3) Try.underlying59 rfl (by kernel_rfl) ((cell_of_row _ _ _ _ _ _ b8).trans rfl)) ?_
  refine lv (d := 39) rfl rfl (by kernel_rfl) (e_len (A := A2) (n := x1.text.length) (c := c3) Try.underlying59 (by kernel_rfl)) ?_
  refine lv (d := 40) rfl rfl (by kernel_rfl) (e_gtr (k := .i64) (a := (x1.text.length : Int)) (b := 100) (by kernel_rfl) rfl) ?_
  refine wpList_nil ?_
  refine then_n ?_
  by_cases q19 : (x1.text.length : Int) > 100
  · replace H := ifp q19 H
    refine cond_t rfl (bt q19 (by kernel_rfl)) ?_
    refine wp_seq ?_
    refine wp_region_lit ?_
    refine lv (d := 2) rfl rfl (by kernel_rfl) (e_assign (v := .bool false) rfl) ?_
    refine wpList_nil ?_
    refine then_n ?_
    refine wp_ret ?_
    refine then_r ?_
    obtain rfl := Option.some.inj H
    exact ret1 (rfl) rfl  (show _ = .bool false from (by kernel_rfl)) ⟨rfl, hC⟩
  replace H := ifn q19 H
  refine cond_f rfl (bf q19 (by kernel_rfl)) ?_
  refine wp_skip ?_
  refine then_n ?_
  refine wp_seq ?_
  refine wp_seq ?_
  refine wp_region_lit ?_
  refine lv (d := 41) rfl rfl (by kernel_rfl) (e_fieldAddr (b := g7) (off := 0) (o := 0) Try.underlying65 rfl rfl (sz := 1) (by kernel_rfl) (by decide) (by kernel_rfl)) ?_
  refine lv (d := 42) rfl rfl (by kernel_rfl) (e_load1 (ad := ⟨g7, 0 + 0, none⟩) (v := .int .i64 x1.kind) Try.underlying3 rfl (by kernel_rfl) ((cell_of_row _ _ _ _ _ _ b8).trans rfl)) ?_
  refine lv (d := 43) rfl rfl (by kernel_rfl) (e_eql (k := .i64) (a := x1.kind) (b := 2) (by kernel_rfl) rfl) ?_
  refine wpList_nil ?_
  refine then_n ?_
  by_cases q20 : x1.kind = 2
  · replace H := ifp q20 H
    refine cond_t rfl (bt q20 (by kernel_rfl)) ?_
    refine wp_seq ?_
    refine wp_region_lit ?_
    refine lv (d := 44) rfl rfl (by kernel_rfl) (e_fieldAddr (b := g7) (off := 0) (o := 1) Try.underlying65 rfl rfl (sz := 1) (by kernel_rfl) (by decide) (by kernel_rfl)) ?_
    refine lv (d := 45) rfl rfl (by kernel_rfl) (e_load1 (ad := ⟨g7, 0 + 1, none⟩) (v := .int .i64 x1.n) Try.underlying3 rfl (by kernel_rfl) ((cell_of_row _ _ _ _ _ _ b8).trans rfl)) ?_
    refine lv (d := 46) rfl rfl (by kernel_rfl) (e_eql (k := .i64) (a := x1.n) (b := 0) (by kernel_rfl) rfl) ?_
    refine lv (d := 2) rfl rfl (by kernel_rfl) (e_assign (v := .bool (decide (x1.n = 0))) (by kernel_rfl)) ?_
    refine wpList_nil ?_
    refine then_n ?_
    refine wp_ret ?_
    refine then_r ?_
    obtain rfl := Option.some.inj H
    exact ret1 (rfl) rfl  (show _ = .bool (decide (x1.n = 0)) from (by kernel_rfl)) ⟨rfl, hC⟩
  replace H := ifn q20 H
  refine cond_f rfl (bf q20 (by kernel_rfl)) ?_
  refine wp_skip ?_
  refine then_n ?_
  refine wp_seq ?_
  refine wp_region_lit ?_
  refine lv (d := 47) rfl rfl (by kernel_rfl) (e_fieldAddr (b := g7) (off := 0) (o := 0) Try.underlying65 rfl rfl (sz := 1) (by kernel_rfl) (by decide) (by kernel_rfl)) ?_
  refine lv (d := 48) rfl rfl (by kernel_rfl) (e_load1 (ad := ⟨g7, 0 + 0, none⟩) (v := .int .i64 x1.kind) Try.underlying3 rfl (by kernel_rfl) ((cell_of_row _ _ _ _ _ _ b8).trans rfl)) ?_
  refine lv (d := 49) rfl rfl (by kernel_rfl) (e_eql (k := .i64) (a := x1.kind) (b := 3) (by kernel_rfl) rfl) ?_
  refine lv (d := 50) rfl rfl (by kernel_rfl) (e_move (v := .bool (decide (x1.kind = 3))) (by kernel_rfl)) ?_
  by_cases q21 : x1.kind = 3
  · replace H := ifp q21 H
    refine lvg (d := 51) (t := 50) rfl (by kernel_rfl) rfl (bt q21 (by kernel_rfl)) rfl (by kernel_rfl) (e_fieldAddr (b := g7) (off := 0) (o := 1) Try.underlying65 rfl rfl (sz := 1) (by kernel_rfl) (by decide) (by kernel_rfl)) ?_
    refine lvg (d := 52) (t := 50) rfl (by kernel_rfl) rfl (bt q21 (by kernel_rfl)) rfl (by kernel_rfl) (e_load1 (ad := ⟨g7, 0 + 1, none⟩) (v := .int .i64 x1.n) Try.underlying3 rfl (by kernel_rfl) ((cell_of_row _ _ _ _ _ _ b8).trans rfl)) ?_
    refine lvg (d := 53) (t := 50) rfl (by kernel_rfl) rfl (bt q21 (by kernel_rfl)) rfl (by kernel_rfl) (e_geq (k := .i64) (a := x1.n) (b := 1) (by kernel_rfl) rfl) ?_
    refine lv (d := 54) rfl rfl (by kernel_rfl) (e_pick_t (v := .bool (decide (x1.n ≥ 1))) (bt q21 (by kernel_rfl)) (by kernel_rfl)) ?_
    refine lv (d := 55) rfl rfl (by kernel_rfl) (e_move (v := .bool (decide (x1.n ≥ 1))) (by kernel_rfl)) ?_
    by_cases q22 : x1.n ≥ 1
    · replace H := ifp q22 H
      refine lvg (d := 56) (t := 55) rfl (by kernel_rfl) rfl (bt q22 (by kernel_rfl)) rfl (by kernel_rfl) (e_fieldAddr (b := g7) (off := 0) (o := 1) Try.underlying65 rfl rfl (sz := 1) (by kernel_rfl) (by decide) (by kernel_rfl)) ?_
      refine lvg (d := 57) (t := 55) rfl (by kernel_rfl) rfl (bt q22 (by kernel_rfl)) rfl (by kernel_rfl) (e_load1 (ad := ⟨g7, 0 + 1, none⟩) (v := .int .i64 x1.n) Try.underlying3 rfl (by kernel_rfl) ((cell_of_row _ _ _ _ _ _ b8).trans rfl)) ?_
      refine lvg (d := 58) (t := 55) rfl (by kernel_rfl) rfl (bt q22 (by kernel_rfl)) rfl (by kernel_rfl) (e_leq (k := .i64) (a := x1.n) (b := 20) (by kernel_rfl) rfl) ?_
      refine lv (d := 59) rfl rfl (by kernel_rfl) (e_pick_t (v := .bool (decide (x1.n ≤ 20))) (bt q22 (by kernel_rfl)) (by kernel_rfl)) ?_
      refine lv (d := 2) rfl rfl (by kernel_rfl) (e_assign (v := .bool (decide (x1.n ≤ 20))) (by kernel_rfl)) ?_
      refine wpList_nil ?_
      refine then_n ?_
      refine wp_ret ?_
      obtain rfl := Option.some.inj H
      exact ret1 (rfl) rfl  (show _ = .bool (decide (x1.n ≤ 20)) from (by kernel_rfl)) ⟨rfl, hC⟩
    replace H := ifn q22 H
    refine lskip (t := 55) (c := false) rfl (by kernel_rfl) rfl (bf q22 (by kernel_rfl)) rfl rfl ?_
    refine lskip (t := 55) (c := false) rfl (by kernel_rfl) rfl (bf q22 (by kernel_rfl)) rfl rfl ?_
    refine lskip (t := 55) (c := false) rfl (by kernel_rfl) rfl (bf q22 (by kernel_rfl)) rfl rfl ?_
    refine lv (d := 59) rfl rfl (by kernel_rfl) (e_pick_f (v := .bool false) (bf q22 (by kernel_rfl)) rfl) ?_
    refine lv (d := 2) rfl rfl (by kernel_rfl) (e_assign (v := .bool false) (by kernel_rfl)) ?_
    refine wpList_nil ?_
    refine then_n ?_
    refine wp_ret ?_
    obtain rfl := Option.some.inj H
    exact ret1 (rfl) rfl  (show _ = .bool false from (by kernel_rfl)) ⟨rfl, hC⟩
  replace H := ifn q21 H
  refine lskip (t := 50) (c := false) rfl (by kernel_rfl) rfl (bf q21 (by kernel_rfl)) rfl rfl ?_
  refine lskip (t := 50) (c := false) rfl (by kernel_rfl) rfl (bf q21 (by kernel_rfl)) rfl rfl ?_
  refine lskip (t := 50) (c := false) rfl (by kernel_rfl) rfl (bf q21 (by kernel_rfl)) rfl rfl ?_
  refine lv (d := 54) rfl rfl (by kernel_rfl) (e_pick_f (v := .bool false) (bf q21 (by kernel_rfl)) rfl) ?_
  refine lv (d := 55) rfl rfl (by kernel_rfl) (e_move (v := .bool false) (by kernel_rfl)) ?_
  refine lskip (t := 55) (c := false) rfl (by kernel_rfl) rfl (by kernel_rfl) rfl rfl ?_
  refine lskip (t := 55) (c := false) rfl (by kernel_rfl) rfl (by kernel_rfl) rfl rfl ?_
  refine lskip (t := 55) (c := false) rfl (by kernel_rfl) rfl (by kernel_rfl) rfl rfl ?_
  refine lv (d := 59) rfl rfl (by kernel_rfl) (e_pick_f (v := .bool false) (by kernel_rfl) rfl) ?_
  refine lv (d := 2) rfl rfl (by kernel_rfl) (e_assign (v := .bool false) (by kernel_rfl)) ?_
  refine wpList_nil ?_
  refine then_n ?_
  refine wp_ret ?_
  obtain rfl := Option.some.inj H
  exact ret1 (rfl) rfl  (show _ = .bool false from (by kernel_rfl)) ⟨rfl, hC⟩

/-! spec.ValidTerm -/
def st65 : Ty Cell := iso (pair tInt (pair tInt sl5)) (fun x => (x.kind, x.n, x.text))
theorem st65_open {w : World} {F : Foot} {x : Cell} {cs : List Value} (h : st65.R w F x cs) : ∃ (A2 : Option Addr) (c2 : Nat), cs = [.int .i64 x.kind, .int .i64 x.n, .slice A2 x.text.length c2] ∧ x.text.length ≤ c2 ∧ Rd tByte w F A2 x.text := by
  obtain ⟨_, _, rfl, rfl, ⟨_, _, rfl, rfl, ⟨A2, c2, rfl, l2, h2⟩⟩⟩ := h
  exact ⟨A2, c2, rfl, l2, h2⟩
theorem st65_mkR {w : World} {F : Foot} {x : Cell} {A2 : Option Addr} {c2 : Nat} (l2 : x.text.length ≤ c2) (h2 : Rd tByte w F A2 x.text) : st65.R w F x [.int .i64 x.kind, .int .i64 x.n, .slice A2 x.text.length c2] := ⟨[.int .i64 x.kind], [.int .i64 x.n, .slice A2 x.text.length c2], rfl, rfl, ⟨[.int .i64 x.n], [.slice A2 x.text.length c2], rfl, rfl, ⟨A2, c2, rfl, l2, h2⟩⟩⟩
theorem st65_mkO {w : World} {F : Foot} {x : Cell} {A2 : Option Addr} {c2 : Nat} (h2 : Row tByte 5 w F A2 c2 x.text) : st65.O w F x [.int .i64 x.kind, .int .i64 x.n, .slice A2 x.text.length c2] := (pairO0 (a := tInt) (b := (pair tInt sl5)) (x := (x.kind, (x.n, x.text))) (c0 := [.int .i64 x.kind]) (c1 := [.int .i64 x.n, .slice A2 x.text.length c2]) rfl (pairO0 (a := tInt) (b := sl5) (x := (x.n, x.text)) (c0 := [.int .i64 x.n]) (c1 := [.slice A2 x.text.length c2]) rfl ⟨A2, c2, rfl, h2⟩))
def z65 : Cell := ⟨(0 : Int), (0 : Int), ([] : List UInt8)⟩
theorem z65_O (w : World) : st65.O w (fun _ => False) z65 [.int .i64 (0 : Int), .int .i64 (0 : Int), .slice none 0 0] := st65_mkO (x := z65) (Row.nil _ _ _ _)
def spec_ValidTerm.l0 : Nat → (List Cell) → Int → Int → Option Bool
  | 0, _, _, _ => none
  | k17 + 1, x1, x10, x12 => (if x12 < (x1.length : Int) then (if x10 = 0 then some false else (if 0 ≤ x12 then ((spec_l2cell.f (x1.getD (x12).toNat z65)).bind fun t31 => (if ¬ (t31 = true) then some false else (if ((x1.getD (x12).toNat z65).kind) = 3 then (spec_ValidTerm.l0 k17 x1 (IntKind.i64.wrap ((IntKind.i64.wrap (x10 - 1)) + ((x1.getD (x12).toNat z65).n))) (IntKind.i64.wrap (x12 + 1))) else (spec_ValidTerm.l0 k17 x1 (IntKind.i64.wrap (x10 - 1)) (IntKind.i64.wrap (x12 + 1)))))) else none)) else some (decide (x10 = 0)))
def spec_ValidTerm.f (k : Nat) (x1 : List Cell) : Option Bool := (if (x1.length : Int) > 2000 then some false else (spec_ValidTerm.l0 k x1 1 0))
theorem spec_ValidTerm.calls (k : Nat) (w : World) (x1 : List Cell) (A2 : Option Addr) (c3 : Nat) (h4 : Rd st65 w any A2 x1) (l5 : x1.length ≤ c3) (r : Bool) (H : spec_ValidTerm.f k x1 = some r) :
    Calls Try.prog 15 #[.slice A2 x1.length c3] w (fun e e_w => e = .returned (.bool r) ∧ Chg [] w e_w) := by
  rw [spec_ValidTerm.f] at H
  refine enter (l := [.slice A2 x1.length c3]) 41 Try.func15 rfl rfl rfl ?_
  replace h4 := rd_canon (M := []) (by decide) h4 (by simp)
  have hC := Chg.refl [] w
  refine wp_seq ?_
  refine wp_region_lit ?_
  refine lv (d := 2) rfl rfl (by kernel_rfl) (e_assign (v := .bool false) rfl) ?_
  refine wpList_nil ?_
  refine then_n ?_
  refine wp_seq ?_
  refine wp_seq ?_
  refine wp_region_lit ?_
  refine lv (d := 5) rfl rfl (by kernel_rfl) (e_move (v := .slice A2 x1.length c3) (by kernel_rfl)) ?_
  refine lv (d := 6) rfl rfl (by kernel_rfl) (e_len (A := A2) (n := x1.length) (c := c3) Try.underlying25 (by kernel_rfl)) ?_
  refine lv (d := 7) rfl rfl (by kernel_rfl) (e_gtr (k := .i64) (a := (x1.length : Int)) (b := 2000) (by kernel_rfl) rfl) ?_
  refine wpList_nil ?_
  refine then_n ?_
  by_cases q6 : (x1.length : Int) > 2000
  · replace H := ifp q6 H
    refine cond_t rfl (bt q6 (by kernel_rfl)) ?_
    refine wp_seq ?_
    refine wp_region_lit ?_
    refine lv (d := 2) rfl rfl (by kernel_rfl) (e_assign (v := .bool false) rfl) ?_
    refine wpList_nil ?_
    refine then_n ?_
    refine wp_ret ?_
    refine then_r ?_
    obtain rfl := Option.some.inj H
    exact ret1 (rfl) rfl  (show _ = .bool false from (by kernel_rfl)) ⟨rfl, hC⟩
  replace H := ifn q6 H
  refine cond_f rfl (bf q6 (by kernel_rfl)) ?_
  refine wp_skip ?_
  refine then_n ?_
  refine wp_seq ?_
  refine wp_region_lit ?_
  refine lv (d := 3) rfl rfl (by kernel_rfl) (e_assign (v := .int .i64 1) rfl) ?_
  refine wpList_nil ?_
  refine then_n ?_
  refine wp_seq ?_
  refine wp_seq ?_
  refine wp_region_lit ?_
  refine lv (d := 4) rfl rfl (by kernel_rfl) (e_assign (v := .int .i64 0) rfl) ?_
  refine wpList_nil ?_
  refine then_n ?_
  refine wp_block ?_
  refine wp_loop_g (fun k15 a16 w7 => ∃ (f8 : Nat → Value) (x10 : Int) (x12 : Int), a16 = mk 41 f8 ∧ f8 0 = .slice A2 x1.length c3 ∧ f8 3 = .int .i64 x10 ∧ f8 4 = .int .i64 x12 ∧ Rd st65 w7 (FP any w.heap.size []) A2 x1 ∧ Chg [] w w7 ∧ w.heap.size ≤ w7.heap.size ∧ spec_ValidTerm.l0 k15 x1 x10 x12 = some r) k ⟨_, 1, 0, rfl, (by kernel_rfl), (by kernel_rfl), (by kernel_rfl), (Rd.mono (fp_sub (fun _ h_ => h_) (by omega) (by simp [bk])) h4), hC, (by omega), H⟩ ?_
  rintro k15 a16 w7 ⟨f8, x10, x12, rfl, e9, e11, e13, h4, hC, z14, H⟩
  rcases k15 with _ | k17
  · rw [spec_ValidTerm.l0] at H
    cases H
  rw [spec_ValidTerm.l0] at H
  refine wp_seq ?_
  refine wp_seq ?_
  refine wp_region_lit ?_
  refine lv (d := 8) rfl rfl (by kernel_rfl) (e_move (v := .int .i64 x12) (by exact e13)) ?_
  refine lv (d := 9) rfl rfl (by kernel_rfl) (e_move (v := .slice A2 x1.length c3) (by exact e9)) ?_
  refine lv (d := 10) rfl rfl (by kernel_rfl) (e_len (A := A2) (n := x1.length) (c := c3) Try.underlying25 (by kernel_rfl)) ?_
  refine lv (d := 11) rfl rfl (by kernel_rfl) (e_lss (k := .i64) (a := x12) (b := (x1.length : Int)) (by kernel_rfl) (by kernel_rfl)) ?_
  refine wpList_nil ?_
  refine then_n ?_
  by_cases q18 : x12 < (x1.length : Int)
  · replace H := ifp q18 H
    refine cond_t rfl (bt q18 (by kernel_rfl)) ?_
    refine wp_skip ?_
    refine then_n ?_
    refine wp_seq ?_
    refine wp_block ?_
    refine wp_seq ?_
    refine wp_seq ?_
    refine wp_region_lit ?_
    refine lv (d := 14) rfl rfl (by kernel_rfl) (e_move (v := .int .i64 x10) (by exact e11)) ?_
    refine lv (d := 15) rfl rfl (by kernel_rfl) (e_eql (k := .i64) (a := x10) (b := 0) (by kernel_rfl) rfl) ?_
    refine lv (d := 16) rfl rfl (by kernel_rfl) (e_move (v := .bool (decide (x10 = 0))) (by kernel_rfl)) ?_
    by_cases q19 : x10 = 0
    · replace H := ifp q19 H
      refine lskip (t := 16) (c := true) rfl (by kernel_rfl) rfl (bt q19 (by kernel_rfl)) rfl rfl ?_
      refine lskip (t := 16) (c := true) rfl (by kernel_rfl) rfl (bt q19 (by kernel_rfl)) rfl rfl ?_
      refine lskip (t := 16) (c := true) rfl (by kernel_rfl) rfl (bt q19 (by kernel_rfl)) rfl rfl ?_
      refine lskip (t := 16) (c := true) rfl (by kernel_rfl) rfl (bt q19 (by kernel_rfl)) rfl rfl ?_
      refine lskip (t := 16) (c := true) rfl (by kernel_rfl) rfl (bt q19 (by kernel_rfl)) rfl rfl ?_
      refine lskip (t := 16) (c := true) rfl (by kernel_rfl) rfl (bt q19 (by kernel_rfl)) rfl rfl ?_
      refine lv (d := 23) rfl rfl (by kernel_rfl) (e_pick_t (v := .bool true) (bt q19 (by kernel_rfl)) rfl) ?_
      refine wpList_nil ?_
      refine then_n ?_
      refine cond_t rfl (by kernel_rfl) ?_
      refine wp_seq ?_
      refine wp_region_lit ?_
      refine lv (d := 2) rfl rfl (by kernel_rfl) (e_assign (v := .bool false) rfl) ?_
      refine wpList_nil ?_
      refine then_n ?_
      refine wp_ret ?_
      refine then_r ?_
      refine inb_r ?_
      refine then_r ?_
      refine then_r ?_
      refine inb_r ?_
      refine then_r ?_
      obtain rfl := Option.some.inj H
      exact ret1 (rfl) rfl  (show _ = .bool false from (by kernel_rfl)) ⟨rfl, hC⟩
    replace H := ifn q19 H
    refine lvg (d := 17) (t := 16) rfl (by kernel_rfl) rfl (bf q19 (by kernel_rfl)) rfl (by kernel_rfl) (e_move (v := .slice A2 x1.length c3) (by exact e9)) ?_
    refine lvg (d := 18) (t := 16) rfl (by kernel_rfl) rfl (bf q19 (by kernel_rfl)) rfl (by kernel_rfl) (e_move (v := .int .i64 x12) (by exact e13)) ?_
    obtain ⟨q20, H⟩ := chk H
    obtain ⟨b21, o22, y23, e26, _, r24, k25⟩ := Rd.get h4 (x12).toNat _ (getD_some z65 (by omega))
    obtain ⟨A27, c28, rfl, l29, h30⟩ := st65_open r24
    refine lvg (d := 19) (t := 16) rfl (by kernel_rfl) rfl (bf q19 (by kernel_rfl)) rfl (by kernel_rfl) (e_indexAddr (b := b21) (off := o22) (n := x1.length) (c := c3) (sz := 3) (i := x12) (k := .i64) Try.underlying25 e26 (by kernel_rfl) (by kernel_rfl) (by kernel_rfl) q20 q18) ?_
    refine lvg (d := 20) (t := 16) rfl (by kernel_rfl) rfl (bf q19 (by kernel_rfl)) rfl (by kernel_rfl) (e_loadS (b := b21) (off := o22 + (x12 : Int).toNat * 3) (cs := [.int .i64 ((x1.getD (x12).toNat z65).kind), .int .i64 ((x1.getD (x12).toNat z65).n), .slice A27 ((x1.getD (x12).toNat z65).text).length c28]) Try.underlying65 rfl (by kernel_rfl) (by kernel_rfl) k25) ?_
    obtain ⟨t31, u32, H⟩ := bnd H
    refine lcallg (d := 21) (t := 16) rfl (by kernel_rfl) rfl (bf q19 (by kernel_rfl)) rfl (by kernel_rfl) (e_call (l := [.tmp 20]) (vs := [.agg #[.int .i64 ((x1.getD (x12).toNat z65).kind), .int .i64 ((x1.getD (x12).toNat z65).n), .slice A27 ((x1.getD (x12).toNat z65).text).length c28]]) Try.func56 (by kernel_rfl) rfl (by kernel_rfl) rfl) (spec_l2cell.calls w7 (x1.getD (x12).toNat z65) A27 c28 (Rd.mono (fun _ _ => trivial) h30) l29 t31 u32) ?_
    rintro _ w33 ⟨rfl, C34⟩
    refine ⟨_, rfl, ?_⟩
    have u35 : Lt [] w7.heap.size := (Lt.nil _)
    have z36 := C34.size
    replace h4 := Rd.move (fp_chg C34 (by omega) (by simp)) h4
    replace h30 := Rd.move (fp_chg C34 (by omega) (by simp)) h30
    replace hC := hC.step C34 (fun _ h_ => by cases h_)
    refine lvg (d := 22) (t := 16) rfl (by kernel_rfl) rfl (bf q19 (by kernel_rfl)) rfl (by kernel_rfl) (e_notv (c := t31) (by kernel_rfl)) ?_
    refine lv (d := 23) rfl rfl (by kernel_rfl) (e_pick_f (v := .bool (decide (¬ (t31 = true)))) (bf q19 (by kernel_rfl)) (by kernel_rfl)) ?_
    refine wpList_nil ?_
    refine then_n ?_
    by_cases q37 : ¬ (t31 = true)
    · replace H := ifp q37 H
      refine cond_t rfl (bt q37 (by kernel_rfl)) ?_
      refine wp_seq ?_
      refine wp_region_lit ?_
      refine lv (d := 2) rfl rfl (by kernel_rfl) (e_assign (v := .bool false) rfl) ?_
      refine wpList_nil ?_
      refine then_n ?_
      refine wp_ret ?_
      refine then_r ?_
      refine inb_r ?_
      refine then_r ?_
      refine then_r ?_
      refine inb_r ?_
      refine then_r ?_
      obtain rfl := Option.some.inj H
      exact ret1 (rfl) rfl  (show _ = .bool false from (by kernel_rfl)) ⟨rfl, hC⟩
    replace H := ifn q37 H
    refine cond_f rfl (bf q37 (by kernel_rfl)) ?_
    refine wp_skip ?_
    refine then_n ?_
    refine wp_seq ?_
    refine wp_region_lit ?_
    refine lv (d := 24) rfl rfl (by kernel_rfl) (e_move (v := .int .i64 x10) (by exact e11)) ?_
    refine lv (d := 25) rfl rfl (by kernel_rfl) (e_sub (k := .i64) (a := x10) (b := 1) (by kernel_rfl) rfl) ?_
    refine lv (d := 3) rfl rfl (by kernel_rfl) (e_assign (v := .int .i64 (IntKind.i64.wrap (x10 - 1))) (by kernel_rfl)) ?_
    refine wpList_nil ?_
    refine then_n ?_
    refine wp_seq ?_
    refine wp_region_lit ?_
    refine lv (d := 26) rfl rfl (by kernel_rfl) (e_move (v := .slice A2 x1.length c3) (by exact e9)) ?_
    refine lv (d := 27) rfl rfl (by kernel_rfl) (e_move (v := .int .i64 x12) (by exact e13)) ?_
    obtain ⟨b38, o39, y40, e43, _, r41, k42⟩ := Rd.get h4 (x12).toNat _ (getD_some z65 (by omega))
    obtain ⟨A44, c45, rfl, l46, h47⟩ := st65_open r41
    refine lv (d := 28) rfl rfl (by kernel_rfl) (e_indexAddr (b := b38) (off := o39) (n := x1.length) (c := c3) (sz := 3) (i := x12) (k := .i64) Try.underlying25 e43 (by kernel_rfl) (by kernel_rfl) (by kernel_rfl) q20 q18) ?_
    refine lv (d := 29) rfl rfl (by kernel_rfl) (e_fieldAddr (b := b38) (off := o39 + (x12 : Int).toNat * 3) (o := 0) Try.underlying65 rfl rfl (sz := 1) (by kernel_rfl) (by decide) (by kernel_rfl)) ?_
    refine lv (d := 30) rfl rfl (by kernel_rfl) (e_load1 (ad := ⟨b38, o39 + (x12 : Int).toNat * 3 + 0, none⟩) (v := .int .i64 ((x1.getD (x12).toNat z65).kind)) Try.underlying3 rfl (by kernel_rfl) (k42 0 _ rfl)) ?_
    refine lv (d := 31) rfl rfl (by kernel_rfl) (e_eql (k := .i64) (a := (x1.getD (x12).toNat z65).kind) (b := 3) (by kernel_rfl) rfl) ?_
    refine wpList_nil ?_
    refine then_n ?_
    by_cases q48 : ((x1.getD (x12).toNat z65).kind) = 3
    · replace H := ifp q48 H
      refine cond_t rfl (bt q48 (by kernel_rfl)) ?_
      refine wp_region_lit ?_
      refine lv (d := 32) rfl rfl (by kernel_rfl) (e_move (v := .int .i64 (IntKind.i64.wrap (x10 - 1))) (by kernel_rfl)) ?_
      refine lv (d := 33) rfl rfl (by kernel_rfl) (e_move (v := .slice A2 x1.length c3) (by exact e9)) ?_
      refine lv (d := 34) rfl rfl (by kernel_rfl) (e_move (v := .int .i64 x12) (by exact e13)) ?_
      obtain ⟨b49, o50, y51, e54, _, r52, k53⟩ := Rd.get h4 (x12).toNat _ (getD_some z65 (by omega))
      obtain ⟨A55, c56, rfl, l57, h58⟩ := st65_open r52
      refine lv (d := 35) rfl rfl (by kernel_rfl) (e_indexAddr (b := b49) (off := o50) (n := x1.length) (c := c3) (sz := 3) (i := x12) (k := .i64) Try.underlying25 e54 (by kernel_rfl) (by kernel_rfl) (by kernel_rfl) q20 q18) ?_
      refine lv (d := 36) rfl rfl (by kernel_rfl) (e_fieldAddr (b := b49) (off := o50 + (x12 : Int).toNat * 3) (o := 1) Try.underlying65 rfl rfl (sz := 1) (by kernel_rfl) (by decide) (by kernel_rfl)) ?_
      refine lv (d := 37) rfl rfl (by kernel_rfl) (e_load1 (ad := ⟨b49, o50 + (x12 : Int).toNat * 3 + 1, none⟩) (v := .int .i64 ((x1.getD (x12).toNat z65).n)) Try.underlying3 rfl (by kernel_rfl) (k53 1 _ rfl)) ?_
      refine lv (d := 38) rfl rfl (by kernel_rfl) (e_add (k := .i64) (a := (IntKind.i64.wrap (x10 - 1))) (b := (x1.getD (x12).toNat z65).n) (by kernel_rfl) (by kernel_rfl)) ?_
      refine lv (d := 3) rfl rfl (by kernel_rfl) (e_assign (v := .int .i64 (IntKind.i64.wrap ((IntKind.i64.wrap (x10 - 1)) + ((x1.getD (x12).toNat z65).n)))) (by kernel_rfl)) ?_
      refine wpList_nil ?_
      refine inb_n ?_
      refine then_n ?_
      refine wp_region_lit ?_
      refine lv (d := 12) rfl rfl (by kernel_rfl) (e_move (v := .int .i64 x12) (by exact e13)) ?_
      refine lv (d := 13) rfl rfl (by kernel_rfl) (e_add (k := .i64) (a := x12) (b := 1) (by kernel_rfl) rfl) ?_
      refine lv (d := 4) rfl rfl (by kernel_rfl) (e_assign (v := .int .i64 (IntKind.i64.wrap (x12 + 1))) (by kernel_rfl)) ?_
      refine wpList_nil ?_
      refine then_n ?_
      exact ⟨k17, Nat.lt_succ_self _, _, (IntKind.i64.wrap ((IntKind.i64.wrap (x10 - 1)) + ((x1.getD (x12).toNat z65).n))), (IntKind.i64.wrap (x12 + 1)), rfl, (by exact e9), (by kernel_rfl), (by kernel_rfl), (Rd.mono (fp_sub (fun _ h_ => h_) (by omega) (by simp [bk])) h4), hC, (by omega), H⟩
    replace H := ifn q48 H
    refine cond_f rfl (bf q48 (by kernel_rfl)) ?_
    refine wp_skip ?_
    refine inb_n ?_
    refine then_n ?_
    refine wp_region_lit ?_
    refine lv (d := 12) rfl rfl (by kernel_rfl) (e_move (v := .int .i64 x12) (by exact e13)) ?_
    refine lv (d := 13) rfl rfl (by kernel_rfl) (e_add (k := .i64) (a := x12) (b := 1) (by kernel_rfl) rfl) ?_
    refine lv (d := 4) rfl rfl (by kernel_rfl) (e_assign (v := .int .i64 (IntKind.i64.wrap (x12 + 1))) (by kernel_rfl)) ?_
    refine wpList_nil ?_
    refine then_n ?_
    exact ⟨k17, Nat.lt_succ_self _, _, (IntKind.i64.wrap (x10 - 1)), (IntKind.i64.wrap (x12 + 1)), rfl, (by exact e9), (by kernel_rfl), (by kernel_rfl), (Rd.mono (fp_sub (fun _ h_ => h_) (by omega) (by simp [bk])) h4), hC, (by omega), H⟩
  replace H := ifn q18 H
  refine cond_f rfl (bf q18 (by kernel_rfl)) ?_
  refine wp_exit ?_
  refine then_e ?_
  refine then_e ?_
  refine inb_hit ?_
  refine then_n ?_
  refine wp_seq ?_
  refine wp_region_lit ?_
  refine lv (d := 39) rfl rfl (by kernel_rfl) (e_move (v := .int .i64 x10) (by exact e11)) ?_
  refine lv (d := 40) rfl rfl (by kernel_rfl) (e_eql (k := .i64) (a := x10) (b := 0) (by kernel_rfl) rfl) ?_
  refine lv (d := 2) rfl rfl (by kernel_rfl) (e_assign (v := .bool (decide (x10 = 0))) (by kernel_rfl)) ?_
  refine wpList_nil ?_
  refine then_n ?_
  refine wp_ret ?_
  obtain rfl := Option.some.inj H
  exact ret1 (rfl) rfl  (show _ = .bool (decide (x10 = 0)) from (by kernel_rfl)) ⟨rfl, hC⟩

/-! laws.toByteS -/
def laws_toByteS.l0 : Nat → (List UInt8) → (List UInt8) → Int → Option (List UInt8)
  | 0, _, _, _ => none
  | k29 + 1, x1, x19, x24 => (if x24 < (x1.length : Int) then (if 0 ≤ x24 then (if x24 < (x19.length : Int) then (laws_toByteS.l0 k29 x1 (x19.set ((x24).toNat) (x1.getD (x24).toNat (0 : UInt8))) (IntKind.i64.wrap (x24 + 1))) else none) else none) else some x19)
def laws_toByteS.f (k : Nat) (x1 : List UInt8) : Option (List UInt8) := (if 0 ≤ (x1.length : Int) then (if ((x1.length : Int)).toNat ≤ 281474976710656 then (laws_toByteS.l0 k x1 (List.replicate ((x1.length : Int)).toNat (0 : UInt8)) 0) else none) else none)
theorem laws_toByteS.calls (k : Nat) (w : World) (x1 : List UInt8) (A2 : Option Addr) (c3 : Nat) (h4 : Rd tByte w any A2 x1) (l5 : x1.length ≤ c3) (r : List UInt8) (H : laws_toByteS.f k x1 = some r) :
    Calls Try.prog 103 #[.slice A2 x1.length c3] w (fun e e_w => ∃ (A_0 : Option Addr) (c_0 : Nat), e = .returned (.slice A_0 r.length c_0) ∧ Row tByte 5 e_w (FP (ge w.heap.size) e_w.heap.size []) A_0 c_0 r ∧ Chg [] w e_w) := by
  rw [laws_toByteS.f] at H
  refine enter (l := [.slice A2 x1.length c3]) 22 Try.func103 rfl rfl rfl ?_
  replace h4 := rd_canon (M := []) (by decide) h4 (by simp)
  have hC := Chg.refl [] w
  refine wp_seq ?_
  refine wp_region_lit ?_
  refine lv (d := 2) rfl rfl (by kernel_rfl) (e_assign (v := .slice none 0 0) rfl) ?_
  refine wpList_nil ?_
  refine then_n ?_
  refine wp_seq ?_
  refine wp_region_lit ?_
  refine lv (d := 5) rfl rfl (by kernel_rfl) (e_move (v := .slice A2 x1.length c3) (by kernel_rfl)) ?_
  refine lv (d := 6) rfl rfl (by kernel_rfl) (e_len (A := A2) (n := x1.length) (c := c3) Try.underlying59 (by kernel_rfl)) ?_
  obtain ⟨q6, H⟩ := chk H
  obtain ⟨q7, H⟩ := chk H
  refine lve (d := 7) rfl rfl (by kernel_rfl) (e_make' (d := tByte) (k := .i64) (k2 := .i64) (n := (x1.length : Int)) (z := .int .u8 0) (zx := (0 : UInt8)) (bytes := 1) Try.underlying59 (by kernel_rfl) rfl (by decide) (fun _ => rfl) (by kernel_rfl) (by kernel_rfl) q6 (by omega) (by omega)) ?_
  rintro _ w8 ⟨A9, c10, rfl, h11, C12, n13⟩
  have u14 : Lt [] w.heap.size := (Lt.nil _)
  have z15 := C12.size
  replace h4 := Rd.move (fp_chg C12 (by omega) (by simp)) h4
  replace hC := hC.step C12 (fun _ h_ => by cases h_)
  replace h4 := Rd.mono (fp_cons (fun b_ e_ => by have := n13 b_ e_; omega)) h4
  replace h11 := row_canon (L := ge w.heap.size) (M := []) h11 (fun b_ h_ _ => ⟨h_, fun hm_ => by have := u14 _ hm_ b_ rfl; omega⟩)
  refine lv (d := 3) rfl rfl (by kernel_rfl) (e_assign (v := .slice A9 (List.replicate ((x1.length : Int)).toNat (0 : UInt8)).length c10) (by kernel_rfl)) ?_
  refine wpList_nil ?_
  refine then_n ?_
  refine wp_seq ?_
  refine wp_seq ?_
  refine wp_region_lit ?_
  refine lv (d := 4) rfl rfl (by kernel_rfl) (e_assign (v := .int .i64 0) rfl) ?_
  refine wpList_nil ?_
  refine then_n ?_
  refine wp_block ?_
  refine wp_loop_g (fun k27 a28 w16 => ∃ (f17 : Nat → Value) (x19 : List UInt8) (A20 : Option Addr) (c21 : Nat) (x24 : Int), a28 = mk 22 f17 ∧ f17 0 = .slice A2 x1.length c3 ∧ f17 3 = .slice A20 x19.length c21 ∧ f17 4 = .int .i64 x24 ∧ Rd tByte w16 (FP any w.heap.size [bk A20]) A2 x1 ∧ Row tByte 5 w16 (FP (ge w.heap.size) w16.heap.size []) A20 c21 x19 ∧ Chg [] w w16 ∧ w8.heap.size ≤ w16.heap.size ∧ laws_toByteS.l0 k27 x1 x19 x24 = some r) k ⟨_, (List.replicate ((x1.length : Int)).toNat (0 : UInt8)), A9, c10, 0, rfl, (by kernel_rfl), (by kernel_rfl), (by kernel_rfl), (Rd.mono (fp_sub (fun _ h_ => h_) (by omega) (by simp [bk])) h4), (Row.mono (fp_sub (fun _ h_ => h_) (by omega) (by simp [bk])) h11), hC, (by omega), H⟩ ?_
  rintro k27 a28 w16 ⟨f17, x19, A20, c21, x24, rfl, e18, e23, e25, h4, h22, hC, z26, H⟩
  rcases k27 with _ | k29
  · rw [laws_toByteS.l0] at H
    cases H
  rw [laws_toByteS.l0] at H
  refine wp_seq ?_
  refine wp_seq ?_
  refine wp_region_lit ?_
  refine lv (d := 8) rfl rfl (by kernel_rfl) (e_move (v := .int .i64 x24) (by exact e25)) ?_
  refine lv (d := 9) rfl rfl (by kernel_rfl) (e_move (v := .slice A2 x1.length c3) (by exact e18)) ?_
  refine lv (d := 10) rfl rfl (by kernel_rfl) (e_len (A := A2) (n := x1.length) (c := c3) Try.underlying59 (by kernel_rfl)) ?_
  refine lv (d := 11) rfl rfl (by kernel_rfl) (e_lss (k := .i64) (a := x24) (b := (x1.length : Int)) (by kernel_rfl) (by kernel_rfl)) ?_
  refine wpList_nil ?_
  refine then_n ?_
  by_cases q30 : x24 < (x1.length : Int)
  · replace H := ifp q30 H
    refine cond_t rfl (bt q30 (by kernel_rfl)) ?_
    refine wp_skip ?_
    refine then_n ?_
    refine wp_seq ?_
    refine wp_block ?_
    refine wp_region_lit ?_
    refine lv (d := 14) rfl rfl (by kernel_rfl) (e_move (v := .slice A20 x19.length c21) (by exact e23)) ?_
    refine lv (d := 15) rfl rfl (by kernel_rfl) (e_move (v := .int .i64 x24) (by exact e25)) ?_
    refine lv (d := 16) rfl rfl (by kernel_rfl) (e_move (v := .slice A2 x1.length c3) (by exact e18)) ?_
    refine lv (d := 17) rfl rfl (by kernel_rfl) (e_move (v := .int .i64 x24) (by exact e25)) ?_
    obtain ⟨q31, H⟩ := chk H
    obtain ⟨b32, o33, y34, e37, _, r35, k36⟩ := Rd.get h4 (x24).toNat _ (getD_some (0 : UInt8) (by omega))
    obtain rfl := r35
    refine lv (d := 18) rfl rfl (by kernel_rfl) (e_indexAddr (b := b32) (off := o33) (n := x1.length) (c := c3) (sz := 1) (i := x24) (k := .i64) Try.underlying59 e37 (by kernel_rfl) (by kernel_rfl) (by kernel_rfl) q31 q30) ?_
    refine lv (d := 19) rfl rfl (by kernel_rfl) (e_load1 (ad := ⟨b32, o33 + (x24 : Int).toNat * 1, none⟩) (v := .int .u8 ((x1.getD (x24).toNat (0 : UInt8)).toNat : Int)) Try.underlying5 rfl (by kernel_rfl) (k36 0 _ rfl)) ?_
    obtain ⟨q38, H⟩ := chk H
    obtain ⟨b39, o40, y41, e44, _, r42, k43⟩ := Row.get h22 (x24).toNat _ (getD_some (0 : UInt8) (by omega))
    obtain rfl := r42
    refine lv (d := 20) rfl rfl (by kernel_rfl) (e_indexAddr (b := b39) (off := o40) (n := x19.length) (c := c21) (sz := 1) (i := x24) (k := .i64) Try.underlying59 e44 (by kernel_rfl) (by kernel_rfl) (by kernel_rfl) q31 q38) ?_
    refine lse rfl rfl (by kernel_rfl) (e_setel (d := tByte) (b := b39) (off := o40) (i := (x24).toNat) (v := .int .u8 ((x1.getD (x24).toNat (0 : UInt8)).toNat : Int)) (vs := [.int .u8 ((x1.getD (x24).toNat (0 : UInt8)).toNat : Int)]) (yv := (x1.getD (x24).toNat (0 : UInt8))) (F2 := (fun _ => False)) (by kernel_rfl) e44 (by kernel_rfl) rfl (by kernel_rfl) h22 (by omega) rfl (fun h_ => Bool.noConfusion (show false = true from h_)) (fun _ _ h_ => h_)) ?_
    rintro w45 ⟨h46, C47, s48⟩
    have z49 := C47.size
    replace h4 := Rd.move (fp_chg C47 (by omega) (by simp)) h4
    replace hC := hC.step C47 (fun o_ h_ => by simp only [List.mem_singleton] at h_; subst h_; exact .inr (fun b_ e_ => by have q_ := (h22.own b_ e_).1.1; simp only [ge] at q_; omega))
    replace h46 := row_or0 (N := []) h46 (by simp)
    refine wpList_nil ?_
    refine inb_n ?_
    refine then_n ?_
    refine wp_region_lit ?_
    refine lv (d := 12) rfl rfl (by kernel_rfl) (e_move (v := .int .i64 x24) (by exact e25)) ?_
    refine lv (d := 13) rfl rfl (by kernel_rfl) (e_add (k := .i64) (a := x24) (b := 1) (by kernel_rfl) rfl) ?_
    refine lv (d := 4) rfl rfl (by kernel_rfl) (e_assign (v := .int .i64 (IntKind.i64.wrap (x24 + 1))) (by kernel_rfl)) ?_
    refine wpList_nil ?_
    refine then_n ?_
    exact ⟨k29, Nat.lt_succ_self _, _, (x19.set ((x24).toNat) (x1.getD (x24).toNat (0 : UInt8))), A20, c21, (IntKind.i64.wrap (x24 + 1)), rfl, (by exact e18), (by simp only [List.length_set]; exact (by exact e23)), (by kernel_rfl), (Rd.mono (fp_sub (fun _ h_ => h_) (by omega) (by simp [bk])) h4), (Row.mono (fp_sub (fun _ h_ => h_) (by omega) (by simp [bk])) h46), hC, (by omega), H⟩
  replace H := ifn q30 H
  refine cond_f rfl (bf q30 (by kernel_rfl)) ?_
  refine wp_exit ?_
  refine then_e ?_
  refine then_e ?_
  refine inb_hit ?_
  refine then_n ?_
  refine wp_seq ?_
  refine wp_region_lit ?_
  refine lv (d := 21) rfl rfl (by kernel_rfl) (e_move (v := .slice A20 x19.length c21) (by exact e23)) ?_
  refine lv (d := 2) rfl rfl (by kernel_rfl) (e_assign (v := .slice A20 x19.length c21) (by kernel_rfl)) ?_
  refine wpList_nil ?_
  refine then_n ?_
  refine wp_ret ?_
  obtain rfl := Option.some.inj H
  exact ret1 (rfl) rfl  (show _ = .slice A20 x19.length c21 from (by kernel_rfl)) ⟨A20, c21, rfl, (h22.mono (fp_sub (fun _ h_ => h_) (by omega) (by simp))), hC⟩

/-! laws.toCell -/
def laws_toCell.f (k : Nat) (x1 : Cell) : Option Cell := ((laws_toByteS.f k x1.text).bind fun t37 => some (⟨x1.kind, x1.n, t37⟩ : Cell))
theorem laws_toCell.calls (k : Nat) (w : World) (x1 : Cell) (A2 : Option Addr) (c3 : Nat) (h4 : Rd tByte w any A2 x1.text) (l5 : x1.text.length ≤ c3) (r : Cell) (H : laws_toCell.f k x1 = some r) :
    Calls Try.prog 57 #[.agg #[.int .i64 x1.kind, .int .i64 x1.n, .slice A2 x1.text.length c3]] w (fun e e_w => ∃ (A_0 : Option Addr) (c_0 : Nat), e = .returned (.agg #[.int .i64 r.kind, .int .i64 r.n, .slice A_0 r.text.length c_0]) ∧ Row tByte 5 e_w (FP (ge w.heap.size) e_w.heap.size []) A_0 c_0 r.text ∧ Chg [] w e_w) := by
  rw [laws_toCell.f] at H
  refine enter (l := [.agg #[.int .i64 x1.kind, .int .i64 x1.n, .slice A2 x1.text.length c3]]) 15 Try.func57 rfl rfl rfl ?_
  replace h4 := rd_canon (M := []) (by decide) h4 (by simp)
  have hC := Chg.refl [] w
  refine wp_seq ?_
  refine wp_region_lit ?_
  refine lve (d := 1) rfl rfl (by kernel_rfl) (new_blk (v := fun g_ => .pointer (some ⟨g_, 0, none⟩)) (cs := #[.int .i64 x1.kind, .int .i64 x1.n, .slice A2 x1.text.length c3]) (t := 68) (by kernel_rfl)) ?_
  rintro _ w6 ⟨g7, rfl, b8, n9, C10⟩
  have m11 := heap_lt b8
  have z12 := C10.size
  replace h4 := Rd.mono (fp_new (g := g7) (by omega)) (Rd.move (fp_chg C10 (by omega) (by simp)) h4)
  replace hC := hC.step C10 (fun _ h_ => by cases h_)
  refine lve (d := 2) rfl rfl (by kernel_rfl) (new_blk (v := fun g_ => .pointer (some ⟨g_, 0, none⟩)) (cs := #[.int .i64 0, .int .i64 0, .slice none 0 0]) (t := 65) (by kernel_rfl)) ?_
  rintro _ w13 ⟨g14, rfl, b15, n16, C17⟩
  have m18 := heap_lt b15
  have z19 := C17.size
  replace b8 := C17.heap b8 (by simp)
  replace h4 := Rd.mono (fp_new (g := g14) (by omega)) (Rd.move (fp_chg C17 (by omega) (by simp)) h4)
  replace hC := hC.step C17 (fun _ h_ => by cases h_)
  refine wpList_nil ?_
  refine then_n ?_
  refine wp_seq ?_
  refine wp_region_lit ?_
  refine lve (d := 3) rfl rfl (by kernel_rfl) (new_blk (v := fun g_ => .pointer (some ⟨g_, 0, none⟩)) (cs := #[.int .i64 0, .int .i64 0, .slice none 0 0]) (t := 65) (by kernel_rfl)) ?_
  rintro _ w20 ⟨g21, rfl, b22, n23, C24⟩
  have m25 := heap_lt b22
  have z26 := C24.size
  replace b8 := C24.heap b8 (by simp)
  replace h4 := Rd.mono (fp_new (g := g21) (by omega)) (Rd.move (fp_chg C24 (by omega) (by simp)) h4)
  replace b15 := C24.heap b15 (by simp)
  replace hC := hC.step C24 (fun _ h_ => by cases h_)
  refine wpList_nil ?_
  refine then_n ?_
  refine wp_seq ?_
  refine wp_region_lit ?_
  refine lv (d := 4) rfl rfl (by kernel_rfl) (e_fieldAddr (b := g7) (off := 0) (o := 0) Try.underlying68 rfl rfl (sz := 1) (by kernel_rfl) (by decide) (by kernel_rfl)) ?_
  refine lv (d := 5) rfl rfl (by kernel_rfl) (e_load1 (ad := ⟨g7, 0 + 0, none⟩) (v := .int .i64 x1.kind) Try.underlying3 rfl (by kernel_rfl) ((cell_of_row _ _ _ _ _ _ b8).trans rfl)) ?_
  refine lv (d := 6) rfl rfl (by kernel_rfl) (e_fieldAddr (b := g21) (off := 0) (o := 0) Try.underlying65 rfl rfl (sz := 1) (by kernel_rfl) (by decide) (by kernel_rfl)) ?_
  refine lse rfl rfl (by kernel_rfl) (e_store (g := g21) (o := 0 + 0) (v := .int .i64 x1.kind) (cur' := #[.int .i64 x1.kind, .int .i64 0, .slice none 0 0]) (vs := [.int .i64 x1.kind]) (by kernel_rfl) (by kernel_rfl) rfl (by kernel_rfl) b22 (thaw0 _) (Nat.le_of_ble_eq_true rfl) (List.forall_mem_cons.2 ⟨rfl, (fun _ h_ => by cases h_)⟩) rfl) ?_
  rintro w27 ⟨b28, C29, s30⟩
  have z31 := C29.size
  replace b8 := C29.heap b8 (by simp; omega)
  replace h4 := Rd.move (fp_chg C29 (by omega) (by simp)) h4
  replace b15 := C29.heap b15 (by simp; omega)
  replace hC := hC.step C29 (fun o_ h_ => by simp only [List.mem_singleton] at h_; subst h_; exact .inr (fun b_ e_ => by injection e_ with e_; omega))
  refine wpList_nil ?_
  refine then_n ?_
  refine wp_seq ?_
  refine wp_region_lit ?_
  refine lv (d := 7) rfl rfl (by kernel_rfl) (e_fieldAddr (b := g7) (off := 0) (o := 1) Try.underlying68 rfl rfl (sz := 1) (by kernel_rfl) (by decide) (by kernel_rfl)) ?_
  refine lv (d := 8) rfl rfl (by kernel_rfl) (e_load1 (ad := ⟨g7, 0 + 1, none⟩) (v := .int .i64 x1.n) Try.underlying3 rfl (by kernel_rfl) ((cell_of_row _ _ _ _ _ _ b8).trans rfl)) ?_
  refine lv (d := 9) rfl rfl (by kernel_rfl) (e_fieldAddr (b := g21) (off := 0) (o := 1) Try.underlying65 rfl rfl (sz := 1) (by kernel_rfl) (by decide) (by kernel_rfl)) ?_
  refine lse rfl rfl (by kernel_rfl) (e_store (g := g21) (o := 0 + 1) (v := .int .i64 x1.n) (cur' := #[.int .i64 x1.kind, .int .i64 x1.n, .slice none 0 0]) (vs := [.int .i64 x1.n]) (by kernel_rfl) (by kernel_rfl) rfl (by kernel_rfl) b28 (thaw0 _) (Nat.le_of_ble_eq_true rfl) (List.forall_mem_cons.2 ⟨rfl, (fun _ h_ => by cases h_)⟩) rfl) ?_
  rintro w32 ⟨b33, C34, s35⟩
  have z36 := C34.size
  replace b8 := C34.heap b8 (by simp; omega)
  replace h4 := Rd.move (fp_chg C34 (by omega) (by simp)) h4
  replace b15 := C34.heap b15 (by simp; omega)
  replace hC := hC.step C34 (fun o_ h_ => by simp only [List.mem_singleton] at h_; subst h_; exact .inr (fun b_ e_ => by injection e_ with e_; omega))
  refine wpList_nil ?_
  refine then_n ?_
  refine wp_seq ?_
  refine wp_region_lit ?_
  refine lv (d := 10) rfl rfl (by kernel_rfl) (e_fieldAddr (b := g7) (off := 0) (o := 2) Try.underlying68 rfl rfl (sz := 1) (by kernel_rfl) (by decide) (by kernel_rfl)) ?_
  refine lv (d := 11) rfl rfl (by kernel_rfl) (e_load1 (ad := ⟨g7, 0 + 2, none⟩) (v := .slice A2 x1.text.length c3) Try.underlying59 rfl (by kernel_rfl) ((cell_of_row _ _ _ _ _ _ b8).trans rfl)) ?_
  obtain ⟨t37, u38, H⟩ := bnd H
  refine lcall (d := 12) rfl rfl (by kernel_rfl) (e_call (l := [.tmp 11]) (vs := [.slice A2 x1.text.length c3]) Try.func103 (by kernel_rfl) rfl (by kernel_rfl) rfl) (laws_toByteS.calls k w32 x1.text A2 c3 (Rd.mono (fun _ _ => trivial) h4) l5 t37 u38) ?_
  rintro _ w42 ⟨A39, c40, rfl, h41, C43⟩
  refine ⟨_, rfl, ?_⟩
  have u44 : Lt [some g21, some g14, some g7] w32.heap.size := (Lt.blk b33 (Lt.blk b15 (Lt.blk b8 (Lt.nil _))))
  have z45 := C43.size
  replace b15 := C43.heap b15 (by simp)
  replace b33 := C43.heap b33 (by simp)
  replace hC := hC.step C43 (fun _ h_ => by cases h_)
  replace h41 := Row.mono (fp_fresh u44) h41
  refine lv (d := 13) rfl rfl (by kernel_rfl) (e_fieldAddr (b := g21) (off := 0) (o := 2) Try.underlying65 rfl rfl (sz := 1) (by kernel_rfl) (by decide) (by kernel_rfl)) ?_
  refine lse rfl rfl (by kernel_rfl) (e_store (g := g21) (o := 0 + 2) (v := .slice A39 t37.length c40) (cur' := #[.int .i64 x1.kind, .int .i64 x1.n, .slice A39 t37.length c40]) (vs := [.slice A39 t37.length c40]) (by kernel_rfl) (by kernel_rfl) rfl (by kernel_rfl) b33 (thaw0 _) (Nat.le_of_ble_eq_true rfl) (List.forall_mem_cons.2 ⟨rfl, (fun _ h_ => by cases h_)⟩) rfl) ?_
  rintro w46 ⟨b47, C48, s49⟩
  have z50 := C48.size
  replace b15 := C48.heap b15 (by simp; omega)
  replace h41 := Row.move (fp_chg C48 (by omega) (by simp)) h41
  replace hC := hC.step C48 (fun o_ h_ => by simp only [List.mem_singleton] at h_; subst h_; exact .inr (fun b_ e_ => by injection e_ with e_; omega))
  refine wpList_nil ?_
  refine then_n ?_
  refine wp_seq ?_
  refine wp_region_lit ?_
  refine lv (d := 14) rfl rfl (by kernel_rfl) (e_loadS (b := g21) (off := 0) (cs := [.int .i64 x1.kind, .int .i64 x1.n, .slice A39 t37.length c40]) Try.underlying65 rfl (by kernel_rfl) (by kernel_rfl) (blk_cell b47 rfl)) ?_
  refine lse rfl rfl (by kernel_rfl) (e_store (g := g14) (o := 0) (v := .agg #[.int .i64 x1.kind, .int .i64 x1.n, .slice A39 t37.length c40]) (cur' := #[.int .i64 x1.kind, .int .i64 x1.n, .slice A39 t37.length c40]) (vs := [.int .i64 x1.kind, .int .i64 x1.n, .slice A39 t37.length c40]) (by kernel_rfl) (by kernel_rfl) rfl (by kernel_rfl) b15 (thaw0 _) (Nat.le_of_ble_eq_true rfl) (List.forall_mem_cons.2 ⟨rfl, (List.forall_mem_cons.2 ⟨rfl, (List.forall_mem_cons.2 ⟨rfl, (fun _ h_ => by cases h_)⟩)⟩)⟩) rfl) ?_
  rintro w51 ⟨b52, C53, s54⟩
  have z55 := C53.size
  replace h41 := Row.move (fp_chg C53 (by omega) (by simp)) h41
  replace hC := hC.step C53 (fun o_ h_ => by simp only [List.mem_singleton] at h_; subst h_; exact .inr (fun b_ e_ => by injection e_ with e_; omega))
  refine wpList_nil ?_
  refine then_n ?_
  refine wp_ret ?_
  obtain rfl := Option.some.inj H
  exact retS (ty := 65) (cur := #[.int .i64 x1.kind, .int .i64 x1.n, .slice A39 t37.length c40]) rfl rfl (by kernel_rfl) b52 Try.underlying65 rfl (by kernel_rfl) ⟨A39, c40, rfl, (h41.mono (fp_sub (fun q_ h_ => by simp only [ge] at h_ ⊢; omega) (by omega) (by simp))), hC⟩

/-! laws.toCellS -/
def laws_toCellS.l0 : Nat → (List Cell) → (List Cell) → Int → Option (List Cell)
  | 0, _, _, _ => none
  | k29 + 1, x1, x19, x24 => (if x24 < (x1.length : Int) then (if 0 ≤ x24 then ((laws_toCell.f k29 (x1.getD (x24).toNat z68)).bind fun t42 => (if x24 < (x19.length : Int) then (laws_toCellS.l0 k29 x1 (x19.set ((x24).toNat) t42) (IntKind.i64.wrap (x24 + 1))) else none)) else none) else some x19)
def laws_toCellS.f (k : Nat) (x1 : List Cell) : Option (List Cell) := (if 0 ≤ (x1.length : Int) then (if ((x1.length : Int)).toNat ≤ 7036874417766 then (laws_toCellS.l0 k x1 (List.replicate ((x1.length : Int)).toNat z65) 0) else none) else none)
theorem laws_toCellS.calls (k : Nat) (w : World) (x1 : List Cell) (A2 : Option Addr) (c3 : Nat) (h4 : Rd st68 w any A2 x1) (l5 : x1.length ≤ c3) (r : List Cell) (H : laws_toCellS.f k x1 = some r) :
    Calls Try.prog 16 #[.slice A2 x1.length c3] w (fun e e_w => ∃ (A_0 : Option Addr) (c_0 : Nat), e = .returned (.slice A_0 r.length c_0) ∧ Row st65 65 e_w (FP (ge w.heap.size) e_w.heap.size []) A_0 c_0 r ∧ Chg [] w e_w) := by
  rw [laws_toCellS.f] at H
  refine enter (l := [.slice A2 x1.length c3]) 23 Try.func16 rfl rfl rfl ?_
  replace h4 := rd_canon (M := []) (by decide) h4 (by simp)
  have hC := Chg.refl [] w
  refine wp_seq ?_
  refine wp_region_lit ?_
  refine lv (d := 2) rfl rfl (by kernel_rfl) (e_assign (v := .slice none 0 0) rfl) ?_
  refine wpList_nil ?_
  refine then_n ?_
  refine wp_seq ?_
  refine wp_region_lit ?_
  refine lv (d := 5) rfl rfl (by kernel_rfl) (e_move (v := .slice A2 x1.length c3) (by kernel_rfl)) ?_
  refine lv (d := 6) rfl rfl (by kernel_rfl) (e_len (A := A2) (n := x1.length) (c := c3) Try.underlying22 (by kernel_rfl)) ?_
  obtain ⟨q6, H⟩ := chk H
  obtain ⟨q7, H⟩ := chk H
  refine lve (d := 7) rfl rfl (by kernel_rfl) (e_make' (d := st65) (k := .i64) (k2 := .i64) (n := (x1.length : Int)) (z := .agg #[.int .i64 0, .int .i64 0, .slice none 0 0]) (zx := z65) (bytes := 40) Try.underlying25 (by kernel_rfl) rfl (by decide) z65_O (by kernel_rfl) (by kernel_rfl) q6 (by omega) (by omega)) ?_
  rintro _ w8 ⟨A9, c10, rfl, h11, C12, n13⟩
  have u14 : Lt [] w.heap.size := (Lt.nil _)
  have z15 := C12.size
  replace h4 := Rd.move (fp_chg C12 (by omega) (by simp)) h4
  replace hC := hC.step C12 (fun _ h_ => by cases h_)
  replace h4 := Rd.mono (fp_cons (fun b_ e_ => by have := n13 b_ e_; omega)) h4
  replace h11 := row_canon (L := ge w.heap.size) (M := []) h11 (fun b_ h_ _ => ⟨h_, fun hm_ => by have := u14 _ hm_ b_ rfl; omega⟩)
  refine lv (d := 3) rfl rfl (by kernel_rfl) (e_assign (v := .slice A9 (List.replicate ((x1.length : Int)).toNat z65).length c10) (by kernel_rfl)) ?_
  refine wpList_nil ?_
  refine then_n ?_
  refine wp_seq ?_
  refine wp_seq ?_
  refine wp_region_lit ?_
  refine lv (d := 4) rfl rfl (by kernel_rfl) (e_assign (v := .int .i64 0) rfl) ?_
  refine wpList_nil ?_
  refine then_n ?_
  refine wp_block ?_
  refine wp_loop_g (fun k27 a28 w16 => ∃ (f17 : Nat → Value) (x19 : List Cell) (A20 : Option Addr) (c21 : Nat) (x24 : Int), a28 = mk 23 f17 ∧ f17 0 = .slice A2 x1.length c3 ∧ f17 3 = .slice A20 x19.length c21 ∧ f17 4 = .int .i64 x24 ∧ Rd st68 w16 (FP any w.heap.size [bk A20]) A2 x1 ∧ Row st65 65 w16 (FP (ge w.heap.size) w16.heap.size []) A20 c21 x19 ∧ Chg [] w w16 ∧ w8.heap.size ≤ w16.heap.size ∧ laws_toCellS.l0 k27 x1 x19 x24 = some r) k ⟨_, (List.replicate ((x1.length : Int)).toNat z65), A9, c10, 0, rfl, (by kernel_rfl), (by kernel_rfl), (by kernel_rfl), (Rd.mono (fp_sub (fun _ h_ => h_) (by omega) (by simp [bk])) h4), (Row.mono (fp_sub (fun _ h_ => h_) (by omega) (by simp [bk])) h11), hC, (by omega), H⟩ ?_
  rintro k27 a28 w16 ⟨f17, x19, A20, c21, x24, rfl, e18, e23, e25, h4, h22, hC, z26, H⟩
  rcases k27 with _ | k29
  · rw [laws_toCellS.l0] at H
    cases H
  rw [laws_toCellS.l0] at H
  refine wp_seq ?_
  refine wp_seq ?_
  refine wp_region_lit ?_
  refine lv (d := 8) rfl rfl (by kernel_rfl) (e_move (v := .int .i64 x24) (by exact e25)) ?_
  refine lv (d := 9) rfl rfl (by kernel_rfl) (e_move (v := .slice A2 x1.length c3) (by exact e18)) ?_
  refine lv (d := 10) rfl rfl (by kernel_rfl) (e_len (A := A2) (n := x1.length) (c := c3) Try.underlying22 (by kernel_rfl)) ?_
  refine lv (d := 11) rfl rfl (by kernel_rfl) (e_lss (k := .i64) (a := x24) (b := (x1.length : Int)) (by kernel_rfl) (by kernel_rfl)) ?_
  refine wpList_nil ?_
  refine then_n ?_
  by_cases q30 : x24 < (x1.length : Int)
  · replace H := ifp q30 H
    refine cond_t rfl (bt q30 (by kernel_rfl)) ?_
    refine wp_skip ?_
    refine then_n ?_
    refine wp_seq ?_
    refine wp_block ?_
    refine wp_region_lit ?_
    refine lv (d := 14) rfl rfl (by kernel_rfl) (e_move (v := .slice A20 x19.length c21) (by exact e23)) ?_
    refine lv (d := 15) rfl rfl (by kernel_rfl) (e_move (v := .int .i64 x24) (by exact e25)) ?_
    refine lv (d := 16) rfl rfl (by kernel_rfl) (e_move (v := .slice A2 x1.length c3) (by exact e18)) ?_
    refine lv (d := 17) rfl rfl (by kernel_rfl) (e_move (v := .int .i64 x24) (by exact e25)) ?_
    obtain ⟨q31, H⟩ := chk H
    obtain ⟨b32, o33, y34, e37, _, r35, k36⟩ := Rd.get h4 (x24).toNat _ (getD_some z68 (by omega))
    obtain ⟨A38, c39, rfl, l40, h41⟩ := st68_open r35
    refine lv (d := 18) rfl rfl (by kernel_rfl) (e_indexAddr (b := b32) (off := o33) (n := x1.length) (c := c3) (sz := 3) (i := x24) (k := .i64) Try.underlying22 e37 (by kernel_rfl) (by kernel_rfl) (by kernel_rfl) q31 q30) ?_
    refine lv (d := 19) rfl rfl (by kernel_rfl) (e_loadS (b := b32) (off := o33 + (x24 : Int).toNat * 3) (cs := [.int .i64 ((x1.getD (x24).toNat z68).kind), .int .i64 ((x1.getD (x24).toNat z68).n), .slice A38 ((x1.getD (x24).toNat z68).text).length c39]) Try.underlying68 rfl (by kernel_rfl) (by kernel_rfl) k36) ?_
    obtain ⟨t42, u43, H⟩ := bnd H
    refine lcall (d := 20) rfl rfl (by kernel_rfl) (e_call (l := [.tmp 19]) (vs := [.agg #[.int .i64 ((x1.getD (x24).toNat z68).kind), .int .i64 ((x1.getD (x24).toNat z68).n), .slice A38 ((x1.getD (x24).toNat z68).text).length c39]]) Try.func57 (by kernel_rfl) rfl (by kernel_rfl) rfl) (laws_toCell.calls k29 w16 (x1.getD (x24).toNat z68) A38 c39 (Rd.mono (fun _ _ => trivial) h41) l40 t42 u43) ?_
    rintro _ w47 ⟨A44, c45, rfl, h46, C48⟩
    refine ⟨_, rfl, ?_⟩
    have u49 : Lt [bk A20] w16.heap.size := (Lt.cons (row_lt h22) (Lt.nil _))
    have z50 := C48.size
    replace h4 := Rd.move (fp_chg C48 (by omega) (by simp)) h4
    replace h22 := Row.move (fp_chg C48 (by omega) (by simp)) h22
    replace hC := hC.step C48 (fun _ h_ => by cases h_)
    replace h46 := Row.mono (fp_fresh u49) h46
    obtain ⟨q51, H⟩ := chk H
    obtain ⟨b52, o53, y54, e57, _, r55, k56⟩ := Row.get h22 (x24).toNat _ (getD_some z65 (by omega))
    obtain ⟨A58, c59, rfl, l60, h61⟩ := st65_open r55
    replace h61 := Rd.mono (fp_self (N := [bk A20]) (by simp)) h61
    refine lv (d := 21) rfl rfl (by kernel_rfl) (e_indexAddr (b := b52) (off := o53) (n := x19.length) (c := c21) (sz := 3) (i := x24) (k := .i64) Try.underlying25 e57 (by kernel_rfl) (by kernel_rfl) (by kernel_rfl) q31 q51) ?_
    refine lse rfl rfl (by kernel_rfl) (e_setel (d := st65) (b := b52) (off := o53) (i := (x24).toNat) (v := .agg #[.int .i64 t42.kind, .int .i64 t42.n, .slice A44 t42.text.length c45]) (vs := [.int .i64 t42.kind, .int .i64 t42.n, .slice A44 t42.text.length c45]) (yv := t42) (F2 := (FP (ge w16.heap.size) w47.heap.size [bk A20])) (by kernel_rfl) e57 (by kernel_rfl) rfl (by kernel_rfl) h22 (by omega) (st65_mkO (x := t42) h46) (fun _ q_ h1_ h2_ => by obtain ⟨_, h1_, _⟩ := h1_; obtain ⟨h2_, _, _⟩ := h2_; simp only [ge] at h2_; omega) (fun g_ e_ h_ => h_.2.2 (by rw [← e_]; simp))) ?_
    rintro w62 ⟨h63, C64, s65⟩
    have z66 := C64.size
    replace h4 := Rd.move (fp_chg C64 (by omega) (by simp)) h4
    replace hC := hC.step C64 (fun o_ h_ => by simp only [List.mem_singleton] at h_; subst h_; exact .inr (fun b_ e_ => by have q_ := (h22.own b_ e_).1.1; simp only [ge] at q_; omega))
    replace h63 := row_or (N := []) h63 (fun q_ h_ => by simp only [ge] at h_ ⊢; omega) (by simp) (by simp)
    refine wpList_nil ?_
    refine inb_n ?_
    refine then_n ?_
    refine wp_region_lit ?_
    refine lv (d := 12) rfl rfl (by kernel_rfl) (e_move (v := .int .i64 x24) (by exact e25)) ?_
    refine lv (d := 13) rfl rfl (by kernel_rfl) (e_add (k := .i64) (a := x24) (b := 1) (by kernel_rfl) rfl) ?_
    refine lv (d := 4) rfl rfl (by kernel_rfl) (e_assign (v := .int .i64 (IntKind.i64.wrap (x24 + 1))) (by kernel_rfl)) ?_
    refine wpList_nil ?_
    refine then_n ?_
    exact ⟨k29, Nat.lt_succ_self _, _, (x19.set ((x24).toNat) t42), A20, c21, (IntKind.i64.wrap (x24 + 1)), rfl, (by exact e18), (by simp only [List.length_set]; exact (by exact e23)), (by kernel_rfl), (Rd.mono (fp_sub (fun _ h_ => h_) (by omega) (by simp [bk])) h4), (Row.mono (fp_sub (fun _ h_ => h_) (by omega) (by simp [bk])) h63), hC, (by omega), H⟩
  replace H := ifn q30 H
  refine cond_f rfl (bf q30 (by kernel_rfl)) ?_
  refine wp_exit ?_
  refine then_e ?_
  refine then_e ?_
  refine inb_hit ?_
  refine then_n ?_
  refine wp_seq ?_
  refine wp_region_lit ?_
  refine lv (d := 22) rfl rfl (by kernel_rfl) (e_move (v := .slice A20 x19.length c21) (by exact e23)) ?_
  refine lv (d := 2) rfl rfl (by kernel_rfl) (e_assign (v := .slice A20 x19.length c21) (by kernel_rfl)) ?_
  refine wpList_nil ?_
  refine then_n ?_
  refine wp_ret ?_
  obtain rfl := Option.some.inj H
  exact ret1 (rfl) rfl  (show _ = .slice A20 x19.length c21 from (by kernel_rfl)) ⟨A20, c21, rfl, (h22.mono (fp_sub (fun _ h_ => h_) (by omega) (by simp))), hC⟩

/-! impl.cellOk -/
def impl_cellOk.f (x1 : Cell) : Option Bool := (if x1.kind = 0 then (if x1.n ≥ 0 then (if x1.n ≤ 1000000 then some (decide ((x1.text.length : Int) = 0)) else some false) else some false) else (if x1.kind = 1 then (if x1.n ≥ (-1000000000000000) then (if x1.n ≤ 1000000000000000 then some (decide ((x1.text.length : Int) = 0)) else some false) else some false) else (if x1.kind = 2 then (if x1.n = 0 then some (decide ((x1.text.length : Int) ≤ 100)) else some false) else (if x1.kind = 3 then (if x1.n ≥ 1 then (if x1.n ≤ 20 then some (decide ((x1.text.length : Int) ≤ 100)) else some false) else some false) else some false))))
theorem impl_cellOk.calls (w : World) (x1 : Cell) (A2 : Option Addr) (c3 : Nat) (h4 : Rd tByte w any A2 x1.text) (l5 : x1.text.length ≤ c3) (r : Bool) (H : impl_cellOk.f x1 = some r) :
    Calls Try.prog 58 #[.agg #[.int .i64 x1.kind, .int .i64 x1.n, .slice A2 x1.text.length c3]] w (fun e e_w => e = .returned (.bool r) ∧ Chg [] w e_w) := by
  rw [impl_cellOk.f] at H
  refine enter (l := [.agg #[.int .i64 x1.kind, .int .i64 x1.n, .slice A2 x1.text.length c3]]) 64 Try.func58 rfl rfl rfl ?_
  replace h4 := rd_canon (M := []) (by decide) h4 (by simp)
  have hC := Chg.refl [] w
  refine wp_seq ?_
  refine wp_region_lit ?_
  refine lve (d := 1) rfl rfl (by kernel_rfl) (new_blk (v := fun g_ => .pointer (some ⟨g_, 0, none⟩)) (cs := #[.int .i64 x1.kind, .int .i64 x1.n, .slice A2 x1.text.length c3]) (t := 65) (by kernel_rfl)) ?_
  rintro _ w6 ⟨g7, rfl, b8, n9, C10⟩
  have m11 := heap_lt b8
  have z12 := C10.size
  replace h4 := Rd.mono (fp_new (g := g7) (by omega)) (Rd.move (fp_chg C10 (by omega) (by simp)) h4)
  replace hC := hC.step C10 (fun _ h_ => by cases h_)
  refine lv (d := 2) rfl rfl (by kernel_rfl) (e_assign (v := .bool false) rfl) ?_
  refine wpList_nil ?_
  refine then_n ?_
  refine wp_seq ?_
  refine wp_seq ?_
  refine wp_region_lit ?_
  refine lv (d := 3) rfl rfl (by kernel_rfl) (e_fieldAddr (b := g7) (off := 0) (o := 0) Try.underlying65 rfl rfl (sz := 1) (by kernel_rfl) (by decide) (by kernel_rfl)) ?_
  refine lv (d := 4) rfl rfl (by kernel_rfl) (e_load1 (ad := ⟨g7, 0 + 0, none⟩) (v := .int .i64 x1.kind) Try.underlying3 rfl (by kernel_rfl) ((cell_of_row _ _ _ _ _ _ b8).trans rfl)) ?_
  refine wpList_nil ?_
  refine then_n ?_
  refine wp_block ?_
  refine wp_seq ?_
  refine wp_region_lit ?_
  refine lv (d := 6) rfl rfl (by kernel_rfl) (e_eql (k := .i64) (a := x1.kind) (b := 0) (by kernel_rfl) rfl) ?_
  refine lv (d := 5) rfl rfl (by kernel_rfl) (e_assign (v := .bool (decide (x1.kind = 0))) (by kernel_rfl)) ?_
  refine wpList_nil ?_
  refine then_n ?_
  by_cases q13 : x1.kind = 0
  · replace H := ifp q13 H
    refine cond_t rfl (bt q13 (by kernel_rfl)) ?_
    refine wp_seq ?_
    refine wp_region_lit ?_
    refine lv (d := 7) rfl rfl (by kernel_rfl) (e_fieldAddr (b := g7) (off := 0) (o := 1) Try.underlying65 rfl rfl (sz := 1) (by kernel_rfl) (by decide) (by kernel_rfl)) ?_
    refine lv (d := 8) rfl rfl (by kernel_rfl) (e_load1 (ad := ⟨g7, 0 + 1, none⟩) (v := .int .i64 x1.n) Try.underlying3 rfl (by kernel_rfl) ((cell_of_row _ _ _ _ _ _ b8).trans rfl)) ?_
    refine lv (d := 9) rfl rfl (by kernel_rfl) (e_geq (k := .i64) (a := x1.n) (b := 0) (by kernel_rfl) rfl) ?_
    refine lv (d := 10) rfl rfl (by kernel_rfl) (e_move (v := .bool (decide (x1.n ≥ 0))) (by kernel_rfl)) ?_
    by_cases q14 : x1.n ≥ 0
    · replace H := ifp q14 H
      refine lvg (d := 11) (t := 10) rfl (by kernel_rfl) rfl (bt q14 (by kernel_rfl)) rfl (by kernel_rfl) (e_fieldAddr (b := g7) (off := 0) (o := 1) Try.underlying65 rfl rfl (sz := 1) (by kernel_rfl) (by decide) (by kernel_rfl)) ?_
      refine lvg (d := 12) (t := 10) rfl (by kernel_rfl) rfl (bt q14 (by kernel_rfl)) rfl (by kernel_rfl) (e_load1 (ad := ⟨g7, 0 + 1, none⟩) (v := .int .i64 x1.n) Try.underlying3 rfl (by kernel_rfl) ((cell_of_row _ _ _ _ _ _ b8).trans rfl)) ?_
      refine lvg (d := 13) (t := 10) rfl (by kernel_rfl) rfl (bt q14 (by kernel_rfl)) rfl (by kernel_rfl) (e_leq (k := .i64) (a := x1.n) (b := 1000000) (by kernel_rfl) rfl) ?_
      refine lv (d := 14) rfl rfl (by kernel_rfl) (e_pick_t (v := .bool (decide (x1.n ≤ 1000000))) (bt q14 (by kernel_rfl)) (by kernel_rfl)) ?_
      refine lv (d := 15) rfl rfl (by kernel_rfl) (e_move (v := .bool (decide (x1.n ≤ 1000000))) (by kernel_rfl)) ?_
      by_cases q15 : x1.n ≤ 1000000
      · replace H := ifp q15 H
        refine lvg (d := 16) (t := 15) rfl (by kernel_rfl) rfl (bt q15 (by kernel_rfl)) rfl (by kernel_rfl) (e_fieldAddr (b := g7) (off := 0) (o := 2) Try.underlying65 rfl rfl (sz := 1) (by kernel_rfl) (by decide) (by kernel_rfl)) ?_
        refine lvg (d := 17) (t := 15) rfl (by kernel_rfl) rfl (bt q15 (by kernel_rfl)) rfl (by kernel_rfl) (e_load1 (ad := ⟨g7, 0 + 2, none⟩) (v := .slice A2 x1.text.length c3) Try.underlying59 rfl (by kernel_rfl) ((cell_of_row _ _ _ _ _ _ b8).trans rfl)) ?_
        refine lvg (d := 18) (t := 15) rfl (by kernel_rfl) rfl (bt q15 (by kernel_rfl)) rfl (by kernel_rfl) (e_len (A := A2) (n := x1.text.length) (c := c3) Try.underlying59 (by kernel_rfl)) ?_
        refine lvg (d := 19) (t := 15) rfl (by kernel_rfl) rfl (bt q15 (by kernel_rfl)) rfl (by kernel_rfl) (e_eql (k := .i64) (a := (x1.text.length : Int)) (b := 0) (by kernel_rfl) rfl) ?_
        refine lv (d := 20) rfl rfl (by kernel_rfl) (e_pick_t (v := .bool (decide ((x1.text.length : Int) = 0))) (bt q15 (by kernel_rfl)) (by kernel_rfl)) ?_
        refine lv (d := 2) rfl rfl (by kernel_rfl) (e_assign (v := .bool (decide ((x1.text.length : Int) = 0))) (by kernel_rfl)) ?_
        refine wpList_nil ?_
        refine then_n ?_
        refine wp_ret ?_
        refine inb_r ?_
        refine then_r ?_
        obtain rfl := Option.some.inj H
        exact ret1 (rfl) rfl  (show _ = .bool (decide ((x1.text.length : Int) = 0)) from (by kernel_rfl)) ⟨rfl, hC⟩
      replace H := ifn q15 H
      refine lskip (t := 15) (c := false) rfl (by kernel_rfl) rfl (bf q15 (by kernel_rfl)) rfl rfl ?_
      refine lskip (t := 15) (c := false) rfl (by kernel_rfl) rfl (bf q15 (by kernel_rfl)) rfl rfl ?_
      refine lskip (t := 15) (c := false) rfl (by kernel_rfl) rfl (bf q15 (by kernel_rfl)) rfl rfl ?_
      refine lskip (t := 15) (c := false) rfl (by kernel_rfl) rfl (bf q15 (by kernel_rfl)) rfl rfl ?_
      refine lv (d := 20) rfl rfl (by kernel_rfl) (e_pick_f (v := .bool false) (bf q15 (by kernel_rfl)) rfl) ?_
      refine lv (d := 2) rfl rfl (by kernel_rfl) (e_assign (v := .bool false) (by kernel_rfl)) ?_
      refine wpList_nil ?_
      refine then_n ?_
      refine wp_ret ?_
      refine inb_r ?_
      refine then_r ?_
      obtain rfl := Option.some.inj H
      exact ret1 (rfl) rfl  (show _ = .bool false from (by kernel_rfl)) ⟨rfl, hC⟩
    replace H := ifn q14 H
    refine lskip (t := 10) (c := false) rfl (by kernel_rfl) rfl (bf q14 (by kernel_rfl)) rfl rfl ?_
    refine lskip (t := 10) (c := false) rfl (by kernel_rfl) rfl (bf q14 (by kernel_rfl)) rfl rfl ?_
    refine lskip (t := 10) (c := false) rfl (by kernel_rfl) rfl (bf q14 (by kernel_rfl)) rfl rfl ?_
    refine lv (d := 14) rfl rfl (by kernel_rfl) (e_pick_f (v := .bool false) (bf q14 (by kernel_rfl)) rfl) ?_
    refine lv (d := 15) rfl rfl (by kernel_rfl) (e_move (v := .bool false) (by kernel_rfl)) ?_
    refine lskip (t := 15) (c := false) rfl (by kernel_rfl) rfl (by kernel_rfl) rfl rfl ?_
    refine lskip (t := 15) (c := false) rfl (by kernel_rfl) rfl (by kernel_rfl) rfl rfl ?_
    refine lskip (t := 15) (c := false) rfl (by kernel_rfl) rfl (by kernel_rfl) rfl rfl ?_
    refine lskip (t := 15) (c := false) rfl (by kernel_rfl) rfl (by kernel_rfl) rfl rfl ?_
    refine lv (d := 20) rfl rfl (by kernel_rfl) (e_pick_f (v := .bool false) (by kernel_rfl) rfl) ?_
    refine lv (d := 2) rfl rfl (by kernel_rfl) (e_assign (v := .bool false) (by kernel_rfl)) ?_
    refine wpList_nil ?_
    refine then_n ?_
    refine wp_ret ?_
    refine inb_r ?_
    refine then_r ?_
    obtain rfl := Option.some.inj H
    exact ret1 (rfl) rfl  (show _ = .bool false from (by kernel_rfl)) ⟨rfl, hC⟩
  replace H := ifn q13 H
  refine cond_f rfl (bf q13 (by kernel_rfl)) ?_
  refine wp_seq ?_
  refine wp_region_lit ?_
  refine lv (d := 22) rfl rfl (by kernel_rfl) (e_eql (k := .i64) (a := x1.kind) (b := 1) (by kernel_rfl) rfl) ?_
  refine lv (d := 21) rfl rfl (by kernel_rfl) (e_assign (v := .bool (decide (x1.kind = 1))) (by kernel_rfl)) ?_
  refine wpList_nil ?_
  refine then_n ?_
  by_cases q16 : x1.kind = 1
  · replace H := ifp q16 H
    refine cond_t rfl (bt q16 (by kernel_rfl)) ?_
    refine wp_seq ?_
    refine wp_region_lit ?_
    refine lv (d := 23) rfl rfl (by kernel_rfl) (e_fieldAddr (b := g7) (off := 0) (o := 1) Try.underlying65 rfl rfl (sz := 1) (by kernel_rfl) (by decide) (by kernel_rfl)) ?_
    refine lv (d := 24) rfl rfl (by kernel_rfl) (e_load1 (ad := ⟨g7, 0 + 1, none⟩) (v := .int .i64 x1.n) Try.underlying3 rfl (by kernel_rfl) ((cell_of_row _ _ _ _ _ _ b8).trans rfl)) ?_
    refine lv (d := 25) rfl rfl (by kernel_rfl) (e_geq (k := .i64) (a := x1.n) (b := (-1000000000000000)) (by kernel_rfl) rfl) ?_
    refine lv (d := 26) rfl rfl (by kernel_rfl) (e_move (v := .bool (decide (x1.n ≥ (-1000000000000000)))) (by kernel_rfl)) ?_
    by_cases q17 : x1.n ≥ (-1000000000000000)
    · replace H := ifp q17 H
      refine lvg (d := 27) (t := 26) rfl (by kernel_rfl) rfl (bt q17 (by kernel_rfl)) rfl (by kernel_rfl) (e_fieldAddr (b := g7) (off := 0) (o := 1) Try.underlying65 rfl rfl (sz := 1) (by kernel_rfl) (by decide) (by kernel_rfl)) ?_
      refine lvg (d := 28) (t := 26) rfl (by kernel_rfl) rfl (bt q17 (by kernel_rfl)) rfl (by kernel_rfl) (e_load1 (ad := ⟨g7, 0 + 1, none⟩) (v := .int .i64 x1.n) Try.underlying3 rfl (by kernel_rfl) ((cell_of_row _ _ _ _ _ _ b8).trans rfl)) ?_
      refine lvg (d := 29) (t := 26) rfl (by kernel_rfl) rfl (bt q17 (by kernel_rfl)) rfl (by kernel_rfl) (e_leq (k := .i64) (a := x1.n) (b := 1000000000000000) (by kernel_rfl) rfl) ?_
      refine lv (d := 30) rfl rfl (by kernel_rfl) (e_pick_t (v := .bool (decide (x1.n ≤ 1000000000000000))) (bt q17 (by kernel_rfl)) (by kernel_rfl)) ?_
      refine lv (d := 31) rfl rfl (by kernel_rfl) (e_move (v := .bool (decide (x1.n ≤ 1000000000000000))) (by kernel_rfl)) ?_
      by_cases q18 : x1.n ≤ 1000000000000000
      · replace H := ifp q18 H
        refine lvg (d := 32) (t := 31) rfl (by kernel_rfl) rfl (bt q18 (by kernel_rfl)) rfl (by kernel_rfl) (e_fieldAddr (b := g7) (off := 0) (o := 2) Try.underlying65 rfl rfl (sz := 1) (by kernel_rfl) (by decide) (by kernel_rfl)) ?_
        refine lvg (d := 33) (t := 31) rfl (by kernel_rfl) rfl (bt q18 (by kernel_rfl)) rfl (by kernel_rfl) (e_load1 (ad := ⟨g7, 0 + 2, none⟩) (v := .slice A2 x1.text.length c3) Try.underlying59 rfl (by kernel_rfl) ((cell_of_row _ _ _ _ _ _ b8).trans rfl)) ?_
        refine lvg (d := 34) (t := 31) rfl (by kernel_rfl) rfl (bt q18 (by kernel_rfl)) rfl (by kernel_rfl) (e_len (A := A2) (n := x1.text.length) (c := c3) Try.underlying59 (by kernel_rfl)) ?_
        refine lvg (d := 35) (t := 31) rfl (by kernel_rfl) rfl (bt q18 (by kernel_rfl)) rfl (by kernel_rfl) (e_eql (k := .i64) (a := (x1.text.length : Int)) (b := 0) (by kernel_rfl) rfl) ?_
        refine lv (d := 36) rfl rfl (by kernel_rfl) (e_pick_t (v := .bool (decide ((x1.text.length : Int) = 0))) (bt q18 (by kernel_rfl)) (by kernel_rfl)) ?_
        refine lv (d := 2) rfl rfl (by kernel_rfl) (e_assign (v := .bool (decide ((x1.text.length : Int) = 0))) (by kernel_rfl)) ?_
        refine wpList_nil ?_
        refine then_n ?_
        refine wp_ret ?_
        refine inb_r ?_
        refine then_r ?_
        obtain rfl := Option.some.inj H
        exact ret1 (rfl) rfl  (show _ = .bool (decide ((x1.text.length : Int) = 0)) from (by kernel_rfl)) ⟨rfl, hC⟩
      replace H := ifn q18 H
      refine lskip (t := 31) (c := false) rfl (by kernel_rfl) rfl (bf q18 (by kernel_rfl)) rfl rfl ?_
      refine lskip (t := 31) (c := false) rfl (by kernel_rfl) rfl (bf q18 (by kernel_rfl)) rfl rfl ?_
      refine lskip (t := 31) (c := false) rfl (by kernel_rfl) rfl (bf q18 (by kernel_rfl)) rfl rfl ?_
      refine lskip (t := 31) (c := false) rfl (by kernel_rfl) rfl (bf q18 (by kernel_rfl)) rfl rfl ?_
      refine lv (d := 36) rfl rfl (by kernel_rfl) (e_pick_f (v := .bool false) (bf q18 (by kernel_rfl)) rfl) ?_
      refine lv (d := 2) rfl rfl (by kernel_rfl) (e_assign (v := .bool false) (by kernel_rfl)) ?_
      refine wpList_nil ?_
      refine then_n ?_
      refine wp_ret ?_
      refine inb_r ?_
      refine then_r ?_
      obtain rfl := Option.some.inj H
      exact ret1 (rfl) rfl  (show _ = .bool false from (by kernel_rfl)) ⟨rfl, hC⟩
    replace H := ifn q17 H
    refine lskip (t := 26) (c := false) rfl (by kernel_rfl) rfl (bf q17 (by kernel_rfl)) rfl rfl ?_
    refine lskip (t := 26) (c := false) rfl (by kernel_rfl) rfl (bf q17 (by kernel_rfl)) rfl rfl ?_
    refine lskip (t := 26) (c := false) rfl (by kernel_rfl) rfl (bf q17 (by kernel_rfl)) rfl rfl ?_
    refine lv (d := 30) rfl rfl (by kernel_rfl) (e_pick_f (v := .bool false) (bf q17 (by kernel_rfl)) rfl) ?_
    refine lv (d := 31) rfl rfl (by kernel_rfl) (e_move (v := .bool false) (by kernel_rfl)) ?_
    refine lskip (t := 31) (c := false) rfl (by kernel_rfl) rfl (by kernel_rfl) rfl rfl ?_
    refine lskip (t := 31) (c := false) rfl (by kernel_rfl) rfl (by kernel_rfl) rfl rfl ?_
    refine lskip (t := 31) (c := false) rfl (by kernel_rfl) rfl (by kernel_rfl) rfl rfl ?_
    refine lskip (t := 31) (c := false) rfl (by kernel_rfl) rfl (by kernel_rfl) rfl rfl ?_
    refine lv (d := 36) rfl rfl (by kernel_rfl) (e_pick_f (v := .bool false) (by kernel_rfl) rfl) ?_
    refine lv (d := 2) rfl rfl (by kernel_rfl) (e_assign (v := .bool false) (by kernel_rfl)) ?_
    refine wpList_nil ?_
    refine then_n ?_
    refine wp_ret ?_
    refine inb_r ?_
    refine then_r ?_
    obtain rfl := Option.some.inj H
    exact ret1 (rfl) rfl  (show _ = .bool false from (by kernel_rfl)) ⟨rfl, hC⟩
  replace H := ifn q16 H
  refine cond_f rfl (bf q16 (by kernel_rfl)) ?_
  refine wp_seq ?_
  refine wp_region_lit ?_
  refine lv (d := 38) rfl rfl (by kernel_rfl) (e_eql (k := .i64) (a := x1.kind) (b := 2) (by kernel_rfl) rfl) ?_
  refine lv (d := 37) rfl rfl (by kernel_rfl) (e_assign (v := .bool (decide (x1.kind = 2))) (by kernel_rfl)) ?_
  refine wpList_nil ?_
  refine then_n ?_
  by_cases q19 : x1.kind = 2
  · replace H := ifp q19 H
    refine cond_t rfl (bt q19 (by kernel_rfl)) ?_
    refine wp_seq ?_
    refine wp_region_lit ?_
    refine lv (d := 39) rfl rfl (by kernel_rfl) (e_fieldAddr (b := g7) (off := 0) (o := 1) Try.underlying65 rfl rfl (sz := 1) (by kernel_rfl) (by decide) (by kernel_rfl)) ?_
    refine lv (d := 40) rfl rfl (by kernel_rfl) (e_load1 (ad := ⟨g7, 0 + 1, none⟩) (v := .int .i64 x1.n) Try.underlying3 rfl (by kernel_rfl) ((cell_of_row _ _ _ _ _ _ b8).trans rfl)) ?_
    refine lv (d := 41) rfl rfl (by kernel_rfl) (e_eql (k := .i64) (a := x1.n) (b := 0) (by kernel_rfl) rfl) ?_
    refine lv (d := 42) rfl rfl (by kernel_rfl) (e_move (v := .bool (decide (x1.n = 0))) (by kernel_rfl)) ?_
    by_cases q20 : x1.n = 0
    · replace H := ifp q20 H
      refine lvg (d := 43) (t := 42) rfl (by kernel_rfl) rfl (bt q20 (by kernel_rfl)) rfl (by kernel_rfl) (e_fieldAddr (b := g7) (off := 0) (o := 2) Try.underlying65 rfl rfl (sz := 1) (by kernel_rfl) (by decide) (by kernel_rfl)) ?_
      refine lvg (d := 44) (t := 42) rfl (by kernel_rfl) rfl (bt q20 (by kernel_rfl)) rfl (by kernel_rfl) (e_load1 (ad := ⟨g7, 0 + 2, none⟩) (v := .slice A2 x1.text.length c3) Try.underlying59 rfl (by kernel_rfl) ((cell_of_row _ _ _ _ _ _ b8).trans rfl)) ?_
      refine lvg (d := 45) (t := 42) rfl (by kernel_rfl) rfl (bt q20 (by kernel_rfl)) rfl (by kernel_rfl) (e_len (A := A2) (n := x1.text.length) (c := c3) Try.underlying59 (by kernel_rfl)) ?_
      refine lvg (d := 46) (t := 42) rfl (by kernel_rfl) rfl (bt q20 (by kernel_rfl)) rfl (by kernel_rfl) (e_leq (k := .i64) (a := (x1.text.length : Int)) (b := 100) (by kernel_rfl) rfl) ?_
      refine lv (d := 47) rfl rfl (by kernel_rfl) (e_pick_t (v := .bool (decide ((x1.text.length : Int) ≤ 100))) (bt q20 (by kernel_rfl)) (by kernel_rfl)) ?_
      refine lv (d := 2) rfl rfl (by kernel_rfl) (e_assign (v := .bool (decide ((x1.text.length : Int) ≤ 100))) (by kernel_rfl)) ?_
      refine wpList_nil ?_
      refine then_n ?_
      refine wp_ret ?_
      refine inb_r ?_
      refine then_r ?_
      obtain rfl := Option.some.inj H
      exact ret1 (rfl) rfl  (show _ = .bool (decide ((x1.text.length : Int) ≤ 100)) from (by kernel_rfl)) ⟨rfl, hC⟩
    replace H := ifn q20 H
    refine lskip (t := 42) (c := false) rfl (by kernel_rfl) rfl (bf q20 (by kernel_rfl)) rfl rfl ?_
    refine lskip (t := 42) (c := false) rfl (by kernel_rfl) rfl (bf q20 (by kernel_rfl)) rfl rfl ?_
    refine lskip (t := 42) (c := false) rfl (by kernel_rfl) rfl (bf q20 (by kernel_rfl)) rfl rfl ?_
    refine lskip (t := 42) (c := false) rfl (by kernel_rfl) rfl (bf q20 (by kernel_rfl)) rfl rfl ?_
    refine lv (d := 47) rfl rfl (by kernel_rfl) (e_pick_f (v := .bool false) (bf q20 (by kernel_rfl)) rfl) ?_
    refine lv (d := 2) rfl rfl (by kernel_rfl) (e_assign (v := .bool false) (by kernel_rfl)) ?_
    refine wpList_nil ?_
    refine then_n ?_
    refine wp_ret ?_
    refine inb_r ?_
    refine then_r ?_
    obtain rfl := Option.some.inj H
    exact ret1 (rfl) rfl  (show _ = .bool false from (by kernel_rfl)) ⟨rfl, hC⟩
  replace H := ifn q19 H
  refine cond_f rfl (bf q19 (by kernel_rfl)) ?_
  refine wp_seq ?_
  refine wp_region_lit ?_
  refine lv (d := 49) rfl rfl (by kernel_rfl) (e_eql (k := .i64) (a := x1.kind) (b := 3) (by kernel_rfl) rfl) ?_
  refine lv (d := 48) rfl rfl (by kernel_rfl) (e_assign (v := .bool (decide (x1.kind = 3))) (by kernel_rfl)) ?_
  refine wpList_nil ?_
  refine then_n ?_
  by_cases q21 : x1.kind = 3
  · replace H := ifp q21 H
    refine cond_t rfl (bt q21 (by kernel_rfl)) ?_
    refine wp_seq ?_
    refine wp_region_lit ?_
    refine lv (d := 50) rfl rfl (by kernel_rfl) (e_fieldAddr (b := g7) (off := 0) (o := 1) Try.underlying65 rfl rfl (sz := 1) (by kernel_rfl) (by decide) (by kernel_rfl)) ?_
    refine lv (d := 51) rfl rfl (by kernel_rfl) (e_load1 (ad := ⟨g7, 0 + 1, none⟩) (v := .int .i64 x1.n) Try.underlying3 rfl (by kernel_rfl) ((cell_of_row _ _ _ _ _ _ b8).trans rfl)) ?_
    refine lv (d := 52) rfl rfl (by kernel_rfl) (e_geq (k := .i64) (a := x1.n) (b := 1) (by kernel_rfl) rfl) ?_
    refine lv (d := 53) rfl rfl (by kernel_rfl) (e_move (v := .bool (decide (x1.n ≥ 1))) (by kernel_rfl)) ?_
    by_cases q22 : x1.n ≥ 1
    · replace H := ifp q22 H
      refine lvg (d := 54) (t := 53) rfl (by kernel_rfl) rfl (bt q22 (by kernel_rfl)) rfl (by kernel_rfl) (e_fieldAddr (b := g7) (off := 0) (o := 1) Try.underlying65 rfl rfl (sz := 1) (by kernel_rfl) (by decide) (by kernel_rfl)) ?_
      refine lvg (d := 55) (t := 53) rfl (by kernel_rfl) rfl (bt q22 (by kernel_rfl)) rfl (by kernel_rfl) (e_load1 (ad := ⟨g7, 0 + 1, none⟩) (v := .int .i64 x1.n) Try.underlying3 rfl (by kernel_rfl) ((cell_of_row _ _ _ _ _ _ b8).trans rfl)) ?_
      refine lvg (d := 56) (t := 53) rfl (by kernel_rfl) rfl (bt q22 (by kernel_rfl)) rfl (by kernel_rfl) (e_leq (k := .i64) (a := x1.n) (b := 20) (by kernel_rfl) rfl) ?_
      refine lv (d := 57) rfl rfl (by kernel_rfl) (e_pick_t (v := .bool (decide (x1.n ≤ 20))) (bt q22 (by kernel_rfl)) (by kernel_rfl)) ?_
      refine lv (d := 58) rfl rfl (by kernel_rfl) (e_move (v := .bool (decide (x1.n ≤ 20))) (by kernel_rfl)) ?_
      by_cases q23 : x1.n ≤ 20
      · replace H := ifp q23 H
        refine lvg (d := 59) (t := 58) rfl (by kernel_rfl) rfl (bt q23 (by kernel_rfl)) rfl (by kernel_rfl) (e_fieldAddr (b := g7) (off := 0) (o := 2) Try.underlying65 rfl rfl (sz := 1) (by kernel_rfl) (by decide) (by kernel_rfl)) ?_
        refine lvg (d := 60) (t := 58) rfl (by kernel_rfl) rfl (bt q23 (by kernel_rfl)) rfl (by kernel_rfl) (e_load1 (ad := ⟨g7, 0 + 2, none⟩) (v := .slice A2 x1.text.length c3) Try.underlying59 rfl (by kernel_rfl) ((cell_of_row _ _ _ _ _ _ b8).trans rfl)) ?_
        refine lvg (d := 61) (t := 58) rfl (by kernel_rfl) rfl (bt q23 (by kernel_rfl)) rfl (by kernel_rfl) (e_len (A := A2) (n := x1.text.length) (c := c3) Try.underlying59 (by kernel_rfl)) ?_
        refine lvg (d := 62) (t := 58) rfl (by kernel_rfl) rfl (bt q23 (by kernel_rfl)) rfl (by kernel_rfl) (e_leq (k := .i64) (a := (x1.text.length : Int)) (b := 100) (by kernel_rfl) rfl) ?_
        refine lv (d := 63) rfl rfl (by kernel_rfl) (e_pick_t (v := .bool (decide ((x1.text.length : Int) ≤ 100))) (bt q23 (by kernel_rfl)) (by kernel_rfl)) ?_
        refine lv (d := 2) rfl rfl (by kernel_rfl) (e_assign (v := .bool (decide ((x1.text.length : Int) ≤ 100))) (by kernel_rfl)) ?_
        refine wpList_nil ?_
        refine then_n ?_
        refine wp_ret ?_
        refine inb_r ?_
        refine then_r ?_
        obtain rfl := Option.some.inj H
        exact ret1 (rfl) rfl  (show _ = .bool (decide ((x1.text.length : Int) ≤ 100)) from (by kernel_rfl)) ⟨rfl, hC⟩
      replace H := ifn q23 H
      refine lskip (t := 58) (c := false) rfl (by kernel_rfl) rfl (bf q23 (by kernel_rfl)) rfl rfl ?_
      refine lskip (t := 58) (c := false) rfl (by kernel_rfl) rfl (bf q23 (by kernel_rfl)) rfl rfl ?_
      refine lskip (t := 58) (c := false) rfl (by kernel_rfl) rfl (bf q23 (by kernel_rfl)) rfl rfl ?_
      refine lskip (t := 58) (c := false) rfl (by kernel_rfl) rfl (bf q23 (by kernel_rfl)) rfl rfl ?_
      refine lv (d := 63) rfl rfl (by kernel_rfl) (e_pick_f (v := .bool false) (bf q23 (by kernel_rfl)) rfl) ?_
      refine lv (d := 2) rfl rfl (by kernel_rfl) (e_assign (v := .bool false) (by kernel_rfl)) ?_
      refine wpList_nil ?_
      refine then_n ?_
      refine wp_ret ?_
      refine inb_r ?_
      refine then_r ?_
      obtain rfl := Option.some.inj H
      exact ret1 (rfl) rfl  (show _ = .bool false from (by kernel_rfl)) ⟨rfl, hC⟩
    replace H := ifn q22 H
    refine lskip (t := 53) (c := false) rfl (by kernel_rfl) rfl (bf q22 (by kernel_rfl)) rfl rfl ?_
    refine lskip (t := 53) (c := false) rfl (by kernel_rfl) rfl (bf q22 (by kernel_rfl)) rfl rfl ?_
    refine lskip (t := 53) (c := false) rfl (by kernel_rfl) rfl (bf q22 (by kernel_rfl)) rfl rfl ?_
    refine lv (d := 57) rfl rfl (by kernel_rfl) (e_pick_f (v := .bool false) (bf q22 (by kernel_rfl)) rfl) ?_
    refine lv (d := 58) rfl rfl (by kernel_rfl) (e_move (v := .bool false) (by kernel_rfl)) ?_
    refine lskip (t := 58) (c := false) rfl (by kernel_rfl) rfl (by kernel_rfl) rfl rfl ?_
    refine lskip (t := 58) (c := false) rfl (by kernel_rfl) rfl (by kernel_rfl) rfl rfl ?_
    refine lskip (t := 58) (c := false) rfl (by kernel_rfl) rfl (by kernel_rfl) rfl rfl ?_
    refine lskip (t := 58) (c := false) rfl (by kernel_rfl) rfl (by kernel_rfl) rfl rfl ?_
    refine lv (d := 63) rfl rfl (by kernel_rfl) (e_pick_f (v := .bool false) (by kernel_rfl) rfl) ?_
    refine lv (d := 2) rfl rfl (by kernel_rfl) (e_assign (v := .bool false) (by kernel_rfl)) ?_
    refine wpList_nil ?_
    refine then_n ?_
    refine wp_ret ?_
    refine inb_r ?_
    refine then_r ?_
    obtain rfl := Option.some.inj H
    exact ret1 (rfl) rfl  (show _ = .bool false from (by kernel_rfl)) ⟨rfl, hC⟩
  replace H := ifn q21 H
  refine cond_f rfl (bf q21 (by kernel_rfl)) ?_
  refine wp_skip ?_
  refine inb_n ?_
  refine then_n ?_
  refine wp_seq ?_
  refine wp_region_lit ?_
  refine lv (d := 2) rfl rfl (by kernel_rfl) (e_assign (v := .bool false) rfl) ?_
  refine wpList_nil ?_
  refine then_n ?_
  refine wp_ret ?_
  obtain rfl := Option.some.inj H
  exact ret1 (rfl) rfl  (show _ = .bool false from (by kernel_rfl)) ⟨rfl, hC⟩

/-! impl.ValidTerm -/
def impl_ValidTerm.l0 : Nat → (List Cell) → Int → Int → Option Bool
  | 0, _, _, _ => none
  | k18 + 1, x1, x9, x13 => (if x13 < (x1.length : Int) then (if 0 ≤ x13 then (if x9 = 0 then some false else ((impl_cellOk.f (x1.getD (x13).toNat z65)).bind fun t44 => (if ¬ (t44 = true) then some false else (if ((x1.getD (x13).toNat z65).kind) = 3 then (impl_ValidTerm.l0 k18 x1 (IntKind.i64.wrap ((IntKind.i64.wrap (x9 - 1)) + ((x1.getD (x13).toNat z65).n))) (IntKind.i64.wrap (x13 + 1))) else (impl_ValidTerm.l0 k18 x1 (IntKind.i64.wrap (x9 - 1)) (IntKind.i64.wrap (x13 + 1))))))) else none) else some (decide (x9 = 0)))
def impl_ValidTerm.f (k : Nat) (x1 : List Cell) : Option Bool := (if (x1.length : Int) > 2000 then some false else (impl_ValidTerm.l0 k x1 1 0))
theorem impl_ValidTerm.calls (k : Nat) (w : World) (x1 : List Cell) (A2 : Option Addr) (c3 : Nat) (h4 : Rd st65 w any A2 x1) (l5 : x1.length ≤ c3) (r : Bool) (H : impl_ValidTerm.f k x1 = some r) :
    Calls Try.prog 17 #[.slice A2 x1.length c3] w (fun e e_w => e = .returned (.bool r) ∧ Chg [] w e_w) := by
  rw [impl_ValidTerm.f] at H
  refine enter (l := [.slice A2 x1.length c3]) 34 Try.func17 rfl rfl rfl ?_
  replace h4 := rd_canon (M := []) (by decide) h4 (by simp)
  have hC := Chg.refl [] w
  refine wp_seq ?_
  refine wp_region_lit ?_
  refine lv (d := 2) rfl rfl (by kernel_rfl) (e_assign (v := .bool false) rfl) ?_
  refine wpList_nil ?_
  refine then_n ?_
  refine wp_seq ?_
  refine wp_seq ?_
  refine wp_region_lit ?_
  refine lv (d := 6) rfl rfl (by kernel_rfl) (e_move (v := .slice A2 x1.length c3) (by kernel_rfl)) ?_
  refine lv (d := 7) rfl rfl (by kernel_rfl) (e_len (A := A2) (n := x1.length) (c := c3) Try.underlying25 (by kernel_rfl)) ?_
  refine lv (d := 8) rfl rfl (by kernel_rfl) (e_gtr (k := .i64) (a := (x1.length : Int)) (b := 2000) (by kernel_rfl) rfl) ?_
  refine wpList_nil ?_
  refine then_n ?_
  by_cases q6 : (x1.length : Int) > 2000
  · replace H := ifp q6 H
    refine cond_t rfl (bt q6 (by kernel_rfl)) ?_
    refine wp_seq ?_
    refine wp_region_lit ?_
    refine lv (d := 2) rfl rfl (by kernel_rfl) (e_assign (v := .bool false) rfl) ?_
    refine wpList_nil ?_
    refine then_n ?_
    refine wp_ret ?_
    refine then_r ?_
    obtain rfl := Option.some.inj H
    exact ret1 (rfl) rfl  (show _ = .bool false from (by kernel_rfl)) ⟨rfl, hC⟩
  replace H := ifn q6 H
  refine cond_f rfl (bf q6 (by kernel_rfl)) ?_
  refine wp_skip ?_
  refine then_n ?_
  refine wp_seq ?_
  refine wp_region_lit ?_
  refine lv (d := 3) rfl rfl (by kernel_rfl) (e_assign (v := .int .i64 1) rfl) ?_
  refine wpList_nil ?_
  refine then_n ?_
  refine wp_seq ?_
  refine wp_seq ?_
  refine wp_region_lit ?_
  refine lv (d := 9) rfl rfl (by kernel_rfl) (e_move (v := .slice A2 x1.length c3) (by kernel_rfl)) ?_
  refine lv (d := 10) rfl rfl (by kernel_rfl) (e_len (A := A2) (n := x1.length) (c := c3) Try.underlying25 (by kernel_rfl)) ?_
  refine lv (d := 11) rfl rfl (by kernel_rfl) (e_move (v := .int .i64 0) rfl) ?_
  refine wpList_nil ?_
  refine then_n ?_
  refine wp_block ?_
  refine wp_loop_g (fun k16 a17 w7 => ∃ (f8 : Nat → Value) (x9 : Int) (x13 : Int), a17 = mk 34 f8 ∧ f8 3 = .int .i64 x9 ∧ f8 9 = .slice A2 x1.length c3 ∧ f8 10 = .int .i64 (x1.length : Int) ∧ f8 11 = .int .i64 x13 ∧ Rd st65 w7 (FP any w.heap.size []) A2 x1 ∧ Chg [] w w7 ∧ w.heap.size ≤ w7.heap.size ∧ impl_ValidTerm.l0 k16 x1 x9 x13 = some r) k ⟨_, 1, 0, rfl, (by kernel_rfl), (by kernel_rfl), (by kernel_rfl), (by kernel_rfl), (Rd.mono (fp_sub (fun _ h_ => h_) (by omega) (by simp [bk])) h4), hC, (by omega), H⟩ ?_
  rintro k16 a17 w7 ⟨f8, x9, x13, rfl, e10, e11, e12, e14, h4, hC, z15, H⟩
  rcases k16 with _ | k18
  · rw [impl_ValidTerm.l0] at H
    cases H
  rw [impl_ValidTerm.l0] at H
  refine wp_seq ?_
  refine wp_region_lit ?_
  refine lv (d := 12) rfl rfl (by kernel_rfl) (e_lss (k := .i64) (a := x13) (b := (x1.length : Int)) (by exact e14) (by exact e12)) ?_
  refine wpList_nil ?_
  refine then_n ?_
  refine wp_seq ?_
  by_cases q19 : x13 < (x1.length : Int)
  · replace H := ifp q19 H
    refine cond_t rfl (bt q19 (by kernel_rfl)) ?_
    refine wp_skip ?_
    refine then_n ?_
    refine wp_seq ?_
    refine wp_block ?_
    refine wp_seq ?_
    refine wp_region_lit ?_
    obtain ⟨q20, H⟩ := chk H
    obtain ⟨b21, o22, y23, e26, _, r24, k25⟩ := Rd.get h4 (x13).toNat _ (getD_some z65 (by omega))
    obtain ⟨A27, c28, rfl, l29, h30⟩ := st65_open r24
    refine lv (d := 13) rfl rfl (by kernel_rfl) (e_indexAddr (b := b21) (off := o22) (n := x1.length) (c := c3) (sz := 3) (i := x13) (k := .i64) Try.underlying25 e26 (by kernel_rfl) (by exact e11) (by exact e14) q20 q19) ?_
    refine lv (d := 14) rfl rfl (by kernel_rfl) (e_loadS (b := b21) (off := o22 + (x13 : Int).toNat * 3) (cs := [.int .i64 ((x1.getD (x13).toNat z65).kind), .int .i64 ((x1.getD (x13).toNat z65).n), .slice A27 ((x1.getD (x13).toNat z65).text).length c28]) Try.underlying65 rfl (by kernel_rfl) (by kernel_rfl) k25) ?_
    refine lve (d := 5) rfl rfl (by kernel_rfl) (new_blk (v := fun g_ => .pointer (some ⟨g_, 0, none⟩)) (cs := #[.int .i64 0, .int .i64 0, .slice none 0 0]) (t := 65) (by kernel_rfl)) ?_
    rintro _ w31 ⟨g32, rfl, b33, n34, C35⟩
    have m36 := heap_lt b33
    have z37 := C35.size
    replace h4 := Rd.mono (fp_new (g := g32) (by omega)) (Rd.move (fp_chg C35 (by omega) (by simp)) h4)
    replace h30 := Rd.mono (fp_new (g := g32) (by omega)) (Rd.move (fp_chg C35 (by omega) (by simp)) h30)
    replace hC := hC.step C35 (fun _ h_ => by cases h_)
    refine lse rfl rfl (by kernel_rfl) (e_store (g := g32) (o := 0) (v := .agg #[.int .i64 ((x1.getD (x13).toNat z65).kind), .int .i64 ((x1.getD (x13).toNat z65).n), .slice A27 ((x1.getD (x13).toNat z65).text).length c28]) (cur' := #[.int .i64 ((x1.getD (x13).toNat z65).kind), .int .i64 ((x1.getD (x13).toNat z65).n), .slice A27 ((x1.getD (x13).toNat z65).text).length c28]) (vs := [.int .i64 ((x1.getD (x13).toNat z65).kind), .int .i64 ((x1.getD (x13).toNat z65).n), .slice A27 ((x1.getD (x13).toNat z65).text).length c28]) (by kernel_rfl) (by kernel_rfl) rfl (by kernel_rfl) b33 (thaw0 _) (Nat.le_of_ble_eq_true rfl) (List.forall_mem_cons.2 ⟨rfl, (List.forall_mem_cons.2 ⟨rfl, (List.forall_mem_cons.2 ⟨rfl, (fun _ h_ => by cases h_)⟩)⟩)⟩) rfl) ?_
    rintro w38 ⟨b39, C40, s41⟩
    have z42 := C40.size
    replace h4 := Rd.move (fp_chg C40 (by omega) (by simp)) h4
    replace h30 := Rd.move (fp_chg C40 (by omega) (by simp)) h30
    replace hC := hC.step C40 (fun o_ h_ => by simp only [List.mem_singleton] at h_; subst h_; exact .inr (fun b_ e_ => by injection e_ with e_; omega))
    refine wpList_nil ?_
    refine then_n ?_
    refine wp_seq ?_
    refine wp_seq ?_
    refine wp_region_lit ?_
    refine lv (d := 15) rfl rfl (by kernel_rfl) (e_move (v := .int .i64 x9) (by exact e10)) ?_
    refine lv (d := 16) rfl rfl (by kernel_rfl) (e_eql (k := .i64) (a := x9) (b := 0) (by kernel_rfl) rfl) ?_
    refine lv (d := 17) rfl rfl (by kernel_rfl) (e_move (v := .bool (decide (x9 = 0))) (by kernel_rfl)) ?_
    by_cases q43 : x9 = 0
    · replace H := ifp q43 H
      refine lskip (t := 17) (c := true) rfl (by kernel_rfl) rfl (bt q43 (by kernel_rfl)) rfl rfl ?_
      refine lskip (t := 17) (c := true) rfl (by kernel_rfl) rfl (bt q43 (by kernel_rfl)) rfl rfl ?_
      refine lskip (t := 17) (c := true) rfl (by kernel_rfl) rfl (bt q43 (by kernel_rfl)) rfl rfl ?_
      refine lv (d := 21) rfl rfl (by kernel_rfl) (e_pick_t (v := .bool true) (bt q43 (by kernel_rfl)) rfl) ?_
      refine wpList_nil ?_
      refine then_n ?_
      refine cond_t rfl (by kernel_rfl) ?_
      refine wp_seq ?_
      refine wp_region_lit ?_
      refine lv (d := 2) rfl rfl (by kernel_rfl) (e_assign (v := .bool false) rfl) ?_
      refine wpList_nil ?_
      refine then_n ?_
      refine wp_ret ?_
      refine then_r ?_
      refine inb_r ?_
      refine then_r ?_
      refine then_r ?_
      refine inb_r ?_
      refine then_r ?_
      obtain rfl := Option.some.inj H
      exact ret1 (rfl) rfl  (show _ = .bool false from (by kernel_rfl)) ⟨rfl, hC⟩
    replace H := ifn q43 H
    refine lvg (d := 18) (t := 17) rfl (by kernel_rfl) rfl (bf q43 (by kernel_rfl)) rfl (by kernel_rfl) (e_loadS (b := g32) (off := 0) (cs := [.int .i64 ((x1.getD (x13).toNat z65).kind), .int .i64 ((x1.getD (x13).toNat z65).n), .slice A27 ((x1.getD (x13).toNat z65).text).length c28]) Try.underlying65 rfl (by kernel_rfl) (by kernel_rfl) (blk_cell b39 rfl)) ?_
    obtain ⟨t44, u45, H⟩ := bnd H
    refine lcallg (d := 19) (t := 17) rfl (by kernel_rfl) rfl (bf q43 (by kernel_rfl)) rfl (by kernel_rfl) (e_call (l := [.tmp 18]) (vs := [.agg #[.int .i64 ((x1.getD (x13).toNat z65).kind), .int .i64 ((x1.getD (x13).toNat z65).n), .slice A27 ((x1.getD (x13).toNat z65).text).length c28]]) Try.func58 (by kernel_rfl) rfl (by kernel_rfl) rfl) (impl_cellOk.calls w38 (x1.getD (x13).toNat z65) A27 c28 (Rd.mono (fun _ _ => trivial) h30) l29 t44 u45) ?_
    rintro _ w46 ⟨rfl, C47⟩
    refine ⟨_, rfl, ?_⟩
    have u48 : Lt [some g32] w38.heap.size := (Lt.blk b39 (Lt.nil _))
    have z49 := C47.size
    replace b39 := C47.heap b39 (by simp)
    replace h30 := Rd.move (fp_chg C47 (by omega) (by simp)) h30
    replace h4 := Rd.move (fp_chg C47 (by omega) (by simp)) h4
    replace hC := hC.step C47 (fun _ h_ => by cases h_)
    refine lvg (d := 20) (t := 17) rfl (by kernel_rfl) rfl (bf q43 (by kernel_rfl)) rfl (by kernel_rfl) (e_notv (c := t44) (by kernel_rfl)) ?_
    refine lv (d := 21) rfl rfl (by kernel_rfl) (e_pick_f (v := .bool (decide (¬ (t44 = true)))) (bf q43 (by kernel_rfl)) (by kernel_rfl)) ?_
    refine wpList_nil ?_
    refine then_n ?_
    by_cases q50 : ¬ (t44 = true)
    · replace H := ifp q50 H
      refine cond_t rfl (bt q50 (by kernel_rfl)) ?_
      refine wp_seq ?_
      refine wp_region_lit ?_
      refine lv (d := 2) rfl rfl (by kernel_rfl) (e_assign (v := .bool false) rfl) ?_
      refine wpList_nil ?_
      refine then_n ?_
      refine wp_ret ?_
      refine then_r ?_
      refine inb_r ?_
      refine then_r ?_
      refine then_r ?_
      refine inb_r ?_
      refine then_r ?_
      obtain rfl := Option.some.inj H
      exact ret1 (rfl) rfl  (show _ = .bool false from (by kernel_rfl)) ⟨rfl, hC⟩
    replace H := ifn q50 H
    refine cond_f rfl (bf q50 (by kernel_rfl)) ?_
    refine wp_skip ?_
    refine then_n ?_
    refine wp_seq ?_
    refine wp_region_lit ?_
    refine lv (d := 22) rfl rfl (by kernel_rfl) (e_move (v := .int .i64 x9) (by exact e10)) ?_
    refine lv (d := 23) rfl rfl (by kernel_rfl) (e_sub (k := .i64) (a := x9) (b := 1) (by kernel_rfl) rfl) ?_
    refine lv (d := 3) rfl rfl (by kernel_rfl) (e_assign (v := .int .i64 (IntKind.i64.wrap (x9 - 1))) (by kernel_rfl)) ?_
    refine wpList_nil ?_
    refine then_n ?_
    refine wp_seq ?_
    refine wp_region_lit ?_
    refine lv (d := 24) rfl rfl (by kernel_rfl) (e_fieldAddr (b := g32) (off := 0) (o := 0) Try.underlying65 rfl rfl (sz := 1) (by kernel_rfl) (by decide) (by kernel_rfl)) ?_
    refine lv (d := 25) rfl rfl (by kernel_rfl) (e_load1 (ad := ⟨g32, 0 + 0, none⟩) (v := .int .i64 ((x1.getD (x13).toNat z65).kind)) Try.underlying3 rfl (by kernel_rfl) ((cell_of_row _ _ _ _ _ _ b39).trans rfl)) ?_
    refine lv (d := 26) rfl rfl (by kernel_rfl) (e_eql (k := .i64) (a := (x1.getD (x13).toNat z65).kind) (b := 3) (by kernel_rfl) rfl) ?_
    refine wpList_nil ?_
    refine then_n ?_
    by_cases q51 : ((x1.getD (x13).toNat z65).kind) = 3
    · replace H := ifp q51 H
      refine cond_t rfl (bt q51 (by kernel_rfl)) ?_
      refine wp_region_lit ?_
      refine lv (d := 27) rfl rfl (by kernel_rfl) (e_move (v := .int .i64 (IntKind.i64.wrap (x9 - 1))) (by kernel_rfl)) ?_
      refine lv (d := 28) rfl rfl (by kernel_rfl) (e_fieldAddr (b := g32) (off := 0) (o := 1) Try.underlying65 rfl rfl (sz := 1) (by kernel_rfl) (by decide) (by kernel_rfl)) ?_
      refine lv (d := 29) rfl rfl (by kernel_rfl) (e_load1 (ad := ⟨g32, 0 + 1, none⟩) (v := .int .i64 ((x1.getD (x13).toNat z65).n)) Try.underlying3 rfl (by kernel_rfl) ((cell_of_row _ _ _ _ _ _ b39).trans rfl)) ?_
      refine lv (d := 30) rfl rfl (by kernel_rfl) (e_add (k := .i64) (a := (IntKind.i64.wrap (x9 - 1))) (b := (x1.getD (x13).toNat z65).n) (by kernel_rfl) (by kernel_rfl)) ?_
      refine lv (d := 3) rfl rfl (by kernel_rfl) (e_assign (v := .int .i64 (IntKind.i64.wrap ((IntKind.i64.wrap (x9 - 1)) + ((x1.getD (x13).toNat z65).n)))) (by kernel_rfl)) ?_
      refine wpList_nil ?_
      refine inb_n ?_
      refine then_n ?_
      refine wp_region_lit ?_
      refine lv (d := 31) rfl rfl (by kernel_rfl) (e_add (k := .i64) (a := x13) (b := 1) (by exact e14) rfl) ?_
      refine lv (d := 11) rfl rfl (by kernel_rfl) (e_move (v := .int .i64 (IntKind.i64.wrap (x13 + 1))) (by kernel_rfl)) ?_
      refine wpList_nil ?_
      refine then_n ?_
      exact ⟨k18, Nat.lt_succ_self _, _, (IntKind.i64.wrap ((IntKind.i64.wrap (x9 - 1)) + ((x1.getD (x13).toNat z65).n))), (IntKind.i64.wrap (x13 + 1)), rfl, (by kernel_rfl), (by exact e11), (by exact e12), (by kernel_rfl), (Rd.mono (fp_sub (fun _ h_ => h_) (by omega) (by simp [bk])) h4), hC, (by omega), H⟩
    replace H := ifn q51 H
    refine cond_f rfl (bf q51 (by kernel_rfl)) ?_
    refine wp_skip ?_
    refine inb_n ?_
    refine then_n ?_
    refine wp_region_lit ?_
    refine lv (d := 31) rfl rfl (by kernel_rfl) (e_add (k := .i64) (a := x13) (b := 1) (by exact e14) rfl) ?_
    refine lv (d := 11) rfl rfl (by kernel_rfl) (e_move (v := .int .i64 (IntKind.i64.wrap (x13 + 1))) (by kernel_rfl)) ?_
    refine wpList_nil ?_
    refine then_n ?_
    exact ⟨k18, Nat.lt_succ_self _, _, (IntKind.i64.wrap (x9 - 1)), (IntKind.i64.wrap (x13 + 1)), rfl, (by kernel_rfl), (by exact e11), (by exact e12), (by kernel_rfl), (Rd.mono (fp_sub (fun _ h_ => h_) (by omega) (by simp [bk])) h4), hC, (by omega), H⟩
  replace H := ifn q19 H
  refine cond_f rfl (bf q19 (by kernel_rfl)) ?_
  refine wp_exit ?_
  refine then_e ?_
  refine then_e ?_
  refine inb_hit ?_
  refine then_n ?_
  refine wp_seq ?_
  refine wp_region_lit ?_
  refine lv (d := 32) rfl rfl (by kernel_rfl) (e_move (v := .int .i64 x9) (by exact e10)) ?_
  refine lv (d := 33) rfl rfl (by kernel_rfl) (e_eql (k := .i64) (a := x9) (b := 0) (by kernel_rfl) rfl) ?_
  refine lv (d := 2) rfl rfl (by kernel_rfl) (e_assign (v := .bool (decide (x9 = 0))) (by kernel_rfl)) ?_
  refine wpList_nil ?_
  refine then_n ?_
  refine wp_ret ?_
  obtain rfl := Option.some.inj H
  exact ret1 (rfl) rfl  (show _ = .bool (decide (x9 = 0)) from (by kernel_rfl)) ⟨rfl, hC⟩

/-! laws.eqByteS -/
def laws_eqByteS.l0 : Nat → (List UInt8) → (List UInt8) → Int → Option Bool
  | 0, _, _, _ => none
  | k21 + 1, x1, x6, x16 => (if x16 < (x1.length : Int) then (if 0 ≤ x16 then (if x16 < (x6.length : Int) then (if ((x1.getD (x16).toNat (0 : UInt8)).toNat : Int) ≠ ((x6.getD (x16).toNat (0 : UInt8)).toNat : Int) then some false else (laws_eqByteS.l0 k21 x1 x6 (IntKind.i64.wrap (x16 + 1)))) else none) else none) else some true)
def laws_eqByteS.f (k : Nat) (x1 : List UInt8) (x6 : List UInt8) : Option Bool := (if (x1.length : Int) ≠ (x6.length : Int) then some false else (laws_eqByteS.l0 k x1 x6 0))
theorem laws_eqByteS.calls (k : Nat) (w : World) (x1 : List UInt8) (A2 : Option Addr) (c3 : Nat) (x6 : List UInt8) (A7 : Option Addr) (c8 : Nat) (h4 : Rd tByte w any A2 x1) (l5 : x1.length ≤ c3) (h9 : Rd tByte w any A7 x6) (l10 : x6.length ≤ c8) (r : Bool) (H : laws_eqByteS.f k x1 x6 = some r) :
    Calls Try.prog 104 #[.slice A2 x1.length c3, .slice A7 x6.length c8] w (fun e e_w => e = .returned (.bool r) ∧ Chg [] w e_w) := by
  rw [laws_eqByteS.f] at H
  refine enter (l := [.slice A2 x1.length c3, .slice A7 x6.length c8]) 26 Try.func104 rfl rfl rfl ?_
  replace h4 := rd_canon (M := []) (by decide) h4 (by simp)
  replace h9 := rd_canon (M := []) (by decide) h9 (by simp)
  have hC := Chg.refl [] w
  refine wp_seq ?_
  refine wp_region_lit ?_
  refine lv (d := 4) rfl rfl (by kernel_rfl) (e_assign (v := .bool false) rfl) ?_
  refine wpList_nil ?_
  refine then_n ?_
  refine wp_seq ?_
  refine wp_seq ?_
  refine wp_region_lit ?_
  refine lv (d := 6) rfl rfl (by kernel_rfl) (e_move (v := .slice A2 x1.length c3) (by kernel_rfl)) ?_
  refine lv (d := 7) rfl rfl (by kernel_rfl) (e_len (A := A2) (n := x1.length) (c := c3) Try.underlying59 (by kernel_rfl)) ?_
  refine lv (d := 8) rfl rfl (by kernel_rfl) (e_move (v := .slice A7 x6.length c8) (by kernel_rfl)) ?_
  refine lv (d := 9) rfl rfl (by kernel_rfl) (e_len (A := A7) (n := x6.length) (c := c8) Try.underlying59 (by kernel_rfl)) ?_
  refine lv (d := 10) rfl rfl (by kernel_rfl) (e_neq (k := .i64) (a := (x1.length : Int)) (b := (x6.length : Int)) (by kernel_rfl) (by kernel_rfl)) ?_
  refine wpList_nil ?_
  refine then_n ?_
  by_cases q11 : (x1.length : Int) ≠ (x6.length : Int)
  · replace H := ifp q11 H
    refine cond_t rfl (bt q11 (by kernel_rfl)) ?_
    refine wp_seq ?_
    refine wp_region_lit ?_
    refine lv (d := 4) rfl rfl (by kernel_rfl) (e_assign (v := .bool false) rfl) ?_
    refine wpList_nil ?_
    refine then_n ?_
    refine wp_ret ?_
    refine then_r ?_
    obtain rfl := Option.some.inj H
    exact ret1 (rfl) rfl  (show _ = .bool false from (by kernel_rfl)) ⟨rfl, hC⟩
  replace H := ifn q11 H
  refine cond_f rfl (bf q11 (by kernel_rfl)) ?_
  refine wp_skip ?_
  refine then_n ?_
  refine wp_seq ?_
  refine wp_seq ?_
  refine wp_region_lit ?_
  refine lv (d := 5) rfl rfl (by kernel_rfl) (e_assign (v := .int .i64 0) rfl) ?_
  refine wpList_nil ?_
  refine then_n ?_
  refine wp_block ?_
  refine wp_loop_g (fun k19 a20 w12 => ∃ (f13 : Nat → Value) (x16 : Int), a20 = mk 26 f13 ∧ f13 0 = .slice A2 x1.length c3 ∧ f13 1 = .slice A7 x6.length c8 ∧ f13 5 = .int .i64 x16 ∧ Rd tByte w12 (FP any w.heap.size []) A2 x1 ∧ Rd tByte w12 (FP any w.heap.size []) A7 x6 ∧ Chg [] w w12 ∧ w.heap.size ≤ w12.heap.size ∧ laws_eqByteS.l0 k19 x1 x6 x16 = some r) k ⟨_, 0, rfl, (by kernel_rfl), (by kernel_rfl), (by kernel_rfl), (Rd.mono (fp_sub (fun _ h_ => h_) (by omega) (by simp [bk])) h4), (Rd.mono (fp_sub (fun _ h_ => h_) (by omega) (by simp [bk])) h9), hC, (by omega), H⟩ ?_
  rintro k19 a20 w12 ⟨f13, x16, rfl, e14, e15, e17, h4, h9, hC, z18, H⟩
  rcases k19 with _ | k21
  · rw [laws_eqByteS.l0] at H
    cases H
  rw [laws_eqByteS.l0] at H
  refine wp_seq ?_
  refine wp_seq ?_
  refine wp_region_lit ?_
  refine lv (d := 11) rfl rfl (by kernel_rfl) (e_move (v := .int .i64 x16) (by exact e17)) ?_
  refine lv (d := 12) rfl rfl (by kernel_rfl) (e_move (v := .slice A2 x1.length c3) (by exact e14)) ?_
  refine lv (d := 13) rfl rfl (by kernel_rfl) (e_len (A := A2) (n := x1.length) (c := c3) Try.underlying59 (by kernel_rfl)) ?_
  refine lv (d := 14) rfl rfl (by kernel_rfl) (e_lss (k := .i64) (a := x16) (b := (x1.length : Int)) (by kernel_rfl) (by kernel_rfl)) ?_
  refine wpList_nil ?_
  refine then_n ?_
  by_cases q22 : x16 < (x1.length : Int)
  · replace H := ifp q22 H
    refine cond_t rfl (bt q22 (by kernel_rfl)) ?_
    refine wp_skip ?_
    refine then_n ?_
    refine wp_seq ?_
    refine wp_block ?_
    refine wp_seq ?_
    refine region_still (by kernel_rfl) (by kernel_rfl) ?_
    intro w23 C24 _
    have z25 := C24.size
    replace h4 := Rd.move (fp_chg C24 (by omega) (by simp)) h4
    replace h9 := Rd.move (fp_chg C24 (by omega) (by simp)) h9
    replace hC := hC.step C24 (fun _ h_ => by cases h_)
    refine sv (d := 17) rfl rfl (by kernel_rfl) (e_move (v := .slice A2 x1.length c3) (by exact e14)) ?_
    refine sv (d := 18) rfl rfl (by kernel_rfl) (e_move (v := .int .i64 x16) (by exact e17)) ?_
    obtain ⟨q26, H⟩ := chk H
    obtain ⟨b27, o28, y29, e32, _, r30, k31⟩ := Rd.get h4 (x16).toNat _ (getD_some (0 : UInt8) (by omega))
    obtain rfl := r30
    refine sv (d := 19) rfl rfl (by kernel_rfl) (e_indexAddr (b := b27) (off := o28) (n := x1.length) (c := c3) (sz := 1) (i := x16) (k := .i64) Try.underlying59 e32 (by kernel_rfl) (by kernel_rfl) (by kernel_rfl) q26 q22) ?_
    refine sv (d := 20) rfl rfl (by kernel_rfl) (e_load1 (ad := ⟨b27, o28 + (x16 : Int).toNat * 1, none⟩) (v := .int .u8 ((x1.getD (x16).toNat (0 : UInt8)).toNat : Int)) Try.underlying5 rfl (by kernel_rfl) (k31 0 _ rfl)) ?_
    refine sv (d := 21) rfl rfl (by kernel_rfl) (e_move (v := .slice A7 x6.length c8) (by exact e15)) ?_
    refine sv (d := 22) rfl rfl (by kernel_rfl) (e_move (v := .int .i64 x16) (by exact e17)) ?_
    obtain ⟨q33, H⟩ := chk H
    obtain ⟨b34, o35, y36, e39, _, r37, k38⟩ := Rd.get h9 (x16).toNat _ (getD_some (0 : UInt8) (by omega))
    obtain rfl := r37
    refine sv (d := 23) rfl rfl (by kernel_rfl) (e_indexAddr (b := b34) (off := o35) (n := x6.length) (c := c8) (sz := 1) (i := x16) (k := .i64) Try.underlying59 e39 (by kernel_rfl) (by kernel_rfl) (by kernel_rfl) q26 q33) ?_
    refine sv (d := 24) rfl rfl (by kernel_rfl) (e_load1 (ad := ⟨b34, o35 + (x16 : Int).toNat * 1, none⟩) (v := .int .u8 ((x6.getD (x16).toNat (0 : UInt8)).toNat : Int)) Try.underlying5 rfl (by kernel_rfl) (k38 0 _ rfl)) ?_
    refine sv (d := 25) rfl rfl (by kernel_rfl) (e_neq (k := .u8) (a := ((x1.getD (x16).toNat (0 : UInt8)).toNat : Int)) (b := ((x6.getD (x16).toNat (0 : UInt8)).toNat : Int)) (by kernel_rfl) (by kernel_rfl)) ?_
    refine wpStill_nil ?_
    refine then_n ?_
    by_cases q40 : ((x1.getD (x16).toNat (0 : UInt8)).toNat : Int) ≠ ((x6.getD (x16).toNat (0 : UInt8)).toNat : Int)
    · replace H := ifp q40 H
      refine cond_t rfl (bt q40 (by kernel_rfl)) ?_
      refine wp_seq ?_
      refine wp_region_lit ?_
      refine lv (d := 4) rfl rfl (by kernel_rfl) (e_assign (v := .bool false) rfl) ?_
      refine wpList_nil ?_
      refine then_n ?_
      refine wp_ret ?_
      refine inb_r ?_
      refine then_r ?_
      refine then_r ?_
      refine inb_r ?_
      refine then_r ?_
      obtain rfl := Option.some.inj H
      exact ret1 (rfl) rfl  (show _ = .bool false from (by kernel_rfl)) ⟨rfl, hC⟩
    replace H := ifn q40 H
    refine cond_f rfl (bf q40 (by kernel_rfl)) ?_
    refine wp_skip ?_
    refine inb_n ?_
    refine then_n ?_
    refine wp_region_lit ?_
    refine lv (d := 15) rfl rfl (by kernel_rfl) (e_move (v := .int .i64 x16) (by exact e17)) ?_
    refine lv (d := 16) rfl rfl (by kernel_rfl) (e_add (k := .i64) (a := x16) (b := 1) (by kernel_rfl) rfl) ?_
    refine lv (d := 5) rfl rfl (by kernel_rfl) (e_assign (v := .int .i64 (IntKind.i64.wrap (x16 + 1))) (by kernel_rfl)) ?_
    refine wpList_nil ?_
    refine then_n ?_
    exact ⟨k21, Nat.lt_succ_self _, _, (IntKind.i64.wrap (x16 + 1)), rfl, (by exact e14), (by exact e15), (by kernel_rfl), (Rd.mono (fp_sub (fun _ h_ => h_) (by omega) (by simp [bk])) h4), (Rd.mono (fp_sub (fun _ h_ => h_) (by omega) (by simp [bk])) h9), hC, (by omega), H⟩
  replace H := ifn q22 H
  refine cond_f rfl (bf q22 (by kernel_rfl)) ?_
  refine wp_exit ?_
  refine then_e ?_
  refine then_e ?_
  refine inb_hit ?_
  refine then_n ?_
  refine wp_seq ?_
  refine wp_region_lit ?_
  refine lv (d := 4) rfl rfl (by kernel_rfl) (e_assign (v := .bool true) rfl) ?_
  refine wpList_nil ?_
  refine then_n ?_
  refine wp_ret ?_
  obtain rfl := Option.some.inj H
  exact ret1 (rfl) rfl  (show _ = .bool true from (by kernel_rfl)) ⟨rfl, hC⟩

/-! laws.eqCell -/
def laws_eqCell.f (k : Nat) (x1 : Cell) (x6 : Cell) : Option Bool := (if x1.kind ≠ x6.kind then some false else (if x1.n ≠ x6.n then some false else ((laws_eqByteS.f k x1.text x6.text).bind fun t27 => (if ¬ (t27 = true) then some false else some true))))
theorem laws_eqCell.calls (k : Nat) (w : World) (x1 : Cell) (A2 : Option Addr) (c3 : Nat) (x6 : Cell) (A7 : Option Addr) (c8 : Nat) (h4 : Rd tByte w any A2 x1.text) (l5 : x1.text.length ≤ c3) (h9 : Rd tByte w any A7 x6.text) (l10 : x6.text.length ≤ c8) (r : Bool) (H : laws_eqCell.f k x1 x6 = some r) :
    Calls Try.prog 59 #[.agg #[.int .i64 x1.kind, .int .i64 x1.n, .slice A2 x1.text.length c3], .agg #[.int .i64 x6.kind, .int .i64 x6.n, .slice A7 x6.text.length c8]] w (fun e e_w => e = .returned (.bool r) ∧ Chg [] w e_w) := by
  rw [laws_eqCell.f] at H
  refine enter (l := [.agg #[.int .i64 x1.kind, .int .i64 x1.n, .slice A2 x1.text.length c3], .agg #[.int .i64 x6.kind, .int .i64 x6.n, .slice A7 x6.text.length c8]]) 21 Try.func59 rfl rfl rfl ?_
  replace h4 := rd_canon (M := []) (by decide) h4 (by simp)
  replace h9 := rd_canon (M := []) (by decide) h9 (by simp)
  have hC := Chg.refl [] w
  refine wp_seq ?_
  refine wp_region_lit ?_
  refine lve (d := 2) rfl rfl (by kernel_rfl) (new_blk (v := fun g_ => .pointer (some ⟨g_, 0, none⟩)) (cs := #[.int .i64 x1.kind, .int .i64 x1.n, .slice A2 x1.text.length c3]) (t := 65) (by kernel_rfl)) ?_
  rintro _ w11 ⟨g12, rfl, b13, n14, C15⟩
  have m16 := heap_lt b13
  have z17 := C15.size
  replace h9 := Rd.mono (fp_new (g := g12) (by omega)) (Rd.move (fp_chg C15 (by omega) (by simp)) h9)
  replace h4 := Rd.mono (fp_new (g := g12) (by omega)) (Rd.move (fp_chg C15 (by omega) (by simp)) h4)
  replace hC := hC.step C15 (fun _ h_ => by cases h_)
  refine lve (d := 3) rfl rfl (by kernel_rfl) (new_blk (v := fun g_ => .pointer (some ⟨g_, 0, none⟩)) (cs := #[.int .i64 x6.kind, .int .i64 x6.n, .slice A7 x6.text.length c8]) (t := 65) (by kernel_rfl)) ?_
  rintro _ w18 ⟨g19, rfl, b20, n21, C22⟩
  have m23 := heap_lt b20
  have z24 := C22.size
  replace b13 := C22.heap b13 (by simp)
  replace h4 := Rd.mono (fp_new (g := g19) (by omega)) (Rd.move (fp_chg C22 (by omega) (by simp)) h4)
  replace h9 := Rd.mono (fp_new (g := g19) (by omega)) (Rd.move (fp_chg C22 (by omega) (by simp)) h9)
  replace hC := hC.step C22 (fun _ h_ => by cases h_)
  refine lv (d := 4) rfl rfl (by kernel_rfl) (e_assign (v := .bool false) rfl) ?_
  refine wpList_nil ?_
  refine then_n ?_
  refine wp_seq ?_
  refine wp_seq ?_
  refine wp_region_lit ?_
  refine lv (d := 5) rfl rfl (by kernel_rfl) (e_fieldAddr (b := g12) (off := 0) (o := 0) Try.underlying65 rfl rfl (sz := 1) (by kernel_rfl) (by decide) (by kernel_rfl)) ?_
  refine lv (d := 6) rfl rfl (by kernel_rfl) (e_load1 (ad := ⟨g12, 0 + 0, none⟩) (v := .int .i64 x1.kind) Try.underlying3 rfl (by kernel_rfl) ((cell_of_row _ _ _ _ _ _ b13).trans rfl)) ?_
  refine lv (d := 7) rfl rfl (by kernel_rfl) (e_fieldAddr (b := g19) (off := 0) (o := 0) Try.underlying65 rfl rfl (sz := 1) (by kernel_rfl) (by decide) (by kernel_rfl)) ?_
  refine lv (d := 8) rfl rfl (by kernel_rfl) (e_load1 (ad := ⟨g19, 0 + 0, none⟩) (v := .int .i64 x6.kind) Try.underlying3 rfl (by kernel_rfl) ((cell_of_row _ _ _ _ _ _ b20).trans rfl)) ?_
  refine lv (d := 9) rfl rfl (by kernel_rfl) (e_neq (k := .i64) (a := x1.kind) (b := x6.kind) (by kernel_rfl) (by kernel_rfl)) ?_
  refine wpList_nil ?_
  refine then_n ?_
  by_cases q25 : x1.kind ≠ x6.kind
  · replace H := ifp q25 H
    refine cond_t rfl (bt q25 (by kernel_rfl)) ?_
    refine wp_seq ?_
    refine wp_region_lit ?_
    refine lv (d := 4) rfl rfl (by kernel_rfl) (e_assign (v := .bool false) rfl) ?_
    refine wpList_nil ?_
    refine then_n ?_
    refine wp_ret ?_
    refine then_r ?_
    obtain rfl := Option.some.inj H
    exact ret1 (rfl) rfl  (show _ = .bool false from (by kernel_rfl)) ⟨rfl, hC⟩
  replace H := ifn q25 H
  refine cond_f rfl (bf q25 (by kernel_rfl)) ?_
  refine wp_skip ?_
  refine then_n ?_
  refine wp_seq ?_
  refine wp_seq ?_
  refine wp_region_lit ?_
  refine lv (d := 10) rfl rfl (by kernel_rfl) (e_fieldAddr (b := g12) (off := 0) (o := 1) Try.underlying65 rfl rfl (sz := 1) (by kernel_rfl) (by decide) (by kernel_rfl)) ?_
  refine lv (d := 11) rfl rfl (by kernel_rfl) (e_load1 (ad := ⟨g12, 0 + 1, none⟩) (v := .int .i64 x1.n) Try.underlying3 rfl (by kernel_rfl) ((cell_of_row _ _ _ _ _ _ b13).trans rfl)) ?_
  refine lv (d := 12) rfl rfl (by kernel_rfl) (e_fieldAddr (b := g19) (off := 0) (o := 1) Try.underlying65 rfl rfl (sz := 1) (by kernel_rfl) (by decide) (by kernel_rfl)) ?_
  refine lv (d := 13) rfl rfl (by kernel_rfl) (e_load1 (ad := ⟨g19, 0 + 1, none⟩) (v := .int .i64 x6.n) Try.underlying3 rfl (by kernel_rfl) ((cell_of_row _ _ _ _ _ _ b20).trans rfl)) ?_
  refine lv (d := 14) rfl rfl (by kernel_rfl) (e_neq (k := .i64) (a := x1.n) (b := x6.n) (by kernel_rfl) (by kernel_rfl)) ?_
  refine wpList_nil ?_
  refine then_n ?_
  by_cases q26 : x1.n ≠ x6.n
  · replace H := ifp q26 H
    refine cond_t rfl (bt q26 (by kernel_rfl)) ?_
    refine wp_seq ?_
    refine wp_region_lit ?_
    refine lv (d := 4) rfl rfl (by kernel_rfl) (e_assign (v := .bool false) rfl) ?_
    refine wpList_nil ?_
    refine then_n ?_
    refine wp_ret ?_
    refine then_r ?_
    obtain rfl := Option.some.inj H
    exact ret1 (rfl) rfl  (show _ = .bool false from (by kernel_rfl)) ⟨rfl, hC⟩
  replace H := ifn q26 H
  refine cond_f rfl (bf q26 (by kernel_rfl)) ?_
  refine wp_skip ?_
  refine then_n ?_
  refine wp_seq ?_
  refine wp_seq ?_
  refine wp_region_lit ?_
  refine lv (d := 15) rfl rfl (by kernel_rfl) (e_fieldAddr (b := g12) (off := 0) (o := 2) Try.underlying65 rfl rfl (sz := 1) (by kernel_rfl) (by decide) (by kernel_rfl)) ?_
  refine lv (d := 16) rfl rfl (by kernel_rfl) (e_load1 (ad := ⟨g12, 0 + 2, none⟩) (v := .slice A2 x1.text.length c3) Try.underlying59 rfl (by kernel_rfl) ((cell_of_row _ _ _ _ _ _ b13).trans rfl)) ?_
  refine lv (d := 17) rfl rfl (by kernel_rfl) (e_fieldAddr (b := g19) (off := 0) (o := 2) Try.underlying65 rfl rfl (sz := 1) (by kernel_rfl) (by decide) (by kernel_rfl)) ?_
  refine lv (d := 18) rfl rfl (by kernel_rfl) (e_load1 (ad := ⟨g19, 0 + 2, none⟩) (v := .slice A7 x6.text.length c8) Try.underlying59 rfl (by kernel_rfl) ((cell_of_row _ _ _ _ _ _ b20).trans rfl)) ?_
  obtain ⟨t27, u28, H⟩ := bnd H
  refine lcall (d := 19) rfl rfl (by kernel_rfl) (e_call (l := [.tmp 16, .tmp 18]) (vs := [.slice A2 x1.text.length c3, .slice A7 x6.text.length c8]) Try.func104 (by kernel_rfl) rfl (by kernel_rfl) rfl) (laws_eqByteS.calls k w18 x1.text A2 c3 x6.text A7 c8 (Rd.mono (fun _ _ => trivial) h4) l5 (Rd.mono (fun _ _ => trivial) h9) l10 t27 u28) ?_
  rintro _ w29 ⟨rfl, C30⟩
  refine ⟨_, rfl, ?_⟩
  have u31 : Lt [some g19, some g12] w18.heap.size := (Lt.blk b20 (Lt.blk b13 (Lt.nil _)))
  have z32 := C30.size
  replace hC := hC.step C30 (fun _ h_ => by cases h_)
  refine lv (d := 20) rfl rfl (by kernel_rfl) (e_notv (c := t27) (by kernel_rfl)) ?_
  refine wpList_nil ?_
  refine then_n ?_
  by_cases q33 : ¬ (t27 = true)
  · replace H := ifp q33 H
    refine cond_t rfl (bt q33 (by kernel_rfl)) ?_
    refine wp_seq ?_
    refine wp_region_lit ?_
    refine lv (d := 4) rfl rfl (by kernel_rfl) (e_assign (v := .bool false) rfl) ?_
    refine wpList_nil ?_
    refine then_n ?_
    refine wp_ret ?_
    refine then_r ?_
    obtain rfl := Option.some.inj H
    exact ret1 (rfl) rfl  (show _ = .bool false from (by kernel_rfl)) ⟨rfl, hC⟩
  replace H := ifn q33 H
  refine cond_f rfl (bf q33 (by kernel_rfl)) ?_
  refine wp_skip ?_
  refine then_n ?_
  refine wp_seq ?_
  refine wp_region_lit ?_
  refine lv (d := 4) rfl rfl (by kernel_rfl) (e_assign (v := .bool true) rfl) ?_
  refine wpList_nil ?_
  refine then_n ?_
  refine wp_ret ?_
  obtain rfl := Option.some.inj H
  exact ret1 (rfl) rfl  (show _ = .bool true from (by kernel_rfl)) ⟨rfl, hC⟩

/-! laws.eqCellS -/
def laws_eqCellS.l0 : Nat → (List Cell) → (List Cell) → Int → Option Bool
  | 0, _, _, _ => none
  | k21 + 1, x1, x6, x16 => (if x16 < (x1.length : Int) then (if 0 ≤ x16 then (if x16 < (x6.length : Int) then ((laws_eqCell.f k21 (x1.getD (x16).toNat z65) (x6.getD (x16).toNat z65)).bind fun t45 => (if ¬ (t45 = true) then some false else (laws_eqCellS.l0 k21 x1 x6 (IntKind.i64.wrap (x16 + 1))))) else none) else none) else some true)
def laws_eqCellS.f (k : Nat) (x1 : List Cell) (x6 : List Cell) : Option Bool := (if (x1.length : Int) ≠ (x6.length : Int) then some false else (laws_eqCellS.l0 k x1 x6 0))
theorem laws_eqCellS.calls (k : Nat) (w : World) (x1 : List Cell) (A2 : Option Addr) (c3 : Nat) (x6 : List Cell) (A7 : Option Addr) (c8 : Nat) (h4 : Rd st65 w any A2 x1) (l5 : x1.length ≤ c3) (h9 : Rd st65 w any A7 x6) (l10 : x6.length ≤ c8) (r : Bool) (H : laws_eqCellS.f k x1 x6 = some r) :
    Calls Try.prog 18 #[.slice A2 x1.length c3, .slice A7 x6.length c8] w (fun e e_w => e = .returned (.bool r) ∧ Chg [] w e_w) := by
  rw [laws_eqCellS.f] at H
  refine enter (l := [.slice A2 x1.length c3, .slice A7 x6.length c8]) 27 Try.func18 rfl rfl rfl ?_
  replace h4 := rd_canon (M := []) (by decide) h4 (by simp)
  replace h9 := rd_canon (M := []) (by decide) h9 (by simp)
  have hC := Chg.refl [] w
  refine wp_seq ?_
  refine wp_region_lit ?_
  refine lv (d := 4) rfl rfl (by kernel_rfl) (e_assign (v := .bool false) rfl) ?_
  refine wpList_nil ?_
  refine then_n ?_
  refine wp_seq ?_
  refine wp_seq ?_
  refine wp_region_lit ?_
  refine lv (d := 6) rfl rfl (by kernel_rfl) (e_move (v := .slice A2 x1.length c3) (by kernel_rfl)) ?_
  refine lv (d := 7) rfl rfl (by kernel_rfl) (e_len (A := A2) (n := x1.length) (c := c3) Try.underlying25 (by kernel_rfl)) ?_
  refine lv (d := 8) rfl rfl (by kernel_rfl) (e_move (v := .slice A7 x6.length c8) (by kernel_rfl)) ?_
  refine lv (d := 9) rfl rfl (by kernel_rfl) (e_len (A := A7) (n := x6.length) (c := c8) Try.underlying25 (by kernel_rfl)) ?_
  refine lv (d := 10) rfl rfl (by kernel_rfl) (e_neq (k := .i64) (a := (x1.length : Int)) (b := (x6.length : Int)) (by kernel_rfl) (by kernel_rfl)) ?_
  refine wpList_nil ?_
  refine then_n ?_
  by_cases q11 : (x1.length : Int) ≠ (x6.length : Int)
  · replace H := ifp q11 H
    refine cond_t rfl (bt q11 (by kernel_rfl)) ?_
    refine wp_seq ?_
    refine wp_region_lit ?_
    refine lv (d := 4) rfl rfl (by kernel_rfl) (e_assign (v := .bool false) rfl) ?_
    refine wpList_nil ?_
    refine then_n ?_
    refine wp_ret ?_
    refine then_r ?_
    obtain rfl := Option.some.inj H
    exact ret1 (rfl) rfl  (show _ = .bool false from (by kernel_rfl)) ⟨rfl, hC⟩
  replace H := ifn q11 H
  refine cond_f rfl (bf q11 (by kernel_rfl)) ?_
  refine wp_skip ?_
  refine then_n ?_
  refine wp_seq ?_
  refine wp_seq ?_
  refine wp_region_lit ?_
  refine lv (d := 5) rfl rfl (by kernel_rfl) (e_assign (v := .int .i64 0) rfl) ?_
  refine wpList_nil ?_
  refine then_n ?_
  refine wp_block ?_
  refine wp_loop_g (fun k19 a20 w12 => ∃ (f13 : Nat → Value) (x16 : Int), a20 = mk 27 f13 ∧ f13 0 = .slice A2 x1.length c3 ∧ f13 1 = .slice A7 x6.length c8 ∧ f13 5 = .int .i64 x16 ∧ Rd st65 w12 (FP any w.heap.size []) A2 x1 ∧ Rd st65 w12 (FP any w.heap.size []) A7 x6 ∧ Chg [] w w12 ∧ w.heap.size ≤ w12.heap.size ∧ laws_eqCellS.l0 k19 x1 x6 x16 = some r) k ⟨_, 0, rfl, (by kernel_rfl), (by kernel_rfl), (by kernel_rfl), (Rd.mono (fp_sub (fun _ h_ => h_) (by omega) (by simp [bk])) h4), (Rd.mono (fp_sub (fun _ h_ => h_) (by omega) (by simp [bk])) h9), hC, (by omega), H⟩ ?_
  rintro k19 a20 w12 ⟨f13, x16, rfl, e14, e15, e17, h4, h9, hC, z18, H⟩
  rcases k19 with _ | k21
  · rw [laws_eqCellS.l0] at H
    cases H
  rw [laws_eqCellS.l0] at H
  refine wp_seq ?_
  refine wp_seq ?_
  refine wp_region_lit ?_
  refine lv (d := 11) rfl rfl (by kernel_rfl) (e_move (v := .int .i64 x16) (by exact e17)) ?_
  refine lv (d := 12) rfl rfl (by kernel_rfl) (e_move (v := .slice A2 x1.length c3) (by exact e14)) ?_
  refine lv (d := 13) rfl rfl (by kernel_rfl) (e_len (A := A2) (n := x1.length) (c := c3) Try.underlying25 (by kernel_rfl)) ?_
  refine lv (d := 14) rfl rfl (by kernel_rfl) (e_lss (k := .i64) (a := x16) (b := (x1.length : Int)) (by kernel_rfl) (by kernel_rfl)) ?_
  refine wpList_nil ?_
  refine then_n ?_
  by_cases q22 : x16 < (x1.length : Int)
  · replace H := ifp q22 H
    refine cond_t rfl (bt q22 (by kernel_rfl)) ?_
    refine wp_skip ?_
    refine then_n ?_
    refine wp_seq ?_
    refine wp_block ?_
    refine wp_seq ?_
    refine region_quiet (by kernel_rfl) (by kernel_rfl) ?_
    refine qv (d := 17) rfl rfl (by kernel_rfl) (fun wq_ hq_ => e_move (v := .slice A2 x1.length c3) (by exact e14)) ?_
    refine qv (d := 18) rfl rfl (by kernel_rfl) (fun wq_ hq_ => e_move (v := .int .i64 x16) (by exact e17)) ?_
    obtain ⟨q23, H⟩ := chk H
    obtain ⟨b24, o25, y26, e29, _, r27, k28⟩ := Rd.get h4 (x16).toNat _ (getD_some z65 (by omega))
    obtain ⟨A30, c31, rfl, l32, h33⟩ := st65_open r27
    refine qv (d := 19) rfl rfl (by kernel_rfl) (fun wq_ hq_ => e_indexAddr (b := b24) (off := o25) (n := x1.length) (c := c3) (sz := 3) (i := x16) (k := .i64) Try.underlying25 e29 (by kernel_rfl) (by kernel_rfl) (by kernel_rfl) q23 q22) ?_
    refine qv (d := 20) rfl rfl (by kernel_rfl) (fun wq_ hq_ => e_loadS (b := b24) (off := o25 + (x16 : Int).toNat * 3) (cs := [.int .i64 ((x1.getD (x16).toNat z65).kind), .int .i64 ((x1.getD (x16).toNat z65).n), .slice A30 ((x1.getD (x16).toNat z65).text).length c31]) Try.underlying65 rfl (by kernel_rfl) (by kernel_rfl) (fun j_ u_ e_ => hq_.cell (k28 j_ u_ e_) (by simp))) ?_
    refine qv (d := 21) rfl rfl (by kernel_rfl) (fun wq_ hq_ => e_move (v := .slice A7 x6.length c8) (by exact e15)) ?_
    refine qv (d := 22) rfl rfl (by kernel_rfl) (fun wq_ hq_ => e_move (v := .int .i64 x16) (by exact e17)) ?_
    obtain ⟨q34, H⟩ := chk H
    obtain ⟨b35, o36, y37, e40, _, r38, k39⟩ := Rd.get h9 (x16).toNat _ (getD_some z65 (by omega))
    obtain ⟨A41, c42, rfl, l43, h44⟩ := st65_open r38
    refine qv (d := 23) rfl rfl (by kernel_rfl) (fun wq_ hq_ => e_indexAddr (b := b35) (off := o36) (n := x6.length) (c := c8) (sz := 3) (i := x16) (k := .i64) Try.underlying25 e40 (by kernel_rfl) (by kernel_rfl) (by kernel_rfl) q23 q34) ?_
    refine qv (d := 24) rfl rfl (by kernel_rfl) (fun wq_ hq_ => e_loadS (b := b35) (off := o36 + (x16 : Int).toNat * 3) (cs := [.int .i64 ((x6.getD (x16).toNat z65).kind), .int .i64 ((x6.getD (x16).toNat z65).n), .slice A41 ((x6.getD (x16).toNat z65).text).length c42]) Try.underlying65 rfl (by kernel_rfl) (by kernel_rfl) (fun j_ u_ e_ => hq_.cell (k39 j_ u_ e_) (by simp))) ?_
    obtain ⟨t45, u46, H⟩ := bnd H
    refine qcall (v := .bool t45) (d := 25) rfl rfl (by kernel_rfl) (fun w_ => e_call (l := [.tmp 20, .tmp 24]) (vs := [.agg #[.int .i64 ((x1.getD (x16).toNat z65).kind), .int .i64 ((x1.getD (x16).toNat z65).n), .slice A30 ((x1.getD (x16).toNat z65).text).length c31], .agg #[.int .i64 ((x6.getD (x16).toNat z65).kind), .int .i64 ((x6.getD (x16).toNat z65).n), .slice A41 ((x6.getD (x16).toNat z65).text).length c42]]) Try.func59 (by kernel_rfl) rfl (by kernel_rfl) rfl) (fun w_ hq_ => laws_eqCell.calls k21 w_ (x1.getD (x16).toNat z65) A30 c31 (x6.getD (x16).toNat z65) A41 c42 (Rd.mono (fun _ _ => trivial) (Rd.move (fp_chg hq_ (by omega) (by simp)) h33)) l32 (Rd.mono (fun _ _ => trivial) (Rd.move (fp_chg hq_ (by omega) (by simp)) h44)) l43 t45 u46) ?_
    refine qv (d := 26) rfl rfl (by kernel_rfl) (fun wq_ hq_ => e_notv (c := t45) (by kernel_rfl)) ?_
    refine wpQuiet_nil ?_
    intro w47 C48
    have z49 := C48.size
    replace h4 := Rd.move (fp_chg C48 (by omega) (by simp)) h4
    replace h9 := Rd.move (fp_chg C48 (by omega) (by simp)) h9
    replace hC := hC.step C48 (fun _ h_ => by cases h_)
    refine then_n ?_
    by_cases q50 : ¬ (t45 = true)
    · replace H := ifp q50 H
      refine cond_t rfl (bt q50 (by kernel_rfl)) ?_
      refine wp_seq ?_
      refine wp_region_lit ?_
      refine lv (d := 4) rfl rfl (by kernel_rfl) (e_assign (v := .bool false) rfl) ?_
      refine wpList_nil ?_
      refine then_n ?_
      refine wp_ret ?_
      refine inb_r ?_
      refine then_r ?_
      refine then_r ?_
      refine inb_r ?_
      refine then_r ?_
      obtain rfl := Option.some.inj H
      exact ret1 (rfl) rfl  (show _ = .bool false from (by kernel_rfl)) ⟨rfl, hC⟩
    replace H := ifn q50 H
    refine cond_f rfl (bf q50 (by kernel_rfl)) ?_
    refine wp_skip ?_
    refine inb_n ?_
    refine then_n ?_
    refine wp_region_lit ?_
    refine lv (d := 15) rfl rfl (by kernel_rfl) (e_move (v := .int .i64 x16) (by exact e17)) ?_
    refine lv (d := 16) rfl rfl (by kernel_rfl) (e_add (k := .i64) (a := x16) (b := 1) (by kernel_rfl) rfl) ?_
    refine lv (d := 5) rfl rfl (by kernel_rfl) (e_assign (v := .int .i64 (IntKind.i64.wrap (x16 + 1))) (by kernel_rfl)) ?_
    refine wpList_nil ?_
    refine then_n ?_
    exact ⟨k21, Nat.lt_succ_self _, _, (IntKind.i64.wrap (x16 + 1)), rfl, (by exact e14), (by exact e15), (by kernel_rfl), (Rd.mono (fp_sub (fun _ h_ => h_) (by omega) (by simp [bk])) h4), (Rd.mono (fp_sub (fun _ h_ => h_) (by omega) (by simp [bk])) h9), hC, (by omega), H⟩
  replace H := ifn q22 H
  refine cond_f rfl (bf q22 (by kernel_rfl)) ?_
  refine wp_exit ?_
  refine then_e ?_
  refine then_e ?_
  refine inb_hit ?_
  refine then_n ?_
  refine wp_seq ?_
  refine wp_region_lit ?_
  refine lv (d := 4) rfl rfl (by kernel_rfl) (e_assign (v := .bool true) rfl) ?_
  refine wpList_nil ?_
  refine then_n ?_
  refine wp_ret ?_
  obtain rfl := Option.some.inj H
  exact ret1 (rfl) rfl  (show _ = .bool true from (by kernel_rfl)) ⟨rfl, hC⟩

/-! laws.FnExactValidTerm -/
def laws_FnExactValidTerm.f (k : Nat) (x1 : List Cell) : Option Bool := ((laws_szCellS.f k x1 1048576).bind fun t6 => (if t6 < 0 then some true else ((laws_toCellS.f k x1).bind fun t13 => ((spec_ValidTerm.f k t13).bind fun t22 => ((laws_toCellS.f k x1).bind fun t28 => ((impl_ValidTerm.f k t28).bind fun t37 => (if t37 ≠ t22 then some false else ((laws_toCellS.f k x1).bind fun t44 => ((laws_eqCellS.f k t28 t44).bind fun t53 => (if ¬ (t53 = true) then some false else some true))))))))))
theorem laws_FnExactValidTerm.calls (k : Nat) (w : World) (x1 : List Cell) (A2 : Option Addr) (c3 : Nat) (h4 : Rd st68 w any A2 x1) (l5 : x1.length ≤ c3) (r : Bool) (H : laws_FnExactValidTerm.f k x1 = some r) :
    Calls Try.prog 3 #[.slice A2 x1.length c3] w (fun e e_w => e = .returned (.bool r) ∧ Chg [] w e_w) := by
  rw [laws_FnExactValidTerm.f] at H
  refine enter (l := [.slice A2 x1.length c3]) 27 Try.func3 rfl rfl rfl ?_
  replace h4 := rd_canon (M := []) (by decide) h4 (by simp)
  have hC := Chg.refl [] w
  refine wp_seq ?_
  refine wp_region_lit ?_
  refine lv (d := 2) rfl rfl (by kernel_rfl) (e_assign (v := .bool false) rfl) ?_
  refine wpList_nil ?_
  refine then_n ?_
  refine wp_seq ?_
  refine wp_region_lit ?_
  refine lv (d := 3) rfl rfl (by kernel_rfl) (e_assign (v := .int .i64 1048576) rfl) ?_
  refine wpList_nil ?_
  refine then_n ?_
  refine wp_seq ?_
  refine wp_region_lit ?_
  refine lv (d := 7) rfl rfl (by kernel_rfl) (e_move (v := .slice A2 x1.length c3) (by kernel_rfl)) ?_
  refine lv (d := 8) rfl rfl (by kernel_rfl) (e_move (v := .int .i64 1048576) (by kernel_rfl)) ?_
  obtain ⟨t6, u7, H⟩ := bnd H
  refine lcall (d := 9) rfl rfl (by kernel_rfl) (e_call (l := [.tmp 7, .tmp 8]) (vs := [.slice A2 x1.length c3, .int .i64 1048576]) Try.func14 (by kernel_rfl) rfl (by kernel_rfl) rfl) (laws_szCellS.calls k w x1 A2 c3 1048576 (Rd.mono (fun _ _ => trivial) h4) l5 t6 u7) ?_
  rintro _ w8 ⟨rfl, C9⟩
  refine ⟨_, rfl, ?_⟩
  have u10 : Lt [] w.heap.size := (Lt.nil _)
  have z11 := C9.size
  replace h4 := Rd.move (fp_chg C9 (by omega) (by simp)) h4
  replace hC := hC.step C9 (fun _ h_ => by cases h_)
  refine lv (d := 3) rfl rfl (by kernel_rfl) (e_assign (v := .int .i64 t6) (by kernel_rfl)) ?_
  refine wpList_nil ?_
  refine then_n ?_
  refine wp_seq ?_
  refine wp_seq ?_
  refine wp_region_lit ?_
  refine lv (d := 10) rfl rfl (by kernel_rfl) (e_move (v := .int .i64 t6) (by kernel_rfl)) ?_
  refine lv (d := 11) rfl rfl (by kernel_rfl) (e_lss (k := .i64) (a := t6) (b := 0) (by kernel_rfl) rfl) ?_
  refine wpList_nil ?_
  refine then_n ?_
  by_cases q12 : t6 < 0
  · replace H := ifp q12 H
    refine cond_t rfl (bt q12 (by kernel_rfl)) ?_
    refine wp_seq ?_
    refine wp_region_lit ?_
    refine lv (d := 2) rfl rfl (by kernel_rfl) (e_assign (v := .bool true) rfl) ?_
    refine wpList_nil ?_
    refine then_n ?_
    refine wp_ret ?_
    refine then_r ?_
    obtain rfl := Option.some.inj H
    exact ret1 (rfl) rfl  (show _ = .bool true from (by kernel_rfl)) ⟨rfl, hC⟩
  replace H := ifn q12 H
  refine cond_f rfl (bf q12 (by kernel_rfl)) ?_
  refine wp_skip ?_
  refine then_n ?_
  refine wp_seq ?_
  refine wp_region_lit ?_
  refine lv (d := 12) rfl rfl (by kernel_rfl) (e_move (v := .slice A2 x1.length c3) (by kernel_rfl)) ?_
  obtain ⟨t13, u14, H⟩ := bnd H
  refine lcall (d := 13) rfl rfl (by kernel_rfl) (e_call (l := [.tmp 12]) (vs := [.slice A2 x1.length c3]) Try.func16 (by kernel_rfl) rfl (by kernel_rfl) rfl) (laws_toCellS.calls k w8 x1 A2 c3 (Rd.mono (fun _ _ => trivial) h4) l5 t13 u14) ?_
  rintro _ w18 ⟨A15, c16, rfl, h17, C19⟩
  refine ⟨_, rfl, ?_⟩
  have u20 : Lt [] w8.heap.size := (Lt.nil _)
  have z21 := C19.size
  replace h4 := Rd.move (fp_chg C19 (by omega) (by simp)) h4
  replace hC := hC.step C19 (fun _ h_ => by cases h_)
  obtain ⟨t22, u23, H⟩ := bnd H
  refine lcall (d := 14) rfl rfl (by kernel_rfl) (e_call (l := [.tmp 13]) (vs := [.slice A15 t13.length c16]) Try.func15 (by kernel_rfl) rfl (by kernel_rfl) rfl) (spec_ValidTerm.calls k w18 t13 A15 c16 (Rd.mono (fun _ _ => trivial) (h17.rd)) h17.le t22 u23) ?_
  rintro _ w24 ⟨rfl, C25⟩
  refine ⟨_, rfl, ?_⟩
  have u26 : Lt [] w18.heap.size := (Lt.nil _)
  have z27 := C25.size
  replace h4 := Rd.move (fp_chg C25 (by omega) (by simp)) h4
  replace hC := hC.step C25 (fun _ h_ => by cases h_)
  refine lv (d := 4) rfl rfl (by kernel_rfl) (e_assign (v := .bool t22) (by kernel_rfl)) ?_
  refine wpList_nil ?_
  refine then_n ?_
  refine wp_seq ?_
  refine wp_region_lit ?_
  refine lv (d := 15) rfl rfl (by kernel_rfl) (e_move (v := .slice A2 x1.length c3) (by kernel_rfl)) ?_
  obtain ⟨t28, u29, H⟩ := bnd H
  refine lcall (d := 16) rfl rfl (by kernel_rfl) (e_call (l := [.tmp 15]) (vs := [.slice A2 x1.length c3]) Try.func16 (by kernel_rfl) rfl (by kernel_rfl) rfl) (laws_toCellS.calls k w24 x1 A2 c3 (Rd.mono (fun _ _ => trivial) h4) l5 t28 u29) ?_
  rintro _ w33 ⟨A30, c31, rfl, h32, C34⟩
  refine ⟨_, rfl, ?_⟩
  have u35 : Lt [] w24.heap.size := (Lt.nil _)
  have z36 := C34.size
  replace h4 := Rd.move (fp_chg C34 (by omega) (by simp)) h4
  replace hC := hC.step C34 (fun _ h_ => by cases h_)
  refine lv (d := 5) rfl rfl (by kernel_rfl) (e_assign (v := .slice A30 t28.length c31) (by kernel_rfl)) ?_
  refine wpList_nil ?_
  refine then_n ?_
  refine wp_seq ?_
  refine wp_region_lit ?_
  refine lv (d := 17) rfl rfl (by kernel_rfl) (e_move (v := .slice A30 t28.length c31) (by kernel_rfl)) ?_
  obtain ⟨t37, u38, H⟩ := bnd H
  refine lcall (d := 18) rfl rfl (by kernel_rfl) (e_call (l := [.tmp 17]) (vs := [.slice A30 t28.length c31]) Try.func17 (by kernel_rfl) rfl (by kernel_rfl) rfl) (impl_ValidTerm.calls k w33 t28 A30 c31 (Rd.mono (fun _ _ => trivial) (h32.rd)) h32.le t37 u38) ?_
  rintro _ w39 ⟨rfl, C40⟩
  refine ⟨_, rfl, ?_⟩
  have u41 : Lt [] w33.heap.size := (Lt.nil _)
  have z42 := C40.size
  replace h4 := Rd.move (fp_chg C40 (by omega) (by simp)) h4
  replace h32 := Row.move (fp_chg C40 (by omega) (by simp)) h32
  replace hC := hC.step C40 (fun _ h_ => by cases h_)
  refine lv (d := 6) rfl rfl (by kernel_rfl) (e_assign (v := .bool t37) (by kernel_rfl)) ?_
  refine wpList_nil ?_
  refine then_n ?_
  refine wp_seq ?_
  refine wp_seq ?_
  refine wp_region_lit ?_
  refine lv (d := 19) rfl rfl (by kernel_rfl) (e_move (v := .bool t37) (by kernel_rfl)) ?_
  refine lv (d := 20) rfl rfl (by kernel_rfl) (e_move (v := .bool t22) (by kernel_rfl)) ?_
  refine lv (d := 21) rfl rfl (by kernel_rfl) (e_bneq (p := t37) (q := t22) Try.underlying4 (by kernel_rfl) (by kernel_rfl)) ?_
  refine wpList_nil ?_
  refine then_n ?_
  by_cases q43 : t37 ≠ t22
  · replace H := ifp q43 H
    refine cond_t rfl (bt q43 (by kernel_rfl)) ?_
    refine wp_seq ?_
    refine wp_region_lit ?_
    refine lv (d := 2) rfl rfl (by kernel_rfl) (e_assign (v := .bool false) rfl) ?_
    refine wpList_nil ?_
    refine then_n ?_
    refine wp_ret ?_
    refine then_r ?_
    obtain rfl := Option.some.inj H
    exact ret1 (rfl) rfl  (show _ = .bool false from (by kernel_rfl)) ⟨rfl, hC⟩
  replace H := ifn q43 H
  refine cond_f rfl (bf q43 (by kernel_rfl)) ?_
  refine wp_skip ?_
  refine then_n ?_
  refine wp_seq ?_
  refine wp_seq ?_
  refine wp_region_lit ?_
  refine lv (d := 22) rfl rfl (by kernel_rfl) (e_move (v := .slice A30 t28.length c31) (by kernel_rfl)) ?_
  refine lv (d := 23) rfl rfl (by kernel_rfl) (e_move (v := .slice A2 x1.length c3) (by kernel_rfl)) ?_
  obtain ⟨t44, u45, H⟩ := bnd H
  refine lcall (d := 24) rfl rfl (by kernel_rfl) (e_call (l := [.tmp 23]) (vs := [.slice A2 x1.length c3]) Try.func16 (by kernel_rfl) rfl (by kernel_rfl) rfl) (laws_toCellS.calls k w39 x1 A2 c3 (Rd.mono (fun _ _ => trivial) h4) l5 t44 u45) ?_
  rintro _ w49 ⟨A46, c47, rfl, h48, C50⟩
  refine ⟨_, rfl, ?_⟩
  have u51 : Lt [] w39.heap.size := (Lt.nil _)
  have z52 := C50.size
  replace h32 := Row.move (fp_chg C50 (by omega) (by simp)) h32
  replace hC := hC.step C50 (fun _ h_ => by cases h_)
  obtain ⟨t53, u54, H⟩ := bnd H
  refine lcall (d := 25) rfl rfl (by kernel_rfl) (e_call (l := [.tmp 22, .tmp 24]) (vs := [.slice A30 t28.length c31, .slice A46 t44.length c47]) Try.func18 (by kernel_rfl) rfl (by kernel_rfl) rfl) (laws_eqCellS.calls k w49 t28 A30 c31 t44 A46 c47 (Rd.mono (fun _ _ => trivial) (h32.rd)) h32.le (Rd.mono (fun _ _ => trivial) (h48.rd)) h48.le t53 u54) ?_
  rintro _ w55 ⟨rfl, C56⟩
  refine ⟨_, rfl, ?_⟩
  have u57 : Lt [] w49.heap.size := (Lt.nil _)
  have z58 := C56.size
  replace hC := hC.step C56 (fun _ h_ => by cases h_)
  refine lv (d := 26) rfl rfl (by kernel_rfl) (e_notv (c := t53) (by kernel_rfl)) ?_
  refine wpList_nil ?_
  refine then_n ?_
  by_cases q59 : ¬ (t53 = true)
  · replace H := ifp q59 H
    refine cond_t rfl (bt q59 (by kernel_rfl)) ?_
    refine wp_seq ?_
    refine wp_region_lit ?_
    refine lv (d := 2) rfl rfl (by kernel_rfl) (e_assign (v := .bool false) rfl) ?_
    refine wpList_nil ?_
    refine then_n ?_
    refine wp_ret ?_
    refine then_r ?_
    obtain rfl := Option.some.inj H
    exact ret1 (rfl) rfl  (show _ = .bool false from (by kernel_rfl)) ⟨rfl, hC⟩
  replace H := ifn q59 H
  refine cond_f rfl (bf q59 (by kernel_rfl)) ?_
  refine wp_skip ?_
  refine then_n ?_
  refine wp_seq ?_
  refine wp_region_lit ?_
  refine lv (d := 2) rfl rfl (by kernel_rfl) (e_assign (v := .bool true) rfl) ?_
  refine wpList_nil ?_
  refine then_n ?_
  refine wp_ret ?_
  obtain rfl := Option.some.inj H
  exact ret1 (rfl) rfl  (show _ = .bool true from (by kernel_rfl)) ⟨rfl, hC⟩
end Go.Proofs.Ytognefkopbbdnaa
