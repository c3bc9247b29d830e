import Derived.Test.YtognefkopbbdnaaProg
import Derived.Test.YtognefkopbbdnaaMore5
namespace Go.Proofs.Ytognefkopbbdnaa
open Go.Sx
attribute [local irreducible] Go.wpList Go.wpStill Go.wpQuiet Go.Code.wp
set_option maxRecDepth 100000
set_option maxHeartbeats 1000000
set_option linter.unusedVariables false
set_option linter.unusedSimpArgs false

/-! laws.szByteS -/
def laws_szByteS.f (x1 : List UInt8) (x6 : Int) : Option Int := (if (IntKind.i64.wrap (x6 - (x1.length : Int))) < 0 then some (-1) else some (IntKind.i64.wrap (x6 - (x1.length : Int))))
theorem laws_szByteS.calls (w : World) (F : Foot) (x1 : List UInt8) (A2 : Option Addr) (c3 : Nat) (x6 : Int) (h4 : Rd tByte w F A2 x1) (l5 : x1.length ≤ c3) (r : Int) (H : laws_szByteS.f x1 x6 = some r) :
    Calls Try.prog 102 #[.slice A2 x1.length c3, .int .i64 x6] w (fun e e_w => e = .returned (.int .i64 r) ∧ Chg [] w e_w) := by
  rw [laws_szByteS.f] at H
  refine enter (l := [.slice A2 x1.length c3, .int .i64 x6]) 12 Try.func102 rfl rfl rfl ?_
  replace h4 := rd_canonF (by decide) h4
  have hC := Chg.refl [] w
  refine wp_seq ?_
  refine wp_region_lit ?_
  refine lv (d := 4) rfl rfl (by kernel_rfl) (e_assign (v := .int .i64 0) rfl) ?_
  refine wpList_nil ?_
  refine then_n ?_
  refine wp_seq ?_
  refine wp_region_lit ?_
  refine lv (d := 5) rfl rfl (by kernel_rfl) (e_move (v := .int .i64 x6) (by kernel_rfl)) ?_
  refine lv (d := 6) rfl rfl (by kernel_rfl) (e_move (v := .slice A2 x1.length c3) (by kernel_rfl)) ?_
  refine lv (d := 7) rfl rfl (by kernel_rfl) (e_len (A := A2) (n := x1.length) (c := c3) Try.underlying59 (by kernel_rfl)) ?_
  refine lv (d := 8) rfl rfl (by kernel_rfl) (e_sub (k := .i64) (a := x6) (b := (x1.length : Int)) (by kernel_rfl) (by kernel_rfl)) ?_
  refine lv (d := 1) rfl rfl (by kernel_rfl) (e_assign (v := .int .i64 (IntKind.i64.wrap (x6 - (x1.length : Int)))) (by kernel_rfl)) ?_
  refine wpList_nil ?_
  refine then_n ?_
  refine wp_seq ?_
  refine wp_seq ?_
  refine wp_region_lit ?_
  refine lv (d := 9) rfl rfl (by kernel_rfl) (e_move (v := .int .i64 (IntKind.i64.wrap (x6 - (x1.length : Int)))) (by kernel_rfl)) ?_
  refine lv (d := 10) rfl rfl (by kernel_rfl) (e_lss (k := .i64) (a := (IntKind.i64.wrap (x6 - (x1.length : Int)))) (b := 0) (by kernel_rfl) rfl) ?_
  refine wpList_nil ?_
  refine then_n ?_
  by_cases q7 : (IntKind.i64.wrap (x6 - (x1.length : Int))) < 0
  · replace H := ifp q7 H
    refine cond_t rfl (bt q7 (by kernel_rfl)) ?_
    refine wp_seq ?_
    refine wp_region_lit ?_
    refine lv (d := 4) rfl rfl (by kernel_rfl) (e_assign (v := .int .i64 (-1)) rfl) ?_
    refine wpList_nil ?_
    refine then_n ?_
    refine wp_ret ?_
    refine then_r ?_
    obtain rfl := Option.some.inj H
    exact ret1 (rfl) rfl  (show _ = .int .i64 (-1) from (by kernel_rfl)) ⟨rfl, hC⟩
  replace H := ifn q7 H
  refine cond_f rfl (bf q7 (by kernel_rfl)) ?_
  refine wp_skip ?_
  refine then_n ?_
  refine wp_seq ?_
  refine wp_region_lit ?_
  refine lv (d := 11) rfl rfl (by kernel_rfl) (e_move (v := .int .i64 (IntKind.i64.wrap (x6 - (x1.length : Int)))) (by kernel_rfl)) ?_
  refine lv (d := 4) rfl rfl (by kernel_rfl) (e_assign (v := .int .i64 (IntKind.i64.wrap (x6 - (x1.length : Int)))) (by kernel_rfl)) ?_
  refine wpList_nil ?_
  refine then_n ?_
  refine wp_ret ?_
  obtain rfl := Option.some.inj H
  exact ret1 (rfl) rfl  (show _ = .int .i64 (IntKind.i64.wrap (x6 - (x1.length : Int))) from (by kernel_rfl)) ⟨rfl, hC⟩

/-! laws.szCell -/
def laws_szCell.f (x1 : Cell) (x6 : Int) : Option Int := ((laws_szByteS.f x1.text x6).bind fun t14 => (if t14 < 0 then some (-1) else some t14))
theorem laws_szCell.calls (w : World) (F : Foot) (x1 : Cell) (A2 : Option Addr) (c3 : Nat) (x6 : Int) (h4 : Rd tByte w F A2 x1.text) (l5 : x1.text.length ≤ c3) (r : Int) (H : laws_szCell.f x1 x6 = some r) :
    Calls Try.prog 55 #[.agg #[.int .i64 x1.kind, .int .i64 x1.n, .slice A2 x1.text.length c3], .int .i64 x6] w (fun e e_w => e = .returned (.int .i64 r) ∧ Chg [] w e_w) := by
  rw [laws_szCell.f] at H
  refine enter (l := [.agg #[.int .i64 x1.kind, .int .i64 x1.n, .slice A2 x1.text.length c3], .int .i64 x6]) 12 Try.func55 rfl rfl rfl ?_
  replace h4 := rd_canonF (by decide) h4
  have hC := Chg.refl [] w
  refine wp_seq ?_
  refine wp_region_lit ?_
  refine lve (d := 2) rfl rfl (by kernel_rfl) (new_blk (v := fun g_ => .pointer (some ⟨g_, 0, none⟩)) (cs := #[.int .i64 x1.kind, .int .i64 x1.n, .slice A2 x1.text.length c3]) (t := 68) (by kernel_rfl)) ?_
  rintro _ w7 ⟨g8, rfl, b9, n10, C11⟩
  have m12 := heap_lt b9
  have z13 := C11.size
  replace h4 := Rd.mono (fp_new (g := g8) (by omega)) (Rd.move (fp_chg C11 (by omega) (by simp)) h4)
  replace hC := hC.step C11 (fun _ h_ => by cases h_)
  refine lv (d := 4) rfl rfl (by kernel_rfl) (e_assign (v := .int .i64 0) rfl) ?_
  refine wpList_nil ?_
  refine then_n ?_
  refine wp_seq ?_
  refine wp_region_lit ?_
  refine lv (d := 5) rfl rfl (by kernel_rfl) (e_fieldAddr (b := g8) (off := 0) (o := 2) Try.underlying68 rfl rfl (sz := 1) (by kernel_rfl) (by decide) (by kernel_rfl)) ?_
  refine lv (d := 6) rfl rfl (by kernel_rfl) (e_load1 (ad := ⟨g8, 0 + 2, none⟩) (v := .slice A2 x1.text.length c3) Try.underlying59 rfl (by kernel_rfl) ((cell_of_row _ _ _ _ _ _ b9).trans rfl)) ?_
  refine lv (d := 7) rfl rfl (by kernel_rfl) (e_move (v := .int .i64 x6) (by kernel_rfl)) ?_
  obtain ⟨t14, u15, H⟩ := bnd H
  refine lcall (d := 8) rfl rfl (by kernel_rfl) (e_call (l := [.tmp 6, .tmp 7]) (vs := [.slice A2 x1.text.length c3, .int .i64 x6]) Try.func102 (by kernel_rfl) rfl (by kernel_rfl) rfl) (laws_szByteS.calls w7 (FP (fw F w.heap.size) w7.heap.size [some g8]) x1.text A2 c3 x6 (Rd.mono (fp_sub (fun _ h_ => .inl h_) (by omega) (by simp)) h4) l5 t14 u15) ?_
  rintro _ w16 ⟨rfl, C17⟩
  refine ⟨_, rfl, ?_⟩
  have u18 : Lt [some g8] w7.heap.size := (Lt.blk b9 (Lt.nil _))
  have z19 := C17.size
  replace hC := hC.step C17 (fun _ h_ => by cases h_)
  refine lv (d := 1) rfl rfl (by kernel_rfl) (e_assign (v := .int .i64 t14) (by kernel_rfl)) ?_
  refine wpList_nil ?_
  refine then_n ?_
  refine wp_seq ?_
  refine wp_seq ?_
  refine wp_region_lit ?_
  refine lv (d := 9) rfl rfl (by kernel_rfl) (e_move (v := .int .i64 t14) (by kernel_rfl)) ?_
  refine lv (d := 10) rfl rfl (by kernel_rfl) (e_lss (k := .i64) (a := t14) (b := 0) (by kernel_rfl) rfl) ?_
  refine wpList_nil ?_
  refine then_n ?_
  by_cases q20 : t14 < 0
  · replace H := ifp q20 H
    refine cond_t rfl (bt q20 (by kernel_rfl)) ?_
    refine wp_seq ?_
    refine wp_region_lit ?_
    refine lv (d := 4) rfl rfl (by kernel_rfl) (e_assign (v := .int .i64 (-1)) rfl) ?_
    refine wpList_nil ?_
    refine then_n ?_
    refine wp_ret ?_
    refine then_r ?_
    obtain rfl := Option.some.inj H
    exact ret1 (rfl) rfl  (show _ = .int .i64 (-1) from (by kernel_rfl)) ⟨rfl, hC⟩
  replace H := ifn q20 H
  refine cond_f rfl (bf q20 (by kernel_rfl)) ?_
  refine wp_skip ?_
  refine then_n ?_
  refine wp_seq ?_
  refine wp_region_lit ?_
  refine lv (d := 11) rfl rfl (by kernel_rfl) (e_move (v := .int .i64 t14) (by kernel_rfl)) ?_
  refine lv (d := 4) rfl rfl (by kernel_rfl) (e_assign (v := .int .i64 t14) (by kernel_rfl)) ?_
  refine wpList_nil ?_
  refine then_n ?_
  refine wp_ret ?_
  obtain rfl := Option.some.inj H
  exact ret1 (rfl) rfl  (show _ = .int .i64 t14 from (by kernel_rfl)) ⟨rfl, hC⟩

/-! laws.szCellS -/
def sl5 : Ty (List UInt8) := slice 5 tByte (by decide)
def st68 : Ty Cell := iso (pair tInt (pair tInt sl5)) (fun x => (x.kind, x.n, x.text))
theorem st68_open {w : World} {F : Foot} {x : Cell} {cs : List Value} (h : st68.R w F x cs) : ∃ (A2 : Option Addr) (c2 : Nat), cs = [.int .i64 x.kind, .int .i64 x.n, .slice A2 x.text.length c2] ∧ x.text.length ≤ c2 ∧ Rd tByte w F A2 x.text := by
  obtain ⟨_, _, rfl, rfl, ⟨_, _, rfl, rfl, ⟨A2, c2, rfl, l2, h2⟩⟩⟩ := h
  exact ⟨A2, c2, rfl, l2, h2⟩
theorem st68_mkR {w : World} {F : Foot} {x : Cell} {A2 : Option Addr} {c2 : Nat} (l2 : x.text.length ≤ c2) (h2 : Rd tByte w F A2 x.text) : st68.R w F x [.int .i64 x.kind, .int .i64 x.n, .slice A2 x.text.length c2] := ⟨[.int .i64 x.kind], [.int .i64 x.n, .slice A2 x.text.length c2], rfl, rfl, ⟨[.int .i64 x.n], [.slice A2 x.text.length c2], rfl, rfl, ⟨A2, c2, rfl, l2, h2⟩⟩⟩
theorem st68_mkO {w : World} {F : Foot} {x : Cell} {A2 : Option Addr} {c2 : Nat} (h2 : Row tByte 5 w F A2 c2 x.text) : st68.O w F x [.int .i64 x.kind, .int .i64 x.n, .slice A2 x.text.length c2] := (pairO0 (a := tInt) (b := (pair tInt sl5)) (x := (x.kind, (x.n, x.text))) (c0 := [.int .i64 x.kind]) (c1 := [.int .i64 x.n, .slice A2 x.text.length c2]) rfl (pairO0 (a := tInt) (b := sl5) (x := (x.n, x.text)) (c0 := [.int .i64 x.n]) (c1 := [.slice A2 x.text.length c2]) rfl ⟨A2, c2, rfl, h2⟩))
def z68 : Cell := ⟨(0 : Int), (0 : Int), ([] : List UInt8)⟩
theorem z68_O (w : World) : st68.O w (fun _ => False) z68 [.int .i64 (0 : Int), .int .i64 (0 : Int), .slice none 0 0] := st68_mkO (x := z68) (Row.nil _ _ _ _)
def laws_szCellS.l0 : Nat → (List Cell) → Int → Int → Option Int
  | 0, _, _, _ => none
  | k18 + 1, x1, x11, x13 => (if x13 < (x1.length : Int) then (if 0 ≤ x13 then ((laws_szCell.f (x1.getD (x13).toNat z68) x11).bind fun t31 => (if t31 < 0 then some (-1) else (laws_szCellS.l0 k18 x1 t31 (IntKind.i64.wrap (x13 + 1))))) else none) else some x11)
def laws_szCellS.f (k : Nat) (x1 : List Cell) (x6 : Int) : Option Int := (if (IntKind.i64.wrap (x6 - (x1.length : Int))) < 0 then some (-1) else (laws_szCellS.l0 k x1 (IntKind.i64.wrap (x6 - (x1.length : Int))) 0))
theorem laws_szCellS.calls (k : Nat) (w : World) (F : Foot) (x1 : List Cell) (A2 : Option Addr) (c3 : Nat) (x6 : Int) (h4 : Rd st68 w F A2 x1) (l5 : x1.length ≤ c3) (r : Int) (H : laws_szCellS.f k x1 x6 = some r) :
    Calls Try.prog 14 #[.slice A2 x1.length c3, .int .i64 x6] w (fun e e_w => e = .returned (.int .i64 r) ∧ Chg [] w e_w) := by
  rw [laws_szCellS.f] at H
  refine enter (l := [.slice A2 x1.length c3, .int .i64 x6]) 27 Try.func14 rfl rfl rfl ?_
  replace h4 := rd_canonF (by decide) h4
  have hC := Chg.refl [] w
  refine wp_seq ?_
  refine wp_region_lit ?_
  refine lv (d := 4) rfl rfl (by kernel_rfl) (e_assign (v := .int .i64 0) rfl) ?_
  refine wpList_nil ?_
  refine then_n ?_
  refine wp_seq ?_
  refine wp_region_lit ?_
  refine lv (d := 6) rfl rfl (by kernel_rfl) (e_move (v := .int .i64 x6) (by kernel_rfl)) ?_
  refine lv (d := 7) rfl rfl (by kernel_rfl) (e_move (v := .slice A2 x1.length c3) (by kernel_rfl)) ?_
  refine lv (d := 8) rfl rfl (by kernel_rfl) (e_len (A := A2) (n := x1.length) (c := c3) Try.underlying22 (by kernel_rfl)) ?_
  refine lv (d := 9) rfl rfl (by kernel_rfl) (e_sub (k := .i64) (a := x6) (b := (x1.length : Int)) (by kernel_rfl) (by kernel_rfl)) ?_
  refine lv (d := 1) rfl rfl (by kernel_rfl) (e_assign (v := .int .i64 (IntKind.i64.wrap (x6 - (x1.length : Int)))) (by kernel_rfl)) ?_
  refine wpList_nil ?_
  refine then_n ?_
  refine wp_seq ?_
  refine wp_seq ?_
  refine wp_region_lit ?_
  refine lv (d := 10) rfl rfl (by kernel_rfl) (e_move (v := .int .i64 (IntKind.i64.wrap (x6 - (x1.length : Int)))) (by kernel_rfl)) ?_
  refine lv (d := 11) rfl rfl (by kernel_rfl) (e_lss (k := .i64) (a := (IntKind.i64.wrap (x6 - (x1.length : Int)))) (b := 0) (by kernel_rfl) rfl) ?_
  refine wpList_nil ?_
  refine then_n ?_
  by_cases q7 : (IntKind.i64.wrap (x6 - (x1.length : Int))) < 0
  · replace H := ifp q7 H
    refine cond_t rfl (bt q7 (by kernel_rfl)) ?_
    refine wp_seq ?_
    refine wp_region_lit ?_
    refine lv (d := 4) rfl rfl (by kernel_rfl) (e_assign (v := .int .i64 (-1)) rfl) ?_
    refine wpList_nil ?_
    refine then_n ?_
    refine wp_ret ?_
    refine then_r ?_
    obtain rfl := Option.some.inj H
    exact ret1 (rfl) rfl  (show _ = .int .i64 (-1) from (by kernel_rfl)) ⟨rfl, hC⟩
  replace H := ifn q7 H
  refine cond_f rfl (bf q7 (by kernel_rfl)) ?_
  refine wp_skip ?_
  refine then_n ?_
  refine wp_seq ?_
  refine wp_seq ?_
  refine wp_region_lit ?_
  refine lv (d := 5) rfl rfl (by kernel_rfl) (e_assign (v := .int .i64 0) rfl) ?_
  refine wpList_nil ?_
  refine then_n ?_
  refine wp_block ?_
  refine wp_loop_g (fun k16 a17 w8 => ∃ (f9 : Nat → Value) (x11 : Int) (x13 : Int), a17 = mk 27 f9 ∧ f9 0 = .slice A2 x1.length c3 ∧ f9 1 = .int .i64 x11 ∧ f9 5 = .int .i64 x13 ∧ Rd st68 w8 (FP F w.heap.size []) A2 x1 ∧ Chg [] w w8 ∧ w.heap.size ≤ w8.heap.size ∧ laws_szCellS.l0 k16 x1 x11 x13 = some r) k ⟨_, (IntKind.i64.wrap (x6 - (x1.length : Int))), 0, rfl, (by kernel_rfl), (by kernel_rfl), (by kernel_rfl), (Rd.mono (fp_sub (fun _ h_ => h_) (by omega) (by simp [bk])) h4), hC, (by omega), H⟩ ?_
  rintro k16 a17 w8 ⟨f9, x11, x13, rfl, e10, e12, e14, h4, hC, z15, H⟩
  rcases k16 with _ | k18
  · rw [laws_szCellS.l0] at H
    cases H
  rw [laws_szCellS.l0] at H
  refine wp_seq ?_
  refine wp_seq ?_
  refine wp_region_lit ?_
  refine lv (d := 12) rfl rfl (by kernel_rfl) (e_move (v := .int .i64 x13) (by exact e14)) ?_
  refine lv (d := 13) rfl rfl (by kernel_rfl) (e_move (v := .slice A2 x1.length c3) (by exact e10)) ?_
  refine lv (d := 14) rfl rfl (by kernel_rfl) (e_len (A := A2) (n := x1.length) (c := c3) Try.underlying22 (by kernel_rfl)) ?_
  refine lv (d := 15) rfl rfl (by kernel_rfl) (e_lss (k := .i64) (a := x13) (b := (x1.length : Int)) (by kernel_rfl) (by kernel_rfl)) ?_
  refine wpList_nil ?_
  refine then_n ?_
  by_cases q19 : x13 < (x1.length : Int)
  · replace H := ifp q19 H
    refine cond_t rfl (bt q19 (by kernel_rfl)) ?_
    refine wp_skip ?_
    refine then_n ?_
    refine wp_seq ?_
    refine wp_block ?_
    refine wp_seq ?_
    refine wp_region_lit ?_
    refine lv (d := 18) rfl rfl (by kernel_rfl) (e_move (v := .slice A2 x1.length c3) (by exact e10)) ?_
    refine lv (d := 19) rfl rfl (by kernel_rfl) (e_move (v := .int .i64 x13) (by exact e14)) ?_
    obtain ⟨q20, H⟩ := chk H
    obtain ⟨b21, o22, y23, e26, _, r24, k25⟩ := Rd.get h4 (x13).toNat _ (getD_some z68 (by omega))
    obtain ⟨A27, c28, rfl, l29, h30⟩ := st68_open r24
    refine lv (d := 20) rfl rfl (by kernel_rfl) (e_indexAddr (b := b21) (off := o22) (n := x1.length) (c := c3) (sz := 3) (i := x13) (k := .i64) Try.underlying22 e26 (by kernel_rfl) (by kernel_rfl) (by kernel_rfl) q20 q19) ?_
    refine lv (d := 21) rfl rfl (by kernel_rfl) (e_loadS (b := b21) (off := o22 + (x13 : Int).toNat * 3) (cs := [.int .i64 ((x1.getD (x13).toNat z68).kind), .int .i64 ((x1.getD (x13).toNat z68).n), .slice A27 ((x1.getD (x13).toNat z68).text).length c28]) Try.underlying68 rfl (by kernel_rfl) (by kernel_rfl) k25) ?_
    refine lv (d := 22) rfl rfl (by kernel_rfl) (e_move (v := .int .i64 x11) (by exact e12)) ?_
    obtain ⟨t31, u32, H⟩ := bnd H
    refine lcall (d := 23) rfl rfl (by kernel_rfl) (e_call (l := [.tmp 21, .tmp 22]) (vs := [.agg #[.int .i64 ((x1.getD (x13).toNat z68).kind), .int .i64 ((x1.getD (x13).toNat z68).n), .slice A27 ((x1.getD (x13).toNat z68).text).length c28], .int .i64 x11]) Try.func55 (by kernel_rfl) rfl (by kernel_rfl) rfl) (laws_szCell.calls w8 (FP (fw F w.heap.size) w8.heap.size []) (x1.getD (x13).toNat z68) A27 c28 x11 (Rd.mono (fp_sub (fun _ h_ => .inl h_) (by omega) (by simp)) h30) l29 t31 u32) ?_
    rintro _ w33 ⟨rfl, C34⟩
    refine ⟨_, rfl, ?_⟩
    have u35 : Lt [] w8.heap.size := (Lt.nil _)
    have z36 := C34.size
    replace h4 := Rd.move (fp_chg C34 (by omega) (by simp)) h4
    replace hC := hC.step C34 (fun _ h_ => by cases h_)
    refine lv (d := 1) rfl rfl (by kernel_rfl) (e_assign (v := .int .i64 t31) (by kernel_rfl)) ?_
    refine wpList_nil ?_
    refine then_n ?_
    refine wp_seq ?_
    refine wp_region_lit ?_
    refine lv (d := 24) rfl rfl (by kernel_rfl) (e_move (v := .int .i64 t31) (by kernel_rfl)) ?_
    refine lv (d := 25) rfl rfl (by kernel_rfl) (e_lss (k := .i64) (a := t31) (b := 0) (by kernel_rfl) rfl) ?_
    refine wpList_nil ?_
    refine then_n ?_
    by_cases q37 : t31 < 0
    · replace H := ifp q37 H
      refine cond_t rfl (bt q37 (by kernel_rfl)) ?_
      refine wp_seq ?_
      refine wp_region_lit ?_
      refine lv (d := 4) rfl rfl (by kernel_rfl) (e_assign (v := .int .i64 (-1)) rfl) ?_
      refine wpList_nil ?_
      refine then_n ?_
      refine wp_ret ?_
      refine inb_r ?_
      refine then_r ?_
      refine then_r ?_
      refine inb_r ?_
      refine then_r ?_
      obtain rfl := Option.some.inj H
      exact ret1 (rfl) rfl  (show _ = .int .i64 (-1) from (by kernel_rfl)) ⟨rfl, hC⟩
    replace H := ifn q37 H
    refine cond_f rfl (bf q37 (by kernel_rfl)) ?_
    refine wp_skip ?_
    refine inb_n ?_
    refine then_n ?_
    refine wp_region_lit ?_
    refine lv (d := 16) rfl rfl (by kernel_rfl) (e_move (v := .int .i64 x13) (by exact e14)) ?_
    refine lv (d := 17) rfl rfl (by kernel_rfl) (e_add (k := .i64) (a := x13) (b := 1) (by kernel_rfl) rfl) ?_
    refine lv (d := 5) rfl rfl (by kernel_rfl) (e_assign (v := .int .i64 (IntKind.i64.wrap (x13 + 1))) (by kernel_rfl)) ?_
    refine wpList_nil ?_
    refine then_n ?_
    exact ⟨k18, (by omega), _, t31, (IntKind.i64.wrap (x13 + 1)), rfl, (by exact e10), (by kernel_rfl), (by kernel_rfl), (Rd.mono (fp_sub (fun _ h_ => h_) (by omega) (by simp [bk])) h4), hC, (by omega), H⟩
  replace H := ifn q19 H
  refine cond_f rfl (bf q19 (by kernel_rfl)) ?_
  refine wp_exit ?_
  refine then_e ?_
  refine then_e ?_
  refine inb_hit ?_
  refine then_n ?_
  refine wp_seq ?_
  refine wp_region_lit ?_
  refine lv (d := 26) rfl rfl (by kernel_rfl) (e_move (v := .int .i64 x11) (by exact e12)) ?_
  refine lv (d := 4) rfl rfl (by kernel_rfl) (e_assign (v := .int .i64 x11) (by kernel_rfl)) ?_
  refine wpList_nil ?_
  refine then_n ?_
  refine wp_ret ?_
  obtain rfl := Option.some.inj H
  exact ret1 (rfl) rfl  (show _ = .int .i64 x11 from (by kernel_rfl)) ⟨rfl, hC⟩

/-! laws.toByteS -/
def laws_toByteS.l0 : Nat → (List UInt8) → (List UInt8) → Int → Option (List UInt8)
  | 0, _, _, _ => none
  | k29 + 1, x1, x19, x24 => (if x24 < (x1.length : Int) then (if 0 ≤ x24 then (if x24 < (x19.length : Int) then (laws_toByteS.l0 k29 x1 (x19.set ((x24).toNat) (x1.getD (x24).toNat (0 : UInt8))) (IntKind.i64.wrap (x24 + 1))) else none) else none) else some x19)
def laws_toByteS.f (k : Nat) (x1 : List UInt8) : Option (List UInt8) := (if 0 ≤ (x1.length : Int) then (if ((x1.length : Int)).toNat ≤ 281474976710656 then (laws_toByteS.l0 k x1 (List.replicate ((x1.length : Int)).toNat (0 : UInt8)) 0) else none) else none)
theorem laws_toByteS.calls (k : Nat) (w : World) (F : Foot) (x1 : List UInt8) (A2 : Option Addr) (c3 : Nat) (h4 : Rd tByte w F A2 x1) (l5 : x1.length ≤ c3) (r : List UInt8) (H : laws_toByteS.f k x1 = some r) :
    Calls Try.prog 103 #[.slice A2 x1.length c3] w (fun e e_w => ∃ (A_0 : Option Addr) (c_0 : Nat), e = .returned (.slice A_0 r.length c_0) ∧ Row tByte 5 e_w (FP (ge w.heap.size) e_w.heap.size []) A_0 c_0 r ∧ Chg [] w e_w) := by
  rw [laws_toByteS.f] at H
  refine enter (l := [.slice A2 x1.length c3]) 22 Try.func103 rfl rfl rfl ?_
  replace h4 := rd_canonF (by decide) h4
  have hC := Chg.refl [] w
  refine wp_seq ?_
  refine wp_region_lit ?_
  refine lv (d := 2) rfl rfl (by kernel_rfl) (e_assign (v := .slice none 0 0) rfl) ?_
  refine wpList_nil ?_
  refine then_n ?_
  refine wp_seq ?_
  refine wp_region_lit ?_
  refine lv (d := 5) rfl rfl (by kernel_rfl) (e_move (v := .slice A2 x1.length c3) (by kernel_rfl)) ?_
  refine lv (d := 6) rfl rfl (by kernel_rfl) (e_len (A := A2) (n := x1.length) (c := c3) Try.underlying59 (by kernel_rfl)) ?_
  obtain ⟨q6, H⟩ := chk H
  obtain ⟨q7, H⟩ := chk H
  refine lve (d := 7) rfl rfl (by kernel_rfl) (e_make' (d := tByte) (k := .i64) (k2 := .i64) (n := (x1.length : Int)) (z := .int .u8 0) (zx := (0 : UInt8)) (bytes := 1) Try.underlying59 (by kernel_rfl) rfl (by decide) (fun _ => rfl) (by kernel_rfl) (by kernel_rfl) q6 (by omega) (by omega)) ?_
  rintro _ w8 ⟨A9, c10, rfl, h11, C12, n13⟩
  have u14 : Lt [] w.heap.size := (Lt.nil _)
  have z15 := C12.size
  replace h4 := Rd.move (fp_chg C12 (by omega) (by simp)) h4
  replace hC := hC.step C12 (fun _ h_ => by cases h_)
  replace h4 := Rd.mono (fp_cons (fun b_ e_ => by have := n13 b_ e_; omega)) h4
  replace h11 := row_canon (L := ge w.heap.size) (M := []) h11 (fun b_ h_ _ => ⟨h_, fun hm_ => by have := u14 _ hm_ b_ rfl; omega⟩)
  refine lv (d := 3) rfl rfl (by kernel_rfl) (e_assign (v := .slice A9 (List.replicate ((x1.length : Int)).toNat (0 : UInt8)).length c10) (by kernel_rfl)) ?_
  refine wpList_nil ?_
  refine then_n ?_
  refine wp_seq ?_
  refine wp_seq ?_
  refine wp_region_lit ?_
  refine lv (d := 4) rfl rfl (by kernel_rfl) (e_assign (v := .int .i64 0) rfl) ?_
  refine wpList_nil ?_
  refine then_n ?_
  refine wp_block ?_
  refine wp_loop_g (fun k27 a28 w16 => ∃ (f17 : Nat → Value) (x19 : List UInt8) (A20 : Option Addr) (c21 : Nat) (x24 : Int), a28 = mk 22 f17 ∧ f17 0 = .slice A2 x1.length c3 ∧ f17 3 = .slice A20 x19.length c21 ∧ f17 4 = .int .i64 x24 ∧ Rd tByte w16 (FP F w.heap.size [bk A20]) A2 x1 ∧ Row tByte 5 w16 (FP (ge w.heap.size) w16.heap.size []) A20 c21 x19 ∧ Chg [] w w16 ∧ w8.heap.size ≤ w16.heap.size ∧ laws_toByteS.l0 k27 x1 x19 x24 = some r) k ⟨_, (List.replicate ((x1.length : Int)).toNat (0 : UInt8)), A9, c10, 0, rfl, (by kernel_rfl), (by kernel_rfl), (by kernel_rfl), (Rd.mono (fp_sub (fun _ h_ => h_) (by omega) (by simp [bk])) h4), (Row.mono (fp_sub (fun _ h_ => h_) (by omega) (by simp [bk])) h11), hC, (by omega), H⟩ ?_
  rintro k27 a28 w16 ⟨f17, x19, A20, c21, x24, rfl, e18, e23, e25, h4, h22, hC, z26, H⟩
  rcases k27 with _ | k29
  · rw [laws_toByteS.l0] at H
    cases H
  rw [laws_toByteS.l0] at H
  refine wp_seq ?_
  refine wp_seq ?_
  refine wp_region_lit ?_
  refine lv (d := 8) rfl rfl (by kernel_rfl) (e_move (v := .int .i64 x24) (by exact e25)) ?_
  refine lv (d := 9) rfl rfl (by kernel_rfl) (e_move (v := .slice A2 x1.length c3) (by exact e18)) ?_
  refine lv (d := 10) rfl rfl (by kernel_rfl) (e_len (A := A2) (n := x1.length) (c := c3) Try.underlying59 (by kernel_rfl)) ?_
  refine lv (d := 11) rfl rfl (by kernel_rfl) (e_lss (k := .i64) (a := x24) (b := (x1.length : Int)) (by kernel_rfl) (by kernel_rfl)) ?_
  refine wpList_nil ?_
  refine then_n ?_
  by_cases q30 : x24 < (x1.length : Int)
  · replace H := ifp q30 H
    refine cond_t rfl (bt q30 (by kernel_rfl)) ?_
    refine wp_skip ?_
    refine then_n ?_
    refine wp_seq ?_
    refine wp_block ?_
    refine wp_region_lit ?_
    refine lv (d := 14) rfl rfl (by kernel_rfl) (e_move (v := .slice A20 x19.length c21) (by exact e23)) ?_
    refine lv (d := 15) rfl rfl (by kernel_rfl) (e_move (v := .int .i64 x24) (by exact e25)) ?_
    refine lv (d := 16) rfl rfl (by kernel_rfl) (e_move (v := .slice A2 x1.length c3) (by exact e18)) ?_
    refine lv (d := 17) rfl rfl (by kernel_rfl) (e_move (v := .int .i64 x24) (by exact e25)) ?_
    obtain ⟨q31, H⟩ := chk H
    obtain ⟨b32, o33, y34, e37, _, r35, k36⟩ := Rd.get h4 (x24).toNat _ (getD_some (0 : UInt8) (by omega))
    obtain rfl := r35
    refine lv (d := 18) rfl rfl (by kernel_rfl) (e_indexAddr (b := b32) (off := o33) (n := x1.length) (c := c3) (sz := 1) (i := x24) (k := .i64) Try.underlying59 e37 (by kernel_rfl) (by kernel_rfl) (by kernel_rfl) q31 q30) ?_
    refine lv (d := 19) rfl rfl (by kernel_rfl) (e_load1 (ad := ⟨b32, o33 + (x24 : Int).toNat * 1, none⟩) (v := .int .u8 ((x1.getD (x24).toNat (0 : UInt8)).toNat : Int)) Try.underlying5 rfl (by kernel_rfl) (k36 0 _ rfl)) ?_
    obtain ⟨q38, H⟩ := chk H
    obtain ⟨b39, o40, y41, e44, _, r42, k43⟩ := Row.get h22 (x24).toNat _ (getD_some (0 : UInt8) (by omega))
    obtain rfl := r42
    refine lv (d := 20) rfl rfl (by kernel_rfl) (e_indexAddr (b := b39) (off := o40) (n := x19.length) (c := c21) (sz := 1) (i := x24) (k := .i64) Try.underlying59 e44 (by kernel_rfl) (by kernel_rfl) (by kernel_rfl) q31 q38) ?_
    refine lse rfl rfl (by kernel_rfl) (e_setel (d := tByte) (b := b39) (off := o40) (i := (x24).toNat) (v := .int .u8 ((x1.getD (x24).toNat (0 : UInt8)).toNat : Int)) (vs := [.int .u8 ((x1.getD (x24).toNat (0 : UInt8)).toNat : Int)]) (yv := (x1.getD (x24).toNat (0 : UInt8))) (F2 := (fun _ => False)) (by kernel_rfl) e44 (by kernel_rfl) rfl (by kernel_rfl) h22 (by omega) rfl (fun h_ => Bool.noConfusion (show false = true from h_)) (fun _ _ h_ => h_)) ?_
    rintro w45 ⟨h46, C47, s48⟩
    have z49 := C47.size
    replace h4 := Rd.move (fp_chg C47 (by omega) (by simp)) h4
    replace hC := hC.step C47 (fun o_ h_ => by simp only [List.mem_singleton] at h_; subst h_; exact .inr (fun b_ e_ => by have q_ := (h22.own b_ e_).1.1; simp only [ge] at q_; omega))
    replace h46 := row_or0 (N := []) h46 (by simp)
    refine wpList_nil ?_
    refine inb_n ?_
    refine then_n ?_
    refine wp_region_lit ?_
    refine lv (d := 12) rfl rfl (by kernel_rfl) (e_move (v := .int .i64 x24) (by exact e25)) ?_
    refine lv (d := 13) rfl rfl (by kernel_rfl) (e_add (k := .i64) (a := x24) (b := 1) (by kernel_rfl) rfl) ?_
    refine lv (d := 4) rfl rfl (by kernel_rfl) (e_assign (v := .int .i64 (IntKind.i64.wrap (x24 + 1))) (by kernel_rfl)) ?_
    refine wpList_nil ?_
    refine then_n ?_
    exact ⟨k29, (by omega), _, (x19.set ((x24).toNat) (x1.getD (x24).toNat (0 : UInt8))), A20, c21, (IntKind.i64.wrap (x24 + 1)), rfl, (by exact e18), (by simp only [List.length_set]; exact (by exact e23)), (by kernel_rfl), (Rd.mono (fp_sub (fun _ h_ => h_) (by omega) (by simp [bk])) h4), (Row.mono (fp_sub (fun _ h_ => h_) (by omega) (by simp [bk])) h46), hC, (by omega), H⟩
  replace H := ifn q30 H
  refine cond_f rfl (bf q30 (by kernel_rfl)) ?_
  refine wp_exit ?_
  refine then_e ?_
  refine then_e ?_
  refine inb_hit ?_
  refine then_n ?_
  refine wp_seq ?_
  refine wp_region_lit ?_
  refine lv (d := 21) rfl rfl (by kernel_rfl) (e_move (v := .slice A20 x19.length c21) (by exact e23)) ?_
  refine lv (d := 2) rfl rfl (by kernel_rfl) (e_assign (v := .slice A20 x19.length c21) (by kernel_rfl)) ?_
  refine wpList_nil ?_
  refine then_n ?_
  refine wp_ret ?_
  obtain rfl := Option.some.inj H
  exact ret1 (rfl) rfl  (show _ = .slice A20 x19.length c21 from (by kernel_rfl)) ⟨A20, c21, rfl, (h22.mono (fp_sub (fun _ h_ => h_) (by omega) (by simp))), hC⟩

/-! laws.toCell -/
def laws_toCell.f (k : Nat) (x1 : Cell) : Option Cell := ((laws_toByteS.f k x1.text).bind fun t37 => some (⟨x1.kind, x1.n, t37⟩ : Cell))
theorem laws_toCell.calls (k : Nat) (w : World) (F : Foot) (x1 : Cell) (A2 : Option Addr) (c3 : Nat) (h4 : Rd tByte w F A2 x1.text) (l5 : x1.text.length ≤ c3) (r : Cell) (H : laws_toCell.f k x1 = some r) :
    Calls Try.prog 57 #[.agg #[.int .i64 x1.kind, .int .i64 x1.n, .slice A2 x1.text.length c3]] w (fun e e_w => ∃ (A_0 : Option Addr) (c_0 : Nat), e = .returned (.agg #[.int .i64 r.kind, .int .i64 r.n, .slice A_0 r.text.length c_0]) ∧ Row tByte 5 e_w (FP (ge w.heap.size) e_w.heap.size []) A_0 c_0 r.text ∧ Chg [] w e_w) := by
  rw [laws_toCell.f] at H
  refine enter (l := [.agg #[.int .i64 x1.kind, .int .i64 x1.n, .slice A2 x1.text.length c3]]) 15 Try.func57 rfl rfl rfl ?_
  replace h4 := rd_canonF (by decide) h4
  have hC := Chg.refl [] w
  refine wp_seq ?_
  refine wp_region_lit ?_
  refine lve (d := 1) rfl rfl (by kernel_rfl) (new_blk (v := fun g_ => .pointer (some ⟨g_, 0, none⟩)) (cs := #[.int .i64 x1.kind, .int .i64 x1.n, .slice A2 x1.text.length c3]) (t := 68) (by kernel_rfl)) ?_
  rintro _ w6 ⟨g7, rfl, b8, n9, C10⟩
  have m11 := heap_lt b8
  have z12 := C10.size
  replace h4 := Rd.mono (fp_new (g := g7) (by omega)) (Rd.move (fp_chg C10 (by omega) (by simp)) h4)
  replace hC := hC.step C10 (fun _ h_ => by cases h_)
  refine lve (d := 2) rfl rfl (by kernel_rfl) (new_blk (v := fun g_ => .pointer (some ⟨g_, 0, none⟩)) (cs := #[.int .i64 0, .int .i64 0, .slice none 0 0]) (t := 65) (by kernel_rfl)) ?_
  rintro _ w13 ⟨g14, rfl, b15, n16, C17⟩
  have m18 := heap_lt b15
  have z19 := C17.size
  replace b8 := C17.heap b8 (by simp)
  replace h4 := Rd.mono (fp_new (g := g14) (by omega)) (Rd.move (fp_chg C17 (by omega) (by simp)) h4)
  replace hC := hC.step C17 (fun _ h_ => by cases h_)
  refine wpList_nil ?_
  refine then_n ?_
  refine wp_seq ?_
  refine wp_region_lit ?_
  refine lve (d := 3) rfl rfl (by kernel_rfl) (new_blk (v := fun g_ => .pointer (some ⟨g_, 0, none⟩)) (cs := #[.int .i64 0, .int .i64 0, .slice none 0 0]) (t := 65) (by kernel_rfl)) ?_
  rintro _ w20 ⟨g21, rfl, b22, n23, C24⟩
  have m25 := heap_lt b22
  have z26 := C24.size
  replace b8 := C24.heap b8 (by simp)
  replace h4 := Rd.mono (fp_new (g := g21) (by omega)) (Rd.move (fp_chg C24 (by omega) (by simp)) h4)
  replace b15 := C24.heap b15 (by simp)
  replace hC := hC.step C24 (fun _ h_ => by cases h_)
  refine wpList_nil ?_
  refine then_n ?_
  refine wp_seq ?_
  refine wp_region_lit ?_
  refine lv (d := 4) rfl rfl (by kernel_rfl) (e_fieldAddr (b := g7) (off := 0) (o := 0) Try.underlying68 rfl rfl (sz := 1) (by kernel_rfl) (by decide) (by kernel_rfl)) ?_
  refine lv (d := 5) rfl rfl (by kernel_rfl) (e_load1 (ad := ⟨g7, 0 + 0, none⟩) (v := .int .i64 x1.kind) Try.underlying3 rfl (by kernel_rfl) ((cell_of_row _ _ _ _ _ _ b8).trans rfl)) ?_
  refine lv (d := 6) rfl rfl (by kernel_rfl) (e_fieldAddr (b := g21) (off := 0) (o := 0) Try.underlying65 rfl rfl (sz := 1) (by kernel_rfl) (by decide) (by kernel_rfl)) ?_
  refine lse rfl rfl (by kernel_rfl) (e_store (g := g21) (o := 0 + 0) (v := .int .i64 x1.kind) (cur' := #[.int .i64 x1.kind, .int .i64 0, .slice none 0 0]) (vs := [.int .i64 x1.kind]) (by kernel_rfl) (by kernel_rfl) rfl (by kernel_rfl) b22 (thaw0 _) (Nat.le_of_ble_eq_true rfl) (List.forall_mem_cons.2 ⟨rfl, (fun _ h_ => by cases h_)⟩) rfl) ?_
  rintro w27 ⟨b28, C29, s30⟩
  have z31 := C29.size
  replace b8 := C29.heap b8 (by simp; omega)
  replace h4 := Rd.move (fp_chg C29 (by omega) (by simp)) h4
  replace b15 := C29.heap b15 (by simp; omega)
  replace hC := hC.step C29 (fun o_ h_ => by simp only [List.mem_singleton] at h_; subst h_; exact .inr (fun b_ e_ => by injection e_ with e_; omega))
  refine wpList_nil ?_
  refine then_n ?_
  refine wp_seq ?_
  refine wp_region_lit ?_
  refine lv (d := 7) rfl rfl (by kernel_rfl) (e_fieldAddr (b := g7) (off := 0) (o := 1) Try.underlying68 rfl rfl (sz := 1) (by kernel_rfl) (by decide) (by kernel_rfl)) ?_
  refine lv (d := 8) rfl rfl (by kernel_rfl) (e_load1 (ad := ⟨g7, 0 + 1, none⟩) (v := .int .i64 x1.n) Try.underlying3 rfl (by kernel_rfl) ((cell_of_row _ _ _ _ _ _ b8).trans rfl)) ?_
  refine lv (d := 9) rfl rfl (by kernel_rfl) (e_fieldAddr (b := g21) (off := 0) (o := 1) Try.underlying65 rfl rfl (sz := 1) (by kernel_rfl) (by decide) (by kernel_rfl)) ?_
  refine lse rfl rfl (by kernel_rfl) (e_store (g := g21) (o := 0 + 1) (v := .int .i64 x1.n) (cur' := #[.int .i64 x1.kind, .int .i64 x1.n, .slice none 0 0]) (vs := [.int .i64 x1.n]) (by kernel_rfl) (by kernel_rfl) rfl (by kernel_rfl) b28 (thaw0 _) (Nat.le_of_ble_eq_true rfl) (List.forall_mem_cons.2 ⟨rfl, (fun _ h_ => by cases h_)⟩) rfl) ?_
  rintro w32 ⟨b33, C34, s35⟩
  have z36 := C34.size
  replace b8 := C34.heap b8 (by simp; omega)
  replace h4 := Rd.move (fp_chg C34 (by omega) (by simp)) h4
  replace b15 := C34.heap b15 (by simp; omega)
  replace hC := hC.step C34 (fun o_ h_ => by simp only [List.mem_singleton] at h_; subst h_; exact .inr (fun b_ e_ => by injection e_ with e_; omega))
  refine wpList_nil ?_
  refine then_n ?_
  refine wp_seq ?_
  refine wp_region_lit ?_
  refine lv (d := 10) rfl rfl (by kernel_rfl) (e_fieldAddr (b := g7) (off := 0) (o := 2) Try.underlying68 rfl rfl (sz := 1) (by kernel_rfl) (by decide) (by kernel_rfl)) ?_
  refine lv (d := 11) rfl rfl (by kernel_rfl) (e_load1 (ad := ⟨g7, 0 + 2, none⟩) (v := .slice A2 x1.text.length c3) Try.underlying59 rfl (by kernel_rfl) ((cell_of_row _ _ _ _ _ _ b8).trans rfl)) ?_
  obtain ⟨t37, u38, H⟩ := bnd H
  refine lcall (d := 12) rfl rfl (by kernel_rfl) (e_call (l := [.tmp 11]) (vs := [.slice A2 x1.text.length c3]) Try.func103 (by kernel_rfl) rfl (by kernel_rfl) rfl) (laws_toByteS.calls k w32 (FP (fw F w.heap.size) w32.heap.size [some g21, some g14, some g7]) x1.text A2 c3 (Rd.mono (fp_sub (fun _ h_ => .inl h_) (by omega) (by simp)) h4) l5 t37 u38) ?_
  rintro _ w42 ⟨A39, c40, rfl, h41, C43⟩
  refine ⟨_, rfl, ?_⟩
  have u44 : Lt [some g21, some g14, some g7] w32.heap.size := (Lt.blk b33 (Lt.blk b15 (Lt.blk b8 (Lt.nil _))))
  have z45 := C43.size
  replace b15 := C43.heap b15 (by simp)
  replace b33 := C43.heap b33 (by simp)
  replace hC := hC.step C43 (fun _ h_ => by cases h_)
  replace h41 := Row.mono (fp_fresh u44) h41
  refine lv (d := 13) rfl rfl (by kernel_rfl) (e_fieldAddr (b := g21) (off := 0) (o := 2) Try.underlying65 rfl rfl (sz := 1) (by kernel_rfl) (by decide) (by kernel_rfl)) ?_
  refine lse rfl rfl (by kernel_rfl) (e_store (g := g21) (o := 0 + 2) (v := .slice A39 t37.length c40) (cur' := #[.int .i64 x1.kind, .int .i64 x1.n, .slice A39 t37.length c40]) (vs := [.slice A39 t37.length c40]) (by kernel_rfl) (by kernel_rfl) rfl (by kernel_rfl) b33 (thaw0 _) (Nat.le_of_ble_eq_true rfl) (List.forall_mem_cons.2 ⟨rfl, (fun _ h_ => by cases h_)⟩) rfl) ?_
  rintro w46 ⟨b47, C48, s49⟩
  have z50 := C48.size
  replace b15 := C48.heap b15 (by simp; omega)
  replace h41 := Row.move (fp_chg C48 (by omega) (by simp)) h41
  replace hC := hC.step C48 (fun o_ h_ => by simp only [List.mem_singleton] at h_; subst h_; exact .inr (fun b_ e_ => by injection e_ with e_; omega))
  refine wpList_nil ?_
  refine then_n ?_
  refine wp_seq ?_
  refine wp_region_lit ?_
  refine lv (d := 14) rfl rfl (by kernel_rfl) (e_loadS (b := g21) (off := 0) (cs := [.int .i64 x1.kind, .int .i64 x1.n, .slice A39 t37.length c40]) Try.underlying65 rfl (by kernel_rfl) (by kernel_rfl) (blk_cell b47 rfl)) ?_
  refine lse rfl rfl (by kernel_rfl) (e_store (g := g14) (o := 0) (v := .agg #[.int .i64 x1.kind, .int .i64 x1.n, .slice A39 t37.length c40]) (cur' := #[.int .i64 x1.kind, .int .i64 x1.n, .slice A39 t37.length c40]) (vs := [.int .i64 x1.kind, .int .i64 x1.n, .slice A39 t37.length c40]) (by kernel_rfl) (by kernel_rfl) rfl (by kernel_rfl) b15 (thaw0 _) (Nat.le_of_ble_eq_true rfl) (List.forall_mem_cons.2 ⟨rfl, (List.forall_mem_cons.2 ⟨rfl, (List.forall_mem_cons.2 ⟨rfl, (fun _ h_ => by cases h_)⟩)⟩)⟩) rfl) ?_
  rintro w51 ⟨b52, C53, s54⟩
  have z55 := C53.size
  replace h41 := Row.move (fp_chg C53 (by omega) (by simp)) h41
  replace hC := hC.step C53 (fun o_ h_ => by simp only [List.mem_singleton] at h_; subst h_; exact .inr (fun b_ e_ => by injection e_ with e_; omega))
  refine wpList_nil ?_
  refine then_n ?_
  refine wp_ret ?_
  obtain rfl := Option.some.inj H
  exact retS (ty := 65) (cur := #[.int .i64 x1.kind, .int .i64 x1.n, .slice A39 t37.length c40]) rfl rfl (by kernel_rfl) b52 Try.underlying65 rfl (by kernel_rfl) ⟨A39, c40, rfl, (h41.mono (fp_sub (fun q_ h_ => by simp only [ge] at h_ ⊢; omega) (by omega) (by simp))), hC⟩

/-! laws.toCellS -/
def st65 : Ty Cell := iso (pair tInt (pair tInt sl5)) (fun x => (x.kind, x.n, x.text))
theorem st65_open {w : World} {F : Foot} {x : Cell} {cs : List Value} (h : st65.R w F x cs) : ∃ (A2 : Option Addr) (c2 : Nat), cs = [.int .i64 x.kind, .int .i64 x.n, .slice A2 x.text.length c2] ∧ x.text.length ≤ c2 ∧ Rd tByte w F A2 x.text := by
  obtain ⟨_, _, rfl, rfl, ⟨_, _, rfl, rfl, ⟨A2, c2, rfl, l2, h2⟩⟩⟩ := h
  exact ⟨A2, c2, rfl, l2, h2⟩
theorem st65_mkR {w : World} {F : Foot} {x : Cell} {A2 : Option Addr} {c2 : Nat} (l2 : x.text.length ≤ c2) (h2 : Rd tByte w F A2 x.text) : st65.R w F x [.int .i64 x.kind, .int .i64 x.n, .slice A2 x.text.length c2] := ⟨[.int .i64 x.kind], [.int .i64 x.n, .slice A2 x.text.length c2], rfl, rfl, ⟨[.int .i64 x.n], [.slice A2 x.text.length c2], rfl, rfl, ⟨A2, c2, rfl, l2, h2⟩⟩⟩
theorem st65_mkO {w : World} {F : Foot} {x : Cell} {A2 : Option Addr} {c2 : Nat} (h2 : Row tByte 5 w F A2 c2 x.text) : st65.O w F x [.int .i64 x.kind, .int .i64 x.n, .slice A2 x.text.length c2] := (pairO0 (a := tInt) (b := (pair tInt sl5)) (x := (x.kind, (x.n, x.text))) (c0 := [.int .i64 x.kind]) (c1 := [.int .i64 x.n, .slice A2 x.text.length c2]) rfl (pairO0 (a := tInt) (b := sl5) (x := (x.n, x.text)) (c0 := [.int .i64 x.n]) (c1 := [.slice A2 x.text.length c2]) rfl ⟨A2, c2, rfl, h2⟩))
def z65 : Cell := ⟨(0 : Int), (0 : Int), ([] : List UInt8)⟩
theorem z65_O (w : World) : st65.O w (fun _ => False) z65 [.int .i64 (0 : Int), .int .i64 (0 : Int), .slice none 0 0] := st65_mkO (x := z65) (Row.nil _ _ _ _)
def laws_toCellS.l0 : Nat → (List Cell) → (List Cell) → Int → Option (List Cell)
  | 0, _, _, _ => none
  | k29 + 1, x1, x19, x24 => (if x24 < (x1.length : Int) then (if 0 ≤ x24 then ((laws_toCell.f k29 (x1.getD (x24).toNat z68)).bind fun t42 => (if x24 < (x19.length : Int) then (laws_toCellS.l0 k29 x1 (x19.set ((x24).toNat) t42) (IntKind.i64.wrap (x24 + 1))) else none)) else none) else some x19)
def laws_toCellS.f (k : Nat) (x1 : List Cell) : Option (List Cell) := (if 0 ≤ (x1.length : Int) then (if ((x1.length : Int)).toNat ≤ 7036874417766 then (laws_toCellS.l0 k x1 (List.replicate ((x1.length : Int)).toNat z65) 0) else none) else none)
theorem laws_toCellS.calls (k : Nat) (w : World) (F : Foot) (x1 : List Cell) (A2 : Option Addr) (c3 : Nat) (h4 : Rd st68 w F A2 x1) (l5 : x1.length ≤ c3) (r : List Cell) (H : laws_toCellS.f k x1 = some r) :
    Calls Try.prog 16 #[.slice A2 x1.length c3] w (fun e e_w => ∃ (A_0 : Option Addr) (c_0 : Nat), e = .returned (.slice A_0 r.length c_0) ∧ Row st65 65 e_w (FP (ge w.heap.size) e_w.heap.size []) A_0 c_0 r ∧ Chg [] w e_w) := by
  rw [laws_toCellS.f] at H
  refine enter (l := [.slice A2 x1.length c3]) 23 Try.func16 rfl rfl rfl ?_
  replace h4 := rd_canonF (by decide) h4
  have hC := Chg.refl [] w
  refine wp_seq ?_
  refine wp_region_lit ?_
  refine lv (d := 2) rfl rfl (by kernel_rfl) (e_assign (v := .slice none 0 0) rfl) ?_
  refine wpList_nil ?_
  refine then_n ?_
  refine wp_seq ?_
  refine wp_region_lit ?_
  refine lv (d := 5) rfl rfl (by kernel_rfl) (e_move (v := .slice A2 x1.length c3) (by kernel_rfl)) ?_
  refine lv (d := 6) rfl rfl (by kernel_rfl) (e_len (A := A2) (n := x1.length) (c := c3) Try.underlying22 (by kernel_rfl)) ?_
  obtain ⟨q6, H⟩ := chk H
  obtain ⟨q7, H⟩ := chk H
  refine lve (d := 7) rfl rfl (by kernel_rfl) (e_make' (d := st65) (k := .i64) (k2 := .i64) (n := (x1.length : Int)) (z := .agg #[.int .i64 0, .int .i64 0, .slice none 0 0]) (zx := z65) (bytes := 40) Try.underlying25 (by kernel_rfl) rfl (by decide) z65_O (by kernel_rfl) (by kernel_rfl) q6 (by omega) (by omega)) ?_
  rintro _ w8 ⟨A9, c10, rfl, h11, C12, n13⟩
  have u14 : Lt [] w.heap.size := (Lt.nil _)
  have z15 := C12.size
  replace h4 := Rd.move (fp_chg C12 (by omega) (by simp)) h4
  replace hC := hC.step C12 (fun _ h_ => by cases h_)
  replace h4 := Rd.mono (fp_cons (fun b_ e_ => by have := n13 b_ e_; omega)) h4
  replace h11 := row_canon (L := ge w.heap.size) (M := []) h11 (fun b_ h_ _ => ⟨h_, fun hm_ => by have := u14 _ hm_ b_ rfl; omega⟩)
  refine lv (d := 3) rfl rfl (by kernel_rfl) (e_assign (v := .slice A9 (List.replicate ((x1.length : Int)).toNat z65).length c10) (by kernel_rfl)) ?_
  refine wpList_nil ?_
  refine then_n ?_
  refine wp_seq ?_
  refine wp_seq ?_
  refine wp_region_lit ?_
  refine lv (d := 4) rfl rfl (by kernel_rfl) (e_assign (v := .int .i64 0) rfl) ?_
  refine wpList_nil ?_
  refine then_n ?_
  refine wp_block ?_
  refine wp_loop_g (fun k27 a28 w16 => ∃ (f17 : Nat → Value) (x19 : List Cell) (A20 : Option Addr) (c21 : Nat) (x24 : Int), a28 = mk 23 f17 ∧ f17 0 = .slice A2 x1.length c3 ∧ f17 3 = .slice A20 x19.length c21 ∧ f17 4 = .int .i64 x24 ∧ Rd st68 w16 (FP F w.heap.size [bk A20]) A2 x1 ∧ Row st65 65 w16 (FP (ge w.heap.size) w16.heap.size []) A20 c21 x19 ∧ Chg [] w w16 ∧ w8.heap.size ≤ w16.heap.size ∧ laws_toCellS.l0 k27 x1 x19 x24 = some r) k ⟨_, (List.replicate ((x1.length : Int)).toNat z65), A9, c10, 0, rfl, (by kernel_rfl), (by kernel_rfl), (by kernel_rfl), (Rd.mono (fp_sub (fun _ h_ => h_) (by omega) (by simp [bk])) h4), (Row.mono (fp_sub (fun _ h_ => h_) (by omega) (by simp [bk])) h11), hC, (by omega), H⟩ ?_
  rintro k27 a28 w16 ⟨f17, x19, A20, c21, x24, rfl, e18, e23, e25, h4, h22, hC, z26, H⟩
  rcases k27 with _ | k29
  · rw [laws_toCellS.l0] at H
    cases H
  rw [laws_toCellS.l0] at H
  refine wp_seq ?_
  refine wp_seq ?_
  refine wp_region_lit ?_
  refine lv (d := 8) rfl rfl (by kernel_rfl) (e_move (v := .int .i64 x24) (by exact e25)) ?_
  refine lv (d := 9) rfl rfl (by kernel_rfl) (e_move (v := .slice A2 x1.length c3) (by exact e18)) ?_
  refine lv (d := 10) rfl rfl (by kernel_rfl) (e_len (A := A2) (n := x1.length) (c := c3) Try.underlying22 (by kernel_rfl)) ?_
  refine lv (d := 11) rfl rfl (by kernel_rfl) (e_lss (k := .i64) (a := x24) (b := (x1.length : Int)) (by kernel_rfl) (by kernel_rfl)) ?_
  refine wpList_nil ?_
  refine then_n ?_
  by_cases q30 : x24 < (x1.length : Int)
  · replace H := ifp q30 H
    refine cond_t rfl (bt q30 (by kernel_rfl)) ?_
    refine wp_skip ?_
    refine then_n ?_
    refine wp_seq ?_
    refine wp_block ?_
    refine wp_region_lit ?_
    refine lv (d := 14) rfl rfl (by kernel_rfl) (e_move (v := .slice A20 x19.length c21) (by exact e23)) ?_
    refine lv (d := 15) rfl rfl (by kernel_rfl) (e_move (v := .int .i64 x24) (by exact e25)) ?_
    refine lv (d := 16) rfl rfl (by kernel_rfl) (e_move (v := .slice A2 x1.length c3) (by exact e18)) ?_
    refine lv (d := 17) rfl rfl (by kernel_rfl) (e_move (v := .int .i64 x24) (by exact e25)) ?_
    obtain ⟨q31, H⟩ := chk H
    obtain ⟨b32, o33, y34, e37, _, r35, k36⟩ := Rd.get h4 (x24).toNat _ (getD_some z68 (by omega))
    obtain ⟨A38, c39, rfl, l40, h41⟩ := st68_open r35
    refine lv (d := 18) rfl rfl (by kernel_rfl) (e_indexAddr (b := b32) (off := o33) (n := x1.length) (c := c3) (sz := 3) (i := x24) (k := .i64) Try.underlying22 e37 (by kernel_rfl) (by kernel_rfl) (by kernel_rfl) q31 q30) ?_
    refine lv (d := 19) rfl rfl (by kernel_rfl) (e_loadS (b := b32) (off := o33 + (x24 : Int).toNat * 3) (cs := [.int .i64 ((x1.getD (x24).toNat z68).kind), .int .i64 ((x1.getD (x24).toNat z68).n), .slice A38 ((x1.getD (x24).toNat z68).text).length c39]) Try.underlying68 rfl (by kernel_rfl) (by kernel_rfl) k36) ?_
    obtain ⟨t42, u43, H⟩ := bnd H
    refine lcall (d := 20) rfl rfl (by kernel_rfl) (e_call (l := [.tmp 19]) (vs := [.agg #[.int .i64 ((x1.getD (x24).toNat z68).kind), .int .i64 ((x1.getD (x24).toNat z68).n), .slice A38 ((x1.getD (x24).toNat z68).text).length c39]]) Try.func57 (by kernel_rfl) rfl (by kernel_rfl) rfl) (laws_toCell.calls k29 w16 (FP (fw F w.heap.size) w16.heap.size [bk A20]) (x1.getD (x24).toNat z68) A38 c39 (Rd.mono (fp_sub (fun _ h_ => .inl h_) (by omega) (by simp)) h41) l40 t42 u43) ?_
    rintro _ w47 ⟨A44, c45, rfl, h46, C48⟩
    refine ⟨_, rfl, ?_⟩
    have u49 : Lt [bk A20] w16.heap.size := (Lt.cons (row_lt h22) (Lt.nil _))
    have z50 := C48.size
    replace h4 := Rd.move (fp_chg C48 (by omega) (by simp)) h4
    replace h22 := Row.move (fp_chg C48 (by omega) (by simp)) h22
    replace hC := hC.step C48 (fun _ h_ => by cases h_)
    replace h46 := Row.mono (fp_fresh u49) h46
    obtain ⟨q51, H⟩ := chk H
    obtain ⟨b52, o53, y54, e57, _, r55, k56⟩ := Row.get h22 (x24).toNat _ (getD_some z65 (by omega))
    obtain ⟨A58, c59, rfl, l60, h61⟩ := st65_open r55
    replace h61 := Rd.mono (fp_self (N := [bk A20]) (by simp)) h61
    refine lv (d := 21) rfl rfl (by kernel_rfl) (e_indexAddr (b := b52) (off := o53) (n := x19.length) (c := c21) (sz := 3) (i := x24) (k := .i64) Try.underlying25 e57 (by kernel_rfl) (by kernel_rfl) (by kernel_rfl) q31 q51) ?_
    refine lse rfl rfl (by kernel_rfl) (e_setel (d := st65) (b := b52) (off := o53) (i := (x24).toNat) (v := .agg #[.int .i64 t42.kind, .int .i64 t42.n, .slice A44 t42.text.length c45]) (vs := [.int .i64 t42.kind, .int .i64 t42.n, .slice A44 t42.text.length c45]) (yv := t42) (F2 := (FP (ge w16.heap.size) w47.heap.size [bk A20])) (by kernel_rfl) e57 (by kernel_rfl) rfl (by kernel_rfl) h22 (by omega) (st65_mkO (x := t42) h46) (fun _ q_ h1_ h2_ => by obtain ⟨_, h1_, _⟩ := h1_; obtain ⟨h2_, _, _⟩ := h2_; simp only [ge] at h2_; omega) (fun g_ e_ h_ => h_.2.2 (by rw [← e_]; simp))) ?_
    rintro w62 ⟨h63, C64, s65⟩
    have z66 := C64.size
    replace h4 := Rd.move (fp_chg C64 (by omega) (by simp)) h4
    replace hC := hC.step C64 (fun o_ h_ => by simp only [List.mem_singleton] at h_; subst h_; exact .inr (fun b_ e_ => by have q_ := (h22.own b_ e_).1.1; simp only [ge] at q_; omega))
    replace h63 := row_or (N := []) h63 (fun q_ h_ => by simp only [ge] at h_ ⊢; omega) (by simp) (by simp)
    refine wpList_nil ?_
    refine inb_n ?_
    refine then_n ?_
    refine wp_region_lit ?_
    refine lv (d := 12) rfl rfl (by kernel_rfl) (e_move (v := .int .i64 x24) (by exact e25)) ?_
    refine lv (d := 13) rfl rfl (by kernel_rfl) (e_add (k := .i64) (a := x24) (b := 1) (by kernel_rfl) rfl) ?_
    refine lv (d := 4) rfl rfl (by kernel_rfl) (e_assign (v := .int .i64 (IntKind.i64.wrap (x24 + 1))) (by kernel_rfl)) ?_
    refine wpList_nil ?_
    refine then_n ?_
    exact ⟨k29, (by omega), _, (x19.set ((x24).toNat) t42), A20, c21, (IntKind.i64.wrap (x24 + 1)), rfl, (by exact e18), (by simp only [List.length_set]; exact (by exact e23)), (by kernel_rfl), (Rd.mono (fp_sub (fun _ h_ => h_) (by omega) (by simp [bk])) h4), (Row.mono (fp_sub (fun _ h_ => h_) (by omega) (by simp [bk])) h63), hC, (by omega), H⟩
  replace H := ifn q30 H
  refine cond_f rfl (bf q30 (by kernel_rfl)) ?_
  refine wp_exit ?_
  refine then_e ?_
  refine then_e ?_
  refine inb_hit ?_
  refine then_n ?_
  refine wp_seq ?_
  refine wp_region_lit ?_
  refine lv (d := 22) rfl rfl (by kernel_rfl) (e_move (v := .slice A20 x19.length c21) (by exact e23)) ?_
  refine lv (d := 2) rfl rfl (by kernel_rfl) (e_assign (v := .slice A20 x19.length c21) (by kernel_rfl)) ?_
  refine wpList_nil ?_
  refine then_n ?_
  refine wp_ret ?_
  obtain rfl := Option.some.inj H
  exact ret1 (rfl) rfl  (show _ = .slice A20 x19.length c21 from (by kernel_rfl)) ⟨A20, c21, rfl, (h22.mono (fp_sub (fun _ h_ => h_) (by omega) (by simp))), hC⟩

/-! laws.eqByteS -/
def laws_eqByteS.l0 : Nat → (List UInt8) → (List UInt8) → Int → Option Bool
  | 0, _, _, _ => none
  | k21 + 1, x1, x6, x16 => (if x16 < (x1.length : Int) then (if 0 ≤ x16 then (if x16 < (x6.length : Int) then (if ((x1.getD (x16).toNat (0 : UInt8)).toNat : Int) ≠ ((x6.getD (x16).toNat (0 : UInt8)).toNat : Int) then some false else (laws_eqByteS.l0 k21 x1 x6 (IntKind.i64.wrap (x16 + 1)))) else none) else none) else some true)
def laws_eqByteS.f (k : Nat) (x1 : List UInt8) (x6 : List UInt8) : Option Bool := (if (x1.length : Int) ≠ (x6.length : Int) then some false else (laws_eqByteS.l0 k x1 x6 0))
theorem laws_eqByteS.calls (k : Nat) (w : World) (F : Foot) (x1 : List UInt8) (A2 : Option Addr) (c3 : Nat) (x6 : List UInt8) (A7 : Option Addr) (c8 : Nat) (h4 : Rd tByte w F A2 x1) (l5 : x1.length ≤ c3) (h9 : Rd tByte w F A7 x6) (l10 : x6.length ≤ c8) (r : Bool) (H : laws_eqByteS.f k x1 x6 = some r) :
    Calls Try.prog 104 #[.slice A2 x1.length c3, .slice A7 x6.length c8] w (fun e e_w => e = .returned (.bool r) ∧ Chg [] w e_w) := by
  rw [laws_eqByteS.f] at H
  refine enter (l := [.slice A2 x1.length c3, .slice A7 x6.length c8]) 26 Try.func104 rfl rfl rfl ?_
  replace h4 := rd_canonF (by decide) h4
  replace h9 := rd_canonF (by decide) h9
  have hC := Chg.refl [] w
  refine wp_seq ?_
  refine wp_region_lit ?_
  refine lv (d := 4) rfl rfl (by kernel_rfl) (e_assign (v := .bool false) rfl) ?_
  refine wpList_nil ?_
  refine then_n ?_
  refine wp_seq ?_
  refine wp_seq ?_
  refine wp_region_lit ?_
  refine lv (d := 6) rfl rfl (by kernel_rfl) (e_move (v := .slice A2 x1.length c3) (by kernel_rfl)) ?_
  refine lv (d := 7) rfl rfl (by kernel_rfl) (e_len (A := A2) (n := x1.length) (c := c3) Try.underlying59 (by kernel_rfl)) ?_
  refine lv (d := 8) rfl rfl (by kernel_rfl) (e_move (v := .slice A7 x6.length c8) (by kernel_rfl)) ?_
  refine lv (d := 9) rfl rfl (by kernel_rfl) (e_len (A := A7) (n := x6.length) (c := c8) Try.underlying59 (by kernel_rfl)) ?_
  refine lv (d := 10) rfl rfl (by kernel_rfl) (e_neq (k := .i64) (a := (x1.length : Int)) (b := (x6.length : Int)) (by kernel_rfl) (by kernel_rfl)) ?_
  refine wpList_nil ?_
  refine then_n ?_
  by_cases q11 : (x1.length : Int) ≠ (x6.length : Int)
  · replace H := ifp q11 H
    refine cond_t rfl (bt q11 (by kernel_rfl)) ?_
    refine wp_seq ?_
    refine wp_region_lit ?_
    refine lv (d := 4) rfl rfl (by kernel_rfl) (e_assign (v := .bool false) rfl) ?_
    refine wpList_nil ?_
    refine then_n ?_
    refine wp_ret ?_
    refine then_r ?_
    obtain rfl := Option.some.inj H
    exact ret1 (rfl) rfl  (show _ = .bool false from (by kernel_rfl)) ⟨rfl, hC⟩
  replace H := ifn q11 H
  refine cond_f rfl (bf q11 (by kernel_rfl)) ?_
  refine wp_skip ?_
  refine then_n ?_
  refine wp_seq ?_
  refine wp_seq ?_
  refine wp_region_lit ?_
  refine lv (d := 5) rfl rfl (by kernel_rfl) (e_assign (v := .int .i64 0) rfl) ?_
  refine wpList_nil ?_
  refine then_n ?_
  refine wp_block ?_
  refine wp_loop_g (fun k19 a20 w12 => ∃ (f13 : Nat → Value) (x16 : Int), a20 = mk 26 f13 ∧ f13 0 = .slice A2 x1.length c3 ∧ f13 1 = .slice A7 x6.length c8 ∧ f13 5 = .int .i64 x16 ∧ Rd tByte w12 (FP F w.heap.size []) A2 x1 ∧ Rd tByte w12 (FP F w.heap.size []) A7 x6 ∧ Chg [] w w12 ∧ w.heap.size ≤ w12.heap.size ∧ laws_eqByteS.l0 k19 x1 x6 x16 = some r) k ⟨_, 0, rfl, (by kernel_rfl), (by kernel_rfl), (by kernel_rfl), (Rd.mono (fp_sub (fun _ h_ => h_) (by omega) (by simp [bk])) h4), (Rd.mono (fp_sub (fun _ h_ => h_) (by omega) (by simp [bk])) h9), hC, (by omega), H⟩ ?_
  rintro k19 a20 w12 ⟨f13, x16, rfl, e14, e15, e17, h4, h9, hC, z18, H⟩
  rcases k19 with _ | k21
  · rw [laws_eqByteS.l0] at H
    cases H
  rw [laws_eqByteS.l0] at H
  refine wp_seq ?_
  refine wp_seq ?_
  refine wp_region_lit ?_
  refine lv (d := 11) rfl rfl (by kernel_rfl) (e_move (v := .int .i64 x16) (by exact e17)) ?_
  refine lv (d := 12) rfl rfl (by kernel_rfl) (e_move (v := .slice A2 x1.length c3) (by exact e14)) ?_
  refine lv (d := 13) rfl rfl (by kernel_rfl) (e_len (A := A2) (n := x1.length) (c := c3) Try.underlying59 (by kernel_rfl)) ?_
  refine lv (d := 14) rfl rfl (by kernel_rfl) (e_lss (k := .i64) (a := x16) (b := (x1.length : Int)) (by kernel_rfl) (by kernel_rfl)) ?_
  refine wpList_nil ?_
  refine then_n ?_
  by_cases q22 : x16 < (x1.length : Int)
  · replace H := ifp q22 H
    refine cond_t rfl (bt q22 (by kernel_rfl)) ?_
    refine wp_skip ?_
    refine then_n ?_
    refine wp_seq ?_
    refine wp_block ?_
    refine wp_seq ?_
    refine region_still (by kernel_rfl) (by kernel_rfl) ?_
    intro w23 C24 _
    have z25 := C24.size
    replace h4 := Rd.move (fp_chg C24 (by omega) (by simp)) h4
    replace h9 := Rd.move (fp_chg C24 (by omega) (by simp)) h9
    replace hC := hC.step C24 (fun _ h_ => by cases h_)
    refine sv (d := 17) rfl rfl (by kernel_rfl) (e_move (v := .slice A2 x1.length c3) (by exact e14)) ?_
    refine sv (d := 18) rfl rfl (by kernel_rfl) (e_move (v := .int .i64 x16) (by exact e17)) ?_
    obtain ⟨q26, H⟩ := chk H
    obtain ⟨b27, o28, y29, e32, _, r30, k31⟩ := Rd.get h4 (x16).toNat _ (getD_some (0 : UInt8) (by omega))
    obtain rfl := r30
    refine sv (d := 19) rfl rfl (by kernel_rfl) (e_indexAddr (b := b27) (off := o28) (n := x1.length) (c := c3) (sz := 1) (i := x16) (k := .i64) Try.underlying59 e32 (by kernel_rfl) (by kernel_rfl) (by kernel_rfl) q26 q22) ?_
    refine sv (d := 20) rfl rfl (by kernel_rfl) (e_load1 (ad := ⟨b27, o28 + (x16 : Int).toNat * 1, none⟩) (v := .int .u8 ((x1.getD (x16).toNat (0 : UInt8)).toNat : Int)) Try.underlying5 rfl (by kernel_rfl) (k31 0 _ rfl)) ?_
    refine sv (d := 21) rfl rfl (by kernel_rfl) (e_move (v := .slice A7 x6.length c8) (by exact e15)) ?_
    refine sv (d := 22) rfl rfl (by kernel_rfl) (e_move (v := .int .i64 x16) (by exact e17)) ?_
    obtain ⟨q33, H⟩ := chk H
    obtain ⟨b34, o35, y36, e39, _, r37, k38⟩ := Rd.get h9 (x16).toNat _ (getD_some (0 : UInt8) (by omega))
    obtain rfl := r37
    refine sv (d := 23) rfl rfl (by kernel_rfl) (e_indexAddr (b := b34) (off := o35) (n := x6.length) (c := c8) (sz := 1) (i := x16) (k := .i64) Try.underlying59 e39 (by kernel_rfl) (by kernel_rfl) (by kernel_rfl) q26 q33) ?_
    refine sv (d := 24) rfl rfl (by kernel_rfl) (e_load1 (ad := ⟨b34, o35 + (x16 : Int).toNat * 1, none⟩) (v := .int .u8 ((x6.getD (x16).toNat (0 : UInt8)).toNat : Int)) Try.underlying5 rfl (by kernel_rfl) (k38 0 _ rfl)) ?_
    refine sv (d := 25) rfl rfl (by kernel_rfl) (e_neq (k := .u8) (a := ((x1.getD (x16).toNat (0 : UInt8)).toNat : Int)) (b := ((x6.getD (x16).toNat (0 : UInt8)).toNat : Int)) (by kernel_rfl) (by kernel_rfl)) ?_
    refine wpStill_nil ?_
    refine then_n ?_
    by_cases q40 : ((x1.getD (x16).toNat (0 : UInt8)).toNat : Int) ≠ ((x6.getD (x16).toNat (0 : UInt8)).toNat : Int)
    · replace H := ifp q40 H
      refine cond_t rfl (bt q40 (by kernel_rfl)) ?_
      refine wp_seq ?_
      refine wp_region_lit ?_
      refine lv (d := 4) rfl rfl (by kernel_rfl) (e_assign (v := .bool false) rfl) ?_
      refine wpList_nil ?_
      refine then_n ?_
      refine wp_ret ?_
      refine inb_r ?_
      refine then_r ?_
      refine then_r ?_
      refine inb_r ?_
      refine then_r ?_
      obtain rfl := Option.some.inj H
      exact ret1 (rfl) rfl  (show _ = .bool false from (by kernel_rfl)) ⟨rfl, hC⟩
    replace H := ifn q40 H
    refine cond_f rfl (bf q40 (by kernel_rfl)) ?_
    refine wp_skip ?_
    refine inb_n ?_
    refine then_n ?_
    refine wp_region_lit ?_
    refine lv (d := 15) rfl rfl (by kernel_rfl) (e_move (v := .int .i64 x16) (by exact e17)) ?_
    refine lv (d := 16) rfl rfl (by kernel_rfl) (e_add (k := .i64) (a := x16) (b := 1) (by kernel_rfl) rfl) ?_
    refine lv (d := 5) rfl rfl (by kernel_rfl) (e_assign (v := .int .i64 (IntKind.i64.wrap (x16 + 1))) (by kernel_rfl)) ?_
    refine wpList_nil ?_
    refine then_n ?_
    exact ⟨k21, (by omega), _, (IntKind.i64.wrap (x16 + 1)), rfl, (by exact e14), (by exact e15), (by kernel_rfl), (Rd.mono (fp_sub (fun _ h_ => h_) (by omega) (by simp [bk])) h4), (Rd.mono (fp_sub (fun _ h_ => h_) (by omega) (by simp [bk])) h9), hC, (by omega), H⟩
  replace H := ifn q22 H
  refine cond_f rfl (bf q22 (by kernel_rfl)) ?_
  refine wp_exit ?_
  refine then_e ?_
  refine then_e ?_
  refine inb_hit ?_
  refine then_n ?_
  refine wp_seq ?_
  refine wp_region_lit ?_
  refine lv (d := 4) rfl rfl (by kernel_rfl) (e_assign (v := .bool true) rfl) ?_
  refine wpList_nil ?_
  refine then_n ?_
  refine wp_ret ?_
  obtain rfl := Option.some.inj H
  exact ret1 (rfl) rfl  (show _ = .bool true from (by kernel_rfl)) ⟨rfl, hC⟩

/-! laws.eqCell -/
def laws_eqCell.f (k : Nat) (x1 : Cell) (x6 : Cell) : Option Bool := (if x1.kind ≠ x6.kind then some false else (if x1.n ≠ x6.n then some false else ((laws_eqByteS.f k x1.text x6.text).bind fun t27 => (if ¬ (t27 = true) then some false else some true))))
theorem laws_eqCell.calls (k : Nat) (w : World) (F : Foot) (x1 : Cell) (A2 : Option Addr) (c3 : Nat) (x6 : Cell) (A7 : Option Addr) (c8 : Nat) (h4 : Rd tByte w F A2 x1.text) (l5 : x1.text.length ≤ c3) (h9 : Rd tByte w F A7 x6.text) (l10 : x6.text.length ≤ c8) (r : Bool) (H : laws_eqCell.f k x1 x6 = some r) :
    Calls Try.prog 59 #[.agg #[.int .i64 x1.kind, .int .i64 x1.n, .slice A2 x1.text.length c3], .agg #[.int .i64 x6.kind, .int .i64 x6.n, .slice A7 x6.text.length c8]] w (fun e e_w => e = .returned (.bool r) ∧ Chg [] w e_w) := by
  rw [laws_eqCell.f] at H
  refine enter (l := [.agg #[.int .i64 x1.kind, .int .i64 x1.n, .slice A2 x1.text.length c3], .agg #[.int .i64 x6.kind, .int .i64 x6.n, .slice A7 x6.text.length c8]]) 21 Try.func59 rfl rfl rfl ?_
  replace h4 := rd_canonF (by decide) h4
  replace h9 := rd_canonF (by decide) h9
  have hC := Chg.refl [] w
  refine wp_seq ?_
  refine wp_region_lit ?_
  refine lve (d := 2) rfl rfl (by kernel_rfl) (new_blk (v := fun g_ => .pointer (some ⟨g_, 0, none⟩)) (cs := #[.int .i64 x1.kind, .int .i64 x1.n, .slice A2 x1.text.length c3]) (t := 65) (by kernel_rfl)) ?_
  rintro _ w11 ⟨g12, rfl, b13, n14, C15⟩
  have m16 := heap_lt b13
  have z17 := C15.size
  replace h9 := Rd.mono (fp_new (g := g12) (by omega)) (Rd.move (fp_chg C15 (by omega) (by simp)) h9)
  replace h4 := Rd.mono (fp_new (g := g12) (by omega)) (Rd.move (fp_chg C15 (by omega) (by simp)) h4)
  replace hC := hC.step C15 (fun _ h_ => by cases h_)
  refine lve (d := 3) rfl rfl (by kernel_rfl) (new_blk (v := fun g_ => .pointer (some ⟨g_, 0, none⟩)) (cs := #[.int .i64 x6.kind, .int .i64 x6.n, .slice A7 x6.text.length c8]) (t := 65) (by kernel_rfl)) ?_
  rintro _ w18 ⟨g19, rfl, b20, n21, C22⟩
  have m23 := heap_lt b20
  have z24 := C22.size
  replace b13 := C22.heap b13 (by simp)
  replace h4 := Rd.mono (fp_new (g := g19) (by omega)) (Rd.move (fp_chg C22 (by omega) (by simp)) h4)
  replace h9 := Rd.mono (fp_new (g := g19) (by omega)) (Rd.move (fp_chg C22 (by omega) (by simp)) h9)
  replace hC := hC.step C22 (fun _ h_ => by cases h_)
  refine lv (d := 4) rfl rfl (by kernel_rfl) (e_assign (v := .bool false) rfl) ?_
  refine wpList_nil ?_
  refine then_n ?_
  refine wp_seq ?_
  refine wp_seq ?_
  refine wp_region_lit ?_
  refine lv (d := 5) rfl rfl (by kernel_rfl) (e_fieldAddr (b := g12) (off := 0) (o := 0) Try.underlying65 rfl rfl (sz := 1) (by kernel_rfl) (by decide) (by kernel_rfl)) ?_
  refine lv (d := 6) rfl rfl (by kernel_rfl) (e_load1 (ad := ⟨g12, 0 + 0, none⟩) (v := .int .i64 x1.kind) Try.underlying3 rfl (by kernel_rfl) ((cell_of_row _ _ _ _ _ _ b13).trans rfl)) ?_
  refine lv (d := 7) rfl rfl (by kernel_rfl) (e_fieldAddr (b := g19) (off := 0) (o := 0) Try.underlying65 rfl rfl (sz := 1) (by kernel_rfl) (by decide) (by kernel_rfl)) ?_
  refine lv (d := 8) rfl rfl (by kernel_rfl) (e_load1 (ad := ⟨g19, 0 + 0, none⟩) (v := .int .i64 x6.kind) Try.underlying3 rfl (by kernel_rfl) ((cell_of_row _ _ _ _ _ _ b20).trans rfl)) ?_
  refine lv (d := 9) rfl rfl (by kernel_rfl) (e_neq (k := .i64) (a := x1.kind) (b := x6.kind) (by kernel_rfl) (by kernel_rfl)) ?_
  refine wpList_nil ?_
  refine then_n ?_
  by_cases q25 : x1.kind ≠ x6.kind
  · replace H := ifp q25 H
    refine cond_t rfl (bt q25 (by kernel_rfl)) ?_
    refine wp_seq ?_
    refine wp_region_lit ?_
    refine lv (d := 4) rfl rfl (by kernel_rfl) (e_assign (v := .bool false) rfl) ?_
    refine wpList_nil ?_
    refine then_n ?_
    refine wp_ret ?_
    refine then_r ?_
    obtain rfl := Option.some.inj H
    exact ret1 (rfl) rfl  (show _ = .bool false from (by kernel_rfl)) ⟨rfl, hC⟩
  replace H := ifn q25 H
  refine cond_f rfl (bf q25 (by kernel_rfl)) ?_
  refine wp_skip ?_
  refine then_n ?_
  refine wp_seq ?_
  refine wp_seq ?_
  refine wp_region_lit ?_
  refine lv (d := 10) rfl rfl (by kernel_rfl) (e_fieldAddr (b := g12) (off := 0) (o := 1) Try.underlying65 rfl rfl (sz := 1) (by kernel_rfl) (by decide) (by kernel_rfl)) ?_
  refine lv (d := 11) rfl rfl (by kernel_rfl) (e_load1 (ad := ⟨g12, 0 + 1, none⟩) (v := .int .i64 x1.n) Try.underlying3 rfl (by kernel_rfl) ((cell_of_row _ _ _ _ _ _ b13).trans rfl)) ?_
  refine lv (d := 12) rfl rfl (by kernel_rfl) (e_fieldAddr (b := g19) (off := 0) (o := 1) Try.underlying65 rfl rfl (sz := 1) (by kernel_rfl) (by decide) (by kernel_rfl)) ?_
  refine lv (d := 13) rfl rfl (by kernel_rfl) (e_load1 (ad := ⟨g19, 0 + 1, none⟩) (v := .int .i64 x6.n) Try.underlying3 rfl (by kernel_rfl) ((cell_of_row _ _ _ _ _ _ b20).trans rfl)) ?_
  refine lv (d := 14) rfl rfl (by kernel_rfl) (e_neq (k := .i64) (a := x1.n) (b := x6.n) (by kernel_rfl) (by kernel_rfl)) ?_
  refine wpList_nil ?_
  refine then_n ?_
  by_cases q26 : x1.n ≠ x6.n
  · replace H := ifp q26 H
    refine cond_t rfl (bt q26 (by kernel_rfl)) ?_
    refine wp_seq ?_
    refine wp_region_lit ?_
    refine lv (d := 4) rfl rfl (by kernel_rfl) (e_assign (v := .bool false) rfl) ?_
    refine wpList_nil ?_
    refine then_n ?_
    refine wp_ret ?_
    refine then_r ?_
    obtain rfl := Option.some.inj H
    exact ret1 (rfl) rfl  (show _ = .bool false from (by kernel_rfl)) ⟨rfl, hC⟩
  replace H := ifn q26 H
  refine cond_f rfl (bf q26 (by kernel_rfl)) ?_
  refine wp_skip ?_
  refine then_n ?_
  refine wp_seq ?_
  refine wp_seq ?_
  refine wp_region_lit ?_
  refine lv (d := 15) rfl rfl (by kernel_rfl) (e_fieldAddr (b := g12) (off := 0) (o := 2) Try.underlying65 rfl rfl (sz := 1) (by kernel_rfl) (by decide) (by kernel_rfl)) ?_
  refine lv (d := 16) rfl rfl (by kernel_rfl) (e_load1 (ad := ⟨g12, 0 + 2, none⟩) (v := .slice A2 x1.text.length c3) Try.underlying59 rfl (by kernel_rfl) ((cell_of_row _ _ _ _ _ _ b13).trans rfl)) ?_
  refine lv (d := 17) rfl rfl (by kernel_rfl) (e_fieldAddr (b := g19) (off := 0) (o := 2) Try.underlying65 rfl rfl (sz := 1) (by kernel_rfl) (by decide) (by kernel_rfl)) ?_
  refine lv (d := 18) rfl rfl (by kernel_rfl) (e_load1 (ad := ⟨g19, 0 + 2, none⟩) (v := .slice A7 x6.text.length c8) Try.underlying59 rfl (by kernel_rfl) ((cell_of_row _ _ _ _ _ _ b20).trans rfl)) ?_
  obtain ⟨t27, u28, H⟩ := bnd H
  refine lcall (d := 19) rfl rfl (by kernel_rfl) (e_call (l := [.tmp 16, .tmp 18]) (vs := [.slice A2 x1.text.length c3, .slice A7 x6.text.length c8]) Try.func104 (by kernel_rfl) rfl (by kernel_rfl) rfl) (laws_eqByteS.calls k w18 (FP (fw F w.heap.size) w18.heap.size [some g19, some g12]) x1.text A2 c3 x6.text A7 c8 (Rd.mono (fp_sub (fun _ h_ => .inl h_) (by omega) (by simp)) h4) l5 (Rd.mono (fp_sub (fun _ h_ => .inl h_) (by omega) (by simp)) h9) l10 t27 u28) ?_
  rintro _ w29 ⟨rfl, C30⟩
  refine ⟨_, rfl, ?_⟩
  have u31 : Lt [some g19, some g12] w18.heap.size := (Lt.blk b20 (Lt.blk b13 (Lt.nil _)))
  have z32 := C30.size
  replace hC := hC.step C30 (fun _ h_ => by cases h_)
  refine lv (d := 20) rfl rfl (by kernel_rfl) (e_notv (c := t27) (by kernel_rfl)) ?_
  refine wpList_nil ?_
  refine then_n ?_
  by_cases q33 : ¬ (t27 = true)
  · replace H := ifp q33 H
    refine cond_t rfl (bt q33 (by kernel_rfl)) ?_
    refine wp_seq ?_
    refine wp_region_lit ?_
    refine lv (d := 4) rfl rfl (by kernel_rfl) (e_assign (v := .bool false) rfl) ?_
    refine wpList_nil ?_
    refine then_n ?_
    refine wp_ret ?_
    refine then_r ?_
    obtain rfl := Option.some.inj H
    exact ret1 (rfl) rfl  (show _ = .bool false from (by kernel_rfl)) ⟨rfl, hC⟩
  replace H := ifn q33 H
  refine cond_f rfl (bf q33 (by kernel_rfl)) ?_
  refine wp_skip ?_
  refine then_n ?_
  refine wp_seq ?_
  refine wp_region_lit ?_
  refine lv (d := 4) rfl rfl (by kernel_rfl) (e_assign (v := .bool true) rfl) ?_
  refine wpList_nil ?_
  refine then_n ?_
  refine wp_ret ?_
  obtain rfl := Option.some.inj H
  exact ret1 (rfl) rfl  (show _ = .bool true from (by kernel_rfl)) ⟨rfl, hC⟩

/-! laws.eqCellS -/
def laws_eqCellS.l0 : Nat → (List Cell) → (List Cell) → Int → Option Bool
  | 0, _, _, _ => none
  | k21 + 1, x1, x6, x16 => (if x16 < (x1.length : Int) then (if 0 ≤ x16 then (if x16 < (x6.length : Int) then ((laws_eqCell.f k21 (x1.getD (x16).toNat z65) (x6.getD (x16).toNat z65)).bind fun t45 => (if ¬ (t45 = true) then some false else (laws_eqCellS.l0 k21 x1 x6 (IntKind.i64.wrap (x16 + 1))))) else none) else none) else some true)
def laws_eqCellS.f (k : Nat) (x1 : List Cell) (x6 : List Cell) : Option Bool := (if (x1.length : Int) ≠ (x6.length : Int) then some false else (laws_eqCellS.l0 k x1 x6 0))
theorem laws_eqCellS.calls (k : Nat) (w : World) (F : Foot) (x1 : List Cell) (A2 : Option Addr) (c3 : Nat) (x6 : List Cell) (A7 : Option Addr) (c8 : Nat) (h4 : Rd st65 w F A2 x1) (l5 : x1.length ≤ c3) (h9 : Rd st65 w F A7 x6) (l10 : x6.length ≤ c8) (r : Bool) (H : laws_eqCellS.f k x1 x6 = some r) :
    Calls Try.prog 18 #[.slice A2 x1.length c3, .slice A7 x6.length c8] w (fun e e_w => e = .returned (.bool r) ∧ Chg [] w e_w) := by
  rw [laws_eqCellS.f] at H
  refine enter (l := [.slice A2 x1.length c3, .slice A7 x6.length c8]) 27 Try.func18 rfl rfl rfl ?_
  replace h4 := rd_canonF (by decide) h4
  replace h9 := rd_canonF (by decide) h9
  have hC := Chg.refl [] w
  refine wp_seq ?_
  refine wp_region_lit ?_
  refine lv (d := 4) rfl rfl (by kernel_rfl) (e_assign (v := .bool false) rfl) ?_
  refine wpList_nil ?_
  refine then_n ?_
  refine wp_seq ?_
  refine wp_seq ?_
  refine wp_region_lit ?_
  refine lv (d := 6) rfl rfl (by kernel_rfl) (e_move (v := .slice A2 x1.length c3) (by kernel_rfl)) ?_
  refine lv (d := 7) rfl rfl (by kernel_rfl) (e_len (A := A2) (n := x1.length) (c := c3) Try.underlying25 (by kernel_rfl)) ?_
  refine lv (d := 8) rfl rfl (by kernel_rfl) (e_move (v := .slice A7 x6.length c8) (by kernel_rfl)) ?_
  refine lv (d := 9) rfl rfl (by kernel_rfl) (e_len (A := A7) (n := x6.length) (c := c8) Try.underlying25 (by kernel_rfl)) ?_
  refine lv (d := 10) rfl rfl (by kernel_rfl) (e_neq (k := .i64) (a := (x1.length : Int)) (b := (x6.length : Int)) (by kernel_rfl) (by kernel_rfl)) ?_
  refine wpList_nil ?_
  refine then_n ?_
  by_cases q11 : (x1.length : Int) ≠ (x6.length : Int)
  · replace H := ifp q11 H
    refine cond_t rfl (bt q11 (by kernel_rfl)) ?_
    refine wp_seq ?_
    refine wp_region_lit ?_
    refine lv (d := 4) rfl rfl (by kernel_rfl) (e_assign (v := .bool false) rfl) ?_
    refine wpList_nil ?_
    refine then_n ?_
    refine wp_ret ?_
    refine then_r ?_
    obtain rfl := Option.some.inj H
    exact ret1 (rfl) rfl  (show _ = .bool false from (by kernel_rfl)) ⟨rfl, hC⟩
  replace H := ifn q11 H
  refine cond_f rfl (bf q11 (by kernel_rfl)) ?_
  refine wp_skip ?_
  refine then_n ?_
  refine wp_seq ?_
  refine wp_seq ?_
  refine wp_region_lit ?_
  refine lv (d := 5) rfl rfl (by kernel_rfl) (e_assign (v := .int .i64 0) rfl) ?_
  refine wpList_nil ?_
  refine then_n ?_
  refine wp_block ?_
  refine wp_loop_g (fun k19 a20 w12 => ∃ (f13 : Nat → Value) (x16 : Int), a20 = mk 27 f13 ∧ f13 0 = .slice A2 x1.length c3 ∧ f13 1 = .slice A7 x6.length c8 ∧ f13 5 = .int .i64 x16 ∧ Rd st65 w12 (FP F w.heap.size []) A2 x1 ∧ Rd st65 w12 (FP F w.heap.size []) A7 x6 ∧ Chg [] w w12 ∧ w.heap.size ≤ w12.heap.size ∧ laws_eqCellS.l0 k19 x1 x6 x16 = some r) k ⟨_, 0, rfl, (by kernel_rfl), (by kernel_rfl), (by kernel_rfl), (Rd.mono (fp_sub (fun _ h_ => h_) (by omega) (by simp [bk])) h4), (Rd.mono (fp_sub (fun _ h_ => h_) (by omega) (by simp [bk])) h9), hC, (by omega), H⟩ ?_
  rintro k19 a20 w12 ⟨f13, x16, rfl, e14, e15, e17, h4, h9, hC, z18, H⟩
  rcases k19 with _ | k21
  · rw [laws_eqCellS.l0] at H
    cases H
  rw [laws_eqCellS.l0] at H
  refine wp_seq ?_
  refine wp_seq ?_
  refine wp_region_lit ?_
  refine lv (d := 11) rfl rfl (by kernel_rfl) (e_move (v := .int .i64 x16) (by exact e17)) ?_
  refine lv (d := 12) rfl rfl (by kernel_rfl) (e_move (v := .slice A2 x1.length c3) (by exact e14)) ?_
  refine lv (d := 13) rfl rfl (by kernel_rfl) (e_len (A := A2) (n := x1.length) (c := c3) Try.underlying25 (by kernel_rfl)) ?_
  refine lv (d := 14) rfl rfl (by kernel_rfl) (e_lss (k := .i64) (a := x16) (b := (x1.length : Int)) (by kernel_rfl) (by kernel_rfl)) ?_
  refine wpList_nil ?_
  refine then_n ?_
  by_cases q22 : x16 < (x1.length : Int)
  · replace H := ifp q22 H
    refine cond_t rfl (bt q22 (by kernel_rfl)) ?_
    refine wp_skip ?_
    refine then_n ?_
    refine wp_seq ?_
    refine wp_block ?_
    refine wp_seq ?_
    refine region_quiet (by kernel_rfl) (by kernel_rfl) ?_
    refine qv (d := 17) rfl rfl (by kernel_rfl) (fun wq_ hq_ => e_move (v := .slice A2 x1.length c3) (by exact e14)) ?_
    refine qv (d := 18) rfl rfl (by kernel_rfl) (fun wq_ hq_ => e_move (v := .int .i64 x16) (by exact e17)) ?_
    obtain ⟨q23, H⟩ := chk H
    obtain ⟨b24, o25, y26, e29, _, r27, k28⟩ := Rd.get h4 (x16).toNat _ (getD_some z65 (by omega))
    obtain ⟨A30, c31, rfl, l32, h33⟩ := st65_open r27
    refine qv (d := 19) rfl rfl (by kernel_rfl) (fun wq_ hq_ => e_indexAddr (b := b24) (off := o25) (n := x1.length) (c := c3) (sz := 3) (i := x16) (k := .i64) Try.underlying25 e29 (by kernel_rfl) (by kernel_rfl) (by kernel_rfl) q23 q22) ?_
    refine qv (d := 20) rfl rfl (by kernel_rfl) (fun wq_ hq_ => e_loadS (b := b24) (off := o25 + (x16 : Int).toNat * 3) (cs := [.int .i64 ((x1.getD (x16).toNat z65).kind), .int .i64 ((x1.getD (x16).toNat z65).n), .slice A30 ((x1.getD (x16).toNat z65).text).length c31]) Try.underlying65 rfl (by kernel_rfl) (by kernel_rfl) (fun j_ u_ e_ => hq_.cell (k28 j_ u_ e_) (by simp))) ?_
    refine qv (d := 21) rfl rfl (by kernel_rfl) (fun wq_ hq_ => e_move (v := .slice A7 x6.length c8) (by exact e15)) ?_
    refine qv (d := 22) rfl rfl (by kernel_rfl) (fun wq_ hq_ => e_move (v := .int .i64 x16) (by exact e17)) ?_
    obtain ⟨q34, H⟩ := chk H
    obtain ⟨b35, o36, y37, e40, _, r38, k39⟩ := Rd.get h9 (x16).toNat _ (getD_some z65 (by omega))
    obtain ⟨A41, c42, rfl, l43, h44⟩ := st65_open r38
    refine qv (d := 23) rfl rfl (by kernel_rfl) (fun wq_ hq_ => e_indexAddr (b := b35) (off := o36) (n := x6.length) (c := c8) (sz := 3) (i := x16) (k := .i64) Try.underlying25 e40 (by kernel_rfl) (by kernel_rfl) (by kernel_rfl) q23 q34) ?_
    refine qv (d := 24) rfl rfl (by kernel_rfl) (fun wq_ hq_ => e_loadS (b := b35) (off := o36 + (x16 : Int).toNat * 3) (cs := [.int .i64 ((x6.getD (x16).toNat z65).kind), .int .i64 ((x6.getD (x16).toNat z65).n), .slice A41 ((x6.getD (x16).toNat z65).text).length c42]) Try.underlying65 rfl (by kernel_rfl) (by kernel_rfl) (fun j_ u_ e_ => hq_.cell (k39 j_ u_ e_) (by simp))) ?_
    obtain ⟨t45, u46, H⟩ := bnd H
    refine qcall (v := .bool t45) (d := 25) rfl rfl (by kernel_rfl) (fun w_ => e_call (l := [.tmp 20, .tmp 24]) (vs := [.agg #[.int .i64 ((x1.getD (x16).toNat z65).kind), .int .i64 ((x1.getD (x16).toNat z65).n), .slice A30 ((x1.getD (x16).toNat z65).text).length c31], .agg #[.int .i64 ((x6.getD (x16).toNat z65).kind), .int .i64 ((x6.getD (x16).toNat z65).n), .slice A41 ((x6.getD (x16).toNat z65).text).length c42]]) Try.func59 (by kernel_rfl) rfl (by kernel_rfl) rfl) (fun w_ hq_ => laws_eqCell.calls k21 w_ (FP (fw F w.heap.size) w12.heap.size []) (x1.getD (x16).toNat z65) A30 c31 (x6.getD (x16).toNat z65) A41 c42 (Rd.mono (fp_sub (fun _ h_ => .inl h_) (by omega) (by simp)) (Rd.move (fp_chg hq_ (by omega) (by simp)) h33)) l32 (Rd.mono (fp_sub (fun _ h_ => .inl h_) (by omega) (by simp)) (Rd.move (fp_chg hq_ (by omega) (by simp)) h44)) l43 t45 u46) ?_
    refine qv (d := 26) rfl rfl (by kernel_rfl) (fun wq_ hq_ => e_notv (c := t45) (by kernel_rfl)) ?_
    refine wpQuiet_nil ?_
    intro w47 C48
    have z49 := C48.size
    replace h4 := Rd.move (fp_chg C48 (by omega) (by simp)) h4
    replace h9 := Rd.move (fp_chg C48 (by omega) (by simp)) h9
    replace hC := hC.step C48 (fun _ h_ => by cases h_)
    refine then_n ?_
    by_cases q50 : ¬ (t45 = true)
    · replace H := ifp q50 H
      refine cond_t rfl (bt q50 (by kernel_rfl)) ?_
      refine wp_seq ?_
      refine wp_region_lit ?_
      refine lv (d := 4) rfl rfl (by kernel_rfl) (e_assign (v := .bool false) rfl) ?_
      refine wpList_nil ?_
      refine then_n ?_
      refine wp_ret ?_
      refine inb_r ?_
      refine then_r ?_
      refine then_r ?_
      refine inb_r ?_
      refine then_r ?_
      obtain rfl := Option.some.inj H
      exact ret1 (rfl) rfl  (show _ = .bool false from (by kernel_rfl)) ⟨rfl, hC⟩
    replace H := ifn q50 H
    refine cond_f rfl (bf q50 (by kernel_rfl)) ?_
    refine wp_skip ?_
    refine inb_n ?_
    refine then_n ?_
    refine wp_region_lit ?_
    refine lv (d := 15) rfl rfl (by kernel_rfl) (e_move (v := .int .i64 x16) (by exact e17)) ?_
    refine lv (d := 16) rfl rfl (by kernel_rfl) (e_add (k := .i64) (a := x16) (b := 1) (by kernel_rfl) rfl) ?_
    refine lv (d := 5) rfl rfl (by kernel_rfl) (e_assign (v := .int .i64 (IntKind.i64.wrap (x16 + 1))) (by kernel_rfl)) ?_
    refine wpList_nil ?_
    refine then_n ?_
    exact ⟨k21, (by omega), _, (IntKind.i64.wrap (x16 + 1)), rfl, (by exact e14), (by exact e15), (by kernel_rfl), (Rd.mono (fp_sub (fun _ h_ => h_) (by omega) (by simp [bk])) h4), (Rd.mono (fp_sub (fun _ h_ => h_) (by omega) (by simp [bk])) h9), hC, (by omega), H⟩
  replace H := ifn q22 H
  refine cond_f rfl (bf q22 (by kernel_rfl)) ?_
  refine wp_exit ?_
  refine then_e ?_
  refine then_e ?_
  refine inb_hit ?_
  refine then_n ?_
  refine wp_seq ?_
  refine wp_region_lit ?_
  refine lv (d := 4) rfl rfl (by kernel_rfl) (e_assign (v := .bool true) rfl) ?_
  refine wpList_nil ?_
  refine then_n ?_
  refine wp_ret ?_
  obtain rfl := Option.some.inj H
  exact ret1 (rfl) rfl  (show _ = .bool true from (by kernel_rfl)) ⟨rfl, hC⟩

/-! spec.l2cell -/
def spec_l2cell.f (x1 : Cell) : Option Bool := (if x1.kind = 0 then (if x1.n ≥ 0 then (if x1.n ≤ 1000000 then some (decide ((x1.text.length : Int) = 0)) else some false) else some false) else (if x1.kind = 1 then (if x1.n ≥ (-1000000000000000) then (if x1.n ≤ 1000000000000000 then some (decide ((x1.text.length : Int) = 0)) else some false) else some false) else (if (x1.text.length : Int) > 100 then some false else (if x1.kind = 2 then some (decide (x1.n = 0)) else (if x1.kind = 3 then (if x1.n ≥ 1 then some (decide (x1.n ≤ 20)) else some false) else some false)))))
theorem spec_l2cell.calls (w : World) (F : Foot) (x1 : Cell) (A2 : Option Addr) (c3 : Nat) (h4 : Rd tByte w F A2 x1.text) (l5 : x1.text.length ≤ c3) (r : Bool) (H : spec_l2cell.f x1 = some r) :
    Calls Try.prog 56 #[.agg #[.int .i64 x1.kind, .int .i64 x1.n, .slice A2 x1.text.length c3]] w (fun e e_w => e = .returned (.bool r) ∧ Chg [] w e_w) := by
  rw [spec_l2cell.f] at H
  refine enter (l := [.agg #[.int .i64 x1.kind, .int .i64 x1.n, .slice A2 x1.text.length c3]]) 60 Try.func56 rfl rfl rfl ?_
  replace h4 := rd_canonF (by decide) h4
  have hC := Chg.refl [] w
  refine wp_seq ?_
  refine wp_region_lit ?_
  refine lve (d := 1) rfl rfl (by kernel_rfl) (new_blk (v := fun g_ => .pointer (some ⟨g_, 0, none⟩)) (cs := #[.int .i64 x1.kind, .int .i64 x1.n, .slice A2 x1.text.length c3]) (t := 65) (by kernel_rfl)) ?_
  rintro _ w6 ⟨g7, rfl, b8, n9, C10⟩
  have m11 := heap_lt b8
  have z12 := C10.size
  replace h4 := Rd.mono (fp_new (g := g7) (by omega)) (Rd.move (fp_chg C10 (by omega) (by simp)) h4)
  replace hC := hC.step C10 (fun _ h_ => by cases h_)
  refine lv (d := 2) rfl rfl (by kernel_rfl) (e_assign (v := .bool false) rfl) ?_
  refine wpList_nil ?_
  refine then_n ?_
  refine wp_seq ?_
  refine wp_seq ?_
  refine wp_region_lit ?_
  refine lv (d := 3) rfl rfl (by kernel_rfl) (e_fieldAddr (b := g7) (off := 0) (o := 0) Try.underlying65 rfl rfl (sz := 1) (by kernel_rfl) (by decide) (by kernel_rfl)) ?_
  refine lv (d := 4) rfl rfl (by kernel_rfl) (e_load1 (ad := ⟨g7, 0 + 0, none⟩) (v := .int .i64 x1.kind) Try.underlying3 rfl (by kernel_rfl) ((cell_of_row _ _ _ _ _ _ b8).trans rfl)) ?_
  refine lv (d := 5) rfl rfl (by kernel_rfl) (e_eql (k := .i64) (a := x1.kind) (b := 0) (by kernel_rfl) rfl) ?_
  refine wpList_nil ?_
  refine then_n ?_
  by_cases q13 : x1.kind = 0
  · replace H := ifp q13 H
    refine cond_t rfl (bt q13 (by kernel_rfl)) ?_
    refine wp_seq ?_
    refine wp_region_lit ?_
    refine lv (d := 6) rfl rfl (by kernel_rfl) (e_fieldAddr (b := g7) (off := 0) (o := 1) Try.underlying65 rfl rfl (sz := 1) (by kernel_rfl) (by decide) (by kernel_rfl)) ?_
    refine lv (d := 7) rfl rfl (by kernel_rfl) (e_load1 (ad := ⟨g7, 0 + 1, none⟩) (v := .int .i64 x1.n) Try.underlying3 rfl (by kernel_rfl) ((cell_of_row _ _ _ _ _ _ b8).trans rfl)) ?_
    refine lv (d := 8) rfl rfl (by kernel_rfl) (e_geq (k := .i64) (a := x1.n) (b := 0) (by kernel_rfl) rfl) ?_
    refine lv (d := 9) rfl rfl (by kernel_rfl) (e_move (v := .bool (decide (x1.n ≥ 0))) (by kernel_rfl)) ?_
    by_cases q14 : x1.n ≥ 0
    · replace H := ifp q14 H
      refine lvg (d := 10) (t := 9) rfl (by kernel_rfl) rfl (bt q14 (by kernel_rfl)) rfl (by kernel_rfl) (e_fieldAddr (b := g7) (off := 0) (o := 1) Try.underlying65 rfl rfl (sz := 1) (by kernel_rfl) (by decide) (by kernel_rfl)) ?_
      refine lvg (d := 11) (t := 9) rfl (by kernel_rfl) rfl (bt q14 (by kernel_rfl)) rfl (by kernel_rfl) (e_load1 (ad := ⟨g7, 0 + 1, none⟩) (v := .int .i64 x1.n) Try.underlying3 rfl (by kernel_rfl) ((cell_of_row _ _ _ _ _ _ b8).trans rfl)) ?_
      refine lvg (d := 12) (t := 9) rfl (by kernel_rfl) rfl (bt q14 (by kernel_rfl)) rfl (by kernel_rfl) (e_leq (k := .i64) (a := x1.n) (b := 1000000) (by kernel_rfl) rfl) ?_
      refine lv (d := 13) rfl rfl (by kernel_rfl) (e_pick_t (v := .bool (decide (x1.n ≤ 1000000))) (bt q14 (by kernel_rfl)) (by kernel_rfl)) ?_
      refine lv (d := 14) rfl rfl (by kernel_rfl) (e_move (v := .bool (decide (x1.n ≤ 1000000))) (by kernel_rfl)) ?_
      by_cases q15 : x1.n ≤ 1000000
      · replace H := ifp q15 H
        refine lvg (d := 15) (t := 14) rfl (by kernel_rfl) rfl (bt q15 (by kernel_rfl)) rfl (by kernel_rfl) (e_fieldAddr (b := g7) (off := 0) (o := 2) Try.underlying65 rfl rfl (sz := 1) (by kernel_rfl) (by decide) (by kernel_rfl)) ?_
        refine lvg (d := 16) (t := 14) rfl (by kernel_rfl) rfl (bt q15 (by kernel_rfl)) rfl (by kernel_rfl) (e_load1 (ad := ⟨g7, 0 + 2, none⟩) (v := .slice A2 x1.text.length c3) Try.underlying59 rfl (by kernel_rfl) ((cell_of_row _ _ _ _ _ _ b8).trans rfl)) ?_
        refine lvg (d := 17) (t := 14) rfl (by kernel_rfl) rfl (bt q15 (by kernel_rfl)) rfl (by kernel_rfl) (e_len (A := A2) (n := x1.text.length) (c := c3) Try.underlying59 (by kernel_rfl)) ?_
        refine lvg (d := 18) (t := 14) rfl (by kernel_rfl) rfl (bt q15 (by kernel_rfl)) rfl (by kernel_rfl) (e_eql (k := .i64) (a := (x1.text.length : Int)) (b := 0) (by kernel_rfl) rfl) ?_
        refine lv (d := 19) rfl rfl (by kernel_rfl) (e_pick_t (v := .bool (decide ((x1.text.length : Int) = 0))) (bt q15 (by kernel_rfl)) (by kernel_rfl)) ?_
        refine lv (d := 2) rfl rfl (by kernel_rfl) (e_assign (v := .bool (decide ((x1.text.length : Int) = 0))) (by kernel_rfl)) ?_
        refine wpList_nil ?_
        refine then_n ?_
        refine wp_ret ?_
        refine then_r ?_
        obtain rfl := Option.some.inj H
        exact ret1 (rfl) rfl  (show _ = .bool (decide ((x1.text.length : Int) = 0)) from (by kernel_rfl)) ⟨rfl, hC⟩
      replace H := ifn q15 H
      refine lskip (t := 14) (c := false) rfl (by kernel_rfl) rfl (bf q15 (by kernel_rfl)) rfl rfl ?_
      refine lskip (t := 14) (c := false) rfl (by kernel_rfl) rfl (bf q15 (by kernel_rfl)) rfl rfl ?_
      refine lskip (t := 14) (c := false) rfl (by kernel_rfl) rfl (bf q15 (by kernel_rfl)) rfl rfl ?_
      refine lskip (t := 14) (c := false) rfl (by kernel_rfl) rfl (bf q15 (by kernel_rfl)) rfl rfl ?_
      refine lv (d := 19) rfl rfl (by kernel_rfl) (e_pick_f (v := .bool false) (bf q15 (by kernel_rfl)) rfl) ?_
      refine lv (d := 2) rfl rfl (by kernel_rfl) (e_assign (v := .bool false) (by kernel_rfl)) ?_
      refine wpList_nil ?_
      refine then_n ?_
      refine wp_ret ?_
      refine then_r ?_
      obtain rfl := Option.some.inj H
      exact ret1 (rfl) rfl  (show _ = .bool false from (by kernel_rfl)) ⟨rfl, hC⟩
    replace H := ifn q14 H
    refine lskip (t := 9) (c := false) rfl (by kernel_rfl) rfl (bf q14 (by kernel_rfl)) rfl rfl ?_
    refine lskip (t := 9) (c := false) rfl (by kernel_rfl) rfl (bf q14 (by kernel_rfl)) rfl rfl ?_
    refine lskip (t := 9) (c := false) rfl (by kernel_rfl) rfl (bf q14 (by kernel_rfl)) rfl rfl ?_
    refine lv (d := 13) rfl rfl (by kernel_rfl) (e_pick_f (v := .bool false) (bf q14 (by kernel_rfl)) rfl) ?_
    refine lv (d := 14) rfl rfl (by kernel_rfl) (e_move (v := .bool false) (by kernel_rfl)) ?_
    refine lskip (t := 14) (c := false) rfl (by kernel_rfl) rfl (by kernel_rfl) rfl rfl ?_
    refine lskip (t := 14) (c := false) rfl (by kernel_rfl) rfl (by kernel_rfl) rfl rfl ?_
    refine lskip (t := 14) (c := false) rfl (by kernel_rfl) rfl (by kernel_rfl) rfl rfl ?_
    refine lskip (t := 14) (c := false) rfl (by kernel_rfl) rfl (by kernel_rfl) rfl rfl ?_
    refine lv (d := 19) rfl rfl (by kernel_rfl) (e_pick_f (v := .bool false) (by kernel_rfl) rfl) ?_
    refine lv (d := 2) rfl rfl (by kernel_rfl) (e_assign (v := .bool false) (by kernel_rfl)) ?_
    refine wpList_nil ?_
    refine then_n ?_
    refine wp_ret ?_
    refine then_r ?_
    obtain rfl := Option.some.inj H
    exact ret1 (rfl) rfl  (show _ = .bool false from (by kernel_rfl)) ⟨rfl, hC⟩
  replace H := ifn q13 H
  refine cond_f rfl (bf q13 (by kernel_rfl)) ?_
  refine wp_skip ?_
  refine then_n ?_
  refine wp_seq ?_
  refine wp_seq ?_
  refine wp_region_lit ?_
  refine lv (d := 20) rfl rfl (by kernel_rfl) (e_fieldAddr (b := g7) (off := 0) (o := 0) Try.underlying65 rfl rfl (sz := 1) (by kernel_rfl) (by decide) (by kernel_rfl)) ?_
  refine lv (d := 21) rfl rfl (by kernel_rfl) (e_load1 (ad := ⟨g7, 0 + 0, none⟩) (v := .int .i64 x1.kind) Try.underlying3 rfl (by kernel_rfl) ((cell_of_row _ _ _ _ _ _ b8).trans rfl)) ?_
  refine lv (d := 22) rfl rfl (by kernel_rfl) (e_eql (k := .i64) (a := x1.kind) (b := 1) (by kernel_rfl) rfl) ?_
  refine wpList_nil ?_
  refine then_n ?_
  by_cases q16 : x1.kind = 1
  · replace H := ifp q16 H
    refine cond_t rfl (bt q16 (by kernel_rfl)) ?_
    refine wp_seq ?_
    refine wp_region_lit ?_
    refine lv (d := 23) rfl rfl (by kernel_rfl) (e_fieldAddr (b := g7) (off := 0) (o := 1) Try.underlying65 rfl rfl (sz := 1) (by kernel_rfl) (by decide) (by kernel_rfl)) ?_
    refine lv (d := 24) rfl rfl (by kernel_rfl) (e_load1 (ad := ⟨g7, 0 + 1, none⟩) (v := .int .i64 x1.n) Try.underlying3 rfl (by kernel_rfl) ((cell_of_row _ _ _ _ _ _ b8).trans rfl)) ?_
    refine lv (d := 25) rfl rfl (by kernel_rfl) (e_geq (k := .i64) (a := x1.n) (b := (-1000000000000000)) (by kernel_rfl) rfl) ?_
    refine lv (d := 26) rfl rfl (by kernel_rfl) (e_move (v := .bool (decide (x1.n ≥ (-1000000000000000)))) (by kernel_rfl)) ?_
    by_cases q17 : x1.n ≥ (-1000000000000000)
    · replace H := ifp q17 H
      refine lvg (d := 27) (t := 26) rfl (by kernel_rfl) rfl (bt q17 (by kernel_rfl)) rfl (by kernel_rfl) (e_fieldAddr (b := g7) (off := 0) (o := 1) Try.underlying65 rfl rfl (sz := 1) (by kernel_rfl) (by decide) (by kernel_rfl)) ?_
      refine lvg (d := 28) (t := 26) rfl (by kernel_rfl) rfl (bt q17 (by kernel_rfl)) rfl (by kernel_rfl) (e_load1 (ad := ⟨g7, 0 + 1, none⟩) (v := .int .i64 x1.n) Try.underlying3 rfl (by kernel_rfl) ((cell_of_row _ _ _ _ _ _ b8).trans rfl)) ?_
      refine lvg (d := 29) (t := 26) rfl (by kernel_rfl) rfl (bt q17 (by kernel_rfl)) rfl (by kernel_rfl) (e_leq (k := .i64) (a := x1.n) (b := 1000000000000000) (by kernel_rfl) rfl) ?_
      refine lv (d := 30) rfl rfl (by kernel_rfl) (e_pick_t (v := .bool (decide (x1.n ≤ 1000000000000000))) (bt q17 (by kernel_rfl)) (by kernel_rfl)) ?_
      refine lv (d := 31) rfl rfl (by kernel_rfl) (e_move (v := .bool (decide (x1.n ≤ 1000000000000000))) (by kernel_rfl)) ?_
      by_cases q18 : x1.n ≤ 1000000000000000
      · replace H := ifp q18 H
        refine lvg (d := 32) (t := 31) rfl (by kernel_rfl) rfl (bt q18 (by kernel_rfl)) rfl (by kernel_rfl) (e_fieldAddr (b := g7) (off := 0) (o := 2) Try.underlying65 rfl rfl (sz := 1) (by kernel_rfl) (by decide) (by kernel_rfl)) ?_
        refine lvg (d := 33) (t := 31) rfl (by kernel_rfl) rfl (bt q18 (by kernel_rfl)) rfl (by kernel_rfl) (e_load1 (ad := ⟨g7, 0 + 2, none⟩) (v := .slice A2 x1.text.length c3) Try.underlying59 rfl (by kernel_rfl) ((cell_of_row _ _ _ _ _ _ b8).trans rfl)) ?_
        refine lvg (d := 34) (t := 31) rfl (by kernel_rfl) rfl (bt q18 (by kernel_rfl)) rfl (by kernel_rfl) (e_len (A := A2) (n := x1.text.length) (c := c3) Try.underlying59 (by kernel_rfl)) ?_
        refine lvg (d := 35) (t := 31) rfl (by kernel_rfl) rfl (bt q18 (by kernel_rfl)) rfl (by kernel_rfl) (e_eql (k := .i64) (a := (x1.text.length : Int)) (b := 0) (by kernel_rfl) rfl) ?_
        refine lv (d := 36) rfl rfl (by kernel_rfl) (e_pick_t (v := .bool (decide ((x1.text.length : Int) = 0))) (bt q18 (by kernel_rfl)) (by kernel_rfl)) ?_
        refine lv (d := 2) rfl rfl (by kernel_rfl) (e_assign (v := .bool (decide ((x1.text.length : Int) = 0))) (by kernel_rfl)) ?_
        refine wpList_nil ?_
        refine then_n ?_
        refine wp_ret ?_
        refine then_r ?_
        obtain rfl := Option.some.inj H
        exact ret1 (rfl) rfl  (show _ = .bool (decide ((x1.text.length : Int) = 0)) from (by kernel_rfl)) ⟨rfl, hC⟩
      replace H := ifn q18 H
      refine lskip (t := 31) (c := false) rfl (by kernel_rfl) rfl (bf q18 (by kernel_rfl)) rfl rfl ?_
      refine lskip (t := 31) (c := false) rfl (by kernel_rfl) rfl (bf q18 (by kernel_rfl)) rfl rfl ?_
      refine lskip (t := 31) (c := false) rfl (by kernel_rfl) rfl (bf q18 (by kernel_rfl)) rfl rfl ?_
      refine lskip (t := 31) (c := false) rfl (by kernel_rfl) rfl (bf q18 (by kernel_rfl)) rfl rfl ?_
      refine lv (d := 36) rfl rfl (by kernel_rfl) (e_pick_f (v := .bool false) (bf q18 (by kernel_rfl)) rfl) ?_
      refine lv (d := 2) rfl rfl (by kernel_rfl) (e_assign (v := .bool false) (by kernel_rfl)) ?_
      refine wpList_nil ?_
      refine then_n ?_
      refine wp_ret ?_
      refine then_r ?_
      obtain rfl := Option.some.inj H
      exact ret1 (rfl) rfl  (show _ = .bool false from (by kernel_rfl)) ⟨rfl, hC⟩
    replace H := ifn q17 H
    refine lskip (t := 26) (c := false) rfl (by kernel_rfl) rfl (bf q17 (by kernel_rfl)) rfl rfl ?_
    refine lskip (t := 26) (c := false) rfl (by kernel_rfl) rfl (bf q17 (by kernel_rfl)) rfl rfl ?_
    refine lskip (t := 26) (c := false) rfl (by kernel_rfl) rfl (bf q17 (by kernel_rfl)) rfl rfl ?_
    refine lv (d := 30) rfl rfl (by kernel_rfl) (e_pick_f (v := .bool false) (bf q17 (by kernel_rfl)) rfl) ?_
    refine lv (d := 31) rfl rfl (by kernel_rfl) (e_move (v := .bool false) (by kernel_rfl)) ?_
    refine lskip (t := 31) (c := false) rfl (by kernel_rfl) rfl (by kernel_rfl) rfl rfl ?_
    refine lskip (t := 31) (c := false) rfl (by kernel_rfl) rfl (by kernel_rfl) rfl rfl ?_
    refine lskip (t := 31) (c := false) rfl (by kernel_rfl) rfl (by kernel_rfl) rfl rfl ?_
    refine lskip (t := 31) (c := false) rfl (by kernel_rfl) rfl (by kernel_rfl) rfl rfl ?_
    refine lv (d := 36) rfl rfl (by kernel_rfl) (e_pick_f (v := .bool false) (by kernel_rfl) rfl) ?_
    refine lv (d := 2) rfl rfl (by kernel_rfl) (e_assign (v := .bool false) (by kernel_rfl)) ?_
    refine wpList_nil ?_
    refine then_n ?_
    refine wp_ret ?_
    refine then_r ?_
    obtain rfl := Option.some.inj H
    exact ret1 (rfl) rfl  (show _ = .bool false from (by kernel_rfl)) ⟨rfl, hC⟩
  replace H := ifn q16 H
  refine cond_f rfl (bf q16 (by kernel_rfl)) ?_
  refine wp_skip ?_
  refine then_n ?_
  refine wp_seq ?_
  refine wp_seq ?_
  refine wp_region_lit ?_
  refine lv (d := 37) rfl rfl (by kernel_rfl) (e_fieldAddr (b := g7) (off := 0) (o := 2) Try.underlying65 rfl rfl (sz := 1) (by kernel_rfl) (by decide) (by kernel_rfl)) ?_
  refine lv (d := 38) rfl rfl (by kernel_rfl) (e_load1 (ad := ⟨g7, 0 + 2, none⟩) (v := .slice A2 x1.text.length c3) Try.underlying59 rfl (by kernel_rfl) ((cell_of_row _ _ _ _ _ _ b8).trans rfl)) ?_
  refine lv (d := 39) rfl rfl (by kernel_rfl) (e_len (A := A2) (n := x1.text.length) (c := c3) Try.underlying59 (by kernel_rfl)) ?_
  refine lv (d := 40) rfl rfl (by kernel_rfl) (e_gtr (k := .i64) (a := (x1.text.length : Int)) (b := 100) (by kernel_rfl) rfl) ?_
  refine wpList_nil ?_
  refine then_n ?_
  by_cases q19 : (x1.text.length : Int) > 100
  · replace H := ifp q19 H
    refine cond_t rfl (bt q19 (by kernel_rfl)) ?_
    refine wp_seq ?_
    refine wp_region_lit ?_
    refine lv (d := 2) rfl rfl (by kernel_rfl) (e_assign (v := .bool false) rfl) ?_
    refine wpList_nil ?_
    refine then_n ?_
    refine wp_ret ?_
    refine then_r ?_
    obtain rfl := Option.some.inj H
    exact ret1 (rfl) rfl  (show _ = .bool false from (by kernel_rfl)) ⟨rfl, hC⟩
  replace H := ifn q19 H
  refine cond_f rfl (bf q19 (by kernel_rfl)) ?_
  refine wp_skip ?_
  refine then_n ?_
  refine wp_seq ?_
  refine wp_seq ?_
  refine wp_region_lit ?_
  refine lv (d := 41) rfl rfl (by kernel_rfl) (e_fieldAddr (b := g7) (off := 0) (o := 0) Try.underlying65 rfl rfl (sz := 1) (by kernel_rfl) (by decide) (by kernel_rfl)) ?_
  refine lv (d := 42) rfl rfl (by kernel_rfl) (e_load1 (ad := ⟨g7, 0 + 0, none⟩) (v := .int .i64 x1.kind) Try.underlying3 rfl (by kernel_rfl) ((cell_of_row _ _ _ _ _ _ b8).trans rfl)) ?_
  refine lv (d := 43) rfl rfl (by kernel_rfl) (e_eql (k := .i64) (a := x1.kind) (b := 2) (by kernel_rfl) rfl) ?_
  refine wpList_nil ?_
  refine then_n ?_
  by_cases q20 : x1.kind = 2
  · replace H := ifp q20 H
    refine cond_t rfl (bt q20 (by kernel_rfl)) ?_
    refine wp_seq ?_
    refine wp_region_lit ?_
    refine lv (d := 44) rfl rfl (by kernel_rfl) (e_fieldAddr (b := g7) (off := 0) (o := 1) Try.underlying65 rfl rfl (sz := 1) (by kernel_rfl) (by decide) (by kernel_rfl)) ?_
    refine lv (d := 45) rfl rfl (by kernel_rfl) (e_load1 (ad := ⟨g7, 0 + 1, none⟩) (v := .int .i64 x1.n) Try.underlying3 rfl (by kernel_rfl) ((cell_of_row _ _ _ _ _ _ b8).trans rfl)) ?_
    refine lv (d := 46) rfl rfl (by kernel_rfl) (e_eql (k := .i64) (a := x1.n) (b := 0) (by kernel_rfl) rfl) ?_
    refine lv (d := 2) rfl rfl (by kernel_rfl) (e_assign (v := .bool (decide (x1.n = 0))) (by kernel_rfl)) ?_
    refine wpList_nil ?_
    refine then_n ?_
    refine wp_ret ?_
    refine then_r ?_
    obtain rfl := Option.some.inj H
    exact ret1 (rfl) rfl  (show _ = .bool (decide (x1.n = 0)) from (by kernel_rfl)) ⟨rfl, hC⟩
  replace H := ifn q20 H
  refine cond_f rfl (bf q20 (by kernel_rfl)) ?_
  refine wp_skip ?_
  refine then_n ?_
  refine wp_seq ?_
  refine wp_region_lit ?_
  refine lv (d := 47) rfl rfl (by kernel_rfl) (e_fieldAddr (b := g7) (off := 0) (o := 0) Try.underlying65 rfl rfl (sz := 1) (by kernel_rfl) (by decide) (by kernel_rfl)) ?_
  refine lv (d := 48) rfl rfl (by kernel_rfl) (e_load1 (ad := ⟨g7, 0 + 0, none⟩) (v := .int .i64 x1.kind) Try.underlying3 rfl (by kernel_rfl) ((cell_of_row _ _ _ _ _ _ b8).trans rfl)) ?_
  refine lv (d := 49) rfl rfl (by kernel_rfl) (e_eql (k := .i64) (a := x1.kind) (b := 3) (by kernel_rfl) rfl) ?_
  refine lv (d := 50) rfl rfl (by kernel_rfl) (e_move (v := .bool (decide (x1.kind = 3))) (by kernel_rfl)) ?_
  by_cases q21 : x1.kind = 3
  · replace H := ifp q21 H
    refine lvg (d := 51) (t := 50) rfl (by kernel_rfl) rfl (bt q21 (by kernel_rfl)) rfl (by kernel_rfl) (e_fieldAddr (b := g7) (off := 0) (o := 1) Try.underlying65 rfl rfl (sz := 1) (by kernel_rfl) (by decide) (by kernel_rfl)) ?_
    refine lvg (d := 52) (t := 50) rfl (by kernel_rfl) rfl (bt q21 (by kernel_rfl)) rfl (by kernel_rfl) (e_load1 (ad := ⟨g7, 0 + 1, none⟩) (v := .int .i64 x1.n) Try.underlying3 rfl (by kernel_rfl) ((cell_of_row _ _ _ _ _ _ b8).trans rfl)) ?_
    refine lvg (d := 53) (t := 50) rfl (by kernel_rfl) rfl (bt q21 (by kernel_rfl)) rfl (by kernel_rfl) (e_geq (k := .i64) (a := x1.n) (b := 1) (by kernel_rfl) rfl) ?_
    refine lv (d := 54) rfl rfl (by kernel_rfl) (e_pick_t (v := .bool (decide (x1.n ≥ 1))) (bt q21 (by kernel_rfl)) (by kernel_rfl)) ?_
    refine lv (d := 55) rfl rfl (by kernel_rfl) (e_move (v := .bool (decide (x1.n ≥ 1))) (by kernel_rfl)) ?_
    by_cases q22 : x1.n ≥ 1
    · replace H := ifp q22 H
      refine lvg (d := 56) (t := 55) rfl (by kernel_rfl) rfl (bt q22 (by kernel_rfl)) rfl (by kernel_rfl) (e_fieldAddr (b := g7) (off := 0) (o := 1) Try.underlying65 rfl rfl (sz := 1) (by kernel_rfl) (by decide) (by kernel_rfl)) ?_
      refine lvg (d := 57) (t := 55) rfl (by kernel_rfl) rfl (bt q22 (by kernel_rfl)) rfl (by kernel_rfl) (e_load1 (ad := ⟨g7, 0 + 1, none⟩) (v := .int .i64 x1.n) Try.underlying3 rfl (by kernel_rfl) ((cell_of_row _ _ _ _ _ _ b8).trans rfl)) ?_
      refine lvg (d := 58) (t := 55) rfl (by kernel_rfl) rfl (bt q22 (by kernel_rfl)) rfl (by kernel_rfl) (e_leq (k := .i64) (a := x1.n) (b := 20) (by kernel_rfl) rfl) ?_
      refine lv (d := 59) rfl rfl (by kernel_rfl) (e_pick_t (v := .bool (decide (x1.n ≤ 20))) (bt q22 (by kernel_rfl)) (by kernel_rfl)) ?_
      refine lv (d := 2) rfl rfl (by kernel_rfl) (e_assign (v := .bool (decide (x1.n ≤ 20))) (by kernel_rfl)) ?_
      refine wpList_nil ?_
      refine then_n ?_
      refine wp_ret ?_
      obtain rfl := Option.some.inj H
      exact ret1 (rfl) rfl  (show _ = .bool (decide (x1.n ≤ 20)) from (by kernel_rfl)) ⟨rfl, hC⟩
    replace H := ifn q22 H
    refine lskip (t := 55) (c := false) rfl (by kernel_rfl) rfl (bf q22 (by kernel_rfl)) rfl rfl ?_
    refine lskip (t := 55) (c := false) rfl (by kernel_rfl) rfl (bf q22 (by kernel_rfl)) rfl rfl ?_
    refine lskip (t := 55) (c := false) rfl (by kernel_rfl) rfl (bf q22 (by kernel_rfl)) rfl rfl ?_
    refine lv (d := 59) rfl rfl (by kernel_rfl) (e_pick_f (v := .bool false) (bf q22 (by kernel_rfl)) rfl) ?_
    refine lv (d := 2) rfl rfl (by kernel_rfl) (e_assign (v := .bool false) (by kernel_rfl)) ?_
    refine wpList_nil ?_
    refine then_n ?_
    refine wp_ret ?_
    obtain rfl := Option.some.inj H
    exact ret1 (rfl) rfl  (show _ = .bool false from (by kernel_rfl)) ⟨rfl, hC⟩
  replace H := ifn q21 H
  refine lskip (t := 50) (c := false) rfl (by kernel_rfl) rfl (bf q21 (by kernel_rfl)) rfl rfl ?_
  refine lskip (t := 50) (c := false) rfl (by kernel_rfl) rfl (bf q21 (by kernel_rfl)) rfl rfl ?_
  refine lskip (t := 50) (c := false) rfl (by kernel_rfl) rfl (bf q21 (by kernel_rfl)) rfl rfl ?_
  refine lv (d := 54) rfl rfl (by kernel_rfl) (e_pick_f (v := .bool false) (bf q21 (by kernel_rfl)) rfl) ?_
  refine lv (d := 55) rfl rfl (by kernel_rfl) (e_move (v := .bool false) (by kernel_rfl)) ?_
  refine lskip (t := 55) (c := false) rfl (by kernel_rfl) rfl (by kernel_rfl) rfl rfl ?_
  refine lskip (t := 55) (c := false) rfl (by kernel_rfl) rfl (by kernel_rfl) rfl rfl ?_
  refine lskip (t := 55) (c := false) rfl (by kernel_rfl) rfl (by kernel_rfl) rfl rfl ?_
  refine lv (d := 59) rfl rfl (by kernel_rfl) (e_pick_f (v := .bool false) (by kernel_rfl) rfl) ?_
  refine lv (d := 2) rfl rfl (by kernel_rfl) (e_assign (v := .bool false) (by kernel_rfl)) ?_
  refine wpList_nil ?_
  refine then_n ?_
  refine wp_ret ?_
  obtain rfl := Option.some.inj H
  exact ret1 (rfl) rfl  (show _ = .bool false from (by kernel_rfl)) ⟨rfl, hC⟩

/-! spec.ValidTerm -/
def spec_ValidTerm.l0 : Nat → (List Cell) → Int → Int → Option Bool
  | 0, _, _, _ => none
  | k17 + 1, x1, x10, x12 => (if x12 < (x1.length : Int) then (if x10 = 0 then some false else (if 0 ≤ x12 then ((spec_l2cell.f (x1.getD (x12).toNat z65)).bind fun t31 => (if ¬ (t31 = true) then some false else (if ((x1.getD (x12).toNat z65).kind) = 3 then (spec_ValidTerm.l0 k17 x1 (IntKind.i64.wrap ((IntKind.i64.wrap (x10 - 1)) + ((x1.getD (x12).toNat z65).n))) (IntKind.i64.wrap (x12 + 1))) else (spec_ValidTerm.l0 k17 x1 (IntKind.i64.wrap (x10 - 1)) (IntKind.i64.wrap (x12 + 1)))))) else none)) else some (decide (x10 = 0)))
def spec_ValidTerm.f (k : Nat) (x1 : List Cell) : Option Bool := (if (x1.length : Int) > 2000 then some false else (spec_ValidTerm.l0 k x1 1 0))
theorem spec_ValidTerm.calls (k : Nat) (w : World) (F : Foot) (x1 : List Cell) (A2 : Option Addr) (c3 : Nat) (h4 : Rd st65 w F A2 x1) (l5 : x1.length ≤ c3) (r : Bool) (H : spec_ValidTerm.f k x1 = some r) :
    Calls Try.prog 15 #[.slice A2 x1.length c3] w (fun e e_w => e = .returned (.bool r) ∧ Chg [] w e_w) := by
  rw [spec_ValidTerm.f] at H
  refine enter (l := [.slice A2 x1.length c3]) 41 Try.func15 rfl rfl rfl ?_
  replace h4 := rd_canonF (by decide) h4
  have hC := Chg.refl [] w
  refine wp_seq ?_
  refine wp_region_lit ?_
  refine lv (d := 2) rfl rfl (by kernel_rfl) (e_assign (v := .bool false) rfl) ?_
  refine wpList_nil ?_
  refine then_n ?_
  refine wp_seq ?_
  refine wp_seq ?_
  refine wp_region_lit ?_
  refine lv (d := 5) rfl rfl (by kernel_rfl) (e_move (v := .slice A2 x1.length c3) (by kernel_rfl)) ?_
  refine lv (d := 6) rfl rfl (by kernel_rfl) (e_len (A := A2) (n := x1.length) (c := c3) Try.underlying25 (by kernel_rfl)) ?_
  refine lv (d := 7) rfl rfl (by kernel_rfl) (e_gtr (k := .i64) (a := (x1.length : Int)) (b := 2000) (by kernel_rfl) rfl) ?_
  refine wpList_nil ?_
  refine then_n ?_
  by_cases q6 : (x1.length : Int) > 2000
  · replace H := ifp q6 H
    refine cond_t rfl (bt q6 (by kernel_rfl)) ?_
    refine wp_seq ?_
    refine wp_region_lit ?_
    refine lv (d := 2) rfl rfl (by kernel_rfl) (e_assign (v := .bool false) rfl) ?_
    refine wpList_nil ?_
    refine then_n ?_
    refine wp_ret ?_
    refine then_r ?_
    obtain rfl := Option.some.inj H
    exact ret1 (rfl) rfl  (show _ = .bool false from (by kernel_rfl)) ⟨rfl, hC⟩
  replace H := ifn q6 H
  refine cond_f rfl (bf q6 (by kernel_rfl)) ?_
  refine wp_skip ?_
  refine then_n ?_
  refine wp_seq ?_
  refine wp_region_lit ?_
  refine lv (d := 3) rfl rfl (by kernel_rfl) (e_assign (v := .int .i64 1) rfl) ?_
  refine wpList_nil ?_
  refine then_n ?_
  refine wp_seq ?_
  refine wp_seq ?_
  refine wp_region_lit ?_
  refine lv (d := 4) rfl rfl (by kernel_rfl) (e_assign (v := .int .i64 0) rfl) ?_
  refine wpList_nil ?_
  refine then_n ?_
  refine wp_block ?_
  refine wp_loop_g (fun k15 a16 w7 => ∃ (f8 : Nat → Value) (x10 : Int) (x12 : Int), a16 = mk 41 f8 ∧ f8 0 = .slice A2 x1.length c3 ∧ f8 3 = .int .i64 x10 ∧ f8 4 = .int .i64 x12 ∧ Rd st65 w7 (FP F w.heap.size []) A2 x1 ∧ Chg [] w w7 ∧ w.heap.size ≤ w7.heap.size ∧ spec_ValidTerm.l0 k15 x1 x10 x12 = some r) k ⟨_, 1, 0, rfl, (by kernel_rfl), (by kernel_rfl), (by kernel_rfl), (Rd.mono (fp_sub (fun _ h_ => h_) (by omega) (by simp [bk])) h4), hC, (by omega), H⟩ ?_
  rintro k15 a16 w7 ⟨f8, x10, x12, rfl, e9, e11, e13, h4, hC, z14, H⟩
  rcases k15 with _ | k17
  · rw [spec_ValidTerm.l0] at H
    cases H
  rw [spec_ValidTerm.l0] at H
  refine wp_seq ?_
  refine wp_seq ?_
  refine wp_region_lit ?_
  refine lv (d := 8) rfl rfl (by kernel_rfl) (e_move (v := .int .i64 x12) (by exact e13)) ?_
  refine lv (d := 9) rfl rfl (by kernel_rfl) (e_move (v := .slice A2 x1.length c3) (by exact e9)) ?_
  refine lv (d := 10) rfl rfl (by kernel_rfl) (e_len (A := A2) (n := x1.length) (c := c3) Try.underlying25 (by kernel_rfl)) ?_
  refine lv (d := 11) rfl rfl (by kernel_rfl) (e_lss (k := .i64) (a := x12) (b := (x1.length : Int)) (by kernel_rfl) (by kernel_rfl)) ?_
  refine wpList_nil ?_
  refine then_n ?_
  by_cases q18 : x12 < (x1.length : Int)
  · replace H := ifp q18 H
    refine cond_t rfl (bt q18 (by kernel_rfl)) ?_
    refine wp_skip ?_
    refine then_n ?_
    refine wp_seq ?_
    refine wp_block ?_
    refine wp_seq ?_
    refine wp_seq ?_
    refine wp_region_lit ?_
    refine lv (d := 14) rfl rfl (by kernel_rfl) (e_move (v := .int .i64 x10) (by exact e11)) ?_
    refine lv (d := 15) rfl rfl (by kernel_rfl) (e_eql (k := .i64) (a := x10) (b := 0) (by kernel_rfl) rfl) ?_
    refine lv (d := 16) rfl rfl (by kernel_rfl) (e_move (v := .bool (decide (x10 = 0))) (by kernel_rfl)) ?_
    by_cases q19 : x10 = 0
    · replace H := ifp q19 H
      refine lskip (t := 16) (c := true) rfl (by kernel_rfl) rfl (bt q19 (by kernel_rfl)) rfl rfl ?_
      refine lskip (t := 16) (c := true) rfl (by kernel_rfl) rfl (bt q19 (by kernel_rfl)) rfl rfl ?_
      refine lskip (t := 16) (c := true) rfl (by kernel_rfl) rfl (bt q19 (by kernel_rfl)) rfl rfl ?_
      refine lskip (t := 16) (c := true) rfl (by kernel_rfl) rfl (bt q19 (by kernel_rfl)) rfl rfl ?_
      refine lskip (t := 16) (c := true) rfl (by kernel_rfl) rfl (bt q19 (by kernel_rfl)) rfl rfl ?_
      refine lskip (t := 16) (c := true) rfl (by kernel_rfl) rfl (bt q19 (by kernel_rfl)) rfl rfl ?_
      refine lv (d := 23) rfl rfl (by kernel_rfl) (e_pick_t (v := .bool true) (bt q19 (by kernel_rfl)) rfl) ?_
      refine wpList_nil ?_
      refine then_n ?_
      refine cond_t rfl (by kernel_rfl) ?_
      refine wp_seq ?_
      refine wp_region_lit ?_
      refine lv (d := 2) rfl rfl (by kernel_rfl) (e_assign (v := .bool false) rfl) ?_
      refine wpList_nil ?_
      refine then_n ?_
      refine wp_ret ?_
      refine then_r ?_
      refine inb_r ?_
      refine then_r ?_
      refine then_r ?_
      refine inb_r ?_
      refine then_r ?_
      obtain rfl := Option.some.inj H
      exact ret1 (rfl) rfl  (show _ = .bool false from (by kernel_rfl)) ⟨rfl, hC⟩
    replace H := ifn q19 H
    refine lvg (d := 17) (t := 16) rfl (by kernel_rfl) rfl (bf q19 (by kernel_rfl)) rfl (by kernel_rfl) (e_move (v := .slice A2 x1.length c3) (by exact e9)) ?_
    refine lvg (d := 18) (t := 16) rfl (by kernel_rfl) rfl (bf q19 (by kernel_rfl)) rfl (by kernel_rfl) (e_move (v := .int .i64 x12) (by exact e13)) ?_
    obtain ⟨q20, H⟩ := chk H
    obtain ⟨b21, o22, y23, e26, _, r24, k25⟩ := Rd.get h4 (x12).toNat _ (getD_some z65 (by omega))
    obtain ⟨A27, c28, rfl, l29, h30⟩ := st65_open r24
    refine lvg (d := 19) (t := 16) rfl (by kernel_rfl) rfl (bf q19 (by kernel_rfl)) rfl (by kernel_rfl) (e_indexAddr (b := b21) (off := o22) (n := x1.length) (c := c3) (sz := 3) (i := x12) (k := .i64) Try.underlying25 e26 (by kernel_rfl) (by kernel_rfl) (by kernel_rfl) q20 q18) ?_
    refine lvg (d := 20) (t := 16) rfl (by kernel_rfl) rfl (bf q19 (by kernel_rfl)) rfl (by kernel_rfl) (e_loadS (b := b21) (off := o22 + (x12 : Int).toNat * 3) (cs := [.int .i64 ((x1.getD (x12).toNat z65).kind), .int .i64 ((x1.getD (x12).toNat z65).n), .slice A27 ((x1.getD (x12).toNat z65).text).length c28]) Try.underlying65 rfl (by kernel_rfl) (by kernel_rfl) k25) ?_
    obtain ⟨t31, u32, H⟩ := bnd H
    refine lcallg (d := 21) (t := 16) rfl (by kernel_rfl) rfl (bf q19 (by kernel_rfl)) rfl (by kernel_rfl) (e_call (l := [.tmp 20]) (vs := [.agg #[.int .i64 ((x1.getD (x12).toNat z65).kind), .int .i64 ((x1.getD (x12).toNat z65).n), .slice A27 ((x1.getD (x12).toNat z65).text).length c28]]) Try.func56 (by kernel_rfl) rfl (by kernel_rfl) rfl) (spec_l2cell.calls w7 (FP (fw F w.heap.size) w7.heap.size []) (x1.getD (x12).toNat z65) A27 c28 (Rd.mono (fp_sub (fun _ h_ => .inl h_) (by omega) (by simp)) h30) l29 t31 u32) ?_
    rintro _ w33 ⟨rfl, C34⟩
    refine ⟨_, rfl, ?_⟩
    have u35 : Lt [] w7.heap.size := (Lt.nil _)
    have z36 := C34.size
    replace h4 := Rd.move (fp_chg C34 (by omega) (by simp)) h4
    replace h30 := Rd.move (fp_chg C34 (by omega) (by simp)) h30
    replace hC := hC.step C34 (fun _ h_ => by cases h_)
    refine lvg (d := 22) (t := 16) rfl (by kernel_rfl) rfl (bf q19 (by kernel_rfl)) rfl (by kernel_rfl) (e_notv (c := t31) (by kernel_rfl)) ?_
    refine lv (d := 23) rfl rfl (by kernel_rfl) (e_pick_f (v := .bool (decide (¬ (t31 = true)))) (bf q19 (by kernel_rfl)) (by kernel_rfl)) ?_
    refine wpList_nil ?_
    refine then_n ?_
    by_cases q37 : ¬ (t31 = true)
    · replace H := ifp q37 H
      refine cond_t rfl (bt q37 (by kernel_rfl)) ?_
      refine wp_seq ?_
      refine wp_region_lit ?_
      refine lv (d := 2) rfl rfl (by kernel_rfl) (e_assign (v := .bool false) rfl) ?_
      refine wpList_nil ?_
      refine then_n ?_
      refine wp_ret ?_
      refine then_r ?_
      refine inb_r ?_
      refine then_r ?_
      refine then_r ?_
      refine inb_r ?_
      refine then_r ?_
      obtain rfl := Option.some.inj H
      exact ret1 (rfl) rfl  (show _ = .bool false from (by kernel_rfl)) ⟨rfl, hC⟩
    replace H := ifn q37 H
    refine cond_f rfl (bf q37 (by kernel_rfl)) ?_
    refine wp_skip ?_
    refine then_n ?_
    refine wp_seq ?_
    refine wp_region_lit ?_
    refine lv (d := 24) rfl rfl (by kernel_rfl) (e_move (v := .int .i64 x10) (by exact e11)) ?_
    refine lv (d := 25) rfl rfl (by kernel_rfl) (e_sub (k := .i64) (a := x10) (b := 1) (by kernel_rfl) rfl) ?_
    refine lv (d := 3) rfl rfl (by kernel_rfl) (e_assign (v := .int .i64 (IntKind.i64.wrap (x10 - 1))) (by kernel_rfl)) ?_
    refine wpList_nil ?_
    refine then_n ?_
    refine wp_seq ?_
    refine wp_region_lit ?_
    refine lv (d := 26) rfl rfl (by kernel_rfl) (e_move (v := .slice A2 x1.length c3) (by exact e9)) ?_
    refine lv (d := 27) rfl rfl (by kernel_rfl) (e_move (v := .int .i64 x12) (by exact e13)) ?_
    obtain ⟨b38, o39, y40, e43, _, r41, k42⟩ := Rd.get h4 (x12).toNat _ (getD_some z65 (by omega))
    obtain ⟨A44, c45, rfl, l46, h47⟩ := st65_open r41
    refine lv (d := 28) rfl rfl (by kernel_rfl) (e_indexAddr (b := b38) (off := o39) (n := x1.length) (c := c3) (sz := 3) (i := x12) (k := .i64) Try.underlying25 e43 (by kernel_rfl) (by kernel_rfl) (by kernel_rfl) q20 q18) ?_
    refine lv (d := 29) rfl rfl (by kernel_rfl) (e_fieldAddr (b := b38) (off := o39 + (x12 : Int).toNat * 3) (o := 0) Try.underlying65 rfl rfl (sz := 1) (by kernel_rfl) (by decide) (by kernel_rfl)) ?_
    refine lv (d := 30) rfl rfl (by kernel_rfl) (e_load1 (ad := ⟨b38, o39 + (x12 : Int).toNat * 3 + 0, none⟩) (v := .int .i64 ((x1.getD (x12).toNat z65).kind)) Try.underlying3 rfl (by kernel_rfl) (k42 0 _ rfl)) ?_
    refine lv (d := 31) rfl rfl (by kernel_rfl) (e_eql (k := .i64) (a := (x1.getD (x12).toNat z65).kind) (b := 3) (by kernel_rfl) rfl) ?_
    refine wpList_nil ?_
    refine then_n ?_
    by_cases q48 : ((x1.getD (x12).toNat z65).kind) = 3
    · replace H := ifp q48 H
      refine cond_t rfl (bt q48 (by kernel_rfl)) ?_
      refine wp_region_lit ?_
      refine lv (d := 32) rfl rfl (by kernel_rfl) (e_move (v := .int .i64 (IntKind.i64.wrap (x10 - 1))) (by kernel_rfl)) ?_
      refine lv (d := 33) rfl rfl (by kernel_rfl) (e_move (v := .slice A2 x1.length c3) (by exact e9)) ?_
      refine lv (d := 34) rfl rfl (by kernel_rfl) (e_move (v := .int .i64 x12) (by exact e13)) ?_
      obtain ⟨b49, o50, y51, e54, _, r52, k53⟩ := Rd.get h4 (x12).toNat _ (getD_some z65 (by omega))
      obtain ⟨A55, c56, rfl, l57, h58⟩ := st65_open r52
      refine lv (d := 35) rfl rfl (by kernel_rfl) (e_indexAddr (b := b49) (off := o50) (n := x1.length) (c := c3) (sz := 3) (i := x12) (k := .i64) Try.underlying25 e54 (by kernel_rfl) (by kernel_rfl) (by kernel_rfl) q20 q18) ?_
      refine lv (d := 36) rfl rfl (by kernel_rfl) (e_fieldAddr (b := b49) (off := o50 + (x12 : Int).toNat * 3) (o := 1) Try.underlying65 rfl rfl (sz := 1) (by kernel_rfl) (by decide) (by kernel_rfl)) ?_
      refine lv (d := 37) rfl rfl (by kernel_rfl) (e_load1 (ad := ⟨b49, o50 + (x12 : Int).toNat * 3 + 1, none⟩) (v := .int .i64 ((x1.getD (x12).toNat z65).n)) Try.underlying3 rfl (by kernel_rfl) (k53 1 _ rfl)) ?_
      refine lv (d := 38) rfl rfl (by kernel_rfl) (e_add (k := .i64) (a := (IntKind.i64.wrap (x10 - 1))) (b := (x1.getD (x12).toNat z65).n) (by kernel_rfl) (by kernel_rfl)) ?_
      refine lv (d := 3) rfl rfl (by kernel_rfl) (e_assign (v := .int .i64 (IntKind.i64.wrap ((IntKind.i64.wrap (x10 - 1)) + ((x1.getD (x12).toNat z65).n)))) (by kernel_rfl)) ?_
      refine wpList_nil ?_
      refine inb_n ?_
      refine then_n ?_
      refine wp_region_lit ?_
      refine lv (d := 12) rfl rfl (by kernel_rfl) (e_move (v := .int .i64 x12) (by exact e13)) ?_
      refine lv (d := 13) rfl rfl (by kernel_rfl) (e_add (k := .i64) (a := x12) (b := 1) (by kernel_rfl) rfl) ?_
      refine lv (d := 4) rfl rfl (by kernel_rfl) (e_assign (v := .int .i64 (IntKind.i64.wrap (x12 + 1))) (by kernel_rfl)) ?_
      refine wpList_nil ?_
      refine then_n ?_
      exact ⟨k17, (by omega), _, (IntKind.i64.wrap ((IntKind.i64.wrap (x10 - 1)) + ((x1.getD (x12).toNat z65).n))), (IntKind.i64.wrap (x12 + 1)), rfl, (by exact e9), (by kernel_rfl), (by kernel_rfl), (Rd.mono (fp_sub (fun _ h_ => h_) (by omega) (by simp [bk])) h4), hC, (by omega), H⟩
    replace H := ifn q48 H
    refine cond_f rfl (bf q48 (by kernel_rfl)) ?_
    refine wp_skip ?_
    refine inb_n ?_
    refine then_n ?_
    refine wp_region_lit ?_
    refine lv (d := 12) rfl rfl (by kernel_rfl) (e_move (v := .int .i64 x12) (by exact e13)) ?_
    refine lv (d := 13) rfl rfl (by kernel_rfl) (e_add (k := .i64) (a := x12) (b := 1) (by kernel_rfl) rfl) ?_
    refine lv (d := 4) rfl rfl (by kernel_rfl) (e_assign (v := .int .i64 (IntKind.i64.wrap (x12 + 1))) (by kernel_rfl)) ?_
    refine wpList_nil ?_
    refine then_n ?_
    exact ⟨k17, (by omega), _, (IntKind.i64.wrap (x10 - 1)), (IntKind.i64.wrap (x12 + 1)), rfl, (by exact e9), (by kernel_rfl), (by kernel_rfl), (Rd.mono (fp_sub (fun _ h_ => h_) (by omega) (by simp [bk])) h4), hC, (by omega), H⟩
  replace H := ifn q18 H
  refine cond_f rfl (bf q18 (by kernel_rfl)) ?_
  refine wp_exit ?_
  refine then_e ?_
  refine then_e ?_
  refine inb_hit ?_
  refine then_n ?_
  refine wp_seq ?_
  refine wp_region_lit ?_
  refine lv (d := 39) rfl rfl (by kernel_rfl) (e_move (v := .int .i64 x10) (by exact e11)) ?_
  refine lv (d := 40) rfl rfl (by kernel_rfl) (e_eql (k := .i64) (a := x10) (b := 0) (by kernel_rfl) rfl) ?_
  refine lv (d := 2) rfl rfl (by kernel_rfl) (e_assign (v := .bool (decide (x10 = 0))) (by kernel_rfl)) ?_
  refine wpList_nil ?_
  refine then_n ?_
  refine wp_ret ?_
  obtain rfl := Option.some.inj H
  exact ret1 (rfl) rfl  (show _ = .bool (decide (x10 = 0)) from (by kernel_rfl)) ⟨rfl, hC⟩

/-! spec.l2sign -/
def spec_l2sign.f (x1 : Bool) : Option Int := (if x1 = true then some (-1) else some 1)
theorem spec_l2sign.calls (w : World) (F : Foot) (x1 : Bool) (r : Int) (H : spec_l2sign.f x1 = some r) :
    Calls Try.prog 105 #[.bool x1] w (fun e e_w => e = .returned (.int .i64 r) ∧ Chg [] w e_w) := by
  rw [spec_l2sign.f] at H
  refine enter (l := [.bool x1]) 4 Try.func105 rfl rfl rfl ?_
  have hC := Chg.refl [] w
  refine wp_seq ?_
  refine wp_region_lit ?_
  refine lv (d := 2) rfl rfl (by kernel_rfl) (e_assign (v := .int .i64 0) rfl) ?_
  refine wpList_nil ?_
  refine then_n ?_
  refine wp_seq ?_
  refine wp_seq ?_
  refine wp_region_lit ?_
  refine lv (d := 3) rfl rfl (by kernel_rfl) (e_move (v := .bool x1) (by kernel_rfl)) ?_
  refine wpList_nil ?_
  refine then_n ?_
  by_cases q2 : x1 = true
  · replace H := ifp q2 H
    refine cond_t rfl (bvt q2 (by kernel_rfl)) ?_
    refine wp_seq ?_
    refine wp_region_lit ?_
    refine lv (d := 2) rfl rfl (by kernel_rfl) (e_assign (v := .int .i64 (-1)) rfl) ?_
    refine wpList_nil ?_
    refine then_n ?_
    refine wp_ret ?_
    refine then_r ?_
    obtain rfl := Option.some.inj H
    exact ret1 (rfl) rfl  (show _ = .int .i64 (-1) from (by kernel_rfl)) ⟨rfl, hC⟩
  replace H := ifn q2 H
  refine cond_f rfl (bvf q2 (by kernel_rfl)) ?_
  refine wp_skip ?_
  refine then_n ?_
  refine wp_seq ?_
  refine wp_region_lit ?_
  refine lv (d := 2) rfl rfl (by kernel_rfl) (e_assign (v := .int .i64 1) rfl) ?_
  refine wpList_nil ?_
  refine then_n ?_
  refine wp_ret ?_
  obtain rfl := Option.some.inj H
  exact ret1 (rfl) rfl  (show _ = .int .i64 1 from (by kernel_rfl)) ⟨rfl, hC⟩

/-! spec.l2compare -/
def spec_l2compare.l0 : Nat → (List Cell) → (List Cell) → Int → Option Int
  | 0, _, _, _ => none
  | k20 + 1, x1, x6, x15 => (if x15 < (x1.length : Int) then (if x15 < (x6.length : Int) then (if 0 ≤ x15 then (if ((x1.getD (x15).toNat z65).kind) ≠ ((x6.getD (x15).toNat z65).kind) then ((spec_l2sign.f (decide (((x1.getD (x15).toNat z65).kind) < ((x6.getD (x15).toNat z65).kind)))).bind fun t69 => some t69) else (if ((x1.getD (x15).toNat z65).n) ≠ ((x6.getD (x15).toNat z65).n) then ((spec_l2sign.f (decide (((x1.getD (x15).toNat z65).n) < ((x6.getD (x15).toNat z65).n)))).bind fun t76 => some t76) else (if (x1.getD (x15).toNat z65).text ≠ (x6.getD (x15).toNat z65).text then ((spec_l2sign.f (Op.bytesLess ((x1.getD (x15).toNat z65).text) ((x6.getD (x15).toNat z65).text))).bind fun t83 => some t83) else (spec_l2compare.l0 k20 x1 x6 (IntKind.i64.wrap (x15 + 1)))))) else none) else some 0) else some 0)
def spec_l2compare.f (k : Nat) (x1 : List Cell) (x6 : List Cell) : Option Int := (spec_l2compare.l0 k x1 x6 0)
theorem spec_l2compare.calls (k : Nat) (w : World) (F : Foot) (x1 : List Cell) (A2 : Option Addr) (c3 : Nat) (x6 : List Cell) (A7 : Option Addr) (c8 : Nat) (h4 : Rd st65 w F A2 x1) (l5 : x1.length ≤ c3) (h9 : Rd st65 w F A7 x6) (l10 : x6.length ≤ c8) (r : Int) (H : spec_l2compare.f k x1 x6 = some r) :
    Calls Try.prog 60 #[.slice A2 x1.length c3, .slice A7 x6.length c8] w (fun e e_w => e = .returned (.int .i64 r) ∧ Chg [] w e_w) := by
  rw [spec_l2compare.f] at H
  refine enter (l := [.slice A2 x1.length c3, .slice A7 x6.length c8]) 65 Try.func60 rfl rfl rfl ?_
  replace h4 := rd_canonF (by decide) h4
  replace h9 := rd_canonF (by decide) h9
  have hC := Chg.refl [] w
  refine wp_seq ?_
  refine wp_region_lit ?_
  refine lv (d := 4) rfl rfl (by kernel_rfl) (e_assign (v := .int .i64 0) rfl) ?_
  refine wpList_nil ?_
  refine then_n ?_
  refine wp_seq ?_
  refine wp_seq ?_
  refine wp_region_lit ?_
  refine lv (d := 5) rfl rfl (by kernel_rfl) (e_assign (v := .int .i64 0) rfl) ?_
  refine wpList_nil ?_
  refine then_n ?_
  refine wp_block ?_
  refine wp_loop_g (fun k18 a19 w11 => ∃ (f12 : Nat → Value) (x15 : Int), a19 = mk 65 f12 ∧ f12 0 = .slice A2 x1.length c3 ∧ f12 1 = .slice A7 x6.length c8 ∧ f12 5 = .int .i64 x15 ∧ Rd st65 w11 (FP F w.heap.size []) A2 x1 ∧ Rd st65 w11 (FP F w.heap.size []) A7 x6 ∧ Chg [] w w11 ∧ w.heap.size ≤ w11.heap.size ∧ spec_l2compare.l0 k18 x1 x6 x15 = some r) k ⟨_, 0, rfl, (by kernel_rfl), (by kernel_rfl), (by kernel_rfl), (Rd.mono (fp_sub (fun _ h_ => h_) (by omega) (by simp [bk])) h4), (Rd.mono (fp_sub (fun _ h_ => h_) (by omega) (by simp [bk])) h9), hC, (by omega), H⟩ ?_
  rintro k18 a19 w11 ⟨f12, x15, rfl, e13, e14, e16, h4, h9, hC, z17, H⟩
  rcases k18 with _ | k20
  · rw [spec_l2compare.l0] at H
    cases H
  rw [spec_l2compare.l0] at H
  refine wp_seq ?_
  refine wp_seq ?_
  refine wp_region_lit ?_
  refine lv (d := 8) rfl rfl (by kernel_rfl) (e_move (v := .int .i64 x15) (by exact e16)) ?_
  refine lv (d := 9) rfl rfl (by kernel_rfl) (e_move (v := .slice A2 x1.length c3) (by exact e13)) ?_
  refine lv (d := 10) rfl rfl (by kernel_rfl) (e_len (A := A2) (n := x1.length) (c := c3) Try.underlying25 (by kernel_rfl)) ?_
  refine lv (d := 11) rfl rfl (by kernel_rfl) (e_lss (k := .i64) (a := x15) (b := (x1.length : Int)) (by kernel_rfl) (by kernel_rfl)) ?_
  refine lv (d := 12) rfl rfl (by kernel_rfl) (e_move (v := .bool (decide (x15 < (x1.length : Int)))) (by kernel_rfl)) ?_
  by_cases q21 : x15 < (x1.length : Int)
  · replace H := ifp q21 H
    refine lvg (d := 13) (t := 12) rfl (by kernel_rfl) rfl (bt q21 (by kernel_rfl)) rfl (by kernel_rfl) (e_move (v := .int .i64 x15) (by exact e16)) ?_
    refine lvg (d := 14) (t := 12) rfl (by kernel_rfl) rfl (bt q21 (by kernel_rfl)) rfl (by kernel_rfl) (e_move (v := .slice A7 x6.length c8) (by exact e14)) ?_
    refine lvg (d := 15) (t := 12) rfl (by kernel_rfl) rfl (bt q21 (by kernel_rfl)) rfl (by kernel_rfl) (e_len (A := A7) (n := x6.length) (c := c8) Try.underlying25 (by kernel_rfl)) ?_
    refine lvg (d := 16) (t := 12) rfl (by kernel_rfl) rfl (bt q21 (by kernel_rfl)) rfl (by kernel_rfl) (e_lss (k := .i64) (a := x15) (b := (x6.length : Int)) (by kernel_rfl) (by kernel_rfl)) ?_
    refine lv (d := 17) rfl rfl (by kernel_rfl) (e_pick_t (v := .bool (decide (x15 < (x6.length : Int)))) (bt q21 (by kernel_rfl)) (by kernel_rfl)) ?_
    refine wpList_nil ?_
    refine then_n ?_
    by_cases q22 : x15 < (x6.length : Int)
    · replace H := ifp q22 H
      refine cond_t rfl (bt q22 (by kernel_rfl)) ?_
      refine wp_skip ?_
      refine then_n ?_
      refine wp_seq ?_
      refine wp_block ?_
      refine wp_seq ?_
      refine wp_region_lit ?_
      refine lv (d := 20) rfl rfl (by kernel_rfl) (e_move (v := .slice A2 x1.length c3) (by exact e13)) ?_
      refine lv (d := 21) rfl rfl (by kernel_rfl) (e_move (v := .int .i64 x15) (by exact e16)) ?_
      obtain ⟨q23, H⟩ := chk H
      obtain ⟨b24, o25, y26, e29, _, r27, k28⟩ := Rd.get h4 (x15).toNat _ (getD_some z65 (by omega))
      obtain ⟨A30, c31, rfl, l32, h33⟩ := st65_open r27
      refine lv (d := 22) rfl rfl (by kernel_rfl) (e_indexAddr (b := b24) (off := o25) (n := x1.length) (c := c3) (sz := 3) (i := x15) (k := .i64) Try.underlying25 e29 (by kernel_rfl) (by kernel_rfl) (by kernel_rfl) q23 q21) ?_
      refine lv (d := 23) rfl rfl (by kernel_rfl) (e_loadS (b := b24) (off := o25 + (x15 : Int).toNat * 3) (cs := [.int .i64 ((x1.getD (x15).toNat z65).kind), .int .i64 ((x1.getD (x15).toNat z65).n), .slice A30 ((x1.getD (x15).toNat z65).text).length c31]) Try.underlying65 rfl (by kernel_rfl) (by kernel_rfl) k28) ?_
      refine lve (d := 6) rfl rfl (by kernel_rfl) (new_blk (v := fun g_ => .pointer (some ⟨g_, 0, none⟩)) (cs := #[.int .i64 0, .int .i64 0, .slice none 0 0]) (t := 65) (by kernel_rfl)) ?_
      rintro _ w34 ⟨g35, rfl, b36, n37, C38⟩
      have m39 := heap_lt b36
      have z40 := C38.size
      replace h4 := Rd.mono (fp_new (g := g35) (by omega)) (Rd.move (fp_chg C38 (by omega) (by simp)) h4)
      replace h9 := Rd.mono (fp_new (g := g35) (by omega)) (Rd.move (fp_chg C38 (by omega) (by simp)) h9)
      replace h33 := Rd.mono (fp_new (g := g35) (by omega)) (Rd.move (fp_chg C38 (by omega) (by simp)) h33)
      replace hC := hC.step C38 (fun _ h_ => by cases h_)
      refine lse rfl rfl (by kernel_rfl) (e_store (g := g35) (o := 0) (v := .agg #[.int .i64 ((x1.getD (x15).toNat z65).kind), .int .i64 ((x1.getD (x15).toNat z65).n), .slice A30 ((x1.getD (x15).toNat z65).text).length c31]) (cur' := #[.int .i64 ((x1.getD (x15).toNat z65).kind), .int .i64 ((x1.getD (x15).toNat z65).n), .slice A30 ((x1.getD (x15).toNat z65).text).length c31]) (vs := [.int .i64 ((x1.getD (x15).toNat z65).kind), .int .i64 ((x1.getD (x15).toNat z65).n), .slice A30 ((x1.getD (x15).toNat z65).text).length c31]) (by kernel_rfl) (by kernel_rfl) rfl (by kernel_rfl) b36 (thaw0 _) (Nat.le_of_ble_eq_true rfl) (List.forall_mem_cons.2 ⟨rfl, (List.forall_mem_cons.2 ⟨rfl, (List.forall_mem_cons.2 ⟨rfl, (fun _ h_ => by cases h_)⟩)⟩)⟩) rfl) ?_
      rintro w41 ⟨b42, C43, s44⟩
      have z45 := C43.size
      replace h4 := Rd.move (fp_chg C43 (by omega) (by simp)) h4
      replace h9 := Rd.move (fp_chg C43 (by omega) (by simp)) h9
      replace h33 := Rd.move (fp_chg C43 (by omega) (by simp)) h33
      replace hC := hC.step C43 (fun o_ h_ => by simp only [List.mem_singleton] at h_; subst h_; exact .inr (fun b_ e_ => by injection e_ with e_; omega))
      refine wpList_nil ?_
      refine then_n ?_
      refine wp_seq ?_
      refine wp_region_lit ?_
      refine lv (d := 24) rfl rfl (by kernel_rfl) (e_move (v := .slice A7 x6.length c8) (by exact e14)) ?_
      refine lv (d := 25) rfl rfl (by kernel_rfl) (e_move (v := .int .i64 x15) (by exact e16)) ?_
      obtain ⟨b46, o47, y48, e51, _, r49, k50⟩ := Rd.get h9 (x15).toNat _ (getD_some z65 (by omega))
      obtain ⟨A52, c53, rfl, l54, h55⟩ := st65_open r49
      refine lv (d := 26) rfl rfl (by kernel_rfl) (e_indexAddr (b := b46) (off := o47) (n := x6.length) (c := c8) (sz := 3) (i := x15) (k := .i64) Try.underlying25 e51 (by kernel_rfl) (by kernel_rfl) (by kernel_rfl) q23 q22) ?_
      refine lv (d := 27) rfl rfl (by kernel_rfl) (e_loadS (b := b46) (off := o47 + (x15 : Int).toNat * 3) (cs := [.int .i64 ((x6.getD (x15).toNat z65).kind), .int .i64 ((x6.getD (x15).toNat z65).n), .slice A52 ((x6.getD (x15).toNat z65).text).length c53]) Try.underlying65 rfl (by kernel_rfl) (by kernel_rfl) k50) ?_
      refine lve (d := 7) rfl rfl (by kernel_rfl) (new_blk (v := fun g_ => .pointer (some ⟨g_, 0, none⟩)) (cs := #[.int .i64 0, .int .i64 0, .slice none 0 0]) (t := 65) (by kernel_rfl)) ?_
      rintro _ w56 ⟨g57, rfl, b58, n59, C60⟩
      have m61 := heap_lt b58
      have z62 := C60.size
      replace h4 := Rd.mono (fp_new (g := g57) (by omega)) (Rd.move (fp_chg C60 (by omega) (by simp)) h4)
      replace h9 := Rd.mono (fp_new (g := g57) (by omega)) (Rd.move (fp_chg C60 (by omega) (by simp)) h9)
      replace b42 := C60.heap b42 (by simp)
      replace h33 := Rd.mono (fp_new (g := g57) (by omega)) (Rd.move (fp_chg C60 (by omega) (by simp)) h33)
      replace h55 := Rd.mono (fp_new (g := g57) (by omega)) (Rd.move (fp_chg C60 (by omega) (by simp)) h55)
      replace hC := hC.step C60 (fun _ h_ => by cases h_)
      refine lse rfl rfl (by kernel_rfl) (e_store (g := g57) (o := 0) (v := .agg #[.int .i64 ((x6.getD (x15).toNat z65).kind), .int .i64 ((x6.getD (x15).toNat z65).n), .slice A52 ((x6.getD (x15).toNat z65).text).length c53]) (cur' := #[.int .i64 ((x6.getD (x15).toNat z65).kind), .int .i64 ((x6.getD (x15).toNat z65).n), .slice A52 ((x6.getD (x15).toNat z65).text).length c53]) (vs := [.int .i64 ((x6.getD (x15).toNat z65).kind), .int .i64 ((x6.getD (x15).toNat z65).n), .slice A52 ((x6.getD (x15).toNat z65).text).length c53]) (by kernel_rfl) (by kernel_rfl) rfl (by kernel_rfl) b58 (thaw0 _) (Nat.le_of_ble_eq_true rfl) (List.forall_mem_cons.2 ⟨rfl, (List.forall_mem_cons.2 ⟨rfl, (List.forall_mem_cons.2 ⟨rfl, (fun _ h_ => by cases h_)⟩)⟩)⟩) rfl) ?_
      rintro w63 ⟨b64, C65, s66⟩
      have z67 := C65.size
      replace h4 := Rd.move (fp_chg C65 (by omega) (by simp)) h4
      replace h9 := Rd.move (fp_chg C65 (by omega) (by simp)) h9
      replace b42 := C65.heap b42 (by simp; omega)
      replace h33 := Rd.move (fp_chg C65 (by omega) (by simp)) h33
      replace h55 := Rd.move (fp_chg C65 (by omega) (by simp)) h55
      replace hC := hC.step C65 (fun o_ h_ => by simp only [List.mem_singleton] at h_; subst h_; exact .inr (fun b_ e_ => by injection e_ with e_; omega))
      refine wpList_nil ?_
      refine then_n ?_
      refine wp_seq ?_
      refine wp_seq ?_
      refine wp_region_lit ?_
      refine lv (d := 28) rfl rfl (by kernel_rfl) (e_fieldAddr (b := g35) (off := 0) (o := 0) Try.underlying65 rfl rfl (sz := 1) (by kernel_rfl) (by decide) (by kernel_rfl)) ?_
      refine lv (d := 29) rfl rfl (by kernel_rfl) (e_load1 (ad := ⟨g35, 0 + 0, none⟩) (v := .int .i64 ((x1.getD (x15).toNat z65).kind)) Try.underlying3 rfl (by kernel_rfl) ((cell_of_row _ _ _ _ _ _ b42).trans rfl)) ?_
      refine lv (d := 30) rfl rfl (by kernel_rfl) (e_fieldAddr (b := g57) (off := 0) (o := 0) Try.underlying65 rfl rfl (sz := 1) (by kernel_rfl) (by decide) (by kernel_rfl)) ?_
      refine lv (d := 31) rfl rfl (by kernel_rfl) (e_load1 (ad := ⟨g57, 0 + 0, none⟩) (v := .int .i64 ((x6.getD (x15).toNat z65).kind)) Try.underlying3 rfl (by kernel_rfl) ((cell_of_row _ _ _ _ _ _ b64).trans rfl)) ?_
      refine lv (d := 32) rfl rfl (by kernel_rfl) (e_neq (k := .i64) (a := (x1.getD (x15).toNat z65).kind) (b := (x6.getD (x15).toNat z65).kind) (by kernel_rfl) (by kernel_rfl)) ?_
      refine wpList_nil ?_
      refine then_n ?_
      by_cases q68 : ((x1.getD (x15).toNat z65).kind) ≠ ((x6.getD (x15).toNat z65).kind)
      · replace H := ifp q68 H
        refine cond_t rfl (bt q68 (by kernel_rfl)) ?_
        refine wp_seq ?_
        refine wp_region_lit ?_
        refine lv (d := 33) rfl rfl (by kernel_rfl) (e_fieldAddr (b := g35) (off := 0) (o := 0) Try.underlying65 rfl rfl (sz := 1) (by kernel_rfl) (by decide) (by kernel_rfl)) ?_
        refine lv (d := 34) rfl rfl (by kernel_rfl) (e_load1 (ad := ⟨g35, 0 + 0, none⟩) (v := .int .i64 ((x1.getD (x15).toNat z65).kind)) Try.underlying3 rfl (by kernel_rfl) ((cell_of_row _ _ _ _ _ _ b42).trans rfl)) ?_
        refine lv (d := 35) rfl rfl (by kernel_rfl) (e_fieldAddr (b := g57) (off := 0) (o := 0) Try.underlying65 rfl rfl (sz := 1) (by kernel_rfl) (by decide) (by kernel_rfl)) ?_
        refine lv (d := 36) rfl rfl (by kernel_rfl) (e_load1 (ad := ⟨g57, 0 + 0, none⟩) (v := .int .i64 ((x6.getD (x15).toNat z65).kind)) Try.underlying3 rfl (by kernel_rfl) ((cell_of_row _ _ _ _ _ _ b64).trans rfl)) ?_
        refine lv (d := 37) rfl rfl (by kernel_rfl) (e_lss (k := .i64) (a := (x1.getD (x15).toNat z65).kind) (b := (x6.getD (x15).toNat z65).kind) (by kernel_rfl) (by kernel_rfl)) ?_
        obtain ⟨t69, u70, H⟩ := bnd H
        refine lcall (d := 38) rfl rfl (by kernel_rfl) (e_call (l := [.tmp 37]) (vs := [.bool (decide (((x1.getD (x15).toNat z65).kind) < ((x6.getD (x15).toNat z65).kind)))]) Try.func105 (by kernel_rfl) rfl (by kernel_rfl) rfl) (spec_l2sign.calls w63 (FP (fw F w.heap.size) w63.heap.size [some g57, some g35]) (decide (((x1.getD (x15).toNat z65).kind) < ((x6.getD (x15).toNat z65).kind)))  t69 u70) ?_
        rintro _ w71 ⟨rfl, C72⟩
        refine ⟨_, rfl, ?_⟩
        have u73 : Lt [some g57, some g35] w63.heap.size := (Lt.blk b64 (Lt.blk b42 (Lt.nil _)))
        have z74 := C72.size
        replace hC := hC.step C72 (fun _ h_ => by cases h_)
        refine lv (d := 4) rfl rfl (by kernel_rfl) (e_assign (v := .int .i64 t69) (by kernel_rfl)) ?_
        refine wpList_nil ?_
        refine then_n ?_
        refine wp_ret ?_
        refine then_r ?_
        refine inb_r ?_
        refine then_r ?_
        refine then_r ?_
        refine inb_r ?_
        refine then_r ?_
        obtain rfl := Option.some.inj H
        exact ret1 (rfl) rfl  (show _ = .int .i64 t69 from (by kernel_rfl)) ⟨rfl, hC⟩
      replace H := ifn q68 H
      refine cond_f rfl (bf q68 (by kernel_rfl)) ?_
      refine wp_skip ?_
      refine then_n ?_
      refine wp_seq ?_
      refine wp_seq ?_
      refine wp_region_lit ?_
      refine lv (d := 39) rfl rfl (by kernel_rfl) (e_fieldAddr (b := g35) (off := 0) (o := 1) Try.underlying65 rfl rfl (sz := 1) (by kernel_rfl) (by decide) (by kernel_rfl)) ?_
      refine lv (d := 40) rfl rfl (by kernel_rfl) (e_load1 (ad := ⟨g35, 0 + 1, none⟩) (v := .int .i64 ((x1.getD (x15).toNat z65).n)) Try.underlying3 rfl (by kernel_rfl) ((cell_of_row _ _ _ _ _ _ b42).trans rfl)) ?_
      refine lv (d := 41) rfl rfl (by kernel_rfl) (e_fieldAddr (b := g57) (off := 0) (o := 1) Try.underlying65 rfl rfl (sz := 1) (by kernel_rfl) (by decide) (by kernel_rfl)) ?_
      refine lv (d := 42) rfl rfl (by kernel_rfl) (e_load1 (ad := ⟨g57, 0 + 1, none⟩) (v := .int .i64 ((x6.getD (x15).toNat z65).n)) Try.underlying3 rfl (by kernel_rfl) ((cell_of_row _ _ _ _ _ _ b64).trans rfl)) ?_
      refine lv (d := 43) rfl rfl (by kernel_rfl) (e_neq (k := .i64) (a := (x1.getD (x15).toNat z65).n) (b := (x6.getD (x15).toNat z65).n) (by kernel_rfl) (by kernel_rfl)) ?_
      refine wpList_nil ?_
      refine then_n ?_
      by_cases q75 : ((x1.getD (x15).toNat z65).n) ≠ ((x6.getD (x15).toNat z65).n)
      · replace H := ifp q75 H
        refine cond_t rfl (bt q75 (by kernel_rfl)) ?_
        refine wp_seq ?_
        refine wp_region_lit ?_
        refine lv (d := 44) rfl rfl (by kernel_rfl) (e_fieldAddr (b := g35) (off := 0) (o := 1) Try.underlying65 rfl rfl (sz := 1) (by kernel_rfl) (by decide) (by kernel_rfl)) ?_
        refine lv (d := 45) rfl rfl (by kernel_rfl) (e_load1 (ad := ⟨g35, 0 + 1, none⟩) (v := .int .i64 ((x1.getD (x15).toNat z65).n)) Try.underlying3 rfl (by kernel_rfl) ((cell_of_row _ _ _ _ _ _ b42).trans rfl)) ?_
        refine lv (d := 46) rfl rfl (by kernel_rfl) (e_fieldAddr (b := g57) (off := 0) (o := 1) Try.underlying65 rfl rfl (sz := 1) (by kernel_rfl) (by decide) (by kernel_rfl)) ?_
        refine lv (d := 47) rfl rfl (by kernel_rfl) (e_load1 (ad := ⟨g57, 0 + 1, none⟩) (v := .int .i64 ((x6.getD (x15).toNat z65).n)) Try.underlying3 rfl (by kernel_rfl) ((cell_of_row _ _ _ _ _ _ b64).trans rfl)) ?_
        refine lv (d := 48) rfl rfl (by kernel_rfl) (e_lss (k := .i64) (a := (x1.getD (x15).toNat z65).n) (b := (x6.getD (x15).toNat z65).n) (by kernel_rfl) (by kernel_rfl)) ?_
        obtain ⟨t76, u77, H⟩ := bnd H
        refine lcall (d := 49) rfl rfl (by kernel_rfl) (e_call (l := [.tmp 48]) (vs := [.bool (decide (((x1.getD (x15).toNat z65).n) < ((x6.getD (x15).toNat z65).n)))]) Try.func105 (by kernel_rfl) rfl (by kernel_rfl) rfl) (spec_l2sign.calls w63 (FP (fw F w.heap.size) w63.heap.size [some g57, some g35]) (decide (((x1.getD (x15).toNat z65).n) < ((x6.getD (x15).toNat z65).n)))  t76 u77) ?_
        rintro _ w78 ⟨rfl, C79⟩
        refine ⟨_, rfl, ?_⟩
        have u80 : Lt [some g57, some g35] w63.heap.size := (Lt.blk b64 (Lt.blk b42 (Lt.nil _)))
        have z81 := C79.size
        replace hC := hC.step C79 (fun _ h_ => by cases h_)
        refine lv (d := 4) rfl rfl (by kernel_rfl) (e_assign (v := .int .i64 t76) (by kernel_rfl)) ?_
        refine wpList_nil ?_
        refine then_n ?_
        refine wp_ret ?_
        refine then_r ?_
        refine inb_r ?_
        refine then_r ?_
        refine then_r ?_
        refine inb_r ?_
        refine then_r ?_
        obtain rfl := Option.some.inj H
        exact ret1 (rfl) rfl  (show _ = .int .i64 t76 from (by kernel_rfl)) ⟨rfl, hC⟩
      replace H := ifn q75 H
      refine cond_f rfl (bf q75 (by kernel_rfl)) ?_
      refine wp_skip ?_
      refine then_n ?_
      refine wp_seq ?_
      refine wp_region_lit ?_
      refine lv (d := 50) rfl rfl (by kernel_rfl) (e_fieldAddr (b := g35) (off := 0) (o := 2) Try.underlying65 rfl rfl (sz := 1) (by kernel_rfl) (by decide) (by kernel_rfl)) ?_
      refine lv (d := 51) rfl rfl (by kernel_rfl) (e_load1 (ad := ⟨g35, 0 + 2, none⟩) (v := .slice A30 ((x1.getD (x15).toNat z65).text).length c31) Try.underlying59 rfl (by kernel_rfl) ((cell_of_row _ _ _ _ _ _ b42).trans rfl)) ?_
      refine lv (d := 52) rfl rfl (by kernel_rfl) (e_conv_bs (c := c31) Try.underlying59 Try.underlying5 Try.underlying9 (by kernel_rfl) h33) ?_
      refine lv (d := 53) rfl rfl (by kernel_rfl) (e_fieldAddr (b := g57) (off := 0) (o := 2) Try.underlying65 rfl rfl (sz := 1) (by kernel_rfl) (by decide) (by kernel_rfl)) ?_
      refine lv (d := 54) rfl rfl (by kernel_rfl) (e_load1 (ad := ⟨g57, 0 + 2, none⟩) (v := .slice A52 ((x6.getD (x15).toNat z65).text).length c53) Try.underlying59 rfl (by kernel_rfl) ((cell_of_row _ _ _ _ _ _ b64).trans rfl)) ?_
      refine lv (d := 55) rfl rfl (by kernel_rfl) (e_conv_bs (c := c53) Try.underlying59 Try.underlying5 Try.underlying9 (by kernel_rfl) h55) ?_
      refine lv (d := 56) rfl rfl (by kernel_rfl) (e_sneq (p := (x1.getD (x15).toNat z65).text) (q := (x6.getD (x15).toNat z65).text) (by kernel_rfl) (by kernel_rfl)) ?_
      refine wpList_nil ?_
      refine then_n ?_
      by_cases q82 : (x1.getD (x15).toNat z65).text ≠ (x6.getD (x15).toNat z65).text
      · replace H := ifp q82 H
        refine cond_t rfl (bt q82 (by kernel_rfl)) ?_
        refine wp_seq ?_
        refine wp_region_lit ?_
        refine lv (d := 57) rfl rfl (by kernel_rfl) (e_fieldAddr (b := g35) (off := 0) (o := 2) Try.underlying65 rfl rfl (sz := 1) (by kernel_rfl) (by decide) (by kernel_rfl)) ?_
        refine lv (d := 58) rfl rfl (by kernel_rfl) (e_load1 (ad := ⟨g35, 0 + 2, none⟩) (v := .slice A30 ((x1.getD (x15).toNat z65).text).length c31) Try.underlying59 rfl (by kernel_rfl) ((cell_of_row _ _ _ _ _ _ b42).trans rfl)) ?_
        refine lv (d := 59) rfl rfl (by kernel_rfl) (e_conv_bs (c := c31) Try.underlying59 Try.underlying5 Try.underlying9 (by kernel_rfl) h33) ?_
        refine lv (d := 60) rfl rfl (by kernel_rfl) (e_fieldAddr (b := g57) (off := 0) (o := 2) Try.underlying65 rfl rfl (sz := 1) (by kernel_rfl) (by decide) (by kernel_rfl)) ?_
        refine lv (d := 61) rfl rfl (by kernel_rfl) (e_load1 (ad := ⟨g57, 0 + 2, none⟩) (v := .slice A52 ((x6.getD (x15).toNat z65).text).length c53) Try.underlying59 rfl (by kernel_rfl) ((cell_of_row _ _ _ _ _ _ b64).trans rfl)) ?_
        refine lv (d := 62) rfl rfl (by kernel_rfl) (e_conv_bs (c := c53) Try.underlying59 Try.underlying5 Try.underlying9 (by kernel_rfl) h55) ?_
        refine lv (d := 63) rfl rfl (by kernel_rfl) (e_slss (p := (x1.getD (x15).toNat z65).text) (q := (x6.getD (x15).toNat z65).text) (by kernel_rfl) (by kernel_rfl)) ?_
        obtain ⟨t83, u84, H⟩ := bnd H
        refine lcall (d := 64) rfl rfl (by kernel_rfl) (e_call (l := [.tmp 63]) (vs := [.bool (Op.bytesLess ((x1.getD (x15).toNat z65).text) ((x6.getD (x15).toNat z65).text))]) Try.func105 (by kernel_rfl) rfl (by kernel_rfl) rfl) (spec_l2sign.calls w63 (FP (fw F w.heap.size) w63.heap.size [some g57, some g35]) (Op.bytesLess ((x1.getD (x15).toNat z65).text) ((x6.getD (x15).toNat z65).text))  t83 u84) ?_
        rintro _ w85 ⟨rfl, C86⟩
        refine ⟨_, rfl, ?_⟩
        have u87 : Lt [some g57, some g35] w63.heap.size := (Lt.blk b64 (Lt.blk b42 (Lt.nil _)))
        have z88 := C86.size
        replace hC := hC.step C86 (fun _ h_ => by cases h_)
        refine lv (d := 4) rfl rfl (by kernel_rfl) (e_assign (v := .int .i64 t83) (by kernel_rfl)) ?_
        refine wpList_nil ?_
        refine then_n ?_
        refine wp_ret ?_
        refine inb_r ?_
        refine then_r ?_
        refine then_r ?_
        refine inb_r ?_
        refine then_r ?_
        obtain rfl := Option.some.inj H
        exact ret1 (rfl) rfl  (show _ = .int .i64 t83 from (by kernel_rfl)) ⟨rfl, hC⟩
      replace H := ifn q82 H
      refine cond_f rfl (bf q82 (by kernel_rfl)) ?_
      refine wp_skip ?_
      refine inb_n ?_
      refine then_n ?_
      refine wp_region_lit ?_
      refine lv (d := 18) rfl rfl (by kernel_rfl) (e_move (v := .int .i64 x15) (by exact e16)) ?_
      refine lv (d := 19) rfl rfl (by kernel_rfl) (e_add (k := .i64) (a := x15) (b := 1) (by kernel_rfl) rfl) ?_
      refine lv (d := 5) rfl rfl (by kernel_rfl) (e_assign (v := .int .i64 (IntKind.i64.wrap (x15 + 1))) (by kernel_rfl)) ?_
      refine wpList_nil ?_
      refine then_n ?_
      exact ⟨k20, (by omega), _, (IntKind.i64.wrap (x15 + 1)), rfl, (by exact e13), (by exact e14), (by kernel_rfl), (Rd.mono (fp_sub (fun _ h_ => h_) (by omega) (by simp [bk])) h4), (Rd.mono (fp_sub (fun _ h_ => h_) (by omega) (by simp [bk])) h9), hC, (by omega), H⟩
    replace H := ifn q22 H
    refine cond_f rfl (bf q22 (by kernel_rfl)) ?_
    refine wp_exit ?_
    refine then_e ?_
    refine then_e ?_
    refine inb_hit ?_
    refine then_n ?_
    refine wp_seq ?_
    refine wp_region_lit ?_
    refine lv (d := 4) rfl rfl (by kernel_rfl) (e_assign (v := .int .i64 0) rfl) ?_
    refine wpList_nil ?_
    refine then_n ?_
    refine wp_ret ?_
    obtain rfl := Option.some.inj H
    exact ret1 (rfl) rfl  (show _ = .int .i64 0 from (by kernel_rfl)) ⟨rfl, hC⟩
  replace H := ifn q21 H
  refine lskip (t := 12) (c := false) rfl (by kernel_rfl) rfl (bf q21 (by kernel_rfl)) rfl rfl ?_
  refine lskip (t := 12) (c := false) rfl (by kernel_rfl) rfl (bf q21 (by kernel_rfl)) rfl rfl ?_
  refine lskip (t := 12) (c := false) rfl (by kernel_rfl) rfl (bf q21 (by kernel_rfl)) rfl rfl ?_
  refine lskip (t := 12) (c := false) rfl (by kernel_rfl) rfl (bf q21 (by kernel_rfl)) rfl rfl ?_
  refine lv (d := 17) rfl rfl (by kernel_rfl) (e_pick_f (v := .bool false) (bf q21 (by kernel_rfl)) rfl) ?_
  refine wpList_nil ?_
  refine then_n ?_
  refine cond_f rfl (by kernel_rfl) ?_
  refine wp_exit ?_
  refine then_e ?_
  refine then_e ?_
  refine inb_hit ?_
  refine then_n ?_
  refine wp_seq ?_
  refine wp_region_lit ?_
  refine lv (d := 4) rfl rfl (by kernel_rfl) (e_assign (v := .int .i64 0) rfl) ?_
  refine wpList_nil ?_
  refine then_n ?_
  refine wp_ret ?_
  obtain rfl := Option.some.inj H
  exact ret1 (rfl) rfl  (show _ = .int .i64 0 from (by kernel_rfl)) ⟨rfl, hC⟩

/-! spec.CompareTerms -/
def spec_CompareTerms.f (k : Nat) (x1 : List Cell) (x6 : List Cell) : Option (Int × Int) := ((spec_ValidTerm.f k x1).bind fun t11 => (if ¬ (t11 = true) then some (0, 1) else ((spec_ValidTerm.f k x6).bind fun t18 => (if ¬ (t18 = true) then some (0, 1) else ((spec_l2compare.f k x1 x6).bind fun t25 => some (t25, 0))))))
theorem spec_CompareTerms.calls (k : Nat) (w : World) (F : Foot) (x1 : List Cell) (A2 : Option Addr) (c3 : Nat) (x6 : List Cell) (A7 : Option Addr) (c8 : Nat) (h4 : Rd st65 w F A2 x1) (l5 : x1.length ≤ c3) (h9 : Rd st65 w F A7 x6) (l10 : x6.length ≤ c8) (r : Int × Int) (H : spec_CompareTerms.f k x1 x6 = some r) :
    Calls Try.prog 19 #[.slice A2 x1.length c3, .slice A7 x6.length c8] w (fun e e_w => e = .returned (.tuple #[.int .i64 r.1, .int .i64 r.2]) ∧ Chg [] w e_w) := by
  rw [spec_CompareTerms.f] at H
  refine enter (l := [.slice A2 x1.length c3, .slice A7 x6.length c8]) 17 Try.func19 rfl rfl rfl ?_
  replace h4 := rd_canonF (by decide) h4
  replace h9 := rd_canonF (by decide) h9
  have hC := Chg.refl [] w
  refine wp_seq ?_
  refine wp_region_lit ?_
  refine lv (d := 4) rfl rfl (by kernel_rfl) (e_assign (v := .int .i64 0) rfl) ?_
  refine lv (d := 5) rfl rfl (by kernel_rfl) (e_assign (v := .int .i64 0) rfl) ?_
  refine wpList_nil ?_
  refine then_n ?_
  refine wp_seq ?_
  refine wp_seq ?_
  refine wp_region_lit ?_
  refine lv (d := 6) rfl rfl (by kernel_rfl) (e_move (v := .slice A2 x1.length c3) (by kernel_rfl)) ?_
  obtain ⟨t11, u12, H⟩ := bnd H
  refine lcall (d := 7) rfl rfl (by kernel_rfl) (e_call (l := [.tmp 6]) (vs := [.slice A2 x1.length c3]) Try.func15 (by kernel_rfl) rfl (by kernel_rfl) rfl) (spec_ValidTerm.calls k w (FP (fw F w.heap.size) w.heap.size []) x1 A2 c3 (Rd.mono (fp_sub (fun _ h_ => .inl h_) (by omega) (by simp)) h4) l5 t11 u12) ?_
  rintro _ w13 ⟨rfl, C14⟩
  refine ⟨_, rfl, ?_⟩
  have u15 : Lt [] w.heap.size := (Lt.nil _)
  have z16 := C14.size
  replace h4 := Rd.move (fp_chg C14 (by omega) (by simp)) h4
  replace h9 := Rd.move (fp_chg C14 (by omega) (by simp)) h9
  replace hC := hC.step C14 (fun _ h_ => by cases h_)
  refine lv (d := 8) rfl rfl (by kernel_rfl) (e_notv (c := t11) (by kernel_rfl)) ?_
  refine lv (d := 9) rfl rfl (by kernel_rfl) (e_move (v := .bool (decide (¬ (t11 = true)))) (by kernel_rfl)) ?_
  by_cases q17 : ¬ (t11 = true)
  · replace H := ifp q17 H
    refine lskip (t := 9) (c := true) rfl (by kernel_rfl) rfl (bt q17 (by kernel_rfl)) rfl rfl ?_
    refine lskip (t := 9) (c := true) rfl (by kernel_rfl) rfl (bt q17 (by kernel_rfl)) rfl rfl ?_
    refine lskip (t := 9) (c := true) rfl (by kernel_rfl) rfl (bt q17 (by kernel_rfl)) rfl rfl ?_
    refine lv (d := 13) rfl rfl (by kernel_rfl) (e_pick_t (v := .bool true) (bt q17 (by kernel_rfl)) rfl) ?_
    refine wpList_nil ?_
    refine then_n ?_
    refine cond_t rfl (by kernel_rfl) ?_
    refine wp_seq ?_
    refine wp_region_lit ?_
    refine lv (d := 4) rfl rfl (by kernel_rfl) (e_assign (v := .int .i64 0) rfl) ?_
    refine lv (d := 5) rfl rfl (by kernel_rfl) (e_assign (v := .int .i64 1) rfl) ?_
    refine wpList_nil ?_
    refine then_n ?_
    refine wp_ret ?_
    refine then_r ?_
    obtain rfl := Option.some.inj H
    exact ret2 (rfl) rfl rfl (show _ = .int .i64 0 from (by kernel_rfl)) (show _ = .int .i64 1 from (by kernel_rfl)) ⟨rfl, hC⟩
  replace H := ifn q17 H
  refine lvg (d := 10) (t := 9) rfl (by kernel_rfl) rfl (bf q17 (by kernel_rfl)) rfl (by kernel_rfl) (e_move (v := .slice A7 x6.length c8) (by kernel_rfl)) ?_
  obtain ⟨t18, u19, H⟩ := bnd H
  refine lcallg (d := 11) (t := 9) rfl (by kernel_rfl) rfl (bf q17 (by kernel_rfl)) rfl (by kernel_rfl) (e_call (l := [.tmp 10]) (vs := [.slice A7 x6.length c8]) Try.func15 (by kernel_rfl) rfl (by kernel_rfl) rfl) (spec_ValidTerm.calls k w13 (FP (fw F w.heap.size) w13.heap.size []) x6 A7 c8 (Rd.mono (fp_sub (fun _ h_ => .inl h_) (by omega) (by simp)) h9) l10 t18 u19) ?_
  rintro _ w20 ⟨rfl, C21⟩
  refine ⟨_, rfl, ?_⟩
  have u22 : Lt [] w13.heap.size := (Lt.nil _)
  have z23 := C21.size
  replace h4 := Rd.move (fp_chg C21 (by omega) (by simp)) h4
  replace h9 := Rd.move (fp_chg C21 (by omega) (by simp)) h9
  replace hC := hC.step C21 (fun _ h_ => by cases h_)
  refine lvg (d := 12) (t := 9) rfl (by kernel_rfl) rfl (bf q17 (by kernel_rfl)) rfl (by kernel_rfl) (e_notv (c := t18) (by kernel_rfl)) ?_
  refine lv (d := 13) rfl rfl (by kernel_rfl) (e_pick_f (v := .bool (decide (¬ (t18 = true)))) (bf q17 (by kernel_rfl)) (by kernel_rfl)) ?_
  refine wpList_nil ?_
  refine then_n ?_
  by_cases q24 : ¬ (t18 = true)
  · replace H := ifp q24 H
    refine cond_t rfl (bt q24 (by kernel_rfl)) ?_
    refine wp_seq ?_
    refine wp_region_lit ?_
    refine lv (d := 4) rfl rfl (by kernel_rfl) (e_assign (v := .int .i64 0) rfl) ?_
    refine lv (d := 5) rfl rfl (by kernel_rfl) (e_assign (v := .int .i64 1) rfl) ?_
    refine wpList_nil ?_
    refine then_n ?_
    refine wp_ret ?_
    refine then_r ?_
    obtain rfl := Option.some.inj H
    exact ret2 (rfl) rfl rfl (show _ = .int .i64 0 from (by kernel_rfl)) (show _ = .int .i64 1 from (by kernel_rfl)) ⟨rfl, hC⟩
  replace H := ifn q24 H
  refine cond_f rfl (bf q24 (by kernel_rfl)) ?_
  refine wp_skip ?_
  refine then_n ?_
  refine wp_seq ?_
  refine wp_region_lit ?_
  refine lv (d := 14) rfl rfl (by kernel_rfl) (e_move (v := .slice A2 x1.length c3) (by kernel_rfl)) ?_
  refine lv (d := 15) rfl rfl (by kernel_rfl) (e_move (v := .slice A7 x6.length c8) (by kernel_rfl)) ?_
  obtain ⟨t25, u26, H⟩ := bnd H
  refine lcall (d := 16) rfl rfl (by kernel_rfl) (e_call (l := [.tmp 14, .tmp 15]) (vs := [.slice A2 x1.length c3, .slice A7 x6.length c8]) Try.func60 (by kernel_rfl) rfl (by kernel_rfl) rfl) (spec_l2compare.calls k w20 (FP (fw F w.heap.size) w20.heap.size []) x1 A2 c3 x6 A7 c8 (Rd.mono (fp_sub (fun _ h_ => .inl h_) (by omega) (by simp)) h4) l5 (Rd.mono (fp_sub (fun _ h_ => .inl h_) (by omega) (by simp)) h9) l10 t25 u26) ?_
  rintro _ w27 ⟨rfl, C28⟩
  refine ⟨_, rfl, ?_⟩
  have u29 : Lt [] w20.heap.size := (Lt.nil _)
  have z30 := C28.size
  replace hC := hC.step C28 (fun _ h_ => by cases h_)
  refine lv (d := 4) rfl rfl (by kernel_rfl) (e_assign (v := .int .i64 t25) (by kernel_rfl)) ?_
  refine lv (d := 5) rfl rfl (by kernel_rfl) (e_assign (v := .int .i64 0) rfl) ?_
  refine wpList_nil ?_
  refine then_n ?_
  refine wp_ret ?_
  obtain rfl := Option.some.inj H
  exact ret2 (rfl) rfl rfl (show _ = .int .i64 t25 from (by kernel_rfl)) (show _ = .int .i64 0 from (by kernel_rfl)) ⟨rfl, hC⟩

/-! impl.cellOk -/
def impl_cellOk.f (x1 : Cell) : Option Bool := (if x1.kind = 0 then (if x1.n ≥ 0 then (if x1.n ≤ 1000000 then some (decide ((x1.text.length : Int) = 0)) else some false) else some false) else (if x1.kind = 1 then (if x1.n ≥ (-1000000000000000) then (if x1.n ≤ 1000000000000000 then some (decide ((x1.text.length : Int) = 0)) else some false) else some false) else (if x1.kind = 2 then (if x1.n = 0 then some (decide ((x1.text.length : Int) ≤ 100)) else some false) else (if x1.kind = 3 then (if x1.n ≥ 1 then (if x1.n ≤ 20 then some (decide ((x1.text.length : Int) ≤ 100)) else some false) else some false) else some false))))
theorem impl_cellOk.calls (w : World) (F : Foot) (x1 : Cell) (A2 : Option Addr) (c3 : Nat) (h4 : Rd tByte w F A2 x1.text) (l5 : x1.text.length ≤ c3) (r : Bool) (H : impl_cellOk.f x1 = some r) :
    Calls Try.prog 58 #[.agg #[.int .i64 x1.kind, .int .i64 x1.n, .slice A2 x1.text.length c3]] w (fun e e_w => e = .returned (.bool r) ∧ Chg [] w e_w) := by
  rw [impl_cellOk.f] at H
  refine enter (l := [.agg #[.int .i64 x1.kind, .int .i64 x1.n, .slice A2 x1.text.length c3]]) 64 Try.func58 rfl rfl rfl ?_
  replace h4 := rd_canonF (by decide) h4
  have hC := Chg.refl [] w
  refine wp_seq ?_
  refine wp_region_lit ?_
  refine lve (d := 1) rfl rfl (by kernel_rfl) (new_blk (v := fun g_ => .pointer (some ⟨g_, 0, none⟩)) (cs := #[.int .i64 x1.kind, .int .i64 x1.n, .slice A2 x1.text.length c3]) (t := 65) (by kernel_rfl)) ?_
  rintro _ w6 ⟨g7, rfl, b8, n9, C10⟩
  have m11 := heap_lt b8
  have z12 := C10.size
  replace h4 := Rd.mono (fp_new (g := g7) (by omega)) (Rd.move (fp_chg C10 (by omega) (by simp)) h4)
  replace hC := hC.step C10 (fun _ h_ => by cases h_)
  refine lv (d := 2) rfl rfl (by kernel_rfl) (e_assign (v := .bool false) rfl) ?_
  refine wpList_nil ?_
  refine then_n ?_
  refine wp_seq ?_
  refine wp_seq ?_
  refine wp_region_lit ?_
  refine lv (d := 3) rfl rfl (by kernel_rfl) (e_fieldAddr (b := g7) (off := 0) (o := 0) Try.underlying65 rfl rfl (sz := 1) (by kernel_rfl) (by decide) (by kernel_rfl)) ?_
  refine lv (d := 4) rfl rfl (by kernel_rfl) (e_load1 (ad := ⟨g7, 0 + 0, none⟩) (v := .int .i64 x1.kind) Try.underlying3 rfl (by kernel_rfl) ((cell_of_row _ _ _ _ _ _ b8).trans rfl)) ?_
  refine wpList_nil ?_
  refine then_n ?_
  refine wp_block ?_
  refine wp_seq ?_
  refine wp_region_lit ?_
  refine lv (d := 6) rfl rfl (by kernel_rfl) (e_eql (k := .i64) (a := x1.kind) (b := 0) (by kernel_rfl) rfl) ?_
  refine lv (d := 5) rfl rfl (by kernel_rfl) (e_assign (v := .bool (decide (x1.kind = 0))) (by kernel_rfl)) ?_
  refine wpList_nil ?_
  refine then_n ?_
  by_cases q13 : x1.kind = 0
  · replace H := ifp q13 H
    refine cond_t rfl (bt q13 (by kernel_rfl)) ?_
    refine wp_seq ?_
    refine wp_region_lit ?_
    refine lv (d := 7) rfl rfl (by kernel_rfl) (e_fieldAddr (b := g7) (off := 0) (o := 1) Try.underlying65 rfl rfl (sz := 1) (by kernel_rfl) (by decide) (by kernel_rfl)) ?_
    refine lv (d := 8) rfl rfl (by kernel_rfl) (e_load1 (ad := ⟨g7, 0 + 1, none⟩) (v := .int .i64 x1.n) Try.underlying3 rfl (by kernel_rfl) ((cell_of_row _ _ _ _ _ _ b8).trans rfl)) ?_
    refine lv (d := 9) rfl rfl (by kernel_rfl) (e_geq (k := .i64) (a := x1.n) (b := 0) (by kernel_rfl) rfl) ?_
    refine lv (d := 10) rfl rfl (by kernel_rfl) (e_move (v := .bool (decide (x1.n ≥ 0))) (by kernel_rfl)) ?_
    by_cases q14 : x1.n ≥ 0
    · replace H := ifp q14 H
      refine lvg (d := 11) (t := 10) rfl (by kernel_rfl) rfl (bt q14 (by kernel_rfl)) rfl (by kernel_rfl) (e_fieldAddr (b := g7) (off := 0) (o := 1) Try.underlying65 rfl rfl (sz := 1) (by kernel_rfl) (by decide) (by kernel_rfl)) ?_
      refine lvg (d := 12) (t := 10) rfl (by kernel_rfl) rfl (bt q14 (by kernel_rfl)) rfl (by kernel_rfl) (e_load1 (ad := ⟨g7, 0 + 1, none⟩) (v := .int .i64 x1.n) Try.underlying3 rfl (by kernel_rfl) ((cell_of_row _ _ _ _ _ _ b8).trans rfl)) ?_
      refine lvg (d := 13) (t := 10) rfl (by kernel_rfl) rfl (bt q14 (by kernel_rfl)) rfl (by kernel_rfl) (e_leq (k := .i64) (a := x1.n) (b := 1000000) (by kernel_rfl) rfl) ?_
      refine lv (d := 14) rfl rfl (by kernel_rfl) (e_pick_t (v := .bool (decide (x1.n ≤ 1000000))) (bt q14 (by kernel_rfl)) (by kernel_rfl)) ?_
      refine lv (d := 15) rfl rfl (by kernel_rfl) (e_move (v := .bool (decide (x1.n ≤ 1000000))) (by kernel_rfl)) ?_
      by_cases q15 : x1.n ≤ 1000000
      · replace H := ifp q15 H
        refine lvg (d := 16) (t := 15) rfl (by kernel_rfl) rfl (bt q15 (by kernel_rfl)) rfl (by kernel_rfl) (e_fieldAddr (b := g7) (off := 0) (o := 2) Try.underlying65 rfl rfl (sz := 1) (by kernel_rfl) (by decide) (by kernel_rfl)) ?_
        refine lvg (d := 17) (t := 15) rfl (by kernel_rfl) rfl (bt q15 (by kernel_rfl)) rfl (by kernel_rfl) (e_load1 (ad := ⟨g7, 0 + 2, none⟩) (v := .slice A2 x1.text.length c3) Try.underlying59 rfl (by kernel_rfl) ((cell_of_row _ _ _ _ _ _ b8).trans rfl)) ?_
        refine lvg (d := 18) (t := 15) rfl (by kernel_rfl) rfl (bt q15 (by kernel_rfl)) rfl (by kernel_rfl) (e_len (A := A2) (n := x1.text.length) (c := c3) Try.underlying59 (by kernel_rfl)) ?_
        refine lvg (d := 19) (t := 15) rfl (by kernel_rfl) rfl (bt q15 (by kernel_rfl)) rfl (by kernel_rfl) (e_eql (k := .i64) (a := (x1.text.length : Int)) (b := 0) (by kernel_rfl) rfl) ?_
        refine lv (d := 20) rfl rfl (by kernel_rfl) (e_pick_t (v := .bool (decide ((x1.text.length : Int) = 0))) (bt q15 (by kernel_rfl)) (by kernel_rfl)) ?_
        refine lv (d := 2) rfl rfl (by kernel_rfl) (e_assign (v := .bool (decide ((x1.text.length : Int) = 0))) (by kernel_rfl)) ?_
        refine wpList_nil ?_
        refine then_n ?_
        refine wp_ret ?_
        refine inb_r ?_
        refine then_r ?_
        obtain rfl := Option.some.inj H
        exact ret1 (rfl) rfl  (show _ = .bool (decide ((x1.text.length : Int) = 0)) from (by kernel_rfl)) ⟨rfl, hC⟩
      replace H := ifn q15 H
      refine lskip (t := 15) (c := false) rfl (by kernel_rfl) rfl (bf q15 (by kernel_rfl)) rfl rfl ?_
      refine lskip (t := 15) (c := false) rfl (by kernel_rfl) rfl (bf q15 (by kernel_rfl)) rfl rfl ?_
      refine lskip (t := 15) (c := false) rfl (by kernel_rfl) rfl (bf q15 (by kernel_rfl)) rfl rfl ?_
      refine lskip (t := 15) (c := false) rfl (by kernel_rfl) rfl (bf q15 (by kernel_rfl)) rfl rfl ?_
      refine lv (d := 20) rfl rfl (by kernel_rfl) (e_pick_f (v := .bool false) (bf q15 (by kernel_rfl)) rfl) ?_
      refine lv (d := 2) rfl rfl (by kernel_rfl) (e_assign (v := .bool false) (by kernel_rfl)) ?_
      refine wpList_nil ?_
      refine then_n ?_
      refine wp_ret ?_
      refine inb_r ?_
      refine then_r ?_
      obtain rfl := Option.some.inj H
      exact ret1 (rfl) rfl  (show _ = .bool false from (by kernel_rfl)) ⟨rfl, hC⟩
    replace H := ifn q14 H
    refine lskip (t := 10) (c := false) rfl (by kernel_rfl) rfl (bf q14 (by kernel_rfl)) rfl rfl ?_
    refine lskip (t := 10) (c := false) rfl (by kernel_rfl) rfl (bf q14 (by kernel_rfl)) rfl rfl ?_
    refine lskip (t := 10) (c := false) rfl (by kernel_rfl) rfl (bf q14 (by kernel_rfl)) rfl rfl ?_
    refine lv (d := 14) rfl rfl (by kernel_rfl) (e_pick_f (v := .bool false) (bf q14 (by kernel_rfl)) rfl) ?_
    refine lv (d := 15) rfl rfl (by kernel_rfl) (e_move (v := .bool false) (by kernel_rfl)) ?_
    refine lskip (t := 15) (c := false) rfl (by kernel_rfl) rfl (by kernel_rfl) rfl rfl ?_
    refine lskip (t := 15) (c := false) rfl (by kernel_rfl) rfl (by kernel_rfl) rfl rfl ?_
    refine lskip (t := 15) (c := false) rfl (by kernel_rfl) rfl (by kernel_rfl) rfl rfl ?_
    refine lskip (t := 15) (c := false) rfl (by kernel_rfl) rfl (by kernel_rfl) rfl rfl ?_
    refine lv (d := 20) rfl rfl (by kernel_rfl) (e_pick_f (v := .bool false) (by kernel_rfl) rfl) ?_
    refine lv (d := 2) rfl rfl (by kernel_rfl) (e_assign (v := .bool false) (by kernel_rfl)) ?_
    refine wpList_nil ?_
    refine then_n ?_
    refine wp_ret ?_
    refine inb_r ?_
    refine then_r ?_
    obtain rfl := Option.some.inj H
    exact ret1 (rfl) rfl  (show _ = .bool false from (by kernel_rfl)) ⟨rfl, hC⟩
  replace H := ifn q13 H
  refine cond_f rfl (bf q13 (by kernel_rfl)) ?_
  refine wp_seq ?_
  refine wp_region_lit ?_
  refine lv (d := 22) rfl rfl (by kernel_rfl) (e_eql (k := .i64) (a := x1.kind) (b := 1) (by kernel_rfl) rfl) ?_
  refine lv (d := 21) rfl rfl (by kernel_rfl) (e_assign (v := .bool (decide (x1.kind = 1))) (by kernel_rfl)) ?_
  refine wpList_nil ?_
  refine then_n ?_
  by_cases q16 : x1.kind = 1
  · replace H := ifp q16 H
    refine cond_t rfl (bt q16 (by kernel_rfl)) ?_
    refine wp_seq ?_
    refine wp_region_lit ?_
    refine lv (d := 23) rfl rfl (by kernel_rfl) (e_fieldAddr (b := g7) (off := 0) (o := 1) Try.underlying65 rfl rfl (sz := 1) (by kernel_rfl) (by decide) (by kernel_rfl)) ?_
    refine lv (d := 24) rfl rfl (by kernel_rfl) (e_load1 (ad := ⟨g7, 0 + 1, none⟩) (v := .int .i64 x1.n) Try.underlying3 rfl (by kernel_rfl) ((cell_of_row _ _ _ _ _ _ b8).trans rfl)) ?_
    refine lv (d := 25) rfl rfl (by kernel_rfl) (e_geq (k := .i64) (a := x1.n) (b := (-1000000000000000)) (by kernel_rfl) rfl) ?_
    refine lv (d := 26) rfl rfl (by kernel_rfl) (e_move (v := .bool (decide (x1.n ≥ (-1000000000000000)))) (by kernel_rfl)) ?_
    by_cases q17 : x1.n ≥ (-1000000000000000)
    · replace H := ifp q17 H
      refine lvg (d := 27) (t := 26) rfl (by kernel_rfl) rfl (bt q17 (by kernel_rfl)) rfl (by kernel_rfl) (e_fieldAddr (b := g7) (off := 0) (o := 1) Try.underlying65 rfl rfl (sz := 1) (by kernel_rfl) (by decide) (by kernel_rfl)) ?_
      refine lvg (d := 28) (t := 26) rfl (by kernel_rfl) rfl (bt q17 (by kernel_rfl)) rfl (by kernel_rfl) (e_load1 (ad := ⟨g7, 0 + 1, none⟩) (v := .int .i64 x1.n) Try.underlying3 rfl (by kernel_rfl) ((cell_of_row _ _ _ _ _ _ b8).trans rfl)) ?_
      refine lvg (d := 29) (t := 26) rfl (by kernel_rfl) rfl (bt q17 (by kernel_rfl)) rfl (by kernel_rfl) (e_leq (k := .i64) (a := x1.n) (b := 1000000000000000) (by kernel_rfl) rfl) ?_
      refine lv (d := 30) rfl rfl (by kernel_rfl) (e_pick_t (v := .bool (decide (x1.n ≤ 1000000000000000))) (bt q17 (by kernel_rfl)) (by kernel_rfl)) ?_
      refine lv (d := 31) rfl rfl (by kernel_rfl) (e_move (v := .bool (decide (x1.n ≤ 1000000000000000))) (by kernel_rfl)) ?_
      by_cases q18 : x1.n ≤ 1000000000000000
      · replace H := ifp q18 H
        refine lvg (d := 32) (t := 31) rfl (by kernel_rfl) rfl (bt q18 (by kernel_rfl)) rfl (by kernel_rfl) (e_fieldAddr (b := g7) (off := 0) (o := 2) Try.underlying65 rfl rfl (sz := 1) (by kernel_rfl) (by decide) (by kernel_rfl)) ?_
        refine lvg (d := 33) (t := 31) rfl (by kernel_rfl) rfl (bt q18 (by kernel_rfl)) rfl (by kernel_rfl) (e_load1 (ad := ⟨g7, 0 + 2, none⟩) (v := .slice A2 x1.text.length c3) Try.underlying59 rfl (by kernel_rfl) ((cell_of_row _ _ _ _ _ _ b8).trans rfl)) ?_
        refine lvg (d := 34) (t := 31) rfl (by kernel_rfl) rfl (bt q18 (by kernel_rfl)) rfl (by kernel_rfl) (e_len (A := A2) (n := x1.text.length) (c := c3) Try.underlying59 (by kernel_rfl)) ?_
        refine lvg (d := 35) (t := 31) rfl (by kernel_rfl) rfl (bt q18 (by kernel_rfl)) rfl (by kernel_rfl) (e_eql (k := .i64) (a := (x1.text.length : Int)) (b := 0) (by kernel_rfl) rfl) ?_
        refine lv (d := 36) rfl rfl (by kernel_rfl) (e_pick_t (v := .bool (decide ((x1.text.length : Int) = 0))) (bt q18 (by kernel_rfl)) (by kernel_rfl)) ?_
        refine lv (d := 2) rfl rfl (by kernel_rfl) (e_assign (v := .bool (decide ((x1.text.length : Int) = 0))) (by kernel_rfl)) ?_
        refine wpList_nil ?_
        refine then_n ?_
        refine wp_ret ?_
        refine inb_r ?_
        refine then_r ?_
        obtain rfl := Option.some.inj H
        exact ret1 (rfl) rfl  (show _ = .bool (decide ((x1.text.length : Int) = 0)) from (by kernel_rfl)) ⟨rfl, hC⟩
      replace H := ifn q18 H
      refine lskip (t := 31) (c := false) rfl (by kernel_rfl) rfl (bf q18 (by kernel_rfl)) rfl rfl ?_
      refine lskip (t := 31) (c := false) rfl (by kernel_rfl) rfl (bf q18 (by kernel_rfl)) rfl rfl ?_
      refine lskip (t := 31) (c := false) rfl (by kernel_rfl) rfl (bf q18 (by kernel_rfl)) rfl rfl ?_
      refine lskip (t := 31) (c := false) rfl (by kernel_rfl) rfl (bf q18 (by kernel_rfl)) rfl rfl ?_
      refine lv (d := 36) rfl rfl (by kernel_rfl) (e_pick_f (v := .bool false) (bf q18 (by kernel_rfl)) rfl) ?_
      refine lv (d := 2) rfl rfl (by kernel_rfl) (e_assign (v := .bool false) (by kernel_rfl)) ?_
      refine wpList_nil ?_
      refine then_n ?_
      refine wp_ret ?_
      refine inb_r ?_
      refine then_r ?_
      obtain rfl := Option.some.inj H
      exact ret1 (rfl) rfl  (show _ = .bool false from (by kernel_rfl)) ⟨rfl, hC⟩
    replace H := ifn q17 H
    refine lskip (t := 26) (c := false) rfl (by kernel_rfl) rfl (bf q17 (by kernel_rfl)) rfl rfl ?_
    refine lskip (t := 26) (c := false) rfl (by kernel_rfl) rfl (bf q17 (by kernel_rfl)) rfl rfl ?_
    refine lskip (t := 26) (c := false) rfl (by kernel_rfl) rfl (bf q17 (by kernel_rfl)) rfl rfl ?_
    refine lv (d := 30) rfl rfl (by kernel_rfl) (e_pick_f (v := .bool false) (bf q17 (by kernel_rfl)) rfl) ?_
    refine lv (d := 31) rfl rfl (by kernel_rfl) (e_move (v := .bool false) (by kernel_rfl)) ?_
    refine lskip (t := 31) (c := false) rfl (by kernel_rfl) rfl (by kernel_rfl) rfl rfl ?_
    refine lskip (t := 31) (c := false) rfl (by kernel_rfl) rfl (by kernel_rfl) rfl rfl ?_
    refine lskip (t := 31) (c := false) rfl (by kernel_rfl) rfl (by kernel_rfl) rfl rfl ?_
    refine lskip (t := 31) (c := false) rfl (by kernel_rfl) rfl (by kernel_rfl) rfl rfl ?_
    refine lv (d := 36) rfl rfl (by kernel_rfl) (e_pick_f (v := .bool false) (by kernel_rfl) rfl) ?_
    refine lv (d := 2) rfl rfl (by kernel_rfl) (e_assign (v := .bool false) (by kernel_rfl)) ?_
    refine wpList_nil ?_
    refine then_n ?_
    refine wp_ret ?_
    refine inb_r ?_
    refine then_r ?_
    obtain rfl := Option.some.inj H
    exact ret1 (rfl) rfl  (show _ = .bool false from (by kernel_rfl)) ⟨rfl, hC⟩
  replace H := ifn q16 H
  refine cond_f rfl (bf q16 (by kernel_rfl)) ?_
  refine wp_seq ?_
  refine wp_region_lit ?_
  refine lv (d := 38) rfl rfl (by kernel_rfl) (e_eql (k := .i64) (a := x1.kind) (b := 2) (by kernel_rfl) rfl) ?_
  refine lv (d := 37) rfl rfl (by kernel_rfl) (e_assign (v := .bool (decide (x1.kind = 2))) (by kernel_rfl)) ?_
  refine wpList_nil ?_
  refine then_n ?_
  by_cases q19 : x1.kind = 2
  · replace H := ifp q19 H
    refine cond_t rfl (bt q19 (by kernel_rfl)) ?_
    refine wp_seq ?_
    refine wp_region_lit ?_
    refine lv (d := 39) rfl rfl (by kernel_rfl) (e_fieldAddr (b := g7) (off := 0) (o := 1) Try.underlying65 rfl rfl (sz := 1) (by kernel_rfl) (by decide) (by kernel_rfl)) ?_
    refine lv (d := 40) rfl rfl (by kernel_rfl) (e_load1 (ad := ⟨g7, 0 + 1, none⟩) (v := .int .i64 x1.n) Try.underlying3 rfl (by kernel_rfl) ((cell_of_row _ _ _ _ _ _ b8).trans rfl)) ?_
    refine lv (d := 41) rfl rfl (by kernel_rfl) (e_eql (k := .i64) (a := x1.n) (b := 0) (by kernel_rfl) rfl) ?_
    refine lv (d := 42) rfl rfl (by kernel_rfl) (e_move (v := .bool (decide (x1.n = 0))) (by kernel_rfl)) ?_
    by_cases q20 : x1.n = 0
    · replace H := ifp q20 H
      refine lvg (d := 43) (t := 42) rfl (by kernel_rfl) rfl (bt q20 (by kernel_rfl)) rfl (by kernel_rfl) (e_fieldAddr (b := g7) (off := 0) (o := 2) Try.underlying65 rfl rfl (sz := 1) (by kernel_rfl) (by decide) (by kernel_rfl)) ?_
      refine lvg (d := 44) (t := 42) rfl (by kernel_rfl) rfl (bt q20 (by kernel_rfl)) rfl (by kernel_rfl) (e_load1 (ad := ⟨g7, 0 + 2, none⟩) (v := .slice A2 x1.text.length c3) Try.underlying59 rfl (by kernel_rfl) ((cell_of_row _ _ _ _ _ _ b8).trans rfl)) ?_
      refine lvg (d := 45) (t := 42) rfl (by kernel_rfl) rfl (bt q20 (by kernel_rfl)) rfl (by kernel_rfl) (e_len (A := A2) (n := x1.text.length) (c := c3) Try.underlying59 (by kernel_rfl)) ?_
      refine lvg (d := 46) (t := 42) rfl (by kernel_rfl) rfl (bt q20 (by kernel_rfl)) rfl (by kernel_rfl) (e_leq (k := .i64) (a := (x1.text.length : Int)) (b := 100) (by kernel_rfl) rfl) ?_
      refine lv (d := 47) rfl rfl (by kernel_rfl) (e_pick_t (v := .bool (decide ((x1.text.length : Int) ≤ 100))) (bt q20 (by kernel_rfl)) (by kernel_rfl)) ?_
      refine lv (d := 2) rfl rfl (by kernel_rfl) (e_assign (v := .bool (decide ((x1.text.length : Int) ≤ 100))) (by kernel_rfl)) ?_
      refine wpList_nil ?_
      refine then_n ?_
      refine wp_ret ?_
      refine inb_r ?_
      refine then_r ?_
      obtain rfl := Option.some.inj H
      exact ret1 (rfl) rfl  (show _ = .bool (decide ((x1.text.length : Int) ≤ 100)) from (by kernel_rfl)) ⟨rfl, hC⟩
    replace H := ifn q20 H
    refine lskip (t := 42) (c := false) rfl (by kernel_rfl) rfl (bf q20 (by kernel_rfl)) rfl rfl ?_
    refine lskip (t := 42) (c := false) rfl (by kernel_rfl) rfl (bf q20 (by kernel_rfl)) rfl rfl ?_
    refine lskip (t := 42) (c := false) rfl (by kernel_rfl) rfl (bf q20 (by kernel_rfl)) rfl rfl ?_
    refine lskip (t := 42) (c := false) rfl (by kernel_rfl) rfl (bf q20 (by kernel_rfl)) rfl rfl ?_
    refine lv (d := 47) rfl rfl (by kernel_rfl) (e_pick_f (v := .bool false) (bf q20 (by kernel_rfl)) rfl) ?_
    refine lv (d := 2) rfl rfl (by kernel_rfl) (e_assign (v := .bool false) (by kernel_rfl)) ?_
    refine wpList_nil ?_
    refine then_n ?_
    refine wp_ret ?_
    refine inb_r ?_
    refine then_r ?_
    obtain rfl := Option.some.inj H
    exact ret1 (rfl) rfl  (show _ = .bool false from (by kernel_rfl)) ⟨rfl, hC⟩
  replace H := ifn q19 H
  refine cond_f rfl (bf q19 (by kernel_rfl)) ?_
  refine wp_seq ?_
  refine wp_region_lit ?_
  refine lv (d := 49) rfl rfl (by kernel_rfl) (e_eql (k := .i64) (a := x1.kind) (b := 3) (by kernel_rfl) rfl) ?_
  refine lv (d := 48) rfl rfl (by kernel_rfl) (e_assign (v := .bool (decide (x1.kind = 3))) (by kernel_rfl)) ?_
  refine wpList_nil ?_
  refine then_n ?_
  by_cases q21 : x1.kind = 3
  · replace H := ifp q21 H
    refine cond_t rfl (bt q21 (by kernel_rfl)) ?_
    refine wp_seq ?_
    refine wp_region_lit ?_
    refine lv (d := 50) rfl rfl (by kernel_rfl) (e_fieldAddr (b := g7) (off := 0) (o := 1) Try.underlying65 rfl rfl (sz := 1) (by kernel_rfl) (by decide) (by kernel_rfl)) ?_
    refine lv (d := 51) rfl rfl (by kernel_rfl) (e_load1 (ad := ⟨g7, 0 + 1, none⟩) (v := .int .i64 x1.n) Try.underlying3 rfl (by kernel_rfl) ((cell_of_row _ _ _ _ _ _ b8).trans rfl)) ?_
    refine lv (d := 52) rfl rfl (by kernel_rfl) (e_geq (k := .i64) (a := x1.n) (b := 1) (by kernel_rfl) rfl) ?_
    refine lv (d := 53) rfl rfl (by kernel_rfl) (e_move (v := .bool (decide (x1.n ≥ 1))) (by kernel_rfl)) ?_
    by_cases q22 : x1.n ≥ 1
    · replace H := ifp q22 H
      refine lvg (d := 54) (t := 53) rfl (by kernel_rfl) rfl (bt q22 (by kernel_rfl)) rfl (by kernel_rfl) (e_fieldAddr (b := g7) (off := 0) (o := 1) Try.underlying65 rfl rfl (sz := 1) (by kernel_rfl) (by decide) (by kernel_rfl)) ?_
      refine lvg (d := 55) (t := 53) rfl (by kernel_rfl) rfl (bt q22 (by kernel_rfl)) rfl (by kernel_rfl) (e_load1 (ad := ⟨g7, 0 + 1, none⟩) (v := .int .i64 x1.n) Try.underlying3 rfl (by kernel_rfl) ((cell_of_row _ _ _ _ _ _ b8).trans rfl)) ?_
      refine lvg (d := 56) (t := 53) rfl (by kernel_rfl) rfl (bt q22 (by kernel_rfl)) rfl (by kernel_rfl) (e_leq (k := .i64) (a := x1.n) (b := 20) (by kernel_rfl) rfl) ?_
      refine lv (d := 57) rfl rfl (by kernel_rfl) (e_pick_t (v := .bool (decide (x1.n ≤ 20))) (bt q22 (by kernel_rfl)) (by kernel_rfl)) ?_
      refine lv (d := 58) rfl rfl (by kernel_rfl) (e_move (v := .bool (decide (x1.n ≤ 20))) (by kernel_rfl)) ?_
      by_cases q23 : x1.n ≤ 20
      · replace H := ifp q23 H
        refine lvg (d := 59) (t := 58) rfl (by kernel_rfl) rfl (bt q23 (by kernel_rfl)) rfl (by kernel_rfl) (e_fieldAddr (b := g7) (off := 0) (o := 2) Try.underlying65 rfl rfl (sz := 1) (by kernel_rfl) (by decide) (by kernel_rfl)) ?_
        refine lvg (d := 60) (t := 58) rfl (by kernel_rfl) rfl (bt q23 (by kernel_rfl)) rfl (by kernel_rfl) (e_load1 (ad := ⟨g7, 0 + 2, none⟩) (v := .slice A2 x1.text.length c3) Try.underlying59 rfl (by kernel_rfl) ((cell_of_row _ _ _ _ _ _ b8).trans rfl)) ?_
        refine lvg (d := 61) (t := 58) rfl (by kernel_rfl) rfl (bt q23 (by kernel_rfl)) rfl (by kernel_rfl) (e_len (A := A2) (n := x1.text.length) (c := c3) Try.underlying59 (by kernel_rfl)) ?_
        refine lvg (d := 62) (t := 58) rfl (by kernel_rfl) rfl (bt q23 (by kernel_rfl)) rfl (by kernel_rfl) (e_leq (k := .i64) (a := (x1.text.length : Int)) (b := 100) (by kernel_rfl) rfl) ?_
        refine lv (d := 63) rfl rfl (by kernel_rfl) (e_pick_t (v := .bool (decide ((x1.text.length : Int) ≤ 100))) (bt q23 (by kernel_rfl)) (by kernel_rfl)) ?_
        refine lv (d := 2) rfl rfl (by kernel_rfl) (e_assign (v := .bool (decide ((x1.text.length : Int) ≤ 100))) (by kernel_rfl)) ?_
        refine wpList_nil ?_
        refine then_n ?_
        refine wp_ret ?_
        refine inb_r ?_
        refine then_r ?_
        obtain rfl := Option.some.inj H
        exact ret1 (rfl) rfl  (show _ = .bool (decide ((x1.text.length : Int) ≤ 100)) from (by kernel_rfl)) ⟨rfl, hC⟩
      replace H := ifn q23 H
      refine lskip (t := 58) (c := false) rfl (by kernel_rfl) rfl (bf q23 (by kernel_rfl)) rfl rfl ?_
      refine lskip (t := 58) (c := false) rfl (by kernel_rfl) rfl (bf q23 (by kernel_rfl)) rfl rfl ?_
      refine lskip (t := 58) (c := false) rfl (by kernel_rfl) rfl (bf q23 (by kernel_rfl)) rfl rfl ?_
      refine lskip (t := 58) (c := false) rfl (by kernel_rfl) rfl (bf q23 (by kernel_rfl)) rfl rfl ?_
      refine lv (d := 63) rfl rfl (by kernel_rfl) (e_pick_f (v := .bool false) (bf q23 (by kernel_rfl)) rfl) ?_
      refine lv (d := 2) rfl rfl (by kernel_rfl) (e_assign (v := .bool false) (by kernel_rfl)) ?_
      refine wpList_nil ?_
      refine then_n ?_
      refine wp_ret ?_
      refine inb_r ?_
      refine then_r ?_
      obtain rfl := Option.some.inj H
      exact ret1 (rfl) rfl  (show _ = .bool false from (by kernel_rfl)) ⟨rfl, hC⟩
    replace H := ifn q22 H
    refine lskip (t := 53) (c := false) rfl (by kernel_rfl) rfl (bf q22 (by kernel_rfl)) rfl rfl ?_
    refine lskip (t := 53) (c := false) rfl (by kernel_rfl) rfl (bf q22 (by kernel_rfl)) rfl rfl ?_
    refine lskip (t := 53) (c := false) rfl (by kernel_rfl) rfl (bf q22 (by kernel_rfl)) rfl rfl ?_
    refine lv (d := 57) rfl rfl (by kernel_rfl) (e_pick_f (v := .bool false) (bf q22 (by kernel_rfl)) rfl) ?_
    refine lv (d := 58) rfl rfl (by kernel_rfl) (e_move (v := .bool false) (by kernel_rfl)) ?_
    refine lskip (t := 58) (c := false) rfl (by kernel_rfl) rfl (by kernel_rfl) rfl rfl ?_
    refine lskip (t := 58) (c := false) rfl (by kernel_rfl) rfl (by kernel_rfl) rfl rfl ?_
    refine lskip (t := 58) (c := false) rfl (by kernel_rfl) rfl (by kernel_rfl) rfl rfl ?_
    refine lskip (t := 58) (c := false) rfl (by kernel_rfl) rfl (by kernel_rfl) rfl rfl ?_
    refine lv (d := 63) rfl rfl (by kernel_rfl) (e_pick_f (v := .bool false) (by kernel_rfl) rfl) ?_
    refine lv (d := 2) rfl rfl (by kernel_rfl) (e_assign (v := .bool false) (by kernel_rfl)) ?_
    refine wpList_nil ?_
    refine then_n ?_
    refine wp_ret ?_
    refine inb_r ?_
    refine then_r ?_
    obtain rfl := Option.some.inj H
    exact ret1 (rfl) rfl  (show _ = .bool false from (by kernel_rfl)) ⟨rfl, hC⟩
  replace H := ifn q21 H
  refine cond_f rfl (bf q21 (by kernel_rfl)) ?_
  refine wp_skip ?_
  refine inb_n ?_
  refine then_n ?_
  refine wp_seq ?_
  refine wp_region_lit ?_
  refine lv (d := 2) rfl rfl (by kernel_rfl) (e_assign (v := .bool false) rfl) ?_
  refine wpList_nil ?_
  refine then_n ?_
  refine wp_ret ?_
  obtain rfl := Option.some.inj H
  exact ret1 (rfl) rfl  (show _ = .bool false from (by kernel_rfl)) ⟨rfl, hC⟩

/-! impl.ValidTerm -/
def impl_ValidTerm.l0 : Nat → (List Cell) → Int → Int → Option Bool
  | 0, _, _, _ => none
  | k18 + 1, x1, x9, x13 => (if x13 < (x1.length : Int) then (if 0 ≤ x13 then (if x9 = 0 then some false else ((impl_cellOk.f (x1.getD (x13).toNat z65)).bind fun t44 => (if ¬ (t44 = true) then some false else (if ((x1.getD (x13).toNat z65).kind) = 3 then (impl_ValidTerm.l0 k18 x1 (IntKind.i64.wrap ((IntKind.i64.wrap (x9 - 1)) + ((x1.getD (x13).toNat z65).n))) (IntKind.i64.wrap (x13 + 1))) else (impl_ValidTerm.l0 k18 x1 (IntKind.i64.wrap (x9 - 1)) (IntKind.i64.wrap (x13 + 1))))))) else none) else some (decide (x9 = 0)))
def impl_ValidTerm.f (k : Nat) (x1 : List Cell) : Option Bool := (if (x1.length : Int) > 2000 then some false else (impl_ValidTerm.l0 k x1 1 0))
theorem impl_ValidTerm.calls (k : Nat) (w : World) (F : Foot) (x1 : List Cell) (A2 : Option Addr) (c3 : Nat) (h4 : Rd st65 w F A2 x1) (l5 : x1.length ≤ c3) (r : Bool) (H : impl_ValidTerm.f k x1 = some r) :
    Calls Try.prog 17 #[.slice A2 x1.length c3] w (fun e e_w => e = .returned (.bool r) ∧ Chg [] w e_w) := by
  rw [impl_ValidTerm.f] at H
  refine enter (l := [.slice A2 x1.length c3]) 34 Try.func17 rfl rfl rfl ?_
  replace h4 := rd_canonF (by decide) h4
  have hC := Chg.refl [] w
  refine wp_seq ?_
  refine wp_region_lit ?_
  refine lv (d := 2) rfl rfl (by kernel_rfl) (e_assign (v := .bool false) rfl) ?_
  refine wpList_nil ?_
  refine then_n ?_
  refine wp_seq ?_
  refine wp_seq ?_
  refine wp_region_lit ?_
  refine lv (d := 6) rfl rfl (by kernel_rfl) (e_move (v := .slice A2 x1.length c3) (by kernel_rfl)) ?_
  refine lv (d := 7) rfl rfl (by kernel_rfl) (e_len (A := A2) (n := x1.length) (c := c3) Try.underlying25 (by kernel_rfl)) ?_
  refine lv (d := 8) rfl rfl (by kernel_rfl) (e_gtr (k := .i64) (a := (x1.length : Int)) (b := 2000) (by kernel_rfl) rfl) ?_
  refine wpList_nil ?_
  refine then_n ?_
  by_cases q6 : (x1.length : Int) > 2000
  · replace H := ifp q6 H
    refine cond_t rfl (bt q6 (by kernel_rfl)) ?_
    refine wp_seq ?_
    refine wp_region_lit ?_
    refine lv (d := 2) rfl rfl (by kernel_rfl) (e_assign (v := .bool false) rfl) ?_
    refine wpList_nil ?_
    refine then_n ?_
    refine wp_ret ?_
    refine then_r ?_
    obtain rfl := Option.some.inj H
    exact ret1 (rfl) rfl  (show _ = .bool false from (by kernel_rfl)) ⟨rfl, hC⟩
  replace H := ifn q6 H
  refine cond_f rfl (bf q6 (by kernel_rfl)) ?_
  refine wp_skip ?_
  refine then_n ?_
  refine wp_seq ?_
  refine wp_region_lit ?_
  refine lv (d := 3) rfl rfl (by kernel_rfl) (e_assign (v := .int .i64 1) rfl) ?_
  refine wpList_nil ?_
  refine then_n ?_
  refine wp_seq ?_
  refine wp_seq ?_
  refine wp_region_lit ?_
  refine lv (d := 9) rfl rfl (by kernel_rfl) (e_move (v := .slice A2 x1.length c3) (by kernel_rfl)) ?_
  refine lv (d := 10) rfl rfl (by kernel_rfl) (e_len (A := A2) (n := x1.length) (c := c3) Try.underlying25 (by kernel_rfl)) ?_
  refine lv (d := 11) rfl rfl (by kernel_rfl) (e_move (v := .int .i64 0) rfl) ?_
  refine wpList_nil ?_
  refine then_n ?_
  refine wp_block ?_
  refine wp_loop_g (fun k16 a17 w7 => ∃ (f8 : Nat → Value) (x9 : Int) (x13 : Int), a17 = mk 34 f8 ∧ f8 3 = .int .i64 x9 ∧ f8 9 = .slice A2 x1.length c3 ∧ f8 10 = .int .i64 (x1.length : Int) ∧ f8 11 = .int .i64 x13 ∧ Rd st65 w7 (FP F w.heap.size []) A2 x1 ∧ Chg [] w w7 ∧ w.heap.size ≤ w7.heap.size ∧ impl_ValidTerm.l0 k16 x1 x9 x13 = some r) k ⟨_, 1, 0, rfl, (by kernel_rfl), (by kernel_rfl), (by kernel_rfl), (by kernel_rfl), (Rd.mono (fp_sub (fun _ h_ => h_) (by omega) (by simp [bk])) h4), hC, (by omega), H⟩ ?_
  rintro k16 a17 w7 ⟨f8, x9, x13, rfl, e10, e11, e12, e14, h4, hC, z15, H⟩
  rcases k16 with _ | k18
  · rw [impl_ValidTerm.l0] at H
    cases H
  rw [impl_ValidTerm.l0] at H
  refine wp_seq ?_
  refine wp_region_lit ?_
  refine lv (d := 12) rfl rfl (by kernel_rfl) (e_lss (k := .i64) (a := x13) (b := (x1.length : Int)) (by exact e14) (by exact e12)) ?_
  refine wpList_nil ?_
  refine then_n ?_
  refine wp_seq ?_
  by_cases q19 : x13 < (x1.length : Int)
  · replace H := ifp q19 H
    refine cond_t rfl (bt q19 (by kernel_rfl)) ?_
    refine wp_skip ?_
    refine then_n ?_
    refine wp_seq ?_
    refine wp_block ?_
    refine wp_seq ?_
    refine wp_region_lit ?_
    obtain ⟨q20, H⟩ := chk H
    obtain ⟨b21, o22, y23, e26, _, r24, k25⟩ := Rd.get h4 (x13).toNat _ (getD_some z65 (by omega))
    obtain ⟨A27, c28, rfl, l29, h30⟩ := st65_open r24
    refine lv (d := 13) rfl rfl (by kernel_rfl) (e_indexAddr (b := b21) (off := o22) (n := x1.length) (c := c3) (sz := 3) (i := x13) (k := .i64) Try.underlying25 e26 (by kernel_rfl) (by exact e11) (by exact e14) q20 q19) ?_
    refine lv (d := 14) rfl rfl (by kernel_rfl) (e_loadS (b := b21) (off := o22 + (x13 : Int).toNat * 3) (cs := [.int .i64 ((x1.getD (x13).toNat z65).kind), .int .i64 ((x1.getD (x13).toNat z65).n), .slice A27 ((x1.getD (x13).toNat z65).text).length c28]) Try.underlying65 rfl (by kernel_rfl) (by kernel_rfl) k25) ?_
    refine lve (d := 5) rfl rfl (by kernel_rfl) (new_blk (v := fun g_ => .pointer (some ⟨g_, 0, none⟩)) (cs := #[.int .i64 0, .int .i64 0, .slice none 0 0]) (t := 65) (by kernel_rfl)) ?_
    rintro _ w31 ⟨g32, rfl, b33, n34, C35⟩
    have m36 := heap_lt b33
    have z37 := C35.size
    replace h4 := Rd.mono (fp_new (g := g32) (by omega)) (Rd.move (fp_chg C35 (by omega) (by simp)) h4)
    replace h30 := Rd.mono (fp_new (g := g32) (by omega)) (Rd.move (fp_chg C35 (by omega) (by simp)) h30)
    replace hC := hC.step C35 (fun _ h_ => by cases h_)
    refine lse rfl rfl (by kernel_rfl) (e_store (g := g32) (o := 0) (v := .agg #[.int .i64 ((x1.getD (x13).toNat z65).kind), .int .i64 ((x1.getD (x13).toNat z65).n), .slice A27 ((x1.getD (x13).toNat z65).text).length c28]) (cur' := #[.int .i64 ((x1.getD (x13).toNat z65).kind), .int .i64 ((x1.getD (x13).toNat z65).n), .slice A27 ((x1.getD (x13).toNat z65).text).length c28]) (vs := [.int .i64 ((x1.getD (x13).toNat z65).kind), .int .i64 ((x1.getD (x13).toNat z65).n), .slice A27 ((x1.getD (x13).toNat z65).text).length c28]) (by kernel_rfl) (by kernel_rfl) rfl (by kernel_rfl) b33 (thaw0 _) (Nat.le_of_ble_eq_true rfl) (List.forall_mem_cons.2 ⟨rfl, (List.forall_mem_cons.2 ⟨rfl, (List.forall_mem_cons.2 ⟨rfl, (fun _ h_ => by cases h_)⟩)⟩)⟩) rfl) ?_
    rintro w38 ⟨b39, C40, s41⟩
    have z42 := C40.size
    replace h30 := Rd.move (fp_chg C40 (by omega) (by simp)) h30
    replace h4 := Rd.move (fp_chg C40 (by omega) (by simp)) h4
    replace hC := hC.step C40 (fun o_ h_ => by simp only [List.mem_singleton] at h_; subst h_; exact .inr (fun b_ e_ => by injection e_ with e_; omega))
    refine wpList_nil ?_
    refine then_n ?_
    refine wp_seq ?_
    refine wp_seq ?_
    refine wp_region_lit ?_
    refine lv (d := 15) rfl rfl (by kernel_rfl) (e_move (v := .int .i64 x9) (by exact e10)) ?_
    refine lv (d := 16) rfl rfl (by kernel_rfl) (e_eql (k := .i64) (a := x9) (b := 0) (by kernel_rfl) rfl) ?_
    refine lv (d := 17) rfl rfl (by kernel_rfl) (e_move (v := .bool (decide (x9 = 0))) (by kernel_rfl)) ?_
    by_cases q43 : x9 = 0
    · replace H := ifp q43 H
      refine lskip (t := 17) (c := true) rfl (by kernel_rfl) rfl (bt q43 (by kernel_rfl)) rfl rfl ?_
      refine lskip (t := 17) (c := true) rfl (by kernel_rfl) rfl (bt q43 (by kernel_rfl)) rfl rfl ?_
      refine lskip (t := 17) (c := true) rfl (by kernel_rfl) rfl (bt q43 (by kernel_rfl)) rfl rfl ?_
      refine lv (d := 21) rfl rfl (by kernel_rfl) (e_pick_t (v := .bool true) (bt q43 (by kernel_rfl)) rfl) ?_
      refine wpList_nil ?_
      refine then_n ?_
      refine cond_t rfl (by kernel_rfl) ?_
      refine wp_seq ?_
      refine wp_region_lit ?_
      refine lv (d := 2) rfl rfl (by kernel_rfl) (e_assign (v := .bool false) rfl) ?_
      refine wpList_nil ?_
      refine then_n ?_
      refine wp_ret ?_
      refine then_r ?_
      refine inb_r ?_
      refine then_r ?_
      refine then_r ?_
      refine inb_r ?_
      refine then_r ?_
      obtain rfl := Option.some.inj H
      exact ret1 (rfl) rfl  (show _ = .bool false from (by kernel_rfl)) ⟨rfl, hC⟩
    replace H := ifn q43 H
    refine lvg (d := 18) (t := 17) rfl (by kernel_rfl) rfl (bf q43 (by kernel_rfl)) rfl (by kernel_rfl) (e_loadS (b := g32) (off := 0) (cs := [.int .i64 ((x1.getD (x13).toNat z65).kind), .int .i64 ((x1.getD (x13).toNat z65).n), .slice A27 ((x1.getD (x13).toNat z65).text).length c28]) Try.underlying65 rfl (by kernel_rfl) (by kernel_rfl) (blk_cell b39 rfl)) ?_
    obtain ⟨t44, u45, H⟩ := bnd H
    refine lcallg (d := 19) (t := 17) rfl (by kernel_rfl) rfl (bf q43 (by kernel_rfl)) rfl (by kernel_rfl) (e_call (l := [.tmp 18]) (vs := [.agg #[.int .i64 ((x1.getD (x13).toNat z65).kind), .int .i64 ((x1.getD (x13).toNat z65).n), .slice A27 ((x1.getD (x13).toNat z65).text).length c28]]) Try.func58 (by kernel_rfl) rfl (by kernel_rfl) rfl) (impl_cellOk.calls w38 (FP (fw F w.heap.size) w38.heap.size [some g32]) (x1.getD (x13).toNat z65) A27 c28 (Rd.mono (fp_sub (fun _ h_ => .inl h_) (by omega) (by simp)) h30) l29 t44 u45) ?_
    rintro _ w46 ⟨rfl, C47⟩
    refine ⟨_, rfl, ?_⟩
    have u48 : Lt [some g32] w38.heap.size := (Lt.blk b39 (Lt.nil _))
    have z49 := C47.size
    replace b39 := C47.heap b39 (by simp)
    replace h30 := Rd.move (fp_chg C47 (by omega) (by simp)) h30
    replace h4 := Rd.move (fp_chg C47 (by omega) (by simp)) h4
    replace hC := hC.step C47 (fun _ h_ => by cases h_)
    refine lvg (d := 20) (t := 17) rfl (by kernel_rfl) rfl (bf q43 (by kernel_rfl)) rfl (by kernel_rfl) (e_notv (c := t44) (by kernel_rfl)) ?_
    refine lv (d := 21) rfl rfl (by kernel_rfl) (e_pick_f (v := .bool (decide (¬ (t44 = true)))) (bf q43 (by kernel_rfl)) (by kernel_rfl)) ?_
    refine wpList_nil ?_
    refine then_n ?_
    by_cases q50 : ¬ (t44 = true)
    · replace H := ifp q50 H
      refine cond_t rfl (bt q50 (by kernel_rfl)) ?_
      refine wp_seq ?_
      refine wp_region_lit ?_
      refine lv (d := 2) rfl rfl (by kernel_rfl) (e_assign (v := .bool false) rfl) ?_
      refine wpList_nil ?_
      refine then_n ?_
      refine wp_ret ?_
      refine then_r ?_
      refine inb_r ?_
      refine then_r ?_
      refine then_r ?_
      refine inb_r ?_
      refine then_r ?_
      obtain rfl := Option.some.inj H
      exact ret1 (rfl) rfl  (show _ = .bool false from (by kernel_rfl)) ⟨rfl, hC⟩
    replace H := ifn q50 H
    refine cond_f rfl (bf q50 (by kernel_rfl)) ?_
    refine wp_skip ?_
    refine then_n ?_
    refine wp_seq ?_
    refine wp_region_lit ?_
    refine lv (d := 22) rfl rfl (by kernel_rfl) (e_move (v := .int .i64 x9) (by exact e10)) ?_
    refine lv (d := 23) rfl rfl (by kernel_rfl) (e_sub (k := .i64) (a := x9) (b := 1) (by kernel_rfl) rfl) ?_
    refine lv (d := 3) rfl rfl (by kernel_rfl) (e_assign (v := .int .i64 (IntKind.i64.wrap (x9 - 1))) (by kernel_rfl)) ?_
    refine wpList_nil ?_
    refine then_n ?_
    refine wp_seq ?_
    refine wp_region_lit ?_
    refine lv (d := 24) rfl rfl (by kernel_rfl) (e_fieldAddr (b := g32) (off := 0) (o := 0) Try.underlying65 rfl rfl (sz := 1) (by kernel_rfl) (by decide) (by kernel_rfl)) ?_
    refine lv (d := 25) rfl rfl (by kernel_rfl) (e_load1 (ad := ⟨g32, 0 + 0, none⟩) (v := .int .i64 ((x1.getD (x13).toNat z65).kind)) Try.underlying3 rfl (by kernel_rfl) ((cell_of_row _ _ _ _ _ _ b39).trans rfl)) ?_
    refine lv (d := 26) rfl rfl (by kernel_rfl) (e_eql (k := .i64) (a := (x1.getD (x13).toNat z65).kind) (b := 3) (by kernel_rfl) rfl) ?_
    refine wpList_nil ?_
    refine then_n ?_
    by_cases q51 : ((x1.getD (x13).toNat z65).kind) = 3
    · replace H := ifp q51 H
      refine cond_t rfl (bt q51 (by kernel_rfl)) ?_
      refine wp_region_lit ?_
      refine lv (d := 27) rfl rfl (by kernel_rfl) (e_move (v := .int .i64 (IntKind.i64.wrap (x9 - 1))) (by kernel_rfl)) ?_
      refine lv (d := 28) rfl rfl (by kernel_rfl) (e_fieldAddr (b := g32) (off := 0) (o := 1) Try.underlying65 rfl rfl (sz := 1) (by kernel_rfl) (by decide) (by kernel_rfl)) ?_
      refine lv (d := 29) rfl rfl (by kernel_rfl) (e_load1 (ad := ⟨g32, 0 + 1, none⟩) (v := .int .i64 ((x1.getD (x13).toNat z65).n)) Try.underlying3 rfl (by kernel_rfl) ((cell_of_row _ _ _ _ _ _ b39).trans rfl)) ?_
      refine lv (d := 30) rfl rfl (by kernel_rfl) (e_add (k := .i64) (a := (IntKind.i64.wrap (x9 - 1))) (b := (x1.getD (x13).toNat z65).n) (by kernel_rfl) (by kernel_rfl)) ?_
      refine lv (d := 3) rfl rfl (by kernel_rfl) (e_assign (v := .int .i64 (IntKind.i64.wrap ((IntKind.i64.wrap (x9 - 1)) + ((x1.getD (x13).toNat z65).n)))) (by kernel_rfl)) ?_
      refine wpList_nil ?_
      refine inb_n ?_
      refine then_n ?_
      refine wp_region_lit ?_
      refine lv (d := 31) rfl rfl (by kernel_rfl) (e_add (k := .i64) (a := x13) (b := 1) (by exact e14) rfl) ?_
      refine lv (d := 11) rfl rfl (by kernel_rfl) (e_move (v := .int .i64 (IntKind.i64.wrap (x13 + 1))) (by kernel_rfl)) ?_
      refine wpList_nil ?_
      refine then_n ?_
      exact ⟨k18, (by omega), _, (IntKind.i64.wrap ((IntKind.i64.wrap (x9 - 1)) + ((x1.getD (x13).toNat z65).n))), (IntKind.i64.wrap (x13 + 1)), rfl, (by kernel_rfl), (by exact e11), (by exact e12), (by kernel_rfl), (Rd.mono (fp_sub (fun _ h_ => h_) (by omega) (by simp [bk])) h4), hC, (by omega), H⟩
    replace H := ifn q51 H
    refine cond_f rfl (bf q51 (by kernel_rfl)) ?_
    refine wp_skip ?_
    refine inb_n ?_
    refine then_n ?_
    refine wp_region_lit ?_
    refine lv (d := 31) rfl rfl (by kernel_rfl) (e_add (k := .i64) (a := x13) (b := 1) (by exact e14) rfl) ?_
    refine lv (d := 11) rfl rfl (by kernel_rfl) (e_move (v := .int .i64 (IntKind.i64.wrap (x13 + 1))) (by kernel_rfl)) ?_
    refine wpList_nil ?_
    refine then_n ?_
    exact ⟨k18, (by omega), _, (IntKind.i64.wrap (x9 - 1)), (IntKind.i64.wrap (x13 + 1)), rfl, (by kernel_rfl), (by exact e11), (by exact e12), (by kernel_rfl), (Rd.mono (fp_sub (fun _ h_ => h_) (by omega) (by simp [bk])) h4), hC, (by omega), H⟩
  replace H := ifn q19 H
  refine cond_f rfl (bf q19 (by kernel_rfl)) ?_
  refine wp_exit ?_
  refine then_e ?_
  refine then_e ?_
  refine inb_hit ?_
  refine then_n ?_
  refine wp_seq ?_
  refine wp_region_lit ?_
  refine lv (d := 32) rfl rfl (by kernel_rfl) (e_move (v := .int .i64 x9) (by exact e10)) ?_
  refine lv (d := 33) rfl rfl (by kernel_rfl) (e_eql (k := .i64) (a := x9) (b := 0) (by kernel_rfl) rfl) ?_
  refine lv (d := 2) rfl rfl (by kernel_rfl) (e_assign (v := .bool (decide (x9 = 0))) (by kernel_rfl)) ?_
  refine wpList_nil ?_
  refine then_n ?_
  refine wp_ret ?_
  obtain rfl := Option.some.inj H
  exact ret1 (rfl) rfl  (show _ = .bool (decide (x9 = 0)) from (by kernel_rfl)) ⟨rfl, hC⟩

/-! impl.compareInt -/
def impl_compareInt.f (x1 : Int) (x2 : Int) : Option Int := (if x1 < x2 then some (-1) else (if x1 > x2 then some 1 else some 0))
theorem impl_compareInt.calls (w : World) (F : Foot) (x1 : Int) (x2 : Int) (r : Int) (H : impl_compareInt.f x1 x2 = some r) :
    Calls Try.prog 106 #[.int .i64 x1, .int .i64 x2] w (fun e e_w => e = .returned (.int .i64 r) ∧ Chg [] w e_w) := by
  rw [impl_compareInt.f] at H
  refine enter (l := [.int .i64 x1, .int .i64 x2]) 13 Try.func106 rfl rfl rfl ?_
  have hC := Chg.refl [] w
  refine wp_seq ?_
  refine wp_region_lit ?_
  refine lv (d := 4) rfl rfl (by kernel_rfl) (e_assign (v := .int .i64 0) rfl) ?_
  refine wpList_nil ?_
  refine then_n ?_
  refine wp_seq ?_
  refine wp_block ?_
  refine wp_seq ?_
  refine wp_region_lit ?_
  refine lv (d := 6) rfl rfl (by kernel_rfl) (e_move (v := .int .i64 x1) (by kernel_rfl)) ?_
  refine lv (d := 7) rfl rfl (by kernel_rfl) (e_move (v := .int .i64 x2) (by kernel_rfl)) ?_
  refine lv (d := 8) rfl rfl (by kernel_rfl) (e_lss (k := .i64) (a := x1) (b := x2) (by kernel_rfl) (by kernel_rfl)) ?_
  refine lv (d := 5) rfl rfl (by kernel_rfl) (e_assign (v := .bool (decide (x1 < x2))) (by kernel_rfl)) ?_
  refine wpList_nil ?_
  refine then_n ?_
  by_cases q3 : x1 < x2
  · replace H := ifp q3 H
    refine cond_t rfl (bt q3 (by kernel_rfl)) ?_
    refine wp_seq ?_
    refine wp_region_lit ?_
    refine lv (d := 4) rfl rfl (by kernel_rfl) (e_assign (v := .int .i64 (-1)) rfl) ?_
    refine wpList_nil ?_
    refine then_n ?_
    refine wp_ret ?_
    refine inb_r ?_
    refine then_r ?_
    obtain rfl := Option.some.inj H
    exact ret1 (rfl) rfl  (show _ = .int .i64 (-1) from (by kernel_rfl)) ⟨rfl, hC⟩
  replace H := ifn q3 H
  refine cond_f rfl (bf q3 (by kernel_rfl)) ?_
  refine wp_seq ?_
  refine wp_region_lit ?_
  refine lv (d := 10) rfl rfl (by kernel_rfl) (e_move (v := .int .i64 x1) (by kernel_rfl)) ?_
  refine lv (d := 11) rfl rfl (by kernel_rfl) (e_move (v := .int .i64 x2) (by kernel_rfl)) ?_
  refine lv (d := 12) rfl rfl (by kernel_rfl) (e_gtr (k := .i64) (a := x1) (b := x2) (by kernel_rfl) (by kernel_rfl)) ?_
  refine lv (d := 9) rfl rfl (by kernel_rfl) (e_assign (v := .bool (decide (x1 > x2))) (by kernel_rfl)) ?_
  refine wpList_nil ?_
  refine then_n ?_
  by_cases q4 : x1 > x2
  · replace H := ifp q4 H
    refine cond_t rfl (bt q4 (by kernel_rfl)) ?_
    refine wp_seq ?_
    refine wp_region_lit ?_
    refine lv (d := 4) rfl rfl (by kernel_rfl) (e_assign (v := .int .i64 1) rfl) ?_
    refine wpList_nil ?_
    refine then_n ?_
    refine wp_ret ?_
    refine inb_r ?_
    refine then_r ?_
    obtain rfl := Option.some.inj H
    exact ret1 (rfl) rfl  (show _ = .int .i64 1 from (by kernel_rfl)) ⟨rfl, hC⟩
  replace H := ifn q4 H
  refine cond_f rfl (bf q4 (by kernel_rfl)) ?_
  refine wp_skip ?_
  refine inb_n ?_
  refine then_n ?_
  refine wp_seq ?_
  refine wp_region_lit ?_
  refine lv (d := 4) rfl rfl (by kernel_rfl) (e_assign (v := .int .i64 0) rfl) ?_
  refine wpList_nil ?_
  refine then_n ?_
  refine wp_ret ?_
  obtain rfl := Option.some.inj H
  exact ret1 (rfl) rfl  (show _ = .int .i64 0 from (by kernel_rfl)) ⟨rfl, hC⟩

/-! impl.compareText -/
def impl_compareText.f (x1 : List UInt8) (x2 : List UInt8) : Option Int := (if (Op.bytesLess x1 x2) = true then some (-1) else (if (!(Op.bytesLess x1 x2 || x1 == x2)) = true then some 1 else some 0))
theorem impl_compareText.calls (w : World) (F : Foot) (x1 : List UInt8) (x2 : List UInt8) (r : Int) (H : impl_compareText.f x1 x2 = some r) :
    Calls Try.prog 107 #[str x1, str x2] w (fun e e_w => e = .returned (.int .i64 r) ∧ Chg [] w e_w) := by
  rw [impl_compareText.f] at H
  refine enter (l := [str x1, str x2]) 13 Try.func107 rfl rfl rfl ?_
  have hC := Chg.refl [] w
  refine wp_seq ?_
  refine wp_region_lit ?_
  refine lv (d := 4) rfl rfl (by kernel_rfl) (e_assign (v := .int .i64 0) rfl) ?_
  refine wpList_nil ?_
  refine then_n ?_
  refine wp_seq ?_
  refine wp_block ?_
  refine wp_seq ?_
  refine wp_region_lit ?_
  refine lv (d := 6) rfl rfl (by kernel_rfl) (e_move (v := str x1) (by kernel_rfl)) ?_
  refine lv (d := 7) rfl rfl (by kernel_rfl) (e_move (v := str x2) (by kernel_rfl)) ?_
  refine lv (d := 8) rfl rfl (by kernel_rfl) (e_slss (p := x1) (q := x2) (by kernel_rfl) (by kernel_rfl)) ?_
  refine lv (d := 5) rfl rfl (by kernel_rfl) (e_assign (v := .bool (Op.bytesLess x1 x2)) (by kernel_rfl)) ?_
  refine wpList_nil ?_
  refine then_n ?_
  by_cases q3 : (Op.bytesLess x1 x2) = true
  · replace H := ifp q3 H
    refine cond_t rfl (bvt q3 (by kernel_rfl)) ?_
    refine wp_seq ?_
    refine wp_region_lit ?_
    refine lv (d := 4) rfl rfl (by kernel_rfl) (e_assign (v := .int .i64 (-1)) rfl) ?_
    refine wpList_nil ?_
    refine then_n ?_
    refine wp_ret ?_
    refine inb_r ?_
    refine then_r ?_
    obtain rfl := Option.some.inj H
    exact ret1 (rfl) rfl  (show _ = .int .i64 (-1) from (by kernel_rfl)) ⟨rfl, hC⟩
  replace H := ifn q3 H
  refine cond_f rfl (bvf q3 (by kernel_rfl)) ?_
  refine wp_seq ?_
  refine wp_region_lit ?_
  refine lv (d := 10) rfl rfl (by kernel_rfl) (e_move (v := str x1) (by kernel_rfl)) ?_
  refine lv (d := 11) rfl rfl (by kernel_rfl) (e_move (v := str x2) (by kernel_rfl)) ?_
  refine lv (d := 12) rfl rfl (by kernel_rfl) (e_sgtr (p := x1) (q := x2) (by kernel_rfl) (by kernel_rfl)) ?_
  refine lv (d := 9) rfl rfl (by kernel_rfl) (e_assign (v := .bool (!(Op.bytesLess x1 x2 || x1 == x2))) (by kernel_rfl)) ?_
  refine wpList_nil ?_
  refine then_n ?_
  by_cases q4 : (!(Op.bytesLess x1 x2 || x1 == x2)) = true
  · replace H := ifp q4 H
    refine cond_t rfl (bvt q4 (by kernel_rfl)) ?_
    refine wp_seq ?_
    refine wp_region_lit ?_
    refine lv (d := 4) rfl rfl (by kernel_rfl) (e_assign (v := .int .i64 1) rfl) ?_
    refine wpList_nil ?_
    refine then_n ?_
    refine wp_ret ?_
    refine inb_r ?_
    refine then_r ?_
    obtain rfl := Option.some.inj H
    exact ret1 (rfl) rfl  (show _ = .int .i64 1 from (by kernel_rfl)) ⟨rfl, hC⟩
  replace H := ifn q4 H
  refine cond_f rfl (bvf q4 (by kernel_rfl)) ?_
  refine wp_skip ?_
  refine inb_n ?_
  refine then_n ?_
  refine wp_seq ?_
  refine wp_region_lit ?_
  refine lv (d := 4) rfl rfl (by kernel_rfl) (e_assign (v := .int .i64 0) rfl) ?_
  refine wpList_nil ?_
  refine then_n ?_
  refine wp_ret ?_
  obtain rfl := Option.some.inj H
  exact ret1 (rfl) rfl  (show _ = .int .i64 0 from (by kernel_rfl)) ⟨rfl, hC⟩

/-! impl.compare -/
mutual
def impl_compare.l0 : Nat → Tm → Tm → Option Int
  | 0, _, _ => none
  | k63 + 1, x1, x4 => (if x1.n ≠ x4.n then ((impl_compareInt.f x1.n x4.n).bind fun t185 => some t185) else (if x1.text ≠ x4.text then ((impl_compareText.f x1.text x4.text).bind fun t234 => some t234) else (impl_compare.l2 k63 x1 x4 0)))
def impl_compare.l1 : Nat → Tm → Tm → Bool → Option Int
  | 0, _, _, _ => none
  | k85 + 1, x1, x4, x80 => (if x80 = true then ((impl_compareInt.f x1.n x4.n).bind fun t109 => some t109) else (if x1.kind = 2 then ((impl_compareText.f x1.text x4.text).bind fun t135 => some t135) else (impl_compare.l0 k85 x1 x4)))
def impl_compare.l2 : Nat → Tm → Tm → Int → Option Int
  | 0, _, _, _ => none
  | k260 + 1, x1, x4, x254 => (if x254 < (x1.args.length : Int) then (if 0 ≤ x254 then (if x254 < (x4.args.length : Int) then ((impl_compare.f k260 (x1.args.getD (x254).toNat (Tm.mk 0 0 [] [])) (x4.args.getD (x254).toNat (Tm.mk 0 0 [] []))).bind fun t302 => (if t302 ≠ 0 then some t302 else (impl_compare.l2 k260 x1 x4 (IntKind.i64.wrap (x254 + 1))))) else none) else none) else some 0)
def impl_compare.f : Nat → Tm → Tm → Option Int
  | 0, _, _ => none
  | k1_ + 1, x1, x4 => (if x1.kind ≠ x4.kind then ((impl_compareInt.f x1.kind x4.kind).bind fun t51 => some t51) else (if x1.kind = 0 then (impl_compare.l1 k1_ x1 x4 (decide (x1.kind = 0))) else (impl_compare.l1 k1_ x1 x4 (decide (x1.kind = 1)))))
end
theorem impl_compare.all : ∀ (K : Nat), (∀ (k : Nat), k < K → ∀ (w : World) (F : Foot) (x1 : Tm) (g2 : Nat) (x4 : Tm) (g5 : Nat) (h3 : NodeR 125 74 w F x1 (.pointer (some ⟨g2, 0, none⟩))) (h6 : NodeR 125 74 w F x4 (.pointer (some ⟨g5, 0, none⟩))) (r : Int) (H : impl_compare.f k x1 x4 = some r), Calls Try.prog 61 #[.pointer (some ⟨g2, 0, none⟩), .pointer (some ⟨g5, 0, none⟩)] w (fun e e_w => e = .returned (.int .i64 r) ∧ Chg [] w e_w)) := by
  intro K
  induction K with
  | zero => intro k hk; omega
  | succ K ih =>
    intro k hk w F x1 g2 x4 g5 h3 h6 r H
    rcases k with _ | k1_
    · rw [impl_compare.f] at H
      cases H
    rw [impl_compare.f] at H
    refine enter (l := [.pointer (some ⟨g2, 0, none⟩), .pointer (some ⟨g5, 0, none⟩)]) 115 Try.func61 rfl rfl rfl ?_
    replace h3 := node_canonF h3
    replace h6 := node_canonF h6
    have hC := Chg.refl [] w
    refine wp_seq ?_
    refine wp_region_lit ?_
    refine lv (d := 4) rfl rfl (by kernel_rfl) (e_assign (v := .int .i64 0) rfl) ?_
    refine wpList_nil ?_
    refine then_n ?_
    refine wp_seq ?_
    refine wp_seq ?_
    refine region_still (by kernel_rfl) (by kernel_rfl) ?_
    intro w7 C8 _
    have z9 := C8.size
    replace h3 := NodeR.move (fp_chg C8 (by omega) (by simp)) _ _ h3
    replace h6 := NodeR.move (fp_chg C8 (by omega) (by simp)) _ _ h6
    replace hC := hC.step C8 (fun _ h_ => by cases h_)
    refine sv (d := 7) rfl rfl (by kernel_rfl) (e_move (v := .pointer (some ⟨g2, 0, none⟩)) (by kernel_rfl)) ?_
    refine sv (d := 8) rfl rfl (by kernel_rfl) (e_nilCheck (ad := ⟨g2, 0, none⟩) (by kernel_rfl)) ?_
    refine sv (d := 9) rfl rfl (by kernel_rfl) (e_fieldAddr (b := g2) (off := 0) (o := 0) Try.underlying125 rfl rfl (sz := 1) (by kernel_rfl) (by decide) (by kernel_rfl)) ?_
    obtain ⟨g10, A11, c12, y13, q14, e19, _, h15, h16, l17, h18⟩ := node_open h3
    obtain rfl := ptr_inj e19
    refine sv (d := 10) rfl rfl (by kernel_rfl) (e_load1 (ad := ⟨g2, 0 + 0, none⟩) (v := .int .i64 x1.kind) Try.underlying3 rfl (by kernel_rfl) (blk_cell h15 h16 0 _ rfl)) ?_
    refine sv (d := 11) rfl rfl (by kernel_rfl) (e_move (v := .pointer (some ⟨g5, 0, none⟩)) (by kernel_rfl)) ?_
    refine sv (d := 12) rfl rfl (by kernel_rfl) (e_nilCheck (ad := ⟨g5, 0, none⟩) (by kernel_rfl)) ?_
    refine sv (d := 13) rfl rfl (by kernel_rfl) (e_fieldAddr (b := g5) (off := 0) (o := 0) Try.underlying125 rfl rfl (sz := 1) (by kernel_rfl) (by decide) (by kernel_rfl)) ?_
    obtain ⟨g20, A21, c22, y23, q24, e29, _, h25, h26, l27, h28⟩ := node_open h6
    obtain rfl := ptr_inj e29
    refine sv (d := 14) rfl rfl (by kernel_rfl) (e_load1 (ad := ⟨g5, 0 + 0, none⟩) (v := .int .i64 x4.kind) Try.underlying3 rfl (by kernel_rfl) (blk_cell h25 h26 0 _ rfl)) ?_
    refine sv (d := 15) rfl rfl (by kernel_rfl) (e_neq (k := .i64) (a := x1.kind) (b := x4.kind) (by kernel_rfl) (by kernel_rfl)) ?_
    refine wpStill_nil ?_
    refine then_n ?_
    by_cases q30 : x1.kind ≠ x4.kind
    · replace H := ifp q30 H
      refine cond_t rfl (bt q30 (by kernel_rfl)) ?_
      refine wp_seq ?_
      refine region_quiet (by kernel_rfl) (by kernel_rfl) ?_
      refine qv (d := 16) rfl rfl (by kernel_rfl) (fun wq_ hq_ => e_move (v := .pointer (some ⟨g2, 0, none⟩)) (by kernel_rfl)) ?_
      refine qv (d := 17) rfl rfl (by kernel_rfl) (fun wq_ hq_ => e_nilCheck (ad := ⟨g2, 0, none⟩) (by kernel_rfl)) ?_
      refine qv (d := 18) rfl rfl (by kernel_rfl) (fun wq_ hq_ => e_fieldAddr (b := g2) (off := 0) (o := 0) Try.underlying125 rfl rfl (sz := 1) (by kernel_rfl) (by decide) (by kernel_rfl)) ?_
      obtain ⟨g31, A32, c33, y34, q35, e40, _, h36, h37, l38, h39⟩ := node_open h3
      obtain rfl := ptr_inj e40
      refine qv (d := 19) rfl rfl (by kernel_rfl) (fun wq_ hq_ => e_load1 (ad := ⟨g2, 0 + 0, none⟩) (v := .int .i64 x1.kind) Try.underlying3 rfl (by kernel_rfl) (hq_.cell (blk_cell h36 h37 0 _ rfl) (by simp))) ?_
      refine qv (d := 20) rfl rfl (by kernel_rfl) (fun wq_ hq_ => e_move (v := .pointer (some ⟨g5, 0, none⟩)) (by kernel_rfl)) ?_
      refine qv (d := 21) rfl rfl (by kernel_rfl) (fun wq_ hq_ => e_nilCheck (ad := ⟨g5, 0, none⟩) (by kernel_rfl)) ?_
      refine qv (d := 22) rfl rfl (by kernel_rfl) (fun wq_ hq_ => e_fieldAddr (b := g5) (off := 0) (o := 0) Try.underlying125 rfl rfl (sz := 1) (by kernel_rfl) (by decide) (by kernel_rfl)) ?_
      obtain ⟨g41, A42, c43, y44, q45, e50, _, h46, h47, l48, h49⟩ := node_open h6
      obtain rfl := ptr_inj e50
      refine qv (d := 23) rfl rfl (by kernel_rfl) (fun wq_ hq_ => e_load1 (ad := ⟨g5, 0 + 0, none⟩) (v := .int .i64 x4.kind) Try.underlying3 rfl (by kernel_rfl) (hq_.cell (blk_cell h46 h47 0 _ rfl) (by simp))) ?_
      obtain ⟨t51, u52, H⟩ := bnd H
      refine qcall (v := .int .i64 t51) (d := 24) rfl rfl (by kernel_rfl) (fun w_ => e_call (l := [.tmp 19, .tmp 23]) (vs := [.int .i64 x1.kind, .int .i64 x4.kind]) Try.func106 (by kernel_rfl) rfl (by kernel_rfl) rfl) (fun w_ hq_ => impl_compareInt.calls w_ (FP (fw F w.heap.size) w7.heap.size []) x1.kind x4.kind  t51 u52) ?_
      refine qv (d := 4) rfl rfl (by kernel_rfl) (fun wq_ hq_ => e_assign (v := .int .i64 t51) (by kernel_rfl)) ?_
      refine wpQuiet_nil ?_
      intro w53 C54
      have z55 := C54.size
      replace hC := hC.step C54 (fun _ h_ => by cases h_)
      refine then_n ?_
      refine wp_ret ?_
      refine then_r ?_
      obtain rfl := Option.some.inj H
      exact ret1 (rfl) rfl  (show _ = .int .i64 t51 from (by kernel_rfl)) ⟨rfl, hC⟩
    replace H := ifn q30 H
    refine cond_f rfl (bf q30 (by kernel_rfl)) ?_
    refine wp_skip ?_
    refine then_n ?_
    refine wp_seq_cut (fun a62 w56 => ∃ (k64 : Nat), k64 ≤ k1_ ∧ ∃ (f57 : Nat → Value), k64 < K ∧ a62 = mk 115 f57 ∧ f57 0 = .pointer (some ⟨g2, 0, none⟩) ∧ f57 1 = .pointer (some ⟨g5, 0, none⟩) ∧ NodeR 125 74 w56 (FP F w.heap.size []) x1 (.pointer (some ⟨g2, 0, none⟩)) ∧ NodeR 125 74 w56 (FP F w.heap.size []) x4 (.pointer (some ⟨g5, 0, none⟩)) ∧ Chg [] w w56 ∧ w7.heap.size ≤ w56.heap.size ∧ impl_compare.l0 k64 x1 x4 = some r) ?_ ?_
    · refine wp_seq ?_
      refine wp_region_lit ?_
      refine lv (d := 25) rfl rfl (by kernel_rfl) (e_move (v := .pointer (some ⟨g2, 0, none⟩)) (by kernel_rfl)) ?_
      refine lv (d := 26) rfl rfl (by kernel_rfl) (e_nilCheck (ad := ⟨g2, 0, none⟩) (by kernel_rfl)) ?_
      refine lv (d := 27) rfl rfl (by kernel_rfl) (e_fieldAddr (b := g2) (off := 0) (o := 0) Try.underlying125 rfl rfl (sz := 1) (by kernel_rfl) (by decide) (by kernel_rfl)) ?_
      obtain ⟨g65, A66, c67, y68, q69, e74, _, h70, h71, l72, h73⟩ := node_open h3
      obtain rfl := ptr_inj e74
      refine lv (d := 28) rfl rfl (by kernel_rfl) (e_load1 (ad := ⟨g2, 0 + 0, none⟩) (v := .int .i64 x1.kind) Try.underlying3 rfl (by kernel_rfl) (blk_cell h70 h71 0 _ rfl)) ?_
      refine wpList_nil ?_
      refine then_n ?_
      refine wp_block ?_
      refine wp_seq_cut (fun a84 w75 => ∃ (k86 : Nat), k86 ≤ k1_ ∧ ∃ (f76 : Nat → Value) (x80 : Bool), k86 < K ∧ a84 = mk 115 f76 ∧ f76 0 = .pointer (some ⟨g2, 0, none⟩) ∧ f76 1 = .pointer (some ⟨g5, 0, none⟩) ∧ f76 28 = .int .i64 x1.kind ∧ f76 29 = .bool x80 ∧ NodeR 125 74 w75 (FP F w.heap.size []) x1 (.pointer (some ⟨g2, 0, none⟩)) ∧ NodeR 125 74 w75 (FP F w.heap.size []) x4 (.pointer (some ⟨g5, 0, none⟩)) ∧ Chg [] w w75 ∧ w7.heap.size ≤ w75.heap.size ∧ impl_compare.l1 k86 x1 x4 x80 = some r) ?_ ?_
      · refine wp_seq ?_
        refine wp_region_lit ?_
        refine lv (d := 30) rfl rfl (by kernel_rfl) (e_eql (k := .i64) (a := x1.kind) (b := 0) (by kernel_rfl) rfl) ?_
        refine lv (d := 29) rfl rfl (by kernel_rfl) (e_assign (v := .bool (decide (x1.kind = 0))) (by kernel_rfl)) ?_
        refine wpList_nil ?_
        refine then_n ?_
        by_cases q87 : x1.kind = 0
        · replace H := ifp q87 H
          refine cond_t rfl (bt q87 (by kernel_rfl)) ?_
          refine wp_skip ?_
          refine then_n ?_
          exact ⟨k1_, (by omega), _, (decide (x1.kind = 0)), (by omega), rfl, (by kernel_rfl), (by kernel_rfl), (by kernel_rfl), (by kernel_rfl), (NodeR.mono (fp_sub (fun _ h_ => h_) (by omega) (by simp [bk])) _ _ h3), (NodeR.mono (fp_sub (fun _ h_ => h_) (by omega) (by simp [bk])) _ _ h6), hC, (by omega), H⟩
        replace H := ifn q87 H
        refine cond_f rfl (bf q87 (by kernel_rfl)) ?_
        refine wp_region_lit ?_
        refine lv (d := 31) rfl rfl (by kernel_rfl) (e_eql (k := .i64) (a := x1.kind) (b := 1) (by kernel_rfl) rfl) ?_
        refine lv (d := 29) rfl rfl (by kernel_rfl) (e_assign (v := .bool (decide (x1.kind = 1))) (by kernel_rfl)) ?_
        refine wpList_nil ?_
        refine then_n ?_
        exact ⟨k1_, (by omega), _, (decide (x1.kind = 1)), (by omega), rfl, (by kernel_rfl), (by kernel_rfl), (by kernel_rfl), (by kernel_rfl), (NodeR.mono (fp_sub (fun _ h_ => h_) (by omega) (by simp [bk])) _ _ h3), (NodeR.mono (fp_sub (fun _ h_ => h_) (by omega) (by simp [bk])) _ _ h6), hC, (by omega), H⟩
      rintro a84 w75 ⟨k86, z140, f76, x80, z83, rfl, e77, e78, e79, e81, h3, h6, hC, z82, H⟩
      rcases k86 with _ | k85
      · rw [impl_compare.l1] at H
        cases H
      rw [impl_compare.l1] at H
      by_cases q88 : x80 = true
      · replace H := ifp q88 H
        refine cond_t rfl (bvt q88 (by exact e81)) ?_
        refine wp_seq ?_
        refine region_quiet (by kernel_rfl) (by kernel_rfl) ?_
        refine qv (d := 32) rfl rfl (by kernel_rfl) (fun wq_ hq_ => e_move (v := .pointer (some ⟨g2, 0, none⟩)) (by exact e77)) ?_
        refine qv (d := 33) rfl rfl (by kernel_rfl) (fun wq_ hq_ => e_nilCheck (ad := ⟨g2, 0, none⟩) (by kernel_rfl)) ?_
        refine qv (d := 34) rfl rfl (by kernel_rfl) (fun wq_ hq_ => e_fieldAddr (b := g2) (off := 0) (o := 1) Try.underlying125 rfl rfl (sz := 1) (by kernel_rfl) (by decide) (by kernel_rfl)) ?_
        obtain ⟨g89, A90, c91, y92, q93, e98, _, h94, h95, l96, h97⟩ := node_open h3
        obtain rfl := ptr_inj e98
        refine qv (d := 35) rfl rfl (by kernel_rfl) (fun wq_ hq_ => e_load1 (ad := ⟨g2, 0 + 1, none⟩) (v := .int .i64 x1.n) Try.underlying3 rfl (by kernel_rfl) (hq_.cell (blk_cell h94 h95 1 _ rfl) (by simp))) ?_
        refine qv (d := 36) rfl rfl (by kernel_rfl) (fun wq_ hq_ => e_move (v := .pointer (some ⟨g5, 0, none⟩)) (by exact e78)) ?_
        refine qv (d := 37) rfl rfl (by kernel_rfl) (fun wq_ hq_ => e_nilCheck (ad := ⟨g5, 0, none⟩) (by kernel_rfl)) ?_
        refine qv (d := 38) rfl rfl (by kernel_rfl) (fun wq_ hq_ => e_fieldAddr (b := g5) (off := 0) (o := 1) Try.underlying125 rfl rfl (sz := 1) (by kernel_rfl) (by decide) (by kernel_rfl)) ?_
        obtain ⟨g99, A100, c101, y102, q103, e108, _, h104, h105, l106, h107⟩ := node_open h6
        obtain rfl := ptr_inj e108
        refine qv (d := 39) rfl rfl (by kernel_rfl) (fun wq_ hq_ => e_load1 (ad := ⟨g5, 0 + 1, none⟩) (v := .int .i64 x4.n) Try.underlying3 rfl (by kernel_rfl) (hq_.cell (blk_cell h104 h105 1 _ rfl) (by simp))) ?_
        obtain ⟨t109, u110, H⟩ := bnd H
        refine qcall (v := .int .i64 t109) (d := 40) rfl rfl (by kernel_rfl) (fun w_ => e_call (l := [.tmp 35, .tmp 39]) (vs := [.int .i64 x1.n, .int .i64 x4.n]) Try.func106 (by kernel_rfl) rfl (by kernel_rfl) rfl) (fun w_ hq_ => impl_compareInt.calls w_ (FP (fw F w.heap.size) w75.heap.size []) x1.n x4.n  t109 u110) ?_
        refine qv (d := 4) rfl rfl (by kernel_rfl) (fun wq_ hq_ => e_assign (v := .int .i64 t109) (by kernel_rfl)) ?_
        refine wpQuiet_nil ?_
        intro w111 C112
        have z113 := C112.size
        replace hC := hC.step C112 (fun _ h_ => by cases h_)
        refine then_n ?_
        refine wp_ret ?_
        refine inb_r ?_
        refine then_r ?_
        obtain rfl := Option.some.inj H
        exact ret1 (rfl) rfl  (show _ = .int .i64 t109 from (by kernel_rfl)) ⟨rfl, hC⟩
      replace H := ifn q88 H
      refine cond_f rfl (bvf q88 (by exact e81)) ?_
      refine wp_seq ?_
      refine wp_region_lit ?_
      refine lv (d := 42) rfl rfl (by kernel_rfl) (e_eql (k := .i64) (a := x1.kind) (b := 2) (by exact e79) rfl) ?_
      refine lv (d := 41) rfl rfl (by kernel_rfl) (e_assign (v := .bool (decide (x1.kind = 2))) (by kernel_rfl)) ?_
      refine wpList_nil ?_
      refine then_n ?_
      by_cases q114 : x1.kind = 2
      · replace H := ifp q114 H
        refine cond_t rfl (bt q114 (by kernel_rfl)) ?_
        refine wp_seq ?_
        refine region_quiet (by kernel_rfl) (by kernel_rfl) ?_
        refine qv (d := 43) rfl rfl (by kernel_rfl) (fun wq_ hq_ => e_move (v := .pointer (some ⟨g2, 0, none⟩)) (by exact e77)) ?_
        refine qv (d := 44) rfl rfl (by kernel_rfl) (fun wq_ hq_ => e_nilCheck (ad := ⟨g2, 0, none⟩) (by kernel_rfl)) ?_
        refine qv (d := 45) rfl rfl (by kernel_rfl) (fun wq_ hq_ => e_fieldAddr (b := g2) (off := 0) (o := 2) Try.underlying125 rfl rfl (sz := 1) (by kernel_rfl) (by decide) (by kernel_rfl)) ?_
        obtain ⟨g115, A116, c117, y118, q119, e124, _, h120, h121, l122, h123⟩ := node_open h3
        obtain rfl := ptr_inj e124
        refine qv (d := 46) rfl rfl (by kernel_rfl) (fun wq_ hq_ => e_load1 (ad := ⟨g2, 0 + 2, none⟩) (v := str x1.text) Try.underlying9 rfl (by kernel_rfl) (hq_.cell (blk_cell h120 h121 2 _ rfl) (by simp))) ?_
        refine qv (d := 47) rfl rfl (by kernel_rfl) (fun wq_ hq_ => e_move (v := .pointer (some ⟨g5, 0, none⟩)) (by exact e78)) ?_
        refine qv (d := 48) rfl rfl (by kernel_rfl) (fun wq_ hq_ => e_nilCheck (ad := ⟨g5, 0, none⟩) (by kernel_rfl)) ?_
        refine qv (d := 49) rfl rfl (by kernel_rfl) (fun wq_ hq_ => e_fieldAddr (b := g5) (off := 0) (o := 2) Try.underlying125 rfl rfl (sz := 1) (by kernel_rfl) (by decide) (by kernel_rfl)) ?_
        obtain ⟨g125, A126, c127, y128, q129, e134, _, h130, h131, l132, h133⟩ := node_open h6
        obtain rfl := ptr_inj e134
        refine qv (d := 50) rfl rfl (by kernel_rfl) (fun wq_ hq_ => e_load1 (ad := ⟨g5, 0 + 2, none⟩) (v := str x4.text) Try.underlying9 rfl (by kernel_rfl) (hq_.cell (blk_cell h130 h131 2 _ rfl) (by simp))) ?_
        obtain ⟨t135, u136, H⟩ := bnd H
        refine qcall (v := .int .i64 t135) (d := 51) rfl rfl (by kernel_rfl) (fun w_ => e_call (l := [.tmp 46, .tmp 50]) (vs := [str x1.text, str x4.text]) Try.func107 (by kernel_rfl) rfl (by kernel_rfl) rfl) (fun w_ hq_ => impl_compareText.calls w_ (FP (fw F w.heap.size) w75.heap.size []) x1.text x4.text  t135 u136) ?_
        refine qv (d := 4) rfl rfl (by kernel_rfl) (fun wq_ hq_ => e_assign (v := .int .i64 t135) (by kernel_rfl)) ?_
        refine wpQuiet_nil ?_
        intro w137 C138
        have z139 := C138.size
        replace hC := hC.step C138 (fun _ h_ => by cases h_)
        refine then_n ?_
        refine wp_ret ?_
        refine inb_r ?_
        refine then_r ?_
        obtain rfl := Option.some.inj H
        exact ret1 (rfl) rfl  (show _ = .int .i64 t135 from (by kernel_rfl)) ⟨rfl, hC⟩
      replace H := ifn q114 H
      refine cond_f rfl (bf q114 (by kernel_rfl)) ?_
      refine wp_skip ?_
      refine inb_n ?_
      refine then_n ?_
      exact ⟨k85, (by omega), _, (by omega), rfl, (by exact e77), (by exact e78), (NodeR.mono (fp_sub (fun _ h_ => h_) (by omega) (by simp [bk])) _ _ h3), (NodeR.mono (fp_sub (fun _ h_ => h_) (by omega) (by simp [bk])) _ _ h6), hC, (by omega), H⟩
    rintro a62 w56 ⟨k64, z308, f57, z61, rfl, e58, e59, h3, h6, hC, z60, H⟩
    rcases k64 with _ | k63
    · rw [impl_compare.l0] at H
      cases H
    rw [impl_compare.l0] at H
    refine wp_seq ?_
    refine wp_seq ?_
    refine region_still (by kernel_rfl) (by kernel_rfl) ?_
    intro w141 C142 _
    have z143 := C142.size
    replace h3 := NodeR.move (fp_chg C142 (by omega) (by simp)) _ _ h3
    replace h6 := NodeR.move (fp_chg C142 (by omega) (by simp)) _ _ h6
    replace hC := hC.step C142 (fun _ h_ => by cases h_)
    refine sv (d := 52) rfl rfl (by kernel_rfl) (e_move (v := .pointer (some ⟨g2, 0, none⟩)) (by exact e58)) ?_
    refine sv (d := 53) rfl rfl (by kernel_rfl) (e_nilCheck (ad := ⟨g2, 0, none⟩) (by kernel_rfl)) ?_
    refine sv (d := 54) rfl rfl (by kernel_rfl) (e_fieldAddr (b := g2) (off := 0) (o := 1) Try.underlying125 rfl rfl (sz := 1) (by kernel_rfl) (by decide) (by kernel_rfl)) ?_
    obtain ⟨g144, A145, c146, y147, q148, e153, _, h149, h150, l151, h152⟩ := node_open h3
    obtain rfl := ptr_inj e153
    refine sv (d := 55) rfl rfl (by kernel_rfl) (e_load1 (ad := ⟨g2, 0 + 1, none⟩) (v := .int .i64 x1.n) Try.underlying3 rfl (by kernel_rfl) (blk_cell h149 h150 1 _ rfl)) ?_
    refine sv (d := 56) rfl rfl (by kernel_rfl) (e_move (v := .pointer (some ⟨g5, 0, none⟩)) (by exact e59)) ?_
    refine sv (d := 57) rfl rfl (by kernel_rfl) (e_nilCheck (ad := ⟨g5, 0, none⟩) (by kernel_rfl)) ?_
    refine sv (d := 58) rfl rfl (by kernel_rfl) (e_fieldAddr (b := g5) (off := 0) (o := 1) Try.underlying125 rfl rfl (sz := 1) (by kernel_rfl) (by decide) (by kernel_rfl)) ?_
    obtain ⟨g154, A155, c156, y157, q158, e163, _, h159, h160, l161, h162⟩ := node_open h6
    obtain rfl := ptr_inj e163
    refine sv (d := 59) rfl rfl (by kernel_rfl) (e_load1 (ad := ⟨g5, 0 + 1, none⟩) (v := .int .i64 x4.n) Try.underlying3 rfl (by kernel_rfl) (blk_cell h159 h160 1 _ rfl)) ?_
    refine sv (d := 60) rfl rfl (by kernel_rfl) (e_neq (k := .i64) (a := x1.n) (b := x4.n) (by kernel_rfl) (by kernel_rfl)) ?_
    refine wpStill_nil ?_
    refine then_n ?_
    by_cases q164 : x1.n ≠ x4.n
    · replace H := ifp q164 H
      refine cond_t rfl (bt q164 (by kernel_rfl)) ?_
      refine wp_seq ?_
      refine region_quiet (by kernel_rfl) (by kernel_rfl) ?_
      refine qv (d := 61) rfl rfl (by kernel_rfl) (fun wq_ hq_ => e_move (v := .pointer (some ⟨g2, 0, none⟩)) (by exact e58)) ?_
      refine qv (d := 62) rfl rfl (by kernel_rfl) (fun wq_ hq_ => e_nilCheck (ad := ⟨g2, 0, none⟩) (by kernel_rfl)) ?_
      refine qv (d := 63) rfl rfl (by kernel_rfl) (fun wq_ hq_ => e_fieldAddr (b := g2) (off := 0) (o := 1) Try.underlying125 rfl rfl (sz := 1) (by kernel_rfl) (by decide) (by kernel_rfl)) ?_
      obtain ⟨g165, A166, c167, y168, q169, e174, _, h170, h171, l172, h173⟩ := node_open h3
      obtain rfl := ptr_inj e174
      refine qv (d := 64) rfl rfl (by kernel_rfl) (fun wq_ hq_ => e_load1 (ad := ⟨g2, 0 + 1, none⟩) (v := .int .i64 x1.n) Try.underlying3 rfl (by kernel_rfl) (hq_.cell (blk_cell h170 h171 1 _ rfl) (by simp))) ?_
      refine qv (d := 65) rfl rfl (by kernel_rfl) (fun wq_ hq_ => e_move (v := .pointer (some ⟨g5, 0, none⟩)) (by exact e59)) ?_
      refine qv (d := 66) rfl rfl (by kernel_rfl) (fun wq_ hq_ => e_nilCheck (ad := ⟨g5, 0, none⟩) (by kernel_rfl)) ?_
      refine qv (d := 67) rfl rfl (by kernel_rfl) (fun wq_ hq_ => e_fieldAddr (b := g5) (off := 0) (o := 1) Try.underlying125 rfl rfl (sz := 1) (by kernel_rfl) (by decide) (by kernel_rfl)) ?_
      obtain ⟨g175, A176, c177, y178, q179, e184, _, h180, h181, l182, h183⟩ := node_open h6
      obtain rfl := ptr_inj e184
      refine qv (d := 68) rfl rfl (by kernel_rfl) (fun wq_ hq_ => e_load1 (ad := ⟨g5, 0 + 1, none⟩) (v := .int .i64 x4.n) Try.underlying3 rfl (by kernel_rfl) (hq_.cell (blk_cell h180 h181 1 _ rfl) (by simp))) ?_
      obtain ⟨t185, u186, H⟩ := bnd H
      refine qcall (v := .int .i64 t185) (d := 69) rfl rfl (by kernel_rfl) (fun w_ => e_call (l := [.tmp 64, .tmp 68]) (vs := [.int .i64 x1.n, .int .i64 x4.n]) Try.func106 (by kernel_rfl) rfl (by kernel_rfl) rfl) (fun w_ hq_ => impl_compareInt.calls w_ (FP (fw F w.heap.size) w141.heap.size []) x1.n x4.n  t185 u186) ?_
      refine qv (d := 4) rfl rfl (by kernel_rfl) (fun wq_ hq_ => e_assign (v := .int .i64 t185) (by kernel_rfl)) ?_
      refine wpQuiet_nil ?_
      intro w187 C188
      have z189 := C188.size
      replace hC := hC.step C188 (fun _ h_ => by cases h_)
      refine then_n ?_
      refine wp_ret ?_
      refine then_r ?_
      obtain rfl := Option.some.inj H
      exact ret1 (rfl) rfl  (show _ = .int .i64 t185 from (by kernel_rfl)) ⟨rfl, hC⟩
    replace H := ifn q164 H
    refine cond_f rfl (bf q164 (by kernel_rfl)) ?_
    refine wp_skip ?_
    refine then_n ?_
    refine wp_seq ?_
    refine wp_seq ?_
    refine region_still (by kernel_rfl) (by kernel_rfl) ?_
    intro w190 C191 _
    have z192 := C191.size
    replace h3 := NodeR.move (fp_chg C191 (by omega) (by simp)) _ _ h3
    replace h6 := NodeR.move (fp_chg C191 (by omega) (by simp)) _ _ h6
    replace hC := hC.step C191 (fun _ h_ => by cases h_)
    refine sv (d := 70) rfl rfl (by kernel_rfl) (e_move (v := .pointer (some ⟨g2, 0, none⟩)) (by exact e58)) ?_
    refine sv (d := 71) rfl rfl (by kernel_rfl) (e_nilCheck (ad := ⟨g2, 0, none⟩) (by kernel_rfl)) ?_
    refine sv (d := 72) rfl rfl (by kernel_rfl) (e_fieldAddr (b := g2) (off := 0) (o := 2) Try.underlying125 rfl rfl (sz := 1) (by kernel_rfl) (by decide) (by kernel_rfl)) ?_
    obtain ⟨g193, A194, c195, y196, q197, e202, _, h198, h199, l200, h201⟩ := node_open h3
    obtain rfl := ptr_inj e202
    refine sv (d := 73) rfl rfl (by kernel_rfl) (e_load1 (ad := ⟨g2, 0 + 2, none⟩) (v := str x1.text) Try.underlying9 rfl (by kernel_rfl) (blk_cell h198 h199 2 _ rfl)) ?_
    refine sv (d := 74) rfl rfl (by kernel_rfl) (e_move (v := .pointer (some ⟨g5, 0, none⟩)) (by exact e59)) ?_
    refine sv (d := 75) rfl rfl (by kernel_rfl) (e_nilCheck (ad := ⟨g5, 0, none⟩) (by kernel_rfl)) ?_
    refine sv (d := 76) rfl rfl (by kernel_rfl) (e_fieldAddr (b := g5) (off := 0) (o := 2) Try.underlying125 rfl rfl (sz := 1) (by kernel_rfl) (by decide) (by kernel_rfl)) ?_
    obtain ⟨g203, A204, c205, y206, q207, e212, _, h208, h209, l210, h211⟩ := node_open h6
    obtain rfl := ptr_inj e212
    refine sv (d := 77) rfl rfl (by kernel_rfl) (e_load1 (ad := ⟨g5, 0 + 2, none⟩) (v := str x4.text) Try.underlying9 rfl (by kernel_rfl) (blk_cell h208 h209 2 _ rfl)) ?_
    refine sv (d := 78) rfl rfl (by kernel_rfl) (e_sneq (p := x1.text) (q := x4.text) (by kernel_rfl) (by kernel_rfl)) ?_
    refine wpStill_nil ?_
    refine then_n ?_
    by_cases q213 : x1.text ≠ x4.text
    · replace H := ifp q213 H
      refine cond_t rfl (bt q213 (by kernel_rfl)) ?_
      refine wp_seq ?_
      refine region_quiet (by kernel_rfl) (by kernel_rfl) ?_
      refine qv (d := 79) rfl rfl (by kernel_rfl) (fun wq_ hq_ => e_move (v := .pointer (some ⟨g2, 0, none⟩)) (by exact e58)) ?_
      refine qv (d := 80) rfl rfl (by kernel_rfl) (fun wq_ hq_ => e_nilCheck (ad := ⟨g2, 0, none⟩) (by kernel_rfl)) ?_
      refine qv (d := 81) rfl rfl (by kernel_rfl) (fun wq_ hq_ => e_fieldAddr (b := g2) (off := 0) (o := 2) Try.underlying125 rfl rfl (sz := 1) (by kernel_rfl) (by decide) (by kernel_rfl)) ?_
      obtain ⟨g214, A215, c216, y217, q218, e223, _, h219, h220, l221, h222⟩ := node_open h3
      obtain rfl := ptr_inj e223
      refine qv (d := 82) rfl rfl (by kernel_rfl) (fun wq_ hq_ => e_load1 (ad := ⟨g2, 0 + 2, none⟩) (v := str x1.text) Try.underlying9 rfl (by kernel_rfl) (hq_.cell (blk_cell h219 h220 2 _ rfl) (by simp))) ?_
      refine qv (d := 83) rfl rfl (by kernel_rfl) (fun wq_ hq_ => e_move (v := .pointer (some ⟨g5, 0, none⟩)) (by exact e59)) ?_
      refine qv (d := 84) rfl rfl (by kernel_rfl) (fun wq_ hq_ => e_nilCheck (ad := ⟨g5, 0, none⟩) (by kernel_rfl)) ?_
      refine qv (d := 85) rfl rfl (by kernel_rfl) (fun wq_ hq_ => e_fieldAddr (b := g5) (off := 0) (o := 2) Try.underlying125 rfl rfl (sz := 1) (by kernel_rfl) (by decide) (by kernel_rfl)) ?_
      obtain ⟨g224, A225, c226, y227, q228, e233, _, h229, h230, l231, h232⟩ := node_open h6
      obtain rfl := ptr_inj e233
      refine qv (d := 86) rfl rfl (by kernel_rfl) (fun wq_ hq_ => e_load1 (ad := ⟨g5, 0 + 2, none⟩) (v := str x4.text) Try.underlying9 rfl (by kernel_rfl) (hq_.cell (blk_cell h229 h230 2 _ rfl) (by simp))) ?_
      obtain ⟨t234, u235, H⟩ := bnd H
      refine qcall (v := .int .i64 t234) (d := 87) rfl rfl (by kernel_rfl) (fun w_ => e_call (l := [.tmp 82, .tmp 86]) (vs := [str x1.text, str x4.text]) Try.func107 (by kernel_rfl) rfl (by kernel_rfl) rfl) (fun w_ hq_ => impl_compareText.calls w_ (FP (fw F w.heap.size) w190.heap.size []) x1.text x4.text  t234 u235) ?_
      refine qv (d := 4) rfl rfl (by kernel_rfl) (fun wq_ hq_ => e_assign (v := .int .i64 t234) (by kernel_rfl)) ?_
      refine wpQuiet_nil ?_
      intro w236 C237
      have z238 := C237.size
      replace hC := hC.step C237 (fun _ h_ => by cases h_)
      refine then_n ?_
      refine wp_ret ?_
      refine then_r ?_
      obtain rfl := Option.some.inj H
      exact ret1 (rfl) rfl  (show _ = .int .i64 t234 from (by kernel_rfl)) ⟨rfl, hC⟩
    replace H := ifn q213 H
    refine cond_f rfl (bf q213 (by kernel_rfl)) ?_
    refine wp_skip ?_
    refine then_n ?_
    refine wp_seq ?_
    refine wp_seq ?_
    refine wp_region_lit ?_
    refine lv (d := 88) rfl rfl (by kernel_rfl) (e_move (v := .pointer (some ⟨g2, 0, none⟩)) (by exact e58)) ?_
    refine lv (d := 89) rfl rfl (by kernel_rfl) (e_nilCheck (ad := ⟨g2, 0, none⟩) (by kernel_rfl)) ?_
    refine lv (d := 90) rfl rfl (by kernel_rfl) (e_fieldAddr (b := g2) (off := 0) (o := 3) Try.underlying125 rfl rfl (sz := 1) (by kernel_rfl) (by decide) (by kernel_rfl)) ?_
    obtain ⟨g239, A240, c241, y242, q243, e248, _, h244, h245, l246, h247⟩ := node_open h3
    obtain rfl := ptr_inj e248
    refine lv (d := 91) rfl rfl (by kernel_rfl) (e_load1 (ad := ⟨g2, 0 + 3, none⟩) (v := .slice A240 x1.args.length c241) Try.underlying87 rfl (by kernel_rfl) (blk_cell h244 h245 3 _ rfl)) ?_
    refine lv (d := 92) rfl rfl (by kernel_rfl) (e_len (A := A240) (n := x1.args.length) (c := c241) Try.underlying87 (by kernel_rfl)) ?_
    refine lv (d := 93) rfl rfl (by kernel_rfl) (e_move (v := .int .i64 0) rfl) ?_
    refine wpList_nil ?_
    refine then_n ?_
    refine wp_block ?_
    refine wp_loop_g (fun k258 a259 w249 => ∃ (f250 : Nat → Value) (x254 : Int), k258 < K ∧ a259 = mk 115 f250 ∧ f250 0 = .pointer (some ⟨g2, 0, none⟩) ∧ f250 1 = .pointer (some ⟨g5, 0, none⟩) ∧ f250 92 = .int .i64 (x1.args.length : Int) ∧ f250 93 = .int .i64 x254 ∧ NodeR 125 74 w249 (FP F w.heap.size []) x1 (.pointer (some ⟨g2, 0, none⟩)) ∧ NodeR 125 74 w249 (FP F w.heap.size []) x4 (.pointer (some ⟨g5, 0, none⟩)) ∧ Chg [] w w249 ∧ w190.heap.size ≤ w249.heap.size ∧ impl_compare.l2 k258 x1 x4 x254 = some r) k63 ⟨_, 0, (by omega), rfl, (by exact e58), (by exact e59), (by kernel_rfl), (by kernel_rfl), (NodeR.mono (fp_sub (fun _ h_ => h_) (by omega) (by simp [bk])) _ _ h3), (NodeR.mono (fp_sub (fun _ h_ => h_) (by omega) (by simp [bk])) _ _ h6), hC, (by omega), H⟩ ?_
    rintro k258 a259 w249 ⟨f250, x254, z257, rfl, e251, e252, e253, e255, h3, h6, hC, z256, H⟩
    rcases k258 with _ | k260
    · rw [impl_compare.l2] at H
      cases H
    rw [impl_compare.l2] at H
    refine wp_seq ?_
    refine wp_region_lit ?_
    refine lv (d := 94) rfl rfl (by kernel_rfl) (e_lss (k := .i64) (a := x254) (b := (x1.args.length : Int)) (by exact e255) (by exact e253)) ?_
    refine wpList_nil ?_
    refine then_n ?_
    refine wp_seq ?_
    by_cases q261 : x254 < (x1.args.length : Int)
    · replace H := ifp q261 H
      refine cond_t rfl (bt q261 (by kernel_rfl)) ?_
      refine wp_skip ?_
      refine then_n ?_
      refine wp_seq ?_
      refine wp_block ?_
      refine wp_seq ?_
      refine wp_region_lit ?_
      refine lv (d := 95) rfl rfl (by kernel_rfl) (e_move (v := .int .i64 x254) (by exact e255)) ?_
      refine lv (d := 5) rfl rfl (by kernel_rfl) (e_assign (v := .int .i64 x254) (by kernel_rfl)) ?_
      refine wpList_nil ?_
      refine then_n ?_
      refine wp_seq ?_
      refine region_quiet (by kernel_rfl) (by kernel_rfl) ?_
      refine qv (d := 96) rfl rfl (by kernel_rfl) (fun wq_ hq_ => e_move (v := .pointer (some ⟨g2, 0, none⟩)) (by exact e251)) ?_
      refine qv (d := 97) rfl rfl (by kernel_rfl) (fun wq_ hq_ => e_nilCheck (ad := ⟨g2, 0, none⟩) (by kernel_rfl)) ?_
      refine qv (d := 98) rfl rfl (by kernel_rfl) (fun wq_ hq_ => e_fieldAddr (b := g2) (off := 0) (o := 3) Try.underlying125 rfl rfl (sz := 1) (by kernel_rfl) (by decide) (by kernel_rfl)) ?_
      obtain ⟨g262, A263, c264, y265, q266, e271, _, h267, h268, l269, h270⟩ := node_open h3
      obtain rfl := ptr_inj e271
      refine qv (d := 99) rfl rfl (by kernel_rfl) (fun wq_ hq_ => e_load1 (ad := ⟨g2, 0 + 3, none⟩) (v := .slice A263 x1.args.length c264) Try.underlying87 rfl (by kernel_rfl) (hq_.cell (blk_cell h267 h268 3 _ rfl) (by simp))) ?_
      refine qv (d := 100) rfl rfl (by kernel_rfl) (fun wq_ hq_ => e_move (v := .int .i64 x254) (by kernel_rfl)) ?_
      obtain ⟨q272, H⟩ := chk H
      obtain ⟨b273, o274, y275, e278, _, r276, k277⟩ := Rd.get h270 (x254).toNat _ (getD_some (Tm.mk 0 0 [] []) (by omega))
      obtain ⟨v279, rfl, h280⟩ := r276
      obtain ⟨g281, rfl⟩ := node_ptr h280
      refine qv (d := 101) rfl rfl (by kernel_rfl) (fun wq_ hq_ => e_indexAddr (b := b273) (off := o274) (n := x1.args.length) (c := c264) (sz := 1) (i := x254) (k := .i64) Try.underlying87 e278 (by kernel_rfl) (by kernel_rfl) (by kernel_rfl) q272 q261) ?_
      refine qv (d := 102) rfl rfl (by kernel_rfl) (fun wq_ hq_ => e_load1 (ad := ⟨b273, o274 + (x254 : Int).toNat * 1, none⟩) (v := .pointer (some ⟨g281, 0, none⟩)) Try.underlying74 rfl (by kernel_rfl) (hq_.cell (k277 0 _ rfl) (by simp))) ?_
      refine qv (d := 103) rfl rfl (by kernel_rfl) (fun wq_ hq_ => e_move (v := .pointer (some ⟨g5, 0, none⟩)) (by exact e252)) ?_
      refine qv (d := 104) rfl rfl (by kernel_rfl) (fun wq_ hq_ => e_nilCheck (ad := ⟨g5, 0, none⟩) (by kernel_rfl)) ?_
      refine qv (d := 105) rfl rfl (by kernel_rfl) (fun wq_ hq_ => e_fieldAddr (b := g5) (off := 0) (o := 3) Try.underlying125 rfl rfl (sz := 1) (by kernel_rfl) (by decide) (by kernel_rfl)) ?_
      obtain ⟨g282, A283, c284, y285, q286, e291, _, h287, h288, l289, h290⟩ := node_open h6
      obtain rfl := ptr_inj e291
      refine qv (d := 106) rfl rfl (by kernel_rfl) (fun wq_ hq_ => e_load1 (ad := ⟨g5, 0 + 3, none⟩) (v := .slice A283 x4.args.length c284) Try.underlying87 rfl (by kernel_rfl) (hq_.cell (blk_cell h287 h288 3 _ rfl) (by simp))) ?_
      refine qv (d := 107) rfl rfl (by kernel_rfl) (fun wq_ hq_ => e_move (v := .int .i64 x254) (by kernel_rfl)) ?_
      obtain ⟨q292, H⟩ := chk H
      obtain ⟨b293, o294, y295, e298, _, r296, k297⟩ := Rd.get h290 (x254).toNat _ (getD_some (Tm.mk 0 0 [] []) (by omega))
      obtain ⟨v299, rfl, h300⟩ := r296
      obtain ⟨g301, rfl⟩ := node_ptr h300
      refine qv (d := 108) rfl rfl (by kernel_rfl) (fun wq_ hq_ => e_indexAddr (b := b293) (off := o294) (n := x4.args.length) (c := c284) (sz := 1) (i := x254) (k := .i64) Try.underlying87 e298 (by kernel_rfl) (by kernel_rfl) (by kernel_rfl) q272 q292) ?_
      refine qv (d := 109) rfl rfl (by kernel_rfl) (fun wq_ hq_ => e_load1 (ad := ⟨b293, o294 + (x254 : Int).toNat * 1, none⟩) (v := .pointer (some ⟨g301, 0, none⟩)) Try.underlying74 rfl (by kernel_rfl) (hq_.cell (k297 0 _ rfl) (by simp))) ?_
      obtain ⟨t302, u303, H⟩ := bnd H
      refine qcall (v := .int .i64 t302) (d := 110) rfl rfl (by kernel_rfl) (fun w_ => e_call (l := [.tmp 102, .tmp 109]) (vs := [.pointer (some ⟨g281, 0, none⟩), .pointer (some ⟨g301, 0, none⟩)]) Try.func61 (by kernel_rfl) rfl (by kernel_rfl) rfl) (fun w_ hq_ => ih k260 (by omega) w_ (FP (fw F w.heap.size) w249.heap.size []) (x1.args.getD (x254).toNat (Tm.mk 0 0 [] [])) g281 (x4.args.getD (x254).toNat (Tm.mk 0 0 [] [])) g301 (NodeR.mono (fp_sub (fun _ h_ => .inl h_) (by omega) (by simp)) _ _ (NodeR.move (fp_chg hq_ (by omega) (by simp)) _ _ h280)) (NodeR.mono (fp_sub (fun _ h_ => .inl h_) (by omega) (by simp)) _ _ (NodeR.move (fp_chg hq_ (by omega) (by simp)) _ _ h300)) t302 u303) ?_
      refine qv (d := 6) rfl rfl (by kernel_rfl) (fun wq_ hq_ => e_assign (v := .int .i64 t302) (by kernel_rfl)) ?_
      refine wpQuiet_nil ?_
      intro w304 C305
      have z306 := C305.size
      replace h3 := NodeR.move (fp_chg C305 (by omega) (by simp)) _ _ h3
      replace h6 := NodeR.move (fp_chg C305 (by omega) (by simp)) _ _ h6
      replace hC := hC.step C305 (fun _ h_ => by cases h_)
      refine then_n ?_
      refine wp_seq ?_
      refine wp_region_lit ?_
      refine lv (d := 111) rfl rfl (by kernel_rfl) (e_move (v := .int .i64 t302) (by kernel_rfl)) ?_
      refine lv (d := 112) rfl rfl (by kernel_rfl) (e_neq (k := .i64) (a := t302) (b := 0) (by kernel_rfl) rfl) ?_
      refine wpList_nil ?_
      refine then_n ?_
      by_cases q307 : t302 ≠ 0
      · replace H := ifp q307 H
        refine cond_t rfl (bt q307 (by kernel_rfl)) ?_
        refine wp_seq ?_
        refine wp_region_lit ?_
        refine lv (d := 113) rfl rfl (by kernel_rfl) (e_move (v := .int .i64 t302) (by kernel_rfl)) ?_
        refine lv (d := 4) rfl rfl (by kernel_rfl) (e_assign (v := .int .i64 t302) (by kernel_rfl)) ?_
        refine wpList_nil ?_
        refine then_n ?_
        refine wp_ret ?_
        refine inb_r ?_
        refine then_r ?_
        refine then_r ?_
        refine inb_r ?_
        refine then_r ?_
        obtain rfl := Option.some.inj H
        exact ret1 (rfl) rfl  (show _ = .int .i64 t302 from (by kernel_rfl)) ⟨rfl, hC⟩
      replace H := ifn q307 H
      refine cond_f rfl (bf q307 (by kernel_rfl)) ?_
      refine wp_skip ?_
      refine inb_n ?_
      refine then_n ?_
      refine wp_region_lit ?_
      refine lv (d := 114) rfl rfl (by kernel_rfl) (e_add (k := .i64) (a := x254) (b := 1) (by exact e255) rfl) ?_
      refine lv (d := 93) rfl rfl (by kernel_rfl) (e_move (v := .int .i64 (IntKind.i64.wrap (x254 + 1))) (by kernel_rfl)) ?_
      refine wpList_nil ?_
      refine then_n ?_
      exact ⟨k260, (by omega), _, (IntKind.i64.wrap (x254 + 1)), (by omega), rfl, (by exact e251), (by exact e252), (by exact e253), (by kernel_rfl), (NodeR.mono (fp_sub (fun _ h_ => h_) (by omega) (by simp [bk])) _ _ h3), (NodeR.mono (fp_sub (fun _ h_ => h_) (by omega) (by simp [bk])) _ _ h6), hC, (by omega), H⟩
    replace H := ifn q261 H
    refine cond_f rfl (bf q261 (by kernel_rfl)) ?_
    refine wp_exit ?_
    refine then_e ?_
    refine then_e ?_
    refine inb_hit ?_
    refine then_n ?_
    refine wp_seq ?_
    refine wp_region_lit ?_
    refine lv (d := 4) rfl rfl (by kernel_rfl) (e_assign (v := .int .i64 0) rfl) ?_
    refine wpList_nil ?_
    refine then_n ?_
    refine wp_ret ?_
    obtain rfl := Option.some.inj H
    exact ret1 (rfl) rfl  (show _ = .int .i64 0 from (by kernel_rfl)) ⟨rfl, hC⟩
theorem impl_compare.calls (k : Nat) (w : World) (F : Foot) (x1 : Tm) (g2 : Nat) (x4 : Tm) (g5 : Nat) (h3 : NodeR 125 74 w F x1 (.pointer (some ⟨g2, 0, none⟩))) (h6 : NodeR 125 74 w F x4 (.pointer (some ⟨g5, 0, none⟩))) (r : Int) (H : impl_compare.f k x1 x4 = some r) :
    Calls Try.prog 61 #[.pointer (some ⟨g2, 0, none⟩), .pointer (some ⟨g5, 0, none⟩)] w (fun e e_w => e = .returned (.int .i64 r) ∧ Chg [] w e_w) := (impl_compare.all (k + 1)) k (Nat.lt_succ_self k) w F x1 g2 x4 g5 h3 h6 r H

/-! impl.fromCells -/
mutual
def impl_fromCells.l0 : Nat → (List Cell) → (List Cell) → (List Tm) → Int → Option (Tm × (List Cell))
  | 0, _, _, _, _ => none
  | k62 + 1, x1, x44, x51, x56 => (if x56 < ((x1.getD 0 z65).n) then ((impl_fromCells.f k62 x44).bind fun t64 => (if x51.length + 1 ≤ 17592186044416 then (impl_fromCells.l0 k62 x1 t64.2 (x51 ++ [t64.1]) (IntKind.i64.wrap (x56 + 1))) else none)) else some ((Tm.mk ((x1.getD 0 z65).kind) ((x1.getD 0 z65).n) ((x1.getD 0 z65).text) x51), x44))
def impl_fromCells.f : Nat → (List Cell) → Option (Tm × (List Cell))
  | 0, _ => none
  | k1_ + 1, x1 => (if 0 < (x1.length : Int) then (if 1 ≤ (x1.length : Int) then (if ((x1.getD 0 z65).kind) = 3 then (impl_fromCells.l0 k1_ x1 (x1.drop ((1 : Int).toNat)) [] 0) else some ((Tm.mk ((x1.getD 0 z65).kind) ((x1.getD 0 z65).n) ((x1.getD 0 z65).text) []), (x1.drop ((1 : Int).toNat)))) else none) else none)
end
theorem impl_fromCells.all : ∀ (K : Nat), (∀ (k : Nat), k < K → ∀ (w : World) (F : Foot) (x1 : List Cell) (A2 : Option Addr) (c3 : Nat) (h4 : Rd st65 w F A2 x1) (l5 : x1.length ≤ c3) (r : Tm × (List Cell)) (H : impl_fromCells.f k x1 = some r), Calls Try.prog 108 #[.slice A2 x1.length c3] w (fun e e_w => ∃ (g_0 : Nat) (A_1 : Option Addr) (c_1 : Nat), e = .returned (.tuple #[.pointer (some ⟨g_0, 0, none⟩), .slice A_1 r.2.length c_1]) ∧ NodeR 125 74 e_w (FP (ge w.heap.size) e_w.heap.size []) r.1 (.pointer (some ⟨g_0, 0, none⟩)) ∧ Rd st65 e_w (fw F w.heap.size) A_1 r.2 ∧ r.2.length ≤ c_1 ∧ Chg [] w e_w)) := by
  intro K
  induction K with
  | zero => intro k hk; omega
  | succ K ih =>
    intro k hk w F x1 A2 c3 h4 l5 r H
    rcases k with _ | k1_
    · rw [impl_fromCells.f] at H
      cases H
    rw [impl_fromCells.f] at H
    refine enter (l := [.slice A2 x1.length c3]) 48 Try.func108 rfl rfl rfl ?_
    replace h4 := rd_canonF (by decide) h4
    have hC := Chg.refl [] w
    refine wp_seq ?_
    refine wp_region_lit ?_
    refine lv (d := 2) rfl rfl (by kernel_rfl) (e_assign (v := .pointer none) rfl) ?_
    refine lv (d := 3) rfl rfl (by kernel_rfl) (e_assign (v := .slice none 0 0) rfl) ?_
    refine wpList_nil ?_
    refine then_n ?_
    refine wp_seq ?_
    refine wp_region_lit ?_
    refine lv (d := 8) rfl rfl (by kernel_rfl) (e_move (v := .slice A2 x1.length c3) (by kernel_rfl)) ?_
    obtain ⟨q6, H⟩ := chk H
    obtain ⟨b7, o8, y9, e12, _, r10, k11⟩ := Rd.get h4 0 _ (getD_some z65 (by omega))
    obtain ⟨A13, c14, rfl, l15, h16⟩ := st65_open r10
    refine lv (d := 9) rfl rfl (by kernel_rfl) (e_indexAddr (b := b7) (off := o8) (n := x1.length) (c := c3) (sz := 3) (i := 0) (k := .i64) Try.underlying25 e12 (by kernel_rfl) (by kernel_rfl) rfl (by omega) q6) ?_
    refine lv (d := 10) rfl rfl (by kernel_rfl) (e_loadS (b := b7) (off := o8 + (0 : Int).toNat * 3) (cs := [.int .i64 ((x1.getD 0 z65).kind), .int .i64 ((x1.getD 0 z65).n), .slice A13 ((x1.getD 0 z65).text).length c14]) Try.underlying65 rfl (by kernel_rfl) (by kernel_rfl) k11) ?_
    refine lve (d := 4) rfl rfl (by kernel_rfl) (new_blk (v := fun g_ => .pointer (some ⟨g_, 0, none⟩)) (cs := #[.int .i64 0, .int .i64 0, .slice none 0 0]) (t := 65) (by kernel_rfl)) ?_
    rintro _ w17 ⟨g18, rfl, b19, n20, C21⟩
    have m22 := heap_lt b19
    have z23 := C21.size
    replace h4 := Rd.mono (fp_new (g := g18) (by omega)) (Rd.move (fp_chg C21 (by omega) (by simp)) h4)
    replace h16 := Rd.mono (fp_new (g := g18) (by omega)) (Rd.move (fp_chg C21 (by omega) (by simp)) h16)
    replace hC := hC.step C21 (fun _ h_ => by cases h_)
    refine lse rfl rfl (by kernel_rfl) (e_store (g := g18) (o := 0) (v := .agg #[.int .i64 ((x1.getD 0 z65).kind), .int .i64 ((x1.getD 0 z65).n), .slice A13 ((x1.getD 0 z65).text).length c14]) (cur' := #[.int .i64 ((x1.getD 0 z65).kind), .int .i64 ((x1.getD 0 z65).n), .slice A13 ((x1.getD 0 z65).text).length c14]) (vs := [.int .i64 ((x1.getD 0 z65).kind), .int .i64 ((x1.getD 0 z65).n), .slice A13 ((x1.getD 0 z65).text).length c14]) (by kernel_rfl) (by kernel_rfl) rfl (by kernel_rfl) b19 (thaw0 _) (Nat.le_of_ble_eq_true rfl) (List.forall_mem_cons.2 ⟨rfl, (List.forall_mem_cons.2 ⟨rfl, (List.forall_mem_cons.2 ⟨rfl, (fun _ h_ => by cases h_)⟩)⟩)⟩) rfl) ?_
    rintro w24 ⟨b25, C26, s27⟩
    have z28 := C26.size
    replace h4 := Rd.move (fp_chg C26 (by omega) (by simp)) h4
    replace h16 := Rd.move (fp_chg C26 (by omega) (by simp)) h16
    replace hC := hC.step C26 (fun o_ h_ => by simp only [List.mem_singleton] at h_; subst h_; exact .inr (fun b_ e_ => by injection e_ with e_; omega))
    refine wpList_nil ?_
    refine then_n ?_
    refine wp_seq ?_
    refine wp_region_lit ?_
    refine lv (d := 11) rfl rfl (by kernel_rfl) (e_move (v := .slice A2 x1.length c3) (by kernel_rfl)) ?_
    obtain ⟨q29, H⟩ := chk H
    refine lve (d := 12) rfl rfl (by kernel_rfl) (e_slice_l (d := st65) (xs := x1) (cap := c3) (A := A2) (a := 1) (k := .i64) Try.underlying25 (by kernel_rfl) (by kernel_rfl) rfl (by omega) q29 l5 h4) ?_
    rintro _ _ ⟨rfl, A30, rfl, l32, h31⟩
    refine lv (d := 0) rfl rfl (by kernel_rfl) (e_assign (v := .slice A30 (x1.drop ((1 : Int).toNat)).length (c3 - ((1 : Int).toNat))) (by kernel_rfl)) ?_
    refine wpList_nil ?_
    refine then_n ?_
    refine wp_seq ?_
    refine wp_region_lit ?_
    refine lv (d := 13) rfl rfl (by kernel_rfl) (e_fieldAddr (b := g18) (off := 0) (o := 0) Try.underlying65 rfl rfl (sz := 1) (by kernel_rfl) (by decide) (by kernel_rfl)) ?_
    refine lv (d := 14) rfl rfl (by kernel_rfl) (e_load1 (ad := ⟨g18, 0 + 0, none⟩) (v := .int .i64 ((x1.getD 0 z65).kind)) Try.underlying3 rfl (by kernel_rfl) ((cell_of_row _ _ _ _ _ _ b25).trans rfl)) ?_
    refine lv (d := 15) rfl rfl (by kernel_rfl) (e_fieldAddr (b := g18) (off := 0) (o := 1) Try.underlying65 rfl rfl (sz := 1) (by kernel_rfl) (by decide) (by kernel_rfl)) ?_
    refine lv (d := 16) rfl rfl (by kernel_rfl) (e_load1 (ad := ⟨g18, 0 + 1, none⟩) (v := .int .i64 ((x1.getD 0 z65).n)) Try.underlying3 rfl (by kernel_rfl) ((cell_of_row _ _ _ _ _ _ b25).trans rfl)) ?_
    refine lv (d := 17) rfl rfl (by kernel_rfl) (e_fieldAddr (b := g18) (off := 0) (o := 2) Try.underlying65 rfl rfl (sz := 1) (by kernel_rfl) (by decide) (by kernel_rfl)) ?_
    refine lv (d := 18) rfl rfl (by kernel_rfl) (e_load1 (ad := ⟨g18, 0 + 2, none⟩) (v := .slice A13 ((x1.getD 0 z65).text).length c14) Try.underlying59 rfl (by kernel_rfl) ((cell_of_row _ _ _ _ _ _ b25).trans rfl)) ?_
    refine lv (d := 19) rfl rfl (by kernel_rfl) (e_conv_bs (c := c14) Try.underlying59 Try.underlying5 Try.underlying9 (by kernel_rfl) h16) ?_
    refine lv (d := 20) rfl rfl (by kernel_rfl) (show _ = Result.ok (Next.value (.agg #[.int .i64 ((x1.getD 0 z65).kind), .int .i64 ((x1.getD 0 z65).n), str ((x1.getD 0 z65).text), .slice none 0 0])) w24 from by kernel_rfl) ?_
    refine lve (d := 21) rfl rfl (by kernel_rfl) (new_blk (v := fun g_ => .pointer (some ⟨g_, 0, none⟩)) (cs := #[.int .i64 ((x1.getD 0 z65).kind), .int .i64 ((x1.getD 0 z65).n), str ((x1.getD 0 z65).text), .slice none 0 0]) (t := 125) (by kernel_rfl)) ?_
    rintro _ w34 ⟨g35, rfl, b36, n37, C38⟩
    have m39 := heap_lt b36
    have z40 := C38.size
    replace h31 := Rd.mono (fp_new (g := g35) (by omega)) (Rd.move (fp_chg C38 (by omega) (by simp)) h31)
    replace b25 := C38.heap b25 (by simp)
    replace h16 := Rd.mono (fp_new (g := g35) (by omega)) (Rd.move (fp_chg C38 (by omega) (by simp)) h16)
    replace hC := hC.step C38 (fun _ h_ => by cases h_)
    refine lv (d := 5) rfl rfl (by kernel_rfl) (e_assign (v := .pointer (some ⟨g35, 0, none⟩)) (by kernel_rfl)) ?_
    refine wpList_nil ?_
    refine then_n ?_
    refine wp_seq ?_
    refine wp_seq ?_
    refine wp_region_lit ?_
    refine lv (d := 22) rfl rfl (by kernel_rfl) (e_fieldAddr (b := g18) (off := 0) (o := 0) Try.underlying65 rfl rfl (sz := 1) (by kernel_rfl) (by decide) (by kernel_rfl)) ?_
    refine lv (d := 23) rfl rfl (by kernel_rfl) (e_load1 (ad := ⟨g18, 0 + 0, none⟩) (v := .int .i64 ((x1.getD 0 z65).kind)) Try.underlying3 rfl (by kernel_rfl) ((cell_of_row _ _ _ _ _ _ b25).trans rfl)) ?_
    refine lv (d := 24) rfl rfl (by kernel_rfl) (e_eql (k := .i64) (a := (x1.getD 0 z65).kind) (b := 3) (by kernel_rfl) rfl) ?_
    refine wpList_nil ?_
    refine then_n ?_
    by_cases q41 : ((x1.getD 0 z65).kind) = 3
    · replace H := ifp q41 H
      refine cond_t rfl (bt q41 (by kernel_rfl)) ?_
      refine wp_seq ?_
      refine wp_region_lit ?_
      refine lv (d := 6) rfl rfl (by kernel_rfl) (e_assign (v := .int .i64 0) rfl) ?_
      refine wpList_nil ?_
      refine then_n ?_
      refine wp_block ?_
      refine wp_loop_g (fun k60 a61 w42 => ∃ (f43 : Nat → Value) (x44 : List Cell) (A45 : Option Addr) (c46 : Nat) (x51 : List Tm) (A52 : Option Addr) (c53 : Nat) (x56 : Int), k60 < K ∧ a61 = mk 48 f43 ∧ f43 0 = .slice A45 x44.length c46 ∧ f43 4 = .pointer (some ⟨g18, 0, none⟩) ∧ f43 5 = .pointer (some ⟨g35, 0, none⟩) ∧ f43 6 = .int .i64 x56 ∧ Rd st65 w42 (FP (fw F w.heap.size) w42.heap.size [some g35, some g18, bk A52]) A45 x44 ∧ x44.length ≤ c46 ∧ w42.heap[g18]? = some (.cells #[.int .i64 ((x1.getD 0 z65).kind), .int .i64 ((x1.getD 0 z65).n), .slice A13 ((x1.getD 0 z65).text).length c14] 65 (0, 0)) ∧ Rd tByte w42 (FP F w.heap.size [some g35, some g18, bk A52]) A13 ((x1.getD 0 z65).text) ∧ Row (node 125 74) 74 w42 (FP (ge w.heap.size) w42.heap.size [some g35, some g18]) A52 c53 x51 ∧ w42.heap[g35]? = some (.cells #[.int .i64 ((x1.getD 0 z65).kind), .int .i64 ((x1.getD 0 z65).n), str ((x1.getD 0 z65).text), .slice A52 x51.length c53] 125 (0, 0)) ∧ Chg [] w w42 ∧ w34.heap.size ≤ w42.heap.size ∧ impl_fromCells.l0 k60 x1 x44 x51 x56 = some r) k1_ ⟨_, (x1.drop ((1 : Int).toNat)), A30, (c3 - ((1 : Int).toNat)), [], none, 0, 0, (by omega), rfl, (by kernel_rfl), (by kernel_rfl), (by kernel_rfl), (by kernel_rfl), (Rd.mono (fp_sub (fun _ h_ => .inl h_) (by omega) (by simp [bk])) h31), (l32), b25, (Rd.mono (fp_sub (fun _ h_ => h_) (by omega) (by simp [bk])) h16), (Row.nil _ _ _ _), b36, hC, (by omega), H⟩ ?_
      rintro k60 a61 w42 ⟨f43, x44, A45, c46, x51, A52, c53, x56, z59, rfl, e49, e50, e55, e57, h47, l48, b25, h16, h54, b36, hC, z58, H⟩
      rcases k60 with _ | k62
      · rw [impl_fromCells.l0] at H
        cases H
      rw [impl_fromCells.l0] at H
      refine wp_seq ?_
      refine wp_seq ?_
      refine wp_region_lit ?_
      refine lv (d := 25) rfl rfl (by kernel_rfl) (e_move (v := .int .i64 x56) (by exact e57)) ?_
      refine lv (d := 26) rfl rfl (by kernel_rfl) (e_fieldAddr (b := g18) (off := 0) (o := 1) Try.underlying65 rfl rfl (sz := 1) (by kernel_rfl) (by decide) (by exact e50)) ?_
      refine lv (d := 27) rfl rfl (by kernel_rfl) (e_load1 (ad := ⟨g18, 0 + 1, none⟩) (v := .int .i64 ((x1.getD 0 z65).n)) Try.underlying3 rfl (by kernel_rfl) ((cell_of_row _ _ _ _ _ _ b25).trans rfl)) ?_
      refine lv (d := 28) rfl rfl (by kernel_rfl) (e_lss (k := .i64) (a := x56) (b := (x1.getD 0 z65).n) (by kernel_rfl) (by kernel_rfl)) ?_
      refine wpList_nil ?_
      refine then_n ?_
      by_cases q63 : x56 < ((x1.getD 0 z65).n)
      · replace H := ifp q63 H
        refine cond_t rfl (bt q63 (by kernel_rfl)) ?_
        refine wp_skip ?_
        refine then_n ?_
        refine wp_seq ?_
        refine wp_block ?_
        refine wp_seq ?_
        refine wp_region_lit ?_
        refine lv (d := 7) rfl rfl (by kernel_rfl) (e_assign (v := .pointer none) rfl) ?_
        refine wpList_nil ?_
        refine then_n ?_
        refine wp_seq ?_
        refine wp_region_lit ?_
        refine lv (d := 32) rfl rfl (by kernel_rfl) (e_move (v := .slice A45 x44.length c46) (by exact e49)) ?_
        obtain ⟨t64, u65, H⟩ := bnd H
        refine lcall (d := 33) rfl rfl (by kernel_rfl) (e_call (l := [.tmp 32]) (vs := [.slice A45 x44.length c46]) Try.func108 (by kernel_rfl) rfl (by kernel_rfl) rfl) (ih k62 (by omega) w42 (FP (fw F w.heap.size) w42.heap.size [some g35, some g18, bk A52]) x44 A45 c46 (Rd.mono (fp_sub (fun _ h_ => h_) (by omega) (by simp)) h47) l48 t64 u65) ?_
        rintro _ w72 ⟨g66, A68, c69, rfl, h67, h70, l71, C73⟩
        refine ⟨_, rfl, ?_⟩
        have u74 : Lt [some g35, some g18, bk A52] w42.heap.size := (Lt.blk b36 (Lt.blk b25 (Lt.cons (row_lt h54) (Lt.nil _))))
        have z75 := C73.size
        replace h47 := Rd.move (fp_chg C73 (by omega) (by simp)) h47
        replace b25 := C73.heap b25 (by simp)
        replace h16 := Rd.move (fp_chg C73 (by omega) (by simp)) h16
        replace b36 := C73.heap b36 (by simp)
        replace h54 := Row.move (fp_chg C73 (by omega) (by simp)) h54
        replace hC := hC.step C73 (fun _ h_ => by cases h_)
        replace h67 := NodeR.mono (fp_fresh u74) _ _ h67
        replace h70 := rd_fw (by decide) h70 (by omega) (Lt.sub u74 (by simp))
        refine lv (d := 31) rfl rfl (by kernel_rfl) (e_move (v := .tuple #[.pointer (some ⟨g66, 0, none⟩), .slice A68 t64.2.length c69]) (by kernel_rfl)) ?_
        refine lv (d := 34) rfl rfl (by kernel_rfl) (e_extract (vs := #[.pointer (some ⟨g66, 0, none⟩), .slice A68 t64.2.length c69]) (v := .pointer (some ⟨g66, 0, none⟩)) (by kernel_rfl) rfl) ?_
        refine lv (d := 35) rfl rfl (by kernel_rfl) (e_extract (vs := #[.pointer (some ⟨g66, 0, none⟩), .slice A68 t64.2.length c69]) (v := .slice A68 t64.2.length c69) (by kernel_rfl) rfl) ?_
        refine lv (d := 7) rfl rfl (by kernel_rfl) (e_assign (v := .pointer (some ⟨g66, 0, none⟩)) (by kernel_rfl)) ?_
        refine lv (d := 0) rfl rfl (by kernel_rfl) (e_assign (v := .slice A68 t64.2.length c69) (by kernel_rfl)) ?_
        refine wpList_nil ?_
        refine then_n ?_
        refine wp_region_lit ?_
        refine lv (d := 36) rfl rfl (by kernel_rfl) (e_move (v := .pointer (some ⟨g35, 0, none⟩)) (by exact e55)) ?_
        refine lv (d := 37) rfl rfl (by kernel_rfl) (e_move (v := .pointer (some ⟨g35, 0, none⟩)) (by exact e55)) ?_
        refine lv (d := 38) rfl rfl (by kernel_rfl) (e_nilCheck (ad := ⟨g35, 0, none⟩) (by kernel_rfl)) ?_
        refine lv (d := 39) rfl rfl (by kernel_rfl) (e_fieldAddr (b := g35) (off := 0) (o := 3) Try.underlying125 rfl rfl (sz := 1) (by kernel_rfl) (by decide) (by kernel_rfl)) ?_
        refine lv (d := 40) rfl rfl (by kernel_rfl) (e_load1 (ad := ⟨g35, 0 + 3, none⟩) (v := .slice A52 x51.length c53) Try.underlying87 rfl (by kernel_rfl) ((cell_of_row _ _ _ _ _ _ b36).trans rfl)) ?_
        refine lv (d := 41) rfl rfl (by kernel_rfl) (e_move (v := .pointer (some ⟨g66, 0, none⟩)) (by kernel_rfl)) ?_
        refine lve (d := 42) rfl rfl (by kernel_rfl) (new_blk (v := fun g_ => .slice (some ⟨g_, 0, none⟩) 1 1) (cs := #[.pointer (some ⟨g66, 0, none⟩)]) (t := 74) (by kernel_rfl)) ?_
        rintro _ w76 ⟨g77, rfl, b78, n79, C80⟩
        have m81 := heap_lt b78
        have u82 : Lt [some g35, some g18, bk A52] w72.heap.size := (Lt.blk b36 (Lt.blk b25 (Lt.cons (row_lt h54) (Lt.nil _))))
        have z83 := C80.size
        replace h70 := Rd.move (fp_chg C80 (by omega) (by simp)) h70
        replace b25 := C80.heap b25 (by simp)
        replace h16 := Rd.move (fp_chg C80 (by omega) (by simp)) h16
        replace b36 := C80.heap b36 (by simp)
        replace h54 := Row.move (fp_chg C80 (by omega) (by simp)) h54
        replace h67 := NodeR.move (fp_chg C80 (by omega) (by simp)) _ _ h67
        replace hC := hC.step C80 (fun _ h_ => by cases h_)
        obtain ⟨q84, H⟩ := chk H
        refine lve (d := 43) rfl rfl (by kernel_rfl) (e_append' (d := (node 125 74)) (xs := x51) (cap := c53) (A := A52) (ys := [t64.1]) (A2 := (some ⟨g77, 0, none⟩)) (c2 := 1) (F2 := (FP (ge w42.heap.size) w72.heap.size [some g35, some g18, bk A52])) (z := .pointer none) (bytes := 8) Try.underlying87 (by kernel_rfl) rfl (by decide) (by kernel_rfl) (by kernel_rfl) h54 (els_one ⟨_, rfl, h67⟩) (.inr (blk_news b78 rfl)) (fun h_ => Bool.noConfusion (show false = true from h_)) (fun g_ e_ h_ => h_.2.2 (by rw [← e_]; simp)) (show (x51.length + 1) * 8 ≤ _ by omega) (by decide)) ?_
        rintro _ w85 ⟨A86, c87, rfl, h88, C89, n90⟩
        have u91 : Lt [some g35, some g18, bk A52] w76.heap.size := (Lt.blk b36 (Lt.blk b25 (Lt.cons (row_lt h54) (Lt.nil _))))
        have z92 := C89.size
        replace h70 := Rd.mono (fp_step (N := [some g35, some g18, bk A86]) n90 (by simp) (by simp) (by omega)) (Rd.move (fp_chg C89 (by omega) (by simp)) h70)
        replace b25 := C89.heap b25 (row_ne h54 (by simp))
        replace h16 := Rd.mono (fp_step (N := [some g35, some g18, bk A86]) n90 (by simp) (by simp) (by omega)) (Rd.move (fp_chg C89 (by omega) (by simp)) h16)
        replace b36 := C89.heap b36 (row_ne h54 (by simp))
        replace hC := hC.step C89 (fun o_ h_ => by simp only [List.mem_singleton] at h_; subst h_; exact .inr (fun b_ e_ => by have q_ := (h54.own b_ e_).1.1; simp only [ge] at q_; omega))
        replace h88 := row_or3 (L := (ge w.heap.size)) (N := [some g35, some g18]) h88 (fun q_ h_ => by simp only [ge] at h_ ⊢; omega) (fun q_ h_ => by simp only [ge]; omega) (Lt.sub u91 (by simp)) (by simp) (by simp)
        refine lv (d := 44) rfl rfl (by kernel_rfl) (e_nilCheck (ad := ⟨g35, 0, none⟩) (by kernel_rfl)) ?_
        refine lv (d := 45) rfl rfl (by kernel_rfl) (e_fieldAddr (b := g35) (off := 0) (o := 3) Try.underlying125 rfl rfl (sz := 1) (by kernel_rfl) (by decide) (by kernel_rfl)) ?_
        refine lse rfl rfl (by kernel_rfl) (e_store (g := g35) (o := 0 + 3) (v := .slice A86 (x51 ++ [t64.1]).length c87) (cur' := #[.int .i64 ((x1.getD 0 z65).kind), .int .i64 ((x1.getD 0 z65).n), str ((x1.getD 0 z65).text), .slice A86 (x51 ++ [t64.1]).length c87]) (vs := [.slice A86 (x51 ++ [t64.1]).length c87]) (by kernel_rfl) (by kernel_rfl) rfl (by kernel_rfl) b36 (thaw0 _) (Nat.le_of_ble_eq_true rfl) (List.forall_mem_cons.2 ⟨rfl, (fun _ h_ => by cases h_)⟩) rfl) ?_
        rintro w93 ⟨b94, C95, s96⟩
        have z97 := C95.size
        replace h70 := Rd.move (fp_chg C95 (by omega) (by simp)) h70
        replace b25 := C95.heap b25 (by simp; omega)
        replace h16 := Rd.move (fp_chg C95 (by omega) (by simp)) h16
        replace h88 := Row.move (fp_chg C95 (by omega) (by simp)) h88
        replace hC := hC.step C95 (fun o_ h_ => by simp only [List.mem_singleton] at h_; subst h_; exact .inr (fun b_ e_ => by injection e_ with e_; omega))
        refine wpList_nil ?_
        refine inb_n ?_
        refine then_n ?_
        refine wp_region_lit ?_
        refine lv (d := 29) rfl rfl (by kernel_rfl) (e_move (v := .int .i64 x56) (by exact e57)) ?_
        refine lv (d := 30) rfl rfl (by kernel_rfl) (e_add (k := .i64) (a := x56) (b := 1) (by kernel_rfl) rfl) ?_
        refine lv (d := 6) rfl rfl (by kernel_rfl) (e_assign (v := .int .i64 (IntKind.i64.wrap (x56 + 1))) (by kernel_rfl)) ?_
        refine wpList_nil ?_
        refine then_n ?_
        exact ⟨k62, (by omega), _, t64.2, A68, c69, (x51 ++ [t64.1]), A86, c87, (IntKind.i64.wrap (x56 + 1)), (by omega), rfl, (by kernel_rfl), (by exact e50), (by exact e55), (by kernel_rfl), (Rd.mono (fp_sub (fun _ h_ => h_) (by omega) (by simp [bk])) h70), (l71), b25, (Rd.mono (fp_sub (fun _ h_ => h_) (by omega) (by simp [bk])) h16), (Row.mono (fp_sub (fun _ h_ => h_) (by omega) (by simp [bk])) h88), b94, hC, (by omega), H⟩
      replace H := ifn q63 H
      refine cond_f rfl (bf q63 (by kernel_rfl)) ?_
      refine wp_exit ?_
      refine then_e ?_
      refine then_e ?_
      refine inb_hit ?_
      refine then_n ?_
      refine wp_seq ?_
      refine wp_region_lit ?_
      refine lv (d := 46) rfl rfl (by kernel_rfl) (e_move (v := .pointer (some ⟨g35, 0, none⟩)) (by exact e55)) ?_
      refine lv (d := 47) rfl rfl (by kernel_rfl) (e_move (v := .slice A45 x44.length c46) (by exact e49)) ?_
      refine lv (d := 2) rfl rfl (by kernel_rfl) (e_assign (v := .pointer (some ⟨g35, 0, none⟩)) (by kernel_rfl)) ?_
      refine lv (d := 3) rfl rfl (by kernel_rfl) (e_assign (v := .slice A45 x44.length c46) (by kernel_rfl)) ?_
      refine wpList_nil ?_
      refine then_n ?_
      refine wp_ret ?_
      have m99 := heap_lt b36
      have h98 : NodeR 125 74 w42 (FP (ge w.heap.size) w42.heap.size [some g18]) (Tm.mk ((x1.getD 0 z65).kind) ((x1.getD 0 z65).n) ((x1.getD 0 z65).text) x51) (.pointer (some ⟨g35, 0, none⟩)) := node_mk (A := A52) (c := c53) ⟨(by simp only [ge]; omega), m99, (fun m_ => by simp at m_; omega)⟩ b36 rfl h54.le (Rd.mono (fp_sub (fun _ h_ => h_) (by omega) (by simp)) (h54.rd))
      obtain rfl := Option.some.inj H
      exact ret2 (rfl) rfl rfl (show _ = .pointer (some ⟨g35, 0, none⟩) from (by kernel_rfl)) (show _ = .slice A45 x44.length c46 from (by kernel_rfl)) ⟨g35, A45, c46, rfl, (NodeR.mono (fp_sub (fun _ h_ => h_) (by omega) (by simp)) _ _ h98), (Rd.mono (fun q_ h_ => (fun _ h_ => h_) q_ h_.1) h47), l48, hC⟩
    replace H := ifn q41 H
    refine cond_f rfl (bf q41 (by kernel_rfl)) ?_
    refine wp_skip ?_
    refine then_n ?_
    refine wp_seq ?_
    refine wp_region_lit ?_
    refine lv (d := 46) rfl rfl (by kernel_rfl) (e_move (v := .pointer (some ⟨g35, 0, none⟩)) (by kernel_rfl)) ?_
    refine lv (d := 47) rfl rfl (by kernel_rfl) (e_move (v := .slice A30 (x1.drop ((1 : Int).toNat)).length (c3 - ((1 : Int).toNat))) (by kernel_rfl)) ?_
    refine lv (d := 2) rfl rfl (by kernel_rfl) (e_assign (v := .pointer (some ⟨g35, 0, none⟩)) (by kernel_rfl)) ?_
    refine lv (d := 3) rfl rfl (by kernel_rfl) (e_assign (v := .slice A30 (x1.drop ((1 : Int).toNat)).length (c3 - ((1 : Int).toNat))) (by kernel_rfl)) ?_
    refine wpList_nil ?_
    refine then_n ?_
    refine wp_ret ?_
    have m101 := heap_lt b36
    have h100 : NodeR 125 74 w34 (FP (ge w.heap.size) w34.heap.size [some g18]) (Tm.mk ((x1.getD 0 z65).kind) ((x1.getD 0 z65).n) ((x1.getD 0 z65).text) []) (.pointer (some ⟨g35, 0, none⟩)) := node_mk (A := none) (c := 0) ⟨(by simp only [ge]; omega), m101, (fun m_ => by simp at m_; omega)⟩ b36 rfl (Nat.le_refl _) (Rd.nil _ _ _ _)
    obtain rfl := Option.some.inj H
    exact ret2 (rfl) rfl rfl (show _ = .pointer (some ⟨g35, 0, none⟩) from (by kernel_rfl)) (show _ = .slice A30 (x1.drop ((1 : Int).toNat)).length (c3 - ((1 : Int).toNat)) from (by kernel_rfl)) ⟨g35, A30, (c3 - ((1 : Int).toNat)), rfl, (NodeR.mono (fp_sub (fun _ h_ => h_) (by omega) (by simp)) _ _ h100), (Rd.mono (fun q_ h_ => (fun _ h_ => .inl h_) q_ h_.1) h31), l32, hC⟩
theorem impl_fromCells.calls (k : Nat) (w : World) (F : Foot) (x1 : List Cell) (A2 : Option Addr) (c3 : Nat) (h4 : Rd st65 w F A2 x1) (l5 : x1.length ≤ c3) (r : Tm × (List Cell)) (H : impl_fromCells.f k x1 = some r) :
    Calls Try.prog 108 #[.slice A2 x1.length c3] w (fun e e_w => ∃ (g_0 : Nat) (A_1 : Option Addr) (c_1 : Nat), e = .returned (.tuple #[.pointer (some ⟨g_0, 0, none⟩), .slice A_1 r.2.length c_1]) ∧ NodeR 125 74 e_w (FP (ge w.heap.size) e_w.heap.size []) r.1 (.pointer (some ⟨g_0, 0, none⟩)) ∧ Rd st65 e_w (fw F w.heap.size) A_1 r.2 ∧ r.2.length ≤ c_1 ∧ Chg [] w e_w) := (impl_fromCells.all (k + 1)) k (Nat.lt_succ_self k) w F x1 A2 c3 h4 l5 r H

/-! impl.tree -/
def impl_tree.f (k : Nat) (x1 : List Cell) : Option Tm := ((impl_fromCells.f k x1).bind fun t6 => some t6.1)
theorem impl_tree.calls (k : Nat) (w : World) (F : Foot) (x1 : List Cell) (A2 : Option Addr) (c3 : Nat) (h4 : Rd st65 w F A2 x1) (l5 : x1.length ≤ c3) (r : Tm) (H : impl_tree.f k x1 = some r) :
    Calls Try.prog 62 #[.slice A2 x1.length c3] w (fun e e_w => ∃ (g_0 : Nat), e = .returned (.pointer (some ⟨g_0, 0, none⟩)) ∧ NodeR 125 74 e_w (FP (ge w.heap.size) e_w.heap.size []) r (.pointer (some ⟨g_0, 0, none⟩)) ∧ Chg [] w e_w) := by
  rw [impl_tree.f] at H
  refine enter (l := [.slice A2 x1.length c3]) 11 Try.func62 rfl rfl rfl ?_
  replace h4 := rd_canonF (by decide) h4
  have hC := Chg.refl [] w
  refine wp_seq ?_
  refine wp_region_lit ?_
  refine lv (d := 2) rfl rfl (by kernel_rfl) (e_assign (v := .pointer none) rfl) ?_
  refine wpList_nil ?_
  refine then_n ?_
  refine wp_seq ?_
  refine wp_region_lit ?_
  refine lv (d := 6) rfl rfl (by kernel_rfl) (e_move (v := .slice A2 x1.length c3) (by kernel_rfl)) ?_
  obtain ⟨t6, u7, H⟩ := bnd H
  refine lcall (d := 7) rfl rfl (by kernel_rfl) (e_call (l := [.tmp 6]) (vs := [.slice A2 x1.length c3]) Try.func108 (by kernel_rfl) rfl (by kernel_rfl) rfl) (impl_fromCells.calls k w (FP (fw F w.heap.size) w.heap.size []) x1 A2 c3 (Rd.mono (fp_sub (fun _ h_ => .inl h_) (by omega) (by simp)) h4) l5 t6 u7) ?_
  rintro _ w14 ⟨g8, A10, c11, rfl, h9, h12, l13, C15⟩
  refine ⟨_, rfl, ?_⟩
  have u16 : Lt [] w.heap.size := (Lt.nil _)
  have z17 := C15.size
  replace hC := hC.step C15 (fun _ h_ => by cases h_)
  replace h12 := rd_fw (by decide) h12 (by omega) (Lt.sub u16 (by simp))
  refine lv (d := 5) rfl rfl (by kernel_rfl) (e_move (v := .tuple #[.pointer (some ⟨g8, 0, none⟩), .slice A10 t6.2.length c11]) (by kernel_rfl)) ?_
  refine lv (d := 8) rfl rfl (by kernel_rfl) (e_extract (vs := #[.pointer (some ⟨g8, 0, none⟩), .slice A10 t6.2.length c11]) (v := .pointer (some ⟨g8, 0, none⟩)) (by kernel_rfl) rfl) ?_
  refine lv (d := 9) rfl rfl (by kernel_rfl) (e_extract (vs := #[.pointer (some ⟨g8, 0, none⟩), .slice A10 t6.2.length c11]) (v := .slice A10 t6.2.length c11) (by kernel_rfl) rfl) ?_
  refine lv (d := 3) rfl rfl (by kernel_rfl) (e_assign (v := .pointer (some ⟨g8, 0, none⟩)) (by kernel_rfl)) ?_
  refine lv (d := 4) rfl rfl (by kernel_rfl) (e_assign (v := .slice A10 t6.2.length c11) (by kernel_rfl)) ?_
  refine wpList_nil ?_
  refine then_n ?_
  refine wp_seq ?_
  refine wp_region_lit ?_
  refine lv (d := 10) rfl rfl (by kernel_rfl) (e_move (v := .pointer (some ⟨g8, 0, none⟩)) (by kernel_rfl)) ?_
  refine lv (d := 2) rfl rfl (by kernel_rfl) (e_assign (v := .pointer (some ⟨g8, 0, none⟩)) (by kernel_rfl)) ?_
  refine wpList_nil ?_
  refine then_n ?_
  refine wp_ret ?_
  obtain rfl := Option.some.inj H
  exact ret1 (rfl) rfl  (show _ = .pointer (some ⟨g8, 0, none⟩) from (by kernel_rfl)) ⟨g8, rfl, (NodeR.mono (fp_sub (fun _ h_ => h_) (by omega) (by simp)) _ _ h9), hC⟩

/-! impl.CompareTerms -/
def impl_CompareTerms.f (k : Nat) (x1 : List Cell) (x6 : List Cell) : Option (Int × Int) := ((impl_ValidTerm.f k x1).bind fun t11 => (if ¬ (t11 = true) then some (0, 1) else ((impl_ValidTerm.f k x6).bind fun t18 => (if ¬ (t18 = true) then some (0, 1) else ((impl_tree.f k x1).bind fun t25 => ((impl_tree.f k x6).bind fun t33 => ((impl_compare.f k t25 t33).bind fun t41 => some (t41, 0))))))))
theorem impl_CompareTerms.calls (k : Nat) (w : World) (F : Foot) (x1 : List Cell) (A2 : Option Addr) (c3 : Nat) (x6 : List Cell) (A7 : Option Addr) (c8 : Nat) (h4 : Rd st65 w F A2 x1) (l5 : x1.length ≤ c3) (h9 : Rd st65 w F A7 x6) (l10 : x6.length ≤ c8) (r : Int × Int) (H : impl_CompareTerms.f k x1 x6 = some r) :
    Calls Try.prog 20 #[.slice A2 x1.length c3, .slice A7 x6.length c8] w (fun e e_w => e = .returned (.tuple #[.int .i64 r.1, .int .i64 r.2]) ∧ Chg [] w e_w) := by
  rw [impl_CompareTerms.f] at H
  refine enter (l := [.slice A2 x1.length c3, .slice A7 x6.length c8]) 19 Try.func20 rfl rfl rfl ?_
  replace h4 := rd_canonF (by decide) h4
  replace h9 := rd_canonF (by decide) h9
  have hC := Chg.refl [] w
  refine wp_seq ?_
  refine wp_region_lit ?_
  refine lv (d := 4) rfl rfl (by kernel_rfl) (e_assign (v := .int .i64 0) rfl) ?_
  refine lv (d := 5) rfl rfl (by kernel_rfl) (e_assign (v := .int .i64 0) rfl) ?_
  refine wpList_nil ?_
  refine then_n ?_
  refine wp_seq ?_
  refine wp_seq ?_
  refine wp_region_lit ?_
  refine lv (d := 6) rfl rfl (by kernel_rfl) (e_move (v := .slice A2 x1.length c3) (by kernel_rfl)) ?_
  obtain ⟨t11, u12, H⟩ := bnd H
  refine lcall (d := 7) rfl rfl (by kernel_rfl) (e_call (l := [.tmp 6]) (vs := [.slice A2 x1.length c3]) Try.func17 (by kernel_rfl) rfl (by kernel_rfl) rfl) (impl_ValidTerm.calls k w (FP (fw F w.heap.size) w.heap.size []) x1 A2 c3 (Rd.mono (fp_sub (fun _ h_ => .inl h_) (by omega) (by simp)) h4) l5 t11 u12) ?_
  rintro _ w13 ⟨rfl, C14⟩
  refine ⟨_, rfl, ?_⟩
  have u15 : Lt [] w.heap.size := (Lt.nil _)
  have z16 := C14.size
  replace h4 := Rd.move (fp_chg C14 (by omega) (by simp)) h4
  replace h9 := Rd.move (fp_chg C14 (by omega) (by simp)) h9
  replace hC := hC.step C14 (fun _ h_ => by cases h_)
  refine lv (d := 8) rfl rfl (by kernel_rfl) (e_notv (c := t11) (by kernel_rfl)) ?_
  refine lv (d := 9) rfl rfl (by kernel_rfl) (e_move (v := .bool (decide (¬ (t11 = true)))) (by kernel_rfl)) ?_
  by_cases q17 : ¬ (t11 = true)
  · replace H := ifp q17 H
    refine lskip (t := 9) (c := true) rfl (by kernel_rfl) rfl (bt q17 (by kernel_rfl)) rfl rfl ?_
    refine lskip (t := 9) (c := true) rfl (by kernel_rfl) rfl (bt q17 (by kernel_rfl)) rfl rfl ?_
    refine lskip (t := 9) (c := true) rfl (by kernel_rfl) rfl (bt q17 (by kernel_rfl)) rfl rfl ?_
    refine lv (d := 13) rfl rfl (by kernel_rfl) (e_pick_t (v := .bool true) (bt q17 (by kernel_rfl)) rfl) ?_
    refine wpList_nil ?_
    refine then_n ?_
    refine cond_t rfl (by kernel_rfl) ?_
    refine wp_seq ?_
    refine wp_region_lit ?_
    refine lv (d := 4) rfl rfl (by kernel_rfl) (e_assign (v := .int .i64 0) rfl) ?_
    refine lv (d := 5) rfl rfl (by kernel_rfl) (e_assign (v := .int .i64 1) rfl) ?_
    refine wpList_nil ?_
    refine then_n ?_
    refine wp_ret ?_
    refine then_r ?_
    obtain rfl := Option.some.inj H
    exact ret2 (rfl) rfl rfl (show _ = .int .i64 0 from (by kernel_rfl)) (show _ = .int .i64 1 from (by kernel_rfl)) ⟨rfl, hC⟩
  replace H := ifn q17 H
  refine lvg (d := 10) (t := 9) rfl (by kernel_rfl) rfl (bf q17 (by kernel_rfl)) rfl (by kernel_rfl) (e_move (v := .slice A7 x6.length c8) (by kernel_rfl)) ?_
  obtain ⟨t18, u19, H⟩ := bnd H
  refine lcallg (d := 11) (t := 9) rfl (by kernel_rfl) rfl (bf q17 (by kernel_rfl)) rfl (by kernel_rfl) (e_call (l := [.tmp 10]) (vs := [.slice A7 x6.length c8]) Try.func17 (by kernel_rfl) rfl (by kernel_rfl) rfl) (impl_ValidTerm.calls k w13 (FP (fw F w.heap.size) w13.heap.size []) x6 A7 c8 (Rd.mono (fp_sub (fun _ h_ => .inl h_) (by omega) (by simp)) h9) l10 t18 u19) ?_
  rintro _ w20 ⟨rfl, C21⟩
  refine ⟨_, rfl, ?_⟩
  have u22 : Lt [] w13.heap.size := (Lt.nil _)
  have z23 := C21.size
  replace h4 := Rd.move (fp_chg C21 (by omega) (by simp)) h4
  replace h9 := Rd.move (fp_chg C21 (by omega) (by simp)) h9
  replace hC := hC.step C21 (fun _ h_ => by cases h_)
  refine lvg (d := 12) (t := 9) rfl (by kernel_rfl) rfl (bf q17 (by kernel_rfl)) rfl (by kernel_rfl) (e_notv (c := t18) (by kernel_rfl)) ?_
  refine lv (d := 13) rfl rfl (by kernel_rfl) (e_pick_f (v := .bool (decide (¬ (t18 = true)))) (bf q17 (by kernel_rfl)) (by kernel_rfl)) ?_
  refine wpList_nil ?_
  refine then_n ?_
  by_cases q24 : ¬ (t18 = true)
  · replace H := ifp q24 H
    refine cond_t rfl (bt q24 (by kernel_rfl)) ?_
    refine wp_seq ?_
    refine wp_region_lit ?_
    refine lv (d := 4) rfl rfl (by kernel_rfl) (e_assign (v := .int .i64 0) rfl) ?_
    refine lv (d := 5) rfl rfl (by kernel_rfl) (e_assign (v := .int .i64 1) rfl) ?_
    refine wpList_nil ?_
    refine then_n ?_
    refine wp_ret ?_
    refine then_r ?_
    obtain rfl := Option.some.inj H
    exact ret2 (rfl) rfl rfl (show _ = .int .i64 0 from (by kernel_rfl)) (show _ = .int .i64 1 from (by kernel_rfl)) ⟨rfl, hC⟩
  replace H := ifn q24 H
  refine cond_f rfl (bf q24 (by kernel_rfl)) ?_
  refine wp_skip ?_
  refine then_n ?_
  refine wp_seq ?_
  refine wp_region_lit ?_
  refine lv (d := 14) rfl rfl (by kernel_rfl) (e_move (v := .slice A2 x1.length c3) (by kernel_rfl)) ?_
  obtain ⟨t25, u26, H⟩ := bnd H
  refine lcall (d := 15) rfl rfl (by kernel_rfl) (e_call (l := [.tmp 14]) (vs := [.slice A2 x1.length c3]) Try.func62 (by kernel_rfl) rfl (by kernel_rfl) rfl) (impl_tree.calls k w20 (FP (fw F w.heap.size) w20.heap.size []) x1 A2 c3 (Rd.mono (fp_sub (fun _ h_ => .inl h_) (by omega) (by simp)) h4) l5 t25 u26) ?_
  rintro _ w29 ⟨g27, rfl, h28, C30⟩
  refine ⟨_, rfl, ?_⟩
  have u31 : Lt [] w20.heap.size := (Lt.nil _)
  have z32 := C30.size
  replace h9 := Rd.move (fp_chg C30 (by omega) (by simp)) h9
  replace hC := hC.step C30 (fun _ h_ => by cases h_)
  refine lv (d := 16) rfl rfl (by kernel_rfl) (e_move (v := .slice A7 x6.length c8) (by kernel_rfl)) ?_
  obtain ⟨t33, u34, H⟩ := bnd H
  refine lcall (d := 17) rfl rfl (by kernel_rfl) (e_call (l := [.tmp 16]) (vs := [.slice A7 x6.length c8]) Try.func62 (by kernel_rfl) rfl (by kernel_rfl) rfl) (impl_tree.calls k w29 (FP (fw F w.heap.size) w29.heap.size []) x6 A7 c8 (Rd.mono (fp_sub (fun _ h_ => .inl h_) (by omega) (by simp)) h9) l10 t33 u34) ?_
  rintro _ w37 ⟨g35, rfl, h36, C38⟩
  refine ⟨_, rfl, ?_⟩
  have u39 : Lt [] w29.heap.size := (Lt.nil _)
  have z40 := C38.size
  replace h28 := NodeR.move (fp_chg C38 (by omega) (by simp)) _ _ h28
  replace hC := hC.step C38 (fun _ h_ => by cases h_)
  obtain ⟨t41, u42, H⟩ := bnd H
  refine lcall (d := 18) rfl rfl (by kernel_rfl) (e_call (l := [.tmp 15, .tmp 17]) (vs := [.pointer (some ⟨g27, 0, none⟩), .pointer (some ⟨g35, 0, none⟩)]) Try.func61 (by kernel_rfl) rfl (by kernel_rfl) rfl) (impl_compare.calls k w37 (FP (fw F w.heap.size) w37.heap.size []) t25 g27 t33 g35 (NodeR.mono (fp_sub (fun q_ h_ => .inr (by simp only [ge] at h_; omega)) (by omega) (by simp)) _ _ h28) (NodeR.mono (fp_sub (fun q_ h_ => .inr (by simp only [ge] at h_; omega)) (by omega) (by simp)) _ _ h36) t41 u42) ?_
  rintro _ w43 ⟨rfl, C44⟩
  refine ⟨_, rfl, ?_⟩
  have u45 : Lt [] w37.heap.size := (Lt.nil _)
  have z46 := C44.size
  replace hC := hC.step C44 (fun _ h_ => by cases h_)
  refine lv (d := 4) rfl rfl (by kernel_rfl) (e_assign (v := .int .i64 t41) (by kernel_rfl)) ?_
  refine lv (d := 5) rfl rfl (by kernel_rfl) (e_assign (v := .int .i64 0) rfl) ?_
  refine wpList_nil ?_
  refine then_n ?_
  refine wp_ret ?_
  obtain rfl := Option.some.inj H
  exact ret2 (rfl) rfl rfl (show _ = .int .i64 t41 from (by kernel_rfl)) (show _ = .int .i64 0 from (by kernel_rfl)) ⟨rfl, hC⟩

/-! laws.FnExactCompareTerms -/
def laws_FnExactCompareTerms.f (k : Nat) (x1 : List Cell) (x6 : List Cell) : Option Bool := ((laws_szCellS.f k x1 1048576).bind fun t11 => (if t11 < 0 then some true else ((laws_szCellS.f k x6 t11).bind fun t18 => (if t18 < 0 then some true else ((laws_toCellS.f k x1).bind fun t25 => ((laws_toCellS.f k x6).bind fun t34 => ((spec_CompareTerms.f k t25 t34).bind fun t43 => ((laws_toCellS.f k x1).bind fun t49 => ((laws_toCellS.f k x6).bind fun t58 => ((impl_CompareTerms.f k t49 t58).bind fun t67 => (if t67.1 ≠ t43.1 then some false else (if t67.2 ≠ t43.2 then some false else ((laws_toCellS.f k x1).bind fun t75 => ((laws_eqCellS.f k t49 t75).bind fun t84 => (if ¬ (t84 = true) then some false else ((laws_toCellS.f k x6).bind fun t91 => ((laws_eqCellS.f k t58 t91).bind fun t100 => (if ¬ (t100 = true) then some false else some true))))))))))))))))))
theorem laws_FnExactCompareTerms.calls (k : Nat) (w : World) (F : Foot) (x1 : List Cell) (A2 : Option Addr) (c3 : Nat) (x6 : List Cell) (A7 : Option Addr) (c8 : Nat) (h4 : Rd st68 w F A2 x1) (l5 : x1.length ≤ c3) (h9 : Rd st68 w F A7 x6) (l10 : x6.length ≤ c8) (r : Bool) (H : laws_FnExactCompareTerms.f k x1 x6 = some r) :
    Calls Try.prog 4 #[.slice A2 x1.length c3, .slice A7 x6.length c8] w (fun e e_w => e = .returned (.bool r) ∧ Chg [] w e_w) := by
  rw [laws_FnExactCompareTerms.f] at H
  refine enter (l := [.slice A2 x1.length c3, .slice A7 x6.length c8]) 58 Try.func4 rfl rfl rfl ?_
  replace h4 := rd_canonF (by decide) h4
  replace h9 := rd_canonF (by decide) h9
  have hC := Chg.refl [] w
  refine wp_seq ?_
  refine wp_region_lit ?_
  refine lv (d := 4) rfl rfl (by kernel_rfl) (e_assign (v := .bool false) rfl) ?_
  refine wpList_nil ?_
  refine then_n ?_
  refine wp_seq ?_
  refine wp_region_lit ?_
  refine lv (d := 5) rfl rfl (by kernel_rfl) (e_assign (v := .int .i64 1048576) rfl) ?_
  refine wpList_nil ?_
  refine then_n ?_
  refine wp_seq ?_
  refine wp_region_lit ?_
  refine lv (d := 12) rfl rfl (by kernel_rfl) (e_move (v := .slice A2 x1.length c3) (by kernel_rfl)) ?_
  refine lv (d := 13) rfl rfl (by kernel_rfl) (e_move (v := .int .i64 1048576) (by kernel_rfl)) ?_
  obtain ⟨t11, u12, H⟩ := bnd H
  refine lcall (d := 14) rfl rfl (by kernel_rfl) (e_call (l := [.tmp 12, .tmp 13]) (vs := [.slice A2 x1.length c3, .int .i64 1048576]) Try.func14 (by kernel_rfl) rfl (by kernel_rfl) rfl) (laws_szCellS.calls k w (FP (fw F w.heap.size) w.heap.size []) x1 A2 c3 1048576 (Rd.mono (fp_sub (fun _ h_ => .inl h_) (by omega) (by simp)) h4) l5 t11 u12) ?_
  rintro _ w13 ⟨rfl, C14⟩
  refine ⟨_, rfl, ?_⟩
  have u15 : Lt [] w.heap.size := (Lt.nil _)
  have z16 := C14.size
  replace h4 := Rd.move (fp_chg C14 (by omega) (by simp)) h4
  replace h9 := Rd.move (fp_chg C14 (by omega) (by simp)) h9
  replace hC := hC.step C14 (fun _ h_ => by cases h_)
  refine lv (d := 5) rfl rfl (by kernel_rfl) (e_assign (v := .int .i64 t11) (by kernel_rfl)) ?_
  refine wpList_nil ?_
  refine then_n ?_
  refine wp_seq ?_
  refine wp_seq ?_
  refine wp_region_lit ?_
  refine lv (d := 15) rfl rfl (by kernel_rfl) (e_move (v := .int .i64 t11) (by kernel_rfl)) ?_
  refine lv (d := 16) rfl rfl (by kernel_rfl) (e_lss (k := .i64) (a := t11) (b := 0) (by kernel_rfl) rfl) ?_
  refine wpList_nil ?_
  refine then_n ?_
  by_cases q17 : t11 < 0
  · replace H := ifp q17 H
    refine cond_t rfl (bt q17 (by kernel_rfl)) ?_
    refine wp_seq ?_
    refine wp_region_lit ?_
    refine lv (d := 4) rfl rfl (by kernel_rfl) (e_assign (v := .bool true) rfl) ?_
    refine wpList_nil ?_
    refine then_n ?_
    refine wp_ret ?_
    refine then_r ?_
    obtain rfl := Option.some.inj H
    exact ret1 (rfl) rfl  (show _ = .bool true from (by kernel_rfl)) ⟨rfl, hC⟩
  replace H := ifn q17 H
  refine cond_f rfl (bf q17 (by kernel_rfl)) ?_
  refine wp_skip ?_
  refine then_n ?_
  refine wp_seq ?_
  refine wp_region_lit ?_
  refine lv (d := 17) rfl rfl (by kernel_rfl) (e_move (v := .slice A7 x6.length c8) (by kernel_rfl)) ?_
  refine lv (d := 18) rfl rfl (by kernel_rfl) (e_move (v := .int .i64 t11) (by kernel_rfl)) ?_
  obtain ⟨t18, u19, H⟩ := bnd H
  refine lcall (d := 19) rfl rfl (by kernel_rfl) (e_call (l := [.tmp 17, .tmp 18]) (vs := [.slice A7 x6.length c8, .int .i64 t11]) Try.func14 (by kernel_rfl) rfl (by kernel_rfl) rfl) (laws_szCellS.calls k w13 (FP (fw F w.heap.size) w13.heap.size []) x6 A7 c8 t11 (Rd.mono (fp_sub (fun _ h_ => .inl h_) (by omega) (by simp)) h9) l10 t18 u19) ?_
  rintro _ w20 ⟨rfl, C21⟩
  refine ⟨_, rfl, ?_⟩
  have u22 : Lt [] w13.heap.size := (Lt.nil _)
  have z23 := C21.size
  replace h4 := Rd.move (fp_chg C21 (by omega) (by simp)) h4
  replace h9 := Rd.move (fp_chg C21 (by omega) (by simp)) h9
  replace hC := hC.step C21 (fun _ h_ => by cases h_)
  refine lv (d := 5) rfl rfl (by kernel_rfl) (e_assign (v := .int .i64 t18) (by kernel_rfl)) ?_
  refine wpList_nil ?_
  refine then_n ?_
  refine wp_seq ?_
  refine wp_seq ?_
  refine wp_region_lit ?_
  refine lv (d := 20) rfl rfl (by kernel_rfl) (e_move (v := .int .i64 t18) (by kernel_rfl)) ?_
  refine lv (d := 21) rfl rfl (by kernel_rfl) (e_lss (k := .i64) (a := t18) (b := 0) (by kernel_rfl) rfl) ?_
  refine wpList_nil ?_
  refine then_n ?_
  by_cases q24 : t18 < 0
  · replace H := ifp q24 H
    refine cond_t rfl (bt q24 (by kernel_rfl)) ?_
    refine wp_seq ?_
    refine wp_region_lit ?_
    refine lv (d := 4) rfl rfl (by kernel_rfl) (e_assign (v := .bool true) rfl) ?_
    refine wpList_nil ?_
    refine then_n ?_
    refine wp_ret ?_
    refine then_r ?_
    obtain rfl := Option.some.inj H
    exact ret1 (rfl) rfl  (show _ = .bool true from (by kernel_rfl)) ⟨rfl, hC⟩
  replace H := ifn q24 H
  refine cond_f rfl (bf q24 (by kernel_rfl)) ?_
  refine wp_skip ?_
  refine then_n ?_
  refine wp_seq ?_
  refine wp_region_lit ?_
  refine lv (d := 23) rfl rfl (by kernel_rfl) (e_move (v := .slice A2 x1.length c3) (by kernel_rfl)) ?_
  obtain ⟨t25, u26, H⟩ := bnd H
  refine lcall (d := 24) rfl rfl (by kernel_rfl) (e_call (l := [.tmp 23]) (vs := [.slice A2 x1.length c3]) Try.func16 (by kernel_rfl) rfl (by kernel_rfl) rfl) (laws_toCellS.calls k w20 (FP (fw F w.heap.size) w20.heap.size []) x1 A2 c3 (Rd.mono (fp_sub (fun _ h_ => .inl h_) (by omega) (by simp)) h4) l5 t25 u26) ?_
  rintro _ w30 ⟨A27, c28, rfl, h29, C31⟩
  refine ⟨_, rfl, ?_⟩
  have u32 : Lt [] w20.heap.size := (Lt.nil _)
  have z33 := C31.size
  replace h4 := Rd.move (fp_chg C31 (by omega) (by simp)) h4
  replace h9 := Rd.move (fp_chg C31 (by omega) (by simp)) h9
  replace hC := hC.step C31 (fun _ h_ => by cases h_)
  refine lv (d := 25) rfl rfl (by kernel_rfl) (e_move (v := .slice A7 x6.length c8) (by kernel_rfl)) ?_
  obtain ⟨t34, u35, H⟩ := bnd H
  refine lcall (d := 26) rfl rfl (by kernel_rfl) (e_call (l := [.tmp 25]) (vs := [.slice A7 x6.length c8]) Try.func16 (by kernel_rfl) rfl (by kernel_rfl) rfl) (laws_toCellS.calls k w30 (FP (fw F w.heap.size) w30.heap.size []) x6 A7 c8 (Rd.mono (fp_sub (fun _ h_ => .inl h_) (by omega) (by simp)) h9) l10 t34 u35) ?_
  rintro _ w39 ⟨A36, c37, rfl, h38, C40⟩
  refine ⟨_, rfl, ?_⟩
  have u41 : Lt [] w30.heap.size := (Lt.nil _)
  have z42 := C40.size
  replace h4 := Rd.move (fp_chg C40 (by omega) (by simp)) h4
  replace h9 := Rd.move (fp_chg C40 (by omega) (by simp)) h9
  replace h29 := Row.move (fp_chg C40 (by omega) (by simp)) h29
  replace hC := hC.step C40 (fun _ h_ => by cases h_)
  obtain ⟨t43, u44, H⟩ := bnd H
  refine lcall (d := 27) rfl rfl (by kernel_rfl) (e_call (l := [.tmp 24, .tmp 26]) (vs := [.slice A27 t25.length c28, .slice A36 t34.length c37]) Try.func19 (by kernel_rfl) rfl (by kernel_rfl) rfl) (spec_CompareTerms.calls k w39 (FP (fw F w.heap.size) w39.heap.size []) t25 A27 c28 t34 A36 c37 (Rd.mono (fp_sub (fun q_ h_ => .inr (by simp only [ge] at h_; omega)) (by omega) (by simp)) (h29.rd)) h29.le (Rd.mono (fp_sub (fun q_ h_ => .inr (by simp only [ge] at h_; omega)) (by omega) (by simp)) (h38.rd)) h38.le t43 u44) ?_
  rintro _ w45 ⟨rfl, C46⟩
  refine ⟨_, rfl, ?_⟩
  have u47 : Lt [] w39.heap.size := (Lt.nil _)
  have z48 := C46.size
  replace h4 := Rd.move (fp_chg C46 (by omega) (by simp)) h4
  replace h9 := Rd.move (fp_chg C46 (by omega) (by simp)) h9
  replace hC := hC.step C46 (fun _ h_ => by cases h_)
  refine lv (d := 22) rfl rfl (by kernel_rfl) (e_move (v := .tuple #[.int .i64 t43.1, .int .i64 t43.2]) (by kernel_rfl)) ?_
  refine lv (d := 28) rfl rfl (by kernel_rfl) (e_extract (vs := #[.int .i64 t43.1, .int .i64 t43.2]) (v := .int .i64 t43.1) (by kernel_rfl) rfl) ?_
  refine lv (d := 29) rfl rfl (by kernel_rfl) (e_extract (vs := #[.int .i64 t43.1, .int .i64 t43.2]) (v := .int .i64 t43.2) (by kernel_rfl) rfl) ?_
  refine lv (d := 6) rfl rfl (by kernel_rfl) (e_assign (v := .int .i64 t43.1) (by kernel_rfl)) ?_
  refine lv (d := 7) rfl rfl (by kernel_rfl) (e_assign (v := .int .i64 t43.2) (by kernel_rfl)) ?_
  refine wpList_nil ?_
  refine then_n ?_
  refine wp_seq ?_
  refine wp_region_lit ?_
  refine lv (d := 30) rfl rfl (by kernel_rfl) (e_move (v := .slice A2 x1.length c3) (by kernel_rfl)) ?_
  obtain ⟨t49, u50, H⟩ := bnd H
  refine lcall (d := 31) rfl rfl (by kernel_rfl) (e_call (l := [.tmp 30]) (vs := [.slice A2 x1.length c3]) Try.func16 (by kernel_rfl) rfl (by kernel_rfl) rfl) (laws_toCellS.calls k w45 (FP (fw F w.heap.size) w45.heap.size []) x1 A2 c3 (Rd.mono (fp_sub (fun _ h_ => .inl h_) (by omega) (by simp)) h4) l5 t49 u50) ?_
  rintro _ w54 ⟨A51, c52, rfl, h53, C55⟩
  refine ⟨_, rfl, ?_⟩
  have u56 : Lt [] w45.heap.size := (Lt.nil _)
  have z57 := C55.size
  replace h4 := Rd.move (fp_chg C55 (by omega) (by simp)) h4
  replace h9 := Rd.move (fp_chg C55 (by omega) (by simp)) h9
  replace hC := hC.step C55 (fun _ h_ => by cases h_)
  refine lv (d := 8) rfl rfl (by kernel_rfl) (e_assign (v := .slice A51 t49.length c52) (by kernel_rfl)) ?_
  refine wpList_nil ?_
  refine then_n ?_
  refine wp_seq ?_
  refine wp_region_lit ?_
  refine lv (d := 32) rfl rfl (by kernel_rfl) (e_move (v := .slice A7 x6.length c8) (by kernel_rfl)) ?_
  obtain ⟨t58, u59, H⟩ := bnd H
  refine lcall (d := 33) rfl rfl (by kernel_rfl) (e_call (l := [.tmp 32]) (vs := [.slice A7 x6.length c8]) Try.func16 (by kernel_rfl) rfl (by kernel_rfl) rfl) (laws_toCellS.calls k w54 (FP (fw F w.heap.size) w54.heap.size []) x6 A7 c8 (Rd.mono (fp_sub (fun _ h_ => .inl h_) (by omega) (by simp)) h9) l10 t58 u59) ?_
  rintro _ w63 ⟨A60, c61, rfl, h62, C64⟩
  refine ⟨_, rfl, ?_⟩
  have u65 : Lt [] w54.heap.size := (Lt.nil _)
  have z66 := C64.size
  replace h4 := Rd.move (fp_chg C64 (by omega) (by simp)) h4
  replace h9 := Rd.move (fp_chg C64 (by omega) (by simp)) h9
  replace h53 := Row.move (fp_chg C64 (by omega) (by simp)) h53
  replace hC := hC.step C64 (fun _ h_ => by cases h_)
  refine lv (d := 9) rfl rfl (by kernel_rfl) (e_assign (v := .slice A60 t58.length c61) (by kernel_rfl)) ?_
  refine wpList_nil ?_
  refine then_n ?_
  refine wp_seq ?_
  refine wp_region_lit ?_
  refine lv (d := 35) rfl rfl (by kernel_rfl) (e_move (v := .slice A51 t49.length c52) (by kernel_rfl)) ?_
  refine lv (d := 36) rfl rfl (by kernel_rfl) (e_move (v := .slice A60 t58.length c61) (by kernel_rfl)) ?_
  obtain ⟨t67, u68, H⟩ := bnd H
  refine lcall (d := 37) rfl rfl (by kernel_rfl) (e_call (l := [.tmp 35, .tmp 36]) (vs := [.slice A51 t49.length c52, .slice A60 t58.length c61]) Try.func20 (by kernel_rfl) rfl (by kernel_rfl) rfl) (impl_CompareTerms.calls k w63 (FP (fw F w.heap.size) w63.heap.size []) t49 A51 c52 t58 A60 c61 (Rd.mono (fp_sub (fun q_ h_ => .inr (by simp only [ge] at h_; omega)) (by omega) (by simp)) (h53.rd)) h53.le (Rd.mono (fp_sub (fun q_ h_ => .inr (by simp only [ge] at h_; omega)) (by omega) (by simp)) (h62.rd)) h62.le t67 u68) ?_
  rintro _ w69 ⟨rfl, C70⟩
  refine ⟨_, rfl, ?_⟩
  have u71 : Lt [] w63.heap.size := (Lt.nil _)
  have z72 := C70.size
  replace h4 := Rd.move (fp_chg C70 (by omega) (by simp)) h4
  replace h9 := Rd.move (fp_chg C70 (by omega) (by simp)) h9
  replace h53 := Row.move (fp_chg C70 (by omega) (by simp)) h53
  replace h62 := Row.move (fp_chg C70 (by omega) (by simp)) h62
  replace hC := hC.step C70 (fun _ h_ => by cases h_)
  refine lv (d := 34) rfl rfl (by kernel_rfl) (e_move (v := .tuple #[.int .i64 t67.1, .int .i64 t67.2]) (by kernel_rfl)) ?_
  refine lv (d := 38) rfl rfl (by kernel_rfl) (e_extract (vs := #[.int .i64 t67.1, .int .i64 t67.2]) (v := .int .i64 t67.1) (by kernel_rfl) rfl) ?_
  refine lv (d := 39) rfl rfl (by kernel_rfl) (e_extract (vs := #[.int .i64 t67.1, .int .i64 t67.2]) (v := .int .i64 t67.2) (by kernel_rfl) rfl) ?_
  refine lv (d := 10) rfl rfl (by kernel_rfl) (e_assign (v := .int .i64 t67.1) (by kernel_rfl)) ?_
  refine lv (d := 11) rfl rfl (by kernel_rfl) (e_assign (v := .int .i64 t67.2) (by kernel_rfl)) ?_
  refine wpList_nil ?_
  refine then_n ?_
  refine wp_seq ?_
  refine wp_seq ?_
  refine wp_region_lit ?_
  refine lv (d := 40) rfl rfl (by kernel_rfl) (e_move (v := .int .i64 t67.1) (by kernel_rfl)) ?_
  refine lv (d := 41) rfl rfl (by kernel_rfl) (e_move (v := .int .i64 t43.1) (by kernel_rfl)) ?_
  refine lv (d := 42) rfl rfl (by kernel_rfl) (e_neq (k := .i64) (a := t67.1) (b := t43.1) (by kernel_rfl) (by kernel_rfl)) ?_
  refine lv (d := 43) rfl rfl (by kernel_rfl) (e_move (v := .bool (decide (t67.1 ≠ t43.1))) (by kernel_rfl)) ?_
  by_cases q73 : t67.1 ≠ t43.1
  · replace H := ifp q73 H
    refine lskip (t := 43) (c := true) rfl (by kernel_rfl) rfl (bt q73 (by kernel_rfl)) rfl rfl ?_
    refine lskip (t := 43) (c := true) rfl (by kernel_rfl) rfl (bt q73 (by kernel_rfl)) rfl rfl ?_
    refine lskip (t := 43) (c := true) rfl (by kernel_rfl) rfl (bt q73 (by kernel_rfl)) rfl rfl ?_
    refine lv (d := 47) rfl rfl (by kernel_rfl) (e_pick_t (v := .bool true) (bt q73 (by kernel_rfl)) rfl) ?_
    refine wpList_nil ?_
    refine then_n ?_
    refine cond_t rfl (by kernel_rfl) ?_
    refine wp_seq ?_
    refine wp_region_lit ?_
    refine lv (d := 4) rfl rfl (by kernel_rfl) (e_assign (v := .bool false) rfl) ?_
    refine wpList_nil ?_
    refine then_n ?_
    refine wp_ret ?_
    refine then_r ?_
    obtain rfl := Option.some.inj H
    exact ret1 (rfl) rfl  (show _ = .bool false from (by kernel_rfl)) ⟨rfl, hC⟩
  replace H := ifn q73 H
  refine lvg (d := 44) (t := 43) rfl (by kernel_rfl) rfl (bf q73 (by kernel_rfl)) rfl (by kernel_rfl) (e_move (v := .int .i64 t67.2) (by kernel_rfl)) ?_
  refine lvg (d := 45) (t := 43) rfl (by kernel_rfl) rfl (bf q73 (by kernel_rfl)) rfl (by kernel_rfl) (e_move (v := .int .i64 t43.2) (by kernel_rfl)) ?_
  refine lvg (d := 46) (t := 43) rfl (by kernel_rfl) rfl (bf q73 (by kernel_rfl)) rfl (by kernel_rfl) (e_neq (k := .i64) (a := t67.2) (b := t43.2) (by kernel_rfl) (by kernel_rfl)) ?_
  refine lv (d := 47) rfl rfl (by kernel_rfl) (e_pick_f (v := .bool (decide (t67.2 ≠ t43.2))) (bf q73 (by kernel_rfl)) (by kernel_rfl)) ?_
  refine wpList_nil ?_
  refine then_n ?_
  by_cases q74 : t67.2 ≠ t43.2
  · replace H := ifp q74 H
    refine cond_t rfl (bt q74 (by kernel_rfl)) ?_
    refine wp_seq ?_
    refine wp_region_lit ?_
    refine lv (d := 4) rfl rfl (by kernel_rfl) (e_assign (v := .bool false) rfl) ?_
    refine wpList_nil ?_
    refine then_n ?_
    refine wp_ret ?_
    refine then_r ?_
    obtain rfl := Option.some.inj H
    exact ret1 (rfl) rfl  (show _ = .bool false from (by kernel_rfl)) ⟨rfl, hC⟩
  replace H := ifn q74 H
  refine cond_f rfl (bf q74 (by kernel_rfl)) ?_
  refine wp_skip ?_
  refine then_n ?_
  refine wp_seq ?_
  refine wp_seq ?_
  refine wp_region_lit ?_
  refine lv (d := 48) rfl rfl (by kernel_rfl) (e_move (v := .slice A51 t49.length c52) (by kernel_rfl)) ?_
  refine lv (d := 49) rfl rfl (by kernel_rfl) (e_move (v := .slice A2 x1.length c3) (by kernel_rfl)) ?_
  obtain ⟨t75, u76, H⟩ := bnd H
  refine lcall (d := 50) rfl rfl (by kernel_rfl) (e_call (l := [.tmp 49]) (vs := [.slice A2 x1.length c3]) Try.func16 (by kernel_rfl) rfl (by kernel_rfl) rfl) (laws_toCellS.calls k w69 (FP (fw F w.heap.size) w69.heap.size []) x1 A2 c3 (Rd.mono (fp_sub (fun _ h_ => .inl h_) (by omega) (by simp)) h4) l5 t75 u76) ?_
  rintro _ w80 ⟨A77, c78, rfl, h79, C81⟩
  refine ⟨_, rfl, ?_⟩
  have u82 : Lt [] w69.heap.size := (Lt.nil _)
  have z83 := C81.size
  replace h9 := Rd.move (fp_chg C81 (by omega) (by simp)) h9
  replace h62 := Row.move (fp_chg C81 (by omega) (by simp)) h62
  replace h53 := Row.move (fp_chg C81 (by omega) (by simp)) h53
  replace hC := hC.step C81 (fun _ h_ => by cases h_)
  obtain ⟨t84, u85, H⟩ := bnd H
  refine lcall (d := 51) rfl rfl (by kernel_rfl) (e_call (l := [.tmp 48, .tmp 50]) (vs := [.slice A51 t49.length c52, .slice A77 t75.length c78]) Try.func18 (by kernel_rfl) rfl (by kernel_rfl) rfl) (laws_eqCellS.calls k w80 (FP (fw F w.heap.size) w80.heap.size []) t49 A51 c52 t75 A77 c78 (Rd.mono (fp_sub (fun q_ h_ => .inr (by simp only [ge] at h_; omega)) (by omega) (by simp)) (h53.rd)) h53.le (Rd.mono (fp_sub (fun q_ h_ => .inr (by simp only [ge] at h_; omega)) (by omega) (by simp)) (h79.rd)) h79.le t84 u85) ?_
  rintro _ w86 ⟨rfl, C87⟩
  refine ⟨_, rfl, ?_⟩
  have u88 : Lt [] w80.heap.size := (Lt.nil _)
  have z89 := C87.size
  replace h9 := Rd.move (fp_chg C87 (by omega) (by simp)) h9
  replace h62 := Row.move (fp_chg C87 (by omega) (by simp)) h62
  replace hC := hC.step C87 (fun _ h_ => by cases h_)
  refine lv (d := 52) rfl rfl (by kernel_rfl) (e_notv (c := t84) (by kernel_rfl)) ?_
  refine wpList_nil ?_
  refine then_n ?_
  by_cases q90 : ¬ (t84 = true)
  · replace H := ifp q90 H
    refine cond_t rfl (bt q90 (by kernel_rfl)) ?_
    refine wp_seq ?_
    refine wp_region_lit ?_
    refine lv (d := 4) rfl rfl (by kernel_rfl) (e_assign (v := .bool false) rfl) ?_
    refine wpList_nil ?_
    refine then_n ?_
    refine wp_ret ?_
    refine then_r ?_
    obtain rfl := Option.some.inj H
    exact ret1 (rfl) rfl  (show _ = .bool false from (by kernel_rfl)) ⟨rfl, hC⟩
  replace H := ifn q90 H
  refine cond_f rfl (bf q90 (by kernel_rfl)) ?_
  refine wp_skip ?_
  refine then_n ?_
  refine wp_seq ?_
  refine wp_seq ?_
  refine wp_region_lit ?_
  refine lv (d := 53) rfl rfl (by kernel_rfl) (e_move (v := .slice A60 t58.length c61) (by kernel_rfl)) ?_
  refine lv (d := 54) rfl rfl (by kernel_rfl) (e_move (v := .slice A7 x6.length c8) (by kernel_rfl)) ?_
  obtain ⟨t91, u92, H⟩ := bnd H
  refine lcall (d := 55) rfl rfl (by kernel_rfl) (e_call (l := [.tmp 54]) (vs := [.slice A7 x6.length c8]) Try.func16 (by kernel_rfl) rfl (by kernel_rfl) rfl) (laws_toCellS.calls k w86 (FP (fw F w.heap.size) w86.heap.size []) x6 A7 c8 (Rd.mono (fp_sub (fun _ h_ => .inl h_) (by omega) (by simp)) h9) l10 t91 u92) ?_
  rintro _ w96 ⟨A93, c94, rfl, h95, C97⟩
  refine ⟨_, rfl, ?_⟩
  have u98 : Lt [] w86.heap.size := (Lt.nil _)
  have z99 := C97.size
  replace h62 := Row.move (fp_chg C97 (by omega) (by simp)) h62
  replace hC := hC.step C97 (fun _ h_ => by cases h_)
  obtain ⟨t100, u101, H⟩ := bnd H
  refine lcall (d := 56) rfl rfl (by kernel_rfl) (e_call (l := [.tmp 53, .tmp 55]) (vs := [.slice A60 t58.length c61, .slice A93 t91.length c94]) Try.func18 (by kernel_rfl) rfl (by kernel_rfl) rfl) (laws_eqCellS.calls k w96 (FP (fw F w.heap.size) w96.heap.size []) t58 A60 c61 t91 A93 c94 (Rd.mono (fp_sub (fun q_ h_ => .inr (by simp only [ge] at h_; omega)) (by omega) (by simp)) (h62.rd)) h62.le (Rd.mono (fp_sub (fun q_ h_ => .inr (by simp only [ge] at h_; omega)) (by omega) (by simp)) (h95.rd)) h95.le t100 u101) ?_
  rintro _ w102 ⟨rfl, C103⟩
  refine ⟨_, rfl, ?_⟩
  have u104 : Lt [] w96.heap.size := (Lt.nil _)
  have z105 := C103.size
  replace hC := hC.step C103 (fun _ h_ => by cases h_)
  refine lv (d := 57) rfl rfl (by kernel_rfl) (e_notv (c := t100) (by kernel_rfl)) ?_
  refine wpList_nil ?_
  refine then_n ?_
  by_cases q106 : ¬ (t100 = true)
  · replace H := ifp q106 H
    refine cond_t rfl (bt q106 (by kernel_rfl)) ?_
    refine wp_seq ?_
    refine wp_region_lit ?_
    refine lv (d := 4) rfl rfl (by kernel_rfl) (e_assign (v := .bool false) rfl) ?_
    refine wpList_nil ?_
    refine then_n ?_
    refine wp_ret ?_
    refine then_r ?_
    obtain rfl := Option.some.inj H
    exact ret1 (rfl) rfl  (show _ = .bool false from (by kernel_rfl)) ⟨rfl, hC⟩
  replace H := ifn q106 H
  refine cond_f rfl (bf q106 (by kernel_rfl)) ?_
  refine wp_skip ?_
  refine then_n ?_
  refine wp_seq ?_
  refine wp_region_lit ?_
  refine lv (d := 4) rfl rfl (by kernel_rfl) (e_assign (v := .bool true) rfl) ?_
  refine wpList_nil ?_
  refine then_n ?_
  refine wp_ret ?_
  obtain rfl := Option.some.inj H
  exact ret1 (rfl) rfl  (show _ = .bool true from (by kernel_rfl)) ⟨rfl, hC⟩
end Go.Proofs.Ytognefkopbbdnaa
