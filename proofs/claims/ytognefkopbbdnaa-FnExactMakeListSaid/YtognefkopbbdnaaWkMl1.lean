import Derived.Test.YtognefkopbbdnaaProg
import Derived.Test.YtognefkopbbdnaaY10
namespace Go.Proofs.Ytognefkopbbdnaa
open Go.Sx Go.Sy
attribute [local irreducible] Go.wpList Go.wpStill Go.wpQuiet Go.Code.wp
set_option maxRecDepth 100000
set_option maxHeartbeats 1000000
set_option linter.unusedVariables false
set_option linter.unusedSimpArgs false

/-! laws_szByteS -/
def sl5 : Ty (List UInt8) := slice 5 tByte (by decide)
def st68 : Ty Cell := iso (pair tInt (pair tInt sl5)) (fun x => (x.kind, x.n, x.text))
theorem st68_open {H : Hp} {x : Cell} {cs : List Value} (h : st68.R H x cs) : ∃ (A2 : Option Addr) (c2 : Nat), cs = [.int .i64 x.kind, .int .i64 x.n, .slice A2 x.text.length c2] ∧ x.text.length ≤ c2 ∧ Rd tByte H A2 x.text := by
  obtain ⟨_, _, rfl, rfl, ⟨_, _, rfl, rfl, ⟨A2, c2, rfl, l2, h2⟩⟩⟩ := h
  exact ⟨A2, c2, rfl, l2, h2⟩
theorem st68_mkR {H : Hp} {x : Cell} {A2 : Option Addr} {c2 : Nat} (l2 : x.text.length ≤ c2) (h2 : Rd tByte H A2 x.text) : st68.R H x [.int .i64 x.kind, .int .i64 x.n, .slice A2 x.text.length c2] := ⟨[.int .i64 x.kind], [.int .i64 x.n, .slice A2 x.text.length c2], rfl, rfl, ⟨[.int .i64 x.n], [.slice A2 x.text.length c2], rfl, rfl, ⟨A2, c2, rfl, l2, h2⟩⟩⟩
theorem st68_mkO {H X : Hp} {F2 : Foot} {x : Cell} {A2 : Option Addr} {c2 : Nat} (h2 : Row tByte 5 H X F2 A2 c2 x.text) : st68.O H X F2 x [.int .i64 x.kind, .int .i64 x.n, .slice A2 x.text.length c2] := (pairO0 (a := tInt) (b := (pair tInt sl5)) (x := (x.kind, (x.n, x.text))) (c0 := [.int .i64 x.kind]) (c1 := [.int .i64 x.n, .slice A2 x.text.length c2]) rfl (pairO0 (a := tInt) (b := sl5) (x := (x.n, x.text)) (c0 := [.int .i64 x.n]) (c1 := [.slice A2 x.text.length c2]) rfl ⟨A2, c2, rfl, h2⟩))
theorem st68_openO {H X : Hp} {F : Foot} {x : Cell} {cs : List Value} (h : st68.O H X F x cs) : ∃ (A2 : Option Addr) (c2 : Nat) (F2 : Foot), cs = [.int .i64 x.kind, .int .i64 x.n, .slice A2 x.text.length c2] ∧ Row tByte 5 H X F2 A2 c2 x.text ∧ (∀ b, F2 b → F b) := by
  obtain ⟨_, _, K1, L1, rfl, rfl, ⟨_, _, K0, L0, rfl, rfl, ⟨A2, c2, rfl, h2⟩, d0, s0⟩, d1, s1⟩ := h
  exact ⟨A2, c2, _, rfl, h2, fun b hb => s1 b (.inr (s0 b (.inr (hb))))⟩
theorem st68_c0 {H X : Hp} {F : Foot} {x : Cell} {cs : List Value} (h : st68.O H X F x cs) : cs[0]? = some (.int .i64 x.kind) := by obtain ⟨_, _, _, rfl, _, _⟩ := st68_openO h; rfl
theorem st68_r0 {H : Hp} {x : Cell} {cs : List Value} (h : st68.R H x cs) : cs[0]? = some (.int .i64 x.kind) := by obtain ⟨_, _, rfl, _, _⟩ := st68_open h; rfl
theorem st68_c1 {H X : Hp} {F : Foot} {x : Cell} {cs : List Value} (h : st68.O H X F x cs) : cs[1]? = some (.int .i64 x.n) := by obtain ⟨_, _, _, rfl, _, _⟩ := st68_openO h; rfl
theorem st68_r1 {H : Hp} {x : Cell} {cs : List Value} (h : st68.R H x cs) : cs[1]? = some (.int .i64 x.n) := by obtain ⟨_, _, rfl, _, _⟩ := st68_open h; rfl
theorem st68_u0 {H X : Hp} {F1 F2 : Foot} {x : Cell} (y : Int) {cs : List Value} (h : st68.O H X F1 x cs) : st68.O H X (or2 F1 F2) {x with kind := y} (cs.take 0 ++ [.int .i64 y] ++ cs.drop 1) := by
  obtain ⟨_, _, _, rfl, h2, s2⟩ := st68_openO h
  exact st68_mkO (x := {x with kind := y}) (h2.mono fun b hb => .inl (s2 b hb))
theorem st68_u1 {H X : Hp} {F1 F2 : Foot} {x : Cell} (y : Int) {cs : List Value} (h : st68.O H X F1 x cs) : st68.O H X (or2 F1 F2) {x with n := y} (cs.take 1 ++ [.int .i64 y] ++ cs.drop 2) := by
  obtain ⟨_, _, _, rfl, h2, s2⟩ := st68_openO h
  exact st68_mkO (x := {x with n := y}) (h2.mono fun b hb => .inl (s2 b hb))
theorem st68_u2 {H X : Hp} {F1 F2 : Foot} {x : Cell} {y : List UInt8} {A : Option Addr} {c : Nat} {cs : List Value} (hy : Row tByte 5 H X F2 A c y) (h : st68.O H X F1 x cs) : st68.O H X (or2 F1 F2) {x with text := y} (cs.take 2 ++ [.slice A y.length c] ++ cs.drop 3) := by
  obtain ⟨_, _, _, rfl, h2, _⟩ := st68_openO h
  exact st68_mkO (x := {x with text := y}) (hy.mono fun b hb => .inr hb)
def z68 : Cell := ⟨(0 : Int), (0 : Int), ([] : List UInt8)⟩
theorem z68_O (H X : Hp) : st68.O H X no z68 [.int .i64 (0 : Int), .int .i64 (0 : Int), .slice none 0 0] := st68_mkO (x := z68) (Row.nil _ _ _ _ no)
theorem z68_R (H : Hp) : st68.R H z68 [.int .i64 (0 : Int), .int .i64 (0 : Int), .slice none 0 0] := st68_mkR (x := z68) (Nat.le_refl _) (Rd.nil _ _ _)
def sl68 : Ty (List Cell) := slice 68 st68 (by decide)
def laws_szByteS.f (x1 : List UInt8) (x6 : Int) : Option Int := (if (IntKind.i64.wrap (x6 - (x1.length : Int))) < 0 then some (-1) else some (IntKind.i64.wrap (x6 - (x1.length : Int))))
theorem laws_szByteS.calls (w : World) (H : Hp) (x1 : List UInt8) (A2 : Option Addr) (c3 : Nat) (x6 : Int) (h4 : Rd tByte H A2 x1) (l5 : x1.length ≤ c3) (S : Own [] H w) (r : Int) (M : laws_szByteS.f x1 x6 = some r) :
    Calls Try.prog 102 #[.slice A2 x1.length c3, .int .i64 x6] w (fun e e_w => e = .returned (.int .i64 r) ∧ Chg no w e_w) := by
  rw [laws_szByteS.f] at M
  refine enter (l := [.slice A2 x1.length c3, .int .i64 x6]) 12 Try.func102 rfl rfl rfl ?_
  have S0_ := S.st
  refine wp_seq ?_
  refine wp_region_lit ?_
  refine lv (d := 4) rfl rfl (by kernel_rfl) (e_assign (v := .int .i64 0) rfl) ?_
  refine wpList_nil ?_
  refine then_n ?_
  refine wp_seq ?_
  refine wp_region_lit ?_
  refine lv (d := 5) rfl rfl (by kernel_rfl) (e_move (v := .int .i64 x6) (by kernel_rfl)) ?_
  refine lv (d := 6) rfl rfl (by kernel_rfl) (e_move (v := .slice A2 x1.length c3) (by kernel_rfl)) ?_
  refine lv (d := 7) rfl rfl (by kernel_rfl) (e_len (A := A2) (n := x1.length) (c := c3) Try.underlying59 (by kernel_rfl)) ?_
  refine lv (d := 8) rfl rfl (by kernel_rfl) (e_sub (k := .i64) (a := x6) (b := (x1.length : Int)) (by kernel_rfl) (by kernel_rfl)) ?_
  refine lv (d := 1) rfl rfl (by kernel_rfl) (e_assign (v := .int .i64 (IntKind.i64.wrap (x6 - (x1.length : Int)))) (by kernel_rfl)) ?_
  refine wpList_nil ?_
  refine then_n ?_
  refine wp_seq ?_
  refine wp_seq ?_
  refine wp_region_lit ?_
  refine lv (d := 9) rfl rfl (by kernel_rfl) (e_move (v := .int .i64 (IntKind.i64.wrap (x6 - (x1.length : Int)))) (by kernel_rfl)) ?_
  refine lv (d := 10) rfl rfl (by kernel_rfl) (e_lss (k := .i64) (a := (IntKind.i64.wrap (x6 - (x1.length : Int)))) (b := 0) (by kernel_rfl) rfl) ?_
  refine wpList_nil ?_
  refine then_n ?_
  by_cases q7 : (IntKind.i64.wrap (x6 - (x1.length : Int))) < 0
  · replace M := ifp q7 M
    refine cond_t rfl (bt q7 (by kernel_rfl)) ?_
    refine wp_seq ?_
    refine wp_region_lit ?_
    refine lv (d := 4) rfl rfl (by kernel_rfl) (e_assign (v := .int .i64 (-1)) rfl) ?_
    refine wpList_nil ?_
    refine then_n ?_
    refine wp_ret ?_
    refine then_r ?_
    obtain rfl := Option.some.inj M
    exact ret1 rfl rfl  (show _ = .int .i64 (-1) from (by kernel_rfl)) ⟨rfl, S0_.chg⟩
  replace M := ifn q7 M
  refine cond_f rfl (bf q7 (by kernel_rfl)) ?_
  refine wp_skip ?_
  refine then_n ?_
  refine wp_seq ?_
  refine wp_region_lit ?_
  refine lv (d := 11) rfl rfl (by kernel_rfl) (e_move (v := .int .i64 (IntKind.i64.wrap (x6 - (x1.length : Int)))) (by kernel_rfl)) ?_
  refine lv (d := 4) rfl rfl (by kernel_rfl) (e_assign (v := .int .i64 (IntKind.i64.wrap (x6 - (x1.length : Int)))) (by kernel_rfl)) ?_
  refine wpList_nil ?_
  refine then_n ?_
  refine wp_ret ?_
  obtain rfl := Option.some.inj M
  exact ret1 rfl rfl  (show _ = .int .i64 (IntKind.i64.wrap (x6 - (x1.length : Int))) from (by kernel_rfl)) ⟨rfl, S0_.chg⟩

/-! laws_szCell -/
def laws_szCell.f (x1 : Cell) (x6 : Int) : Option Int := ((laws_szByteS.f x1.text x6).bind fun t12 => (if t12 < 0 then some (-1) else some t12))
theorem laws_szCell.calls (w : World) (H : Hp) (x1 : Cell) (A2 : Option Addr) (c3 : Nat) (x6 : Int) (h4 : Rd tByte H A2 x1.text) (l5 : x1.text.length ≤ c3) (S : Own [] H w) (r : Int) (M : laws_szCell.f x1 x6 = some r) :
    Calls Try.prog 55 #[.agg #[.int .i64 x1.kind, .int .i64 x1.n, .slice A2 x1.text.length c3], .int .i64 x6] w (fun e e_w => e = .returned (.int .i64 r) ∧ Chg no w e_w) := by
  rw [laws_szCell.f] at M
  refine enter (l := [.agg #[.int .i64 x1.kind, .int .i64 x1.n, .slice A2 x1.text.length c3], .int .i64 x6]) 12 Try.func55 rfl rfl rfl ?_
  have S0_ := S.st
  refine wp_seq ?_
  refine wp_region_lit ?_
  refine lve (d := 2) rfl rfl (by kernel_rfl) (new_blk (v := fun g_ => .pointer (some ⟨g_, 0, none⟩)) (cs := #[.int .i64 x1.kind, .int .i64 x1.n, .slice A2 x1.text.length c3]) (t := 68) S0_ (by kernel_rfl)) ?_
  rintro _ w7 ⟨g8, rfl, b9, S10, K11⟩
  refine lv (d := 4) rfl rfl (by kernel_rfl) (e_assign (v := .int .i64 0) rfl) ?_
  refine wpList_nil ?_
  refine then_n ?_
  refine wp_seq ?_
  refine wp_region_lit ?_
  refine lv (d := 5) rfl rfl (by kernel_rfl) (e_fieldAddr (b := g8) (off := 0) (o := 2) Try.underlying68 rfl rfl (sz := 1) (by kernel_rfl) (by decide) (by kernel_rfl)) ?_
  refine lv (d := 6) rfl rfl (by kernel_rfl) (e_load1 (ad := ⟨g8, 0 + 2, none⟩) (v := .slice A2 x1.text.length c3) Try.underlying59 rfl (by kernel_rfl) (blk_cell b9 rfl)) ?_
  refine lv (d := 7) rfl rfl (by kernel_rfl) (e_move (v := .int .i64 x6) (by kernel_rfl)) ?_
  obtain ⟨t12, u13, M⟩ := bnd M
  refine lcall (d := 8) rfl rfl (by kernel_rfl) (e_call (l := [.tmp 6, .tmp 7]) (vs := [.slice A2 x1.text.length c3, .int .i64 x6]) Try.func102 (by kernel_rfl) rfl (by kernel_rfl) rfl) (laws_szByteS.calls w7 H x1.text A2 c3 x6 h4 l5 S10.own0 t12 u13) ?_
  rintro _ w14 ⟨rfl, C15⟩
  refine ⟨_, rfl, ?_⟩
  obtain ⟨S16, K17⟩ := S10.still C15
  replace b9 := K17.blk 0 rfl b9
  refine lv (d := 1) rfl rfl (by kernel_rfl) (e_assign (v := .int .i64 t12) (by kernel_rfl)) ?_
  refine wpList_nil ?_
  refine then_n ?_
  refine wp_seq ?_
  refine wp_seq ?_
  refine wp_region_lit ?_
  refine lv (d := 9) rfl rfl (by kernel_rfl) (e_move (v := .int .i64 t12) (by kernel_rfl)) ?_
  refine lv (d := 10) rfl rfl (by kernel_rfl) (e_lss (k := .i64) (a := t12) (b := 0) (by kernel_rfl) rfl) ?_
  refine wpList_nil ?_
  refine then_n ?_
  by_cases q18 : t12 < 0
  · replace M := ifp q18 M
    refine cond_t rfl (bt q18 (by kernel_rfl)) ?_
    refine wp_seq ?_
    refine wp_region_lit ?_
    refine lv (d := 4) rfl rfl (by kernel_rfl) (e_assign (v := .int .i64 (-1)) rfl) ?_
    refine wpList_nil ?_
    refine then_n ?_
    refine wp_ret ?_
    refine then_r ?_
    obtain rfl := Option.some.inj M
    exact ret1 rfl rfl  (show _ = .int .i64 (-1) from (by kernel_rfl)) ⟨rfl, S16.chg⟩
  replace M := ifn q18 M
  refine cond_f rfl (bf q18 (by kernel_rfl)) ?_
  refine wp_skip ?_
  refine then_n ?_
  refine wp_seq ?_
  refine wp_region_lit ?_
  refine lv (d := 11) rfl rfl (by kernel_rfl) (e_move (v := .int .i64 t12) (by kernel_rfl)) ?_
  refine lv (d := 4) rfl rfl (by kernel_rfl) (e_assign (v := .int .i64 t12) (by kernel_rfl)) ?_
  refine wpList_nil ?_
  refine then_n ?_
  refine wp_ret ?_
  obtain rfl := Option.some.inj M
  exact ret1 rfl rfl  (show _ = .int .i64 t12 from (by kernel_rfl)) ⟨rfl, S16.chg⟩

/-! laws_szCellS -/
def laws_szCellS.l0 : Nat → (List Cell) → Int → Int → Option Int
  | 0, _, _, _ => none
  | k19 + 1, x1, x10, x11 => (if x11 < (x1.length : Int) then (if 0 ≤ x11 then ((laws_szCell.f (x1.getD ((x11).toNat) z68) x10).bind fun t32 => (if t32 < 0 then some (-1) else (laws_szCellS.l0 k19 x1 t32 (IntKind.i64.wrap (x11 + 1))))) else none) else some x10)
def laws_szCellS.f (k : Nat) (x1 : List Cell) (x6 : Int) : Option Int := (if (IntKind.i64.wrap (x6 - (x1.length : Int))) < 0 then some (-1) else (laws_szCellS.l0 k x1 (IntKind.i64.wrap (x6 - (x1.length : Int))) 0))
theorem laws_szCellS.calls (k : Nat) (w : World) (H : Hp) (x1 : List Cell) (A2 : Option Addr) (c3 : Nat) (x6 : Int) (h4 : Rd st68 H A2 x1) (l5 : x1.length ≤ c3) (S : Own [] H w) (r : Int) (M : laws_szCellS.f k x1 x6 = some r) :
    Calls Try.prog 14 #[.slice A2 x1.length c3, .int .i64 x6] w (fun e e_w => e = .returned (.int .i64 r) ∧ Chg no w e_w) := by
  rw [laws_szCellS.f] at M
  refine enter (l := [.slice A2 x1.length c3, .int .i64 x6]) 27 Try.func14 rfl rfl rfl ?_
  have S0_ := S.st
  refine wp_seq ?_
  refine wp_region_lit ?_
  refine lv (d := 4) rfl rfl (by kernel_rfl) (e_assign (v := .int .i64 0) rfl) ?_
  refine wpList_nil ?_
  refine then_n ?_
  refine wp_seq ?_
  refine wp_region_lit ?_
  refine lv (d := 6) rfl rfl (by kernel_rfl) (e_move (v := .int .i64 x6) (by kernel_rfl)) ?_
  refine lv (d := 7) rfl rfl (by kernel_rfl) (e_move (v := .slice A2 x1.length c3) (by kernel_rfl)) ?_
  refine lv (d := 8) rfl rfl (by kernel_rfl) (e_len (A := A2) (n := x1.length) (c := c3) Try.underlying22 (by kernel_rfl)) ?_
  refine lv (d := 9) rfl rfl (by kernel_rfl) (e_sub (k := .i64) (a := x6) (b := (x1.length : Int)) (by kernel_rfl) (by kernel_rfl)) ?_
  refine lv (d := 1) rfl rfl (by kernel_rfl) (e_assign (v := .int .i64 (IntKind.i64.wrap (x6 - (x1.length : Int)))) (by kernel_rfl)) ?_
  refine wpList_nil ?_
  refine then_n ?_
  refine wp_seq ?_
  refine wp_seq ?_
  refine wp_region_lit ?_
  refine lv (d := 10) rfl rfl (by kernel_rfl) (e_move (v := .int .i64 (IntKind.i64.wrap (x6 - (x1.length : Int)))) (by kernel_rfl)) ?_
  refine lv (d := 11) rfl rfl (by kernel_rfl) (e_lss (k := .i64) (a := (IntKind.i64.wrap (x6 - (x1.length : Int)))) (b := 0) (by kernel_rfl) rfl) ?_
  refine wpList_nil ?_
  refine then_n ?_
  by_cases q7 : (IntKind.i64.wrap (x6 - (x1.length : Int))) < 0
  · replace M := ifp q7 M
    refine cond_t rfl (bt q7 (by kernel_rfl)) ?_
    refine wp_seq ?_
    refine wp_region_lit ?_
    refine lv (d := 4) rfl rfl (by kernel_rfl) (e_assign (v := .int .i64 (-1)) rfl) ?_
    refine wpList_nil ?_
    refine then_n ?_
    refine wp_ret ?_
    refine then_r ?_
    obtain rfl := Option.some.inj M
    exact ret1 rfl rfl  (show _ = .int .i64 (-1) from (by kernel_rfl)) ⟨rfl, S0_.chg⟩
  replace M := ifn q7 M
  refine cond_f rfl (bf q7 (by kernel_rfl)) ?_
  refine wp_skip ?_
  refine then_n ?_
  refine wp_seq ?_
  refine wp_seq ?_
  refine wp_region_lit ?_
  refine lv (d := 5) rfl rfl (by kernel_rfl) (e_assign (v := .int .i64 0) rfl) ?_
  refine wpList_nil ?_
  refine then_n ?_
  refine wp_block ?_
  refine wp_loop_g (fun k17 a18 w8 => ∃ (f9 : Nat → Value) (x10 : Int) (x11 : Int), a18 = mk 27 f9 ∧ f9 0 = .slice A2 x1.length c3 ∧ f9 1 = .int .i64 x10 ∧ f9 5 = .int .i64 x11 ∧ St (anyOf []) H w [] H w8 ∧ laws_szCellS.l0 k17 x1 x10 x11 = some r) k ⟨_, (IntKind.i64.wrap (x6 - (x1.length : Int))), 0, rfl, (by kernel_rfl), (by kernel_rfl), (by kernel_rfl), S0_, M⟩ ?_
  clear M
  rintro k17 a18 w8 ⟨f9, x10, x11, rfl, e12, e13, e14, S15, M⟩
  rcases k17 with _ | k19
  · rw [laws_szCellS.l0] at M
    cases M
  rw [laws_szCellS.l0] at M
  refine wp_seq ?_
  refine wp_seq ?_
  refine wp_region_lit ?_
  refine lv (d := 12) rfl rfl (by kernel_rfl) (e_move (v := .int .i64 x11) (by exact e14)) ?_
  refine lv (d := 13) rfl rfl (by kernel_rfl) (e_move (v := .slice A2 x1.length c3) (by exact e12)) ?_
  refine lv (d := 14) rfl rfl (by kernel_rfl) (e_len (A := A2) (n := x1.length) (c := c3) Try.underlying22 (by kernel_rfl)) ?_
  refine lv (d := 15) rfl rfl (by kernel_rfl) (e_lss (k := .i64) (a := x11) (b := (x1.length : Int)) (by kernel_rfl) (by kernel_rfl)) ?_
  refine wpList_nil ?_
  refine then_n ?_
  by_cases q20 : x11 < (x1.length : Int)
  · replace M := ifp q20 M
    refine cond_t rfl (bt q20 (by kernel_rfl)) ?_
    refine wp_skip ?_
    refine then_n ?_
    refine wp_seq ?_
    refine wp_block ?_
    refine wp_seq ?_
    refine wp_region_lit ?_
    refine lv (d := 18) rfl rfl (by kernel_rfl) (e_move (v := .slice A2 x1.length c3) (by exact e12)) ?_
    refine lv (d := 19) rfl rfl (by kernel_rfl) (e_move (v := .int .i64 x11) (by exact e14)) ?_
    obtain ⟨q21, M⟩ := chk M
    obtain ⟨b22, o23, e24⟩ := Rd.addr h4 (show (x11).toNat < x1.length by omega)
    obtain ⟨y25, r26, k27⟩ := Rd.at h4 e24 (getD_some z68 (show (x11).toNat < x1.length by omega))
    obtain ⟨A28, c29, rfl, l30, h31⟩ := st68_open r26
    refine lv (d := 20) rfl rfl (by kernel_rfl) (e_indexAddr (b := b22) (off := o23) (n := x1.length) (c := c3) (sz := 3) (i := x11) (k := .i64) Try.underlying22 e24 (by kernel_rfl) (by kernel_rfl) (by kernel_rfl) q21 q20) ?_
    refine lv (d := 21) rfl rfl (by kernel_rfl) (e_loadS (b := b22) (off := o23 + (x11 : Int).toNat * 3) (cs := [.int .i64 ((x1.getD ((x11).toNat) z68).kind), .int .i64 ((x1.getD ((x11).toNat) z68).n), .slice A28 ((x1.getD ((x11).toNat) z68).text).length c29]) Try.underlying68 rfl (by kernel_rfl) (by kernel_rfl) (fun j_ u_ e_ => (hpx (S15.inv.cell (k27 j_ u_ e_))))) ?_
    refine lv (d := 22) rfl rfl (by kernel_rfl) (e_move (v := .int .i64 x10) (by exact e13)) ?_
    obtain ⟨t32, u33, M⟩ := bnd M
    refine lcall (d := 23) rfl rfl (by kernel_rfl) (e_call (l := [.tmp 21, .tmp 22]) (vs := [.agg #[.int .i64 ((x1.getD ((x11).toNat) z68).kind), .int .i64 ((x1.getD ((x11).toNat) z68).n), .slice A28 ((x1.getD ((x11).toNat) z68).text).length c29], .int .i64 x10]) Try.func55 (by kernel_rfl) rfl (by kernel_rfl) rfl) (laws_szCell.calls w8 H (x1.getD ((x11).toNat) z68) A28 c29 x10 h31 l30 S15.own0 t32 u33) ?_
    rintro _ w34 ⟨rfl, C35⟩
    refine ⟨_, rfl, ?_⟩
    obtain ⟨S36, K37⟩ := S15.still C35
    refine lv (d := 1) rfl rfl (by kernel_rfl) (e_assign (v := .int .i64 t32) (by kernel_rfl)) ?_
    refine wpList_nil ?_
    refine then_n ?_
    refine wp_seq ?_
    refine wp_region_lit ?_
    refine lv (d := 24) rfl rfl (by kernel_rfl) (e_move (v := .int .i64 t32) (by kernel_rfl)) ?_
    refine lv (d := 25) rfl rfl (by kernel_rfl) (e_lss (k := .i64) (a := t32) (b := 0) (by kernel_rfl) rfl) ?_
    refine wpList_nil ?_
    refine then_n ?_
    by_cases q38 : t32 < 0
    · replace M := ifp q38 M
      refine cond_t rfl (bt q38 (by kernel_rfl)) ?_
      refine wp_seq ?_
      refine wp_region_lit ?_
      refine lv (d := 4) rfl rfl (by kernel_rfl) (e_assign (v := .int .i64 (-1)) rfl) ?_
      refine wpList_nil ?_
      refine then_n ?_
      refine wp_ret ?_
      refine inb_r ?_
      refine then_r ?_
      refine then_r ?_
      refine inb_r ?_
      refine then_r ?_
      obtain rfl := Option.some.inj M
      exact ret1 rfl rfl  (show _ = .int .i64 (-1) from (by kernel_rfl)) ⟨rfl, S36.chg⟩
    replace M := ifn q38 M
    refine cond_f rfl (bf q38 (by kernel_rfl)) ?_
    refine wp_skip ?_
    refine inb_n ?_
    refine then_n ?_
    refine wp_region_lit ?_
    refine lv (d := 16) rfl rfl (by kernel_rfl) (e_move (v := .int .i64 x11) (by exact e14)) ?_
    refine lv (d := 17) rfl rfl (by kernel_rfl) (e_add (k := .i64) (a := x11) (b := 1) (by kernel_rfl) rfl) ?_
    refine lv (d := 5) rfl rfl (by kernel_rfl) (e_assign (v := .int .i64 (IntKind.i64.wrap (x11 + 1))) (by kernel_rfl)) ?_
    refine wpList_nil ?_
    refine then_n ?_
    exact ⟨k19, (by omega), _, t32, (IntKind.i64.wrap (x11 + 1)), rfl, (by exact e12), (by kernel_rfl), (by kernel_rfl), S36, M⟩
  replace M := ifn q20 M
  refine cond_f rfl (bf q20 (by kernel_rfl)) ?_
  refine wp_exit ?_
  refine then_e ?_
  refine then_e ?_
  refine inb_hit ?_
  refine then_n ?_
  refine wp_seq ?_
  refine wp_region_lit ?_
  refine lv (d := 26) rfl rfl (by kernel_rfl) (e_move (v := .int .i64 x10) (by exact e13)) ?_
  refine lv (d := 4) rfl rfl (by kernel_rfl) (e_assign (v := .int .i64 x10) (by kernel_rfl)) ?_
  refine wpList_nil ?_
  refine then_n ?_
  refine wp_ret ?_
  obtain rfl := Option.some.inj M
  exact ret1 rfl rfl  (show _ = .int .i64 x10 from (by kernel_rfl)) ⟨rfl, S15.chg⟩

/-! laws_szCellSS -/
def laws_szCellSS.l0 : Nat → (List (List Cell)) → Int → Int → Option Int
  | 0, _, _, _ => none
  | k19 + 1, x1, x10, x11 => (if x11 < (x1.length : Int) then (if 0 ≤ x11 then ((laws_szCellS.f k19 (x1.getD ((x11).toNat) ([] : List Cell)) x10).bind fun t32 => (if t32 < 0 then some (-1) else (laws_szCellSS.l0 k19 x1 t32 (IntKind.i64.wrap (x11 + 1))))) else none) else some x10)
def laws_szCellSS.f (k : Nat) (x1 : List (List Cell)) (x6 : Int) : Option Int := (if (IntKind.i64.wrap (x6 - (x1.length : Int))) < 0 then some (-1) else (laws_szCellSS.l0 k x1 (IntKind.i64.wrap (x6 - (x1.length : Int))) 0))
theorem laws_szCellSS.calls (k : Nat) (w : World) (H : Hp) (x1 : List (List Cell)) (A2 : Option Addr) (c3 : Nat) (x6 : Int) (h4 : Rd sl68 H A2 x1) (l5 : x1.length ≤ c3) (S : Own [] H w) (r : Int) (M : laws_szCellSS.f k x1 x6 = some r) :
    Calls Try.prog 39 #[.slice A2 x1.length c3, .int .i64 x6] w (fun e e_w => e = .returned (.int .i64 r) ∧ Chg no w e_w) := by
  rw [laws_szCellSS.f] at M
  refine enter (l := [.slice A2 x1.length c3, .int .i64 x6]) 27 Try.func39 rfl rfl rfl ?_
  have S0_ := S.st
  refine wp_seq ?_
  refine wp_region_lit ?_
  refine lv (d := 4) rfl rfl (by kernel_rfl) (e_assign (v := .int .i64 0) rfl) ?_
  refine wpList_nil ?_
  refine then_n ?_
  refine wp_seq ?_
  refine wp_region_lit ?_
  refine lv (d := 6) rfl rfl (by kernel_rfl) (e_move (v := .int .i64 x6) (by kernel_rfl)) ?_
  refine lv (d := 7) rfl rfl (by kernel_rfl) (e_move (v := .slice A2 x1.length c3) (by kernel_rfl)) ?_
  refine lv (d := 8) rfl rfl (by kernel_rfl) (e_len (A := A2) (n := x1.length) (c := c3) Try.underlying43 (by kernel_rfl)) ?_
  refine lv (d := 9) rfl rfl (by kernel_rfl) (e_sub (k := .i64) (a := x6) (b := (x1.length : Int)) (by kernel_rfl) (by kernel_rfl)) ?_
  refine lv (d := 1) rfl rfl (by kernel_rfl) (e_assign (v := .int .i64 (IntKind.i64.wrap (x6 - (x1.length : Int)))) (by kernel_rfl)) ?_
  refine wpList_nil ?_
  refine then_n ?_
  refine wp_seq ?_
  refine wp_seq ?_
  refine wp_region_lit ?_
  refine lv (d := 10) rfl rfl (by kernel_rfl) (e_move (v := .int .i64 (IntKind.i64.wrap (x6 - (x1.length : Int)))) (by kernel_rfl)) ?_
  refine lv (d := 11) rfl rfl (by kernel_rfl) (e_lss (k := .i64) (a := (IntKind.i64.wrap (x6 - (x1.length : Int)))) (b := 0) (by kernel_rfl) rfl) ?_
  refine wpList_nil ?_
  refine then_n ?_
  by_cases q7 : (IntKind.i64.wrap (x6 - (x1.length : Int))) < 0
  · replace M := ifp q7 M
    refine cond_t rfl (bt q7 (by kernel_rfl)) ?_
    refine wp_seq ?_
    refine wp_region_lit ?_
    refine lv (d := 4) rfl rfl (by kernel_rfl) (e_assign (v := .int .i64 (-1)) rfl) ?_
    refine wpList_nil ?_
    refine then_n ?_
    refine wp_ret ?_
    refine then_r ?_
    obtain rfl := Option.some.inj M
    exact ret1 rfl rfl  (show _ = .int .i64 (-1) from (by kernel_rfl)) ⟨rfl, S0_.chg⟩
  replace M := ifn q7 M
  refine cond_f rfl (bf q7 (by kernel_rfl)) ?_
  refine wp_skip ?_
  refine then_n ?_
  refine wp_seq ?_
  refine wp_seq ?_
  refine wp_region_lit ?_
  refine lv (d := 5) rfl rfl (by kernel_rfl) (e_assign (v := .int .i64 0) rfl) ?_
  refine wpList_nil ?_
  refine then_n ?_
  refine wp_block ?_
  refine wp_loop_g (fun k17 a18 w8 => ∃ (f9 : Nat → Value) (x10 : Int) (x11 : Int), a18 = mk 27 f9 ∧ f9 0 = .slice A2 x1.length c3 ∧ f9 1 = .int .i64 x10 ∧ f9 5 = .int .i64 x11 ∧ St (anyOf []) H w [] H w8 ∧ laws_szCellSS.l0 k17 x1 x10 x11 = some r) k ⟨_, (IntKind.i64.wrap (x6 - (x1.length : Int))), 0, rfl, (by kernel_rfl), (by kernel_rfl), (by kernel_rfl), S0_, M⟩ ?_
  clear M
  rintro k17 a18 w8 ⟨f9, x10, x11, rfl, e12, e13, e14, S15, M⟩
  rcases k17 with _ | k19
  · rw [laws_szCellSS.l0] at M
    cases M
  rw [laws_szCellSS.l0] at M
  refine wp_seq ?_
  refine wp_seq ?_
  refine wp_region_lit ?_
  refine lv (d := 12) rfl rfl (by kernel_rfl) (e_move (v := .int .i64 x11) (by exact e14)) ?_
  refine lv (d := 13) rfl rfl (by kernel_rfl) (e_move (v := .slice A2 x1.length c3) (by exact e12)) ?_
  refine lv (d := 14) rfl rfl (by kernel_rfl) (e_len (A := A2) (n := x1.length) (c := c3) Try.underlying43 (by kernel_rfl)) ?_
  refine lv (d := 15) rfl rfl (by kernel_rfl) (e_lss (k := .i64) (a := x11) (b := (x1.length : Int)) (by kernel_rfl) (by kernel_rfl)) ?_
  refine wpList_nil ?_
  refine then_n ?_
  by_cases q20 : x11 < (x1.length : Int)
  · replace M := ifp q20 M
    refine cond_t rfl (bt q20 (by kernel_rfl)) ?_
    refine wp_skip ?_
    refine then_n ?_
    refine wp_seq ?_
    refine wp_block ?_
    refine wp_seq ?_
    refine wp_region_lit ?_
    refine lv (d := 18) rfl rfl (by kernel_rfl) (e_move (v := .slice A2 x1.length c3) (by exact e12)) ?_
    refine lv (d := 19) rfl rfl (by kernel_rfl) (e_move (v := .int .i64 x11) (by exact e14)) ?_
    obtain ⟨q21, M⟩ := chk M
    obtain ⟨b22, o23, e24⟩ := Rd.addr h4 (show (x11).toNat < x1.length by omega)
    obtain ⟨y25, r26, k27⟩ := Rd.at h4 e24 (getD_some ([] : List Cell) (show (x11).toNat < x1.length by omega))
    obtain ⟨A28, c29, rfl, l30, h31⟩ := r26
    refine lv (d := 20) rfl rfl (by kernel_rfl) (e_indexAddr (b := b22) (off := o23) (n := x1.length) (c := c3) (sz := 1) (i := x11) (k := .i64) Try.underlying43 e24 (by kernel_rfl) (by kernel_rfl) (by kernel_rfl) q21 q20) ?_
    refine lv (d := 21) rfl rfl (by kernel_rfl) (e_load1 (ad := ⟨b22, o23 + (x11 : Int).toNat * 1, none⟩) (v := .slice A28 (x1.getD ((x11).toNat) ([] : List Cell)).length c29) Try.underlying22 rfl (by kernel_rfl) (hpx (S15.inv.cell (k27 0 _ rfl)))) ?_
    refine lv (d := 22) rfl rfl (by kernel_rfl) (e_move (v := .int .i64 x10) (by exact e13)) ?_
    obtain ⟨t32, u33, M⟩ := bnd M
    refine lcall (d := 23) rfl rfl (by kernel_rfl) (e_call (l := [.tmp 21, .tmp 22]) (vs := [.slice A28 (x1.getD ((x11).toNat) ([] : List Cell)).length c29, .int .i64 x10]) Try.func14 (by kernel_rfl) rfl (by kernel_rfl) rfl) (laws_szCellS.calls k19 w8 H (x1.getD ((x11).toNat) ([] : List Cell)) A28 c29 x10 h31 l30 S15.own0 t32 u33) ?_
    rintro _ w34 ⟨rfl, C35⟩
    refine ⟨_, rfl, ?_⟩
    obtain ⟨S36, K37⟩ := S15.still C35
    refine lv (d := 1) rfl rfl (by kernel_rfl) (e_assign (v := .int .i64 t32) (by kernel_rfl)) ?_
    refine wpList_nil ?_
    refine then_n ?_
    refine wp_seq ?_
    refine wp_region_lit ?_
    refine lv (d := 24) rfl rfl (by kernel_rfl) (e_move (v := .int .i64 t32) (by kernel_rfl)) ?_
    refine lv (d := 25) rfl rfl (by kernel_rfl) (e_lss (k := .i64) (a := t32) (b := 0) (by kernel_rfl) rfl) ?_
    refine wpList_nil ?_
    refine then_n ?_
    by_cases q38 : t32 < 0
    · replace M := ifp q38 M
      refine cond_t rfl (bt q38 (by kernel_rfl)) ?_
      refine wp_seq ?_
      refine wp_region_lit ?_
      refine lv (d := 4) rfl rfl (by kernel_rfl) (e_assign (v := .int .i64 (-1)) rfl) ?_
      refine wpList_nil ?_
      refine then_n ?_
      refine wp_ret ?_
      refine inb_r ?_
      refine then_r ?_
      refine then_r ?_
      refine inb_r ?_
      refine then_r ?_
      obtain rfl := Option.some.inj M
      exact ret1 rfl rfl  (show _ = .int .i64 (-1) from (by kernel_rfl)) ⟨rfl, S36.chg⟩
    replace M := ifn q38 M
    refine cond_f rfl (bf q38 (by kernel_rfl)) ?_
    refine wp_skip ?_
    refine inb_n ?_
    refine then_n ?_
    refine wp_region_lit ?_
    refine lv (d := 16) rfl rfl (by kernel_rfl) (e_move (v := .int .i64 x11) (by exact e14)) ?_
    refine lv (d := 17) rfl rfl (by kernel_rfl) (e_add (k := .i64) (a := x11) (b := 1) (by kernel_rfl) rfl) ?_
    refine lv (d := 5) rfl rfl (by kernel_rfl) (e_assign (v := .int .i64 (IntKind.i64.wrap (x11 + 1))) (by kernel_rfl)) ?_
    refine wpList_nil ?_
    refine then_n ?_
    exact ⟨k19, (by omega), _, t32, (IntKind.i64.wrap (x11 + 1)), rfl, (by exact e12), (by kernel_rfl), (by kernel_rfl), S36, M⟩
  replace M := ifn q20 M
  refine cond_f rfl (bf q20 (by kernel_rfl)) ?_
  refine wp_exit ?_
  refine then_e ?_
  refine then_e ?_
  refine inb_hit ?_
  refine then_n ?_
  refine wp_seq ?_
  refine wp_region_lit ?_
  refine lv (d := 26) rfl rfl (by kernel_rfl) (e_move (v := .int .i64 x10) (by exact e13)) ?_
  refine lv (d := 4) rfl rfl (by kernel_rfl) (e_assign (v := .int .i64 x10) (by kernel_rfl)) ?_
  refine wpList_nil ?_
  refine then_n ?_
  refine wp_ret ?_
  obtain rfl := Option.some.inj M
  exact ret1 rfl rfl  (show _ = .int .i64 x10 from (by kernel_rfl)) ⟨rfl, S15.chg⟩

/-! laws_toByteS -/
def st65 : Ty Cell := iso (pair tInt (pair tInt sl5)) (fun x => (x.kind, x.n, x.text))
theorem st65_open {H : Hp} {x : Cell} {cs : List Value} (h : st65.R H x cs) : ∃ (A2 : Option Addr) (c2 : Nat), cs = [.int .i64 x.kind, .int .i64 x.n, .slice A2 x.text.length c2] ∧ x.text.length ≤ c2 ∧ Rd tByte H A2 x.text := by
  obtain ⟨_, _, rfl, rfl, ⟨_, _, rfl, rfl, ⟨A2, c2, rfl, l2, h2⟩⟩⟩ := h
  exact ⟨A2, c2, rfl, l2, h2⟩
theorem st65_mkR {H : Hp} {x : Cell} {A2 : Option Addr} {c2 : Nat} (l2 : x.text.length ≤ c2) (h2 : Rd tByte H A2 x.text) : st65.R H x [.int .i64 x.kind, .int .i64 x.n, .slice A2 x.text.length c2] := ⟨[.int .i64 x.kind], [.int .i64 x.n, .slice A2 x.text.length c2], rfl, rfl, ⟨[.int .i64 x.n], [.slice A2 x.text.length c2], rfl, rfl, ⟨A2, c2, rfl, l2, h2⟩⟩⟩
theorem st65_mkO {H X : Hp} {F2 : Foot} {x : Cell} {A2 : Option Addr} {c2 : Nat} (h2 : Row tByte 5 H X F2 A2 c2 x.text) : st65.O H X F2 x [.int .i64 x.kind, .int .i64 x.n, .slice A2 x.text.length c2] := (pairO0 (a := tInt) (b := (pair tInt sl5)) (x := (x.kind, (x.n, x.text))) (c0 := [.int .i64 x.kind]) (c1 := [.int .i64 x.n, .slice A2 x.text.length c2]) rfl (pairO0 (a := tInt) (b := sl5) (x := (x.n, x.text)) (c0 := [.int .i64 x.n]) (c1 := [.slice A2 x.text.length c2]) rfl ⟨A2, c2, rfl, h2⟩))
theorem st65_openO {H X : Hp} {F : Foot} {x : Cell} {cs : List Value} (h : st65.O H X F x cs) : ∃ (A2 : Option Addr) (c2 : Nat) (F2 : Foot), cs = [.int .i64 x.kind, .int .i64 x.n, .slice A2 x.text.length c2] ∧ Row tByte 5 H X F2 A2 c2 x.text ∧ (∀ b, F2 b → F b) := by
  obtain ⟨_, _, K1, L1, rfl, rfl, ⟨_, _, K0, L0, rfl, rfl, ⟨A2, c2, rfl, h2⟩, d0, s0⟩, d1, s1⟩ := h
  exact ⟨A2, c2, _, rfl, h2, fun b hb => s1 b (.inr (s0 b (.inr (hb))))⟩
theorem st65_c0 {H X : Hp} {F : Foot} {x : Cell} {cs : List Value} (h : st65.O H X F x cs) : cs[0]? = some (.int .i64 x.kind) := by obtain ⟨_, _, _, rfl, _, _⟩ := st65_openO h; rfl
theorem st65_r0 {H : Hp} {x : Cell} {cs : List Value} (h : st65.R H x cs) : cs[0]? = some (.int .i64 x.kind) := by obtain ⟨_, _, rfl, _, _⟩ := st65_open h; rfl
theorem st65_c1 {H X : Hp} {F : Foot} {x : Cell} {cs : List Value} (h : st65.O H X F x cs) : cs[1]? = some (.int .i64 x.n) := by obtain ⟨_, _, _, rfl, _, _⟩ := st65_openO h; rfl
theorem st65_r1 {H : Hp} {x : Cell} {cs : List Value} (h : st65.R H x cs) : cs[1]? = some (.int .i64 x.n) := by obtain ⟨_, _, rfl, _, _⟩ := st65_open h; rfl
theorem st65_u0 {H X : Hp} {F1 F2 : Foot} {x : Cell} (y : Int) {cs : List Value} (h : st65.O H X F1 x cs) : st65.O H X (or2 F1 F2) {x with kind := y} (cs.take 0 ++ [.int .i64 y] ++ cs.drop 1) := by
  obtain ⟨_, _, _, rfl, h2, s2⟩ := st65_openO h
  exact st65_mkO (x := {x with kind := y}) (h2.mono fun b hb => .inl (s2 b hb))
theorem st65_u1 {H X : Hp} {F1 F2 : Foot} {x : Cell} (y : Int) {cs : List Value} (h : st65.O H X F1 x cs) : st65.O H X (or2 F1 F2) {x with n := y} (cs.take 1 ++ [.int .i64 y] ++ cs.drop 2) := by
  obtain ⟨_, _, _, rfl, h2, s2⟩ := st65_openO h
  exact st65_mkO (x := {x with n := y}) (h2.mono fun b hb => .inl (s2 b hb))
theorem st65_u2 {H X : Hp} {F1 F2 : Foot} {x : Cell} {y : List UInt8} {A : Option Addr} {c : Nat} {cs : List Value} (hy : Row tByte 5 H X F2 A c y) (h : st65.O H X F1 x cs) : st65.O H X (or2 F1 F2) {x with text := y} (cs.take 2 ++ [.slice A y.length c] ++ cs.drop 3) := by
  obtain ⟨_, _, _, rfl, h2, _⟩ := st65_openO h
  exact st65_mkO (x := {x with text := y}) (hy.mono fun b hb => .inr hb)
def z65 : Cell := ⟨(0 : Int), (0 : Int), ([] : List UInt8)⟩
theorem z65_O (H X : Hp) : st65.O H X no z65 [.int .i64 (0 : Int), .int .i64 (0 : Int), .slice none 0 0] := st65_mkO (x := z65) (Row.nil _ _ _ _ no)
theorem z65_R (H : Hp) : st65.R H z65 [.int .i64 (0 : Int), .int .i64 (0 : Int), .slice none 0 0] := st65_mkR (x := z65) (Nat.le_refl _) (Rd.nil _ _ _)
def sl65 : Ty (List Cell) := slice 65 st65 (by decide)
def laws_toByteS.l0 : Nat → (List UInt8) → Int → (List UInt8) → Option (List UInt8)
  | 0, _, _, _ => none
  | k28 + 1, x1, x17, x19 => (if x17 < (x1.length : Int) then (if 0 ≤ x17 then (if x17 < (((x1.length : Int)).toNat : Int) then (laws_toByteS.l0 k28 x1 (IntKind.i64.wrap (x17 + 1)) (x19.set ((x17).toNat) (x1.getD ((x17).toNat) (0 : UInt8)))) else none) else none) else some x19)
def laws_toByteS.f (k : Nat) (x1 : List UInt8) : Option (List UInt8) := (if 0 ≤ (x1.length : Int) then (if ((x1.length : Int)).toNat ≤ 281474976710656 then (laws_toByteS.l0 k x1 0 (List.replicate ((x1.length : Int)).toNat (0 : UInt8))) else none) else none)
theorem laws_toByteS.calls (k : Nat) (w : World) (H : Hp) (x1 : List UInt8) (A2 : Option Addr) (c3 : Nat) (h4 : Rd tByte H A2 x1) (l5 : x1.length ≤ c3) (S : Own [] H w) (r : List UInt8) (M : laws_toByteS.f k x1 = some r) :
    Calls Try.prog 103 #[.slice A2 x1.length c3] w (fun e e_w => ∃ (A_1 : Option Addr) (c_1 : Nat) (F_1 : Foot) (H_ : Hp), e = .returned (.slice A_1 r.length c_1) ∧ Row tByte 5 H_ (hp e_w) F_1 A_1 c_1 r ∧ St (anyOf []) H w [F_1] H_ e_w) := by
  rw [laws_toByteS.f] at M
  refine enter (l := [.slice A2 x1.length c3]) 22 Try.func103 rfl rfl rfl ?_
  have S0_ := S.st
  refine wp_seq ?_
  refine wp_region_lit ?_
  refine lv (d := 2) rfl rfl (by kernel_rfl) (e_assign (v := .slice none 0 0) rfl) ?_
  refine wpList_nil ?_
  refine then_n ?_
  refine wp_seq ?_
  refine wp_region_lit ?_
  refine lv (d := 5) rfl rfl (by kernel_rfl) (e_move (v := .slice A2 x1.length c3) (by kernel_rfl)) ?_
  refine lv (d := 6) rfl rfl (by kernel_rfl) (e_len (A := A2) (n := x1.length) (c := c3) Try.underlying59 (by kernel_rfl)) ?_
  obtain ⟨q6, M⟩ := chk M
  obtain ⟨q7, M⟩ := chk M
  refine lve (d := 7) rfl rfl (by kernel_rfl) (e_make (d := tByte) (k := .i64) (k2 := .i64) (n := (x1.length : Int)) (z := .int .u8 0) (zx := (0 : UInt8)) (bytes := 1) S0_ Try.underlying59 (by kernel_rfl) rfl (by decide) (fun _ => rfl) (by kernel_rfl) (by kernel_rfl) q6 (by omega) (by omega)) ?_
  rintro _ w8 ⟨A9, c10, F11, rfl, h12, S13, K14⟩
  refine lv (d := 3) rfl rfl (by kernel_rfl) (e_assign (v := .slice A9 (((x1.length : Int)).toNat) c10) (by kernel_rfl)) ?_
  refine wpList_nil ?_
  refine then_n ?_
  refine wp_seq ?_
  refine wp_seq ?_
  refine wp_region_lit ?_
  refine lv (d := 4) rfl rfl (by kernel_rfl) (e_assign (v := .int .i64 0) rfl) ?_
  refine wpList_nil ?_
  refine then_n ?_
  refine wp_block ?_
  refine wp_loop_g (fun k26 a27 w15 => ∃ (f16 : Nat → Value) (x17 : Int) (F18 : Foot) (x19 : List UInt8), a27 = mk 22 f16 ∧ f16 0 = .slice A2 x1.length c3 ∧ f16 3 = .slice A9 (((x1.length : Int)).toNat) c10 ∧ f16 4 = .int .i64 x17 ∧ Row tByte 5 H (hp w15) F18 A9 c10 x19 ∧ x19.length = ((x1.length : Int)).toNat ∧ St (anyOf []) H w [F18] H w15 ∧ laws_toByteS.l0 k26 x1 x17 x19 = some r) k ⟨_, 0, F11, (List.replicate ((x1.length : Int)).toNat (0 : UInt8)), rfl, (by kernel_rfl), (by kernel_rfl), (by kernel_rfl), h12, List.length_replicate, S13, M⟩ ?_
  clear M
  rintro k26 a27 w15 ⟨f16, x17, F18, x19, rfl, e21, e22, e23, h12, n20, S24, M⟩
  rcases k26 with _ | k28
  · rw [laws_toByteS.l0] at M
    cases M
  rw [laws_toByteS.l0] at M
  refine wp_seq ?_
  refine wp_seq ?_
  refine wp_region_lit ?_
  refine lv (d := 8) rfl rfl (by kernel_rfl) (e_move (v := .int .i64 x17) (by exact e23)) ?_
  refine lv (d := 9) rfl rfl (by kernel_rfl) (e_move (v := .slice A2 x1.length c3) (by exact e21)) ?_
  refine lv (d := 10) rfl rfl (by kernel_rfl) (e_len (A := A2) (n := x1.length) (c := c3) Try.underlying59 (by kernel_rfl)) ?_
  refine lv (d := 11) rfl rfl (by kernel_rfl) (e_lss (k := .i64) (a := x17) (b := (x1.length : Int)) (by kernel_rfl) (by kernel_rfl)) ?_
  refine wpList_nil ?_
  refine then_n ?_
  by_cases q29 : x17 < (x1.length : Int)
  · replace M := ifp q29 M
    refine cond_t rfl (bt q29 (by kernel_rfl)) ?_
    refine wp_skip ?_
    refine then_n ?_
    refine wp_seq ?_
    refine wp_block ?_
    refine wp_region_lit ?_
    refine lv (d := 14) rfl rfl (by kernel_rfl) (e_move (v := .slice A9 (((x1.length : Int)).toNat) c10) (by exact e22)) ?_
    refine lv (d := 15) rfl rfl (by kernel_rfl) (e_move (v := .int .i64 x17) (by exact e23)) ?_
    refine lv (d := 16) rfl rfl (by kernel_rfl) (e_move (v := .slice A2 x1.length c3) (by exact e21)) ?_
    refine lv (d := 17) rfl rfl (by kernel_rfl) (e_move (v := .int .i64 x17) (by exact e23)) ?_
    obtain ⟨q30, M⟩ := chk M
    obtain ⟨b31, o32, e33⟩ := Rd.addr h4 (show (x17).toNat < x1.length by omega)
    obtain ⟨y34, r35, k36⟩ := Rd.at h4 e33 (getD_some (0 : UInt8) (show (x17).toNat < x1.length by omega))
    obtain rfl := r35
    refine lv (d := 18) rfl rfl (by kernel_rfl) (e_indexAddr (b := b31) (off := o32) (n := x1.length) (c := c3) (sz := 1) (i := x17) (k := .i64) Try.underlying59 e33 (by kernel_rfl) (by kernel_rfl) (by kernel_rfl) q30 q29) ?_
    refine lv (d := 19) rfl rfl (by kernel_rfl) (e_load1 (ad := ⟨b31, o32 + (x17 : Int).toNat * 1, none⟩) (v := .int .u8 ((x1.getD ((x17).toNat) (0 : UInt8)).toNat : Int)) Try.underlying5 rfl (by kernel_rfl) (hpx (S24.inv.cell (k36 0 _ rfl)))) ?_
    obtain ⟨q37, M⟩ := chk M
    obtain ⟨b38, e40⟩ := Row.addr h12 (show (x17).toNat < x19.length by have : x19.length = ((x1.length : Int)).toNat := n20; omega)
    refine lv (d := 20) rfl rfl (by kernel_rfl) (e_indexAddr (b := b38) (off := 0) (n := ((x1.length : Int)).toNat) (c := c10) (sz := 1) (i := x17) (k := .i64) Try.underlying59 e40 (by kernel_rfl) (by kernel_rfl) (by kernel_rfl) q30 q37) ?_
    have S41 := S24.unit
    have S42 := S41.pull (F := F18) (Fr := [no]) 1 rfl rfl
    refine lse rfl rfl (by kernel_rfl) (e_setel (d := tByte) (b := b38) (i := (x17).toNat) (v := .int .u8 ((x1.getD ((x17).toNat) (0 : UInt8)).toNat : Int)) (vs := [.int .u8 ((x1.getD ((x17).toNat) (0 : UInt8)).toNat : Int)]) (yv := (x1.getD ((x17).toNat) (0 : UInt8))) S42 (by kernel_rfl) e40 (by kernel_rfl) rfl (by kernel_rfl) h12 (show (x17).toNat < x19.length by have : x19.length = ((x1.length : Int)).toNat := n20; omega) rfl) ?_
    rintro w43 ⟨F45, h44, S46, K47⟩
    clear h12
    refine wpList_nil ?_
    refine inb_n ?_
    refine then_n ?_
    refine wp_region_lit ?_
    refine lv (d := 12) rfl rfl (by kernel_rfl) (e_move (v := .int .i64 x17) (by exact e23)) ?_
    refine lv (d := 13) rfl rfl (by kernel_rfl) (e_add (k := .i64) (a := x17) (b := 1) (by kernel_rfl) rfl) ?_
    refine lv (d := 4) rfl rfl (by kernel_rfl) (e_assign (v := .int .i64 (IntKind.i64.wrap (x17 + 1))) (by kernel_rfl)) ?_
    refine wpList_nil ?_
    refine then_n ?_
    exact ⟨k28, (by omega), _, (IntKind.i64.wrap (x17 + 1)), F45, (x19.set ((x17).toNat) (x1.getD ((x17).toNat) (0 : UInt8))), rfl, (by exact e21), (by exact e22), (by kernel_rfl), h44, (List.length_set.trans n20), S46, M⟩
  replace M := ifn q29 M
  refine cond_f rfl (bf q29 (by kernel_rfl)) ?_
  refine wp_exit ?_
  refine then_e ?_
  refine then_e ?_
  refine inb_hit ?_
  refine then_n ?_
  refine wp_seq ?_
  refine wp_region_lit ?_
  refine lv (d := 21) rfl rfl (by kernel_rfl) (e_move (v := .slice A9 (((x1.length : Int)).toNat) c10) (by exact e22)) ?_
  refine lv (d := 2) rfl rfl (by kernel_rfl) (e_assign (v := .slice A9 (((x1.length : Int)).toNat) c10) (by kernel_rfl)) ?_
  refine wpList_nil ?_
  refine then_n ?_
  refine wp_ret ?_
  obtain rfl := Option.some.inj M
  exact ret1 rfl rfl  (show _ = .slice A9 (((x1.length : Int)).toNat) c10 from (by kernel_rfl)) ⟨A9, c10, F18, H, (by rw [(show x19.length = ((x1.length : Int)).toNat from n20)]), h12, S24⟩

/-! laws_toCell -/
def laws_toCell.f (k : Nat) (x1 : Cell) : Option Cell := ((laws_toByteS.f k x1.text).bind fun t29 => some (⟨x1.kind, x1.n, t29⟩ : Cell))
theorem laws_toCell.calls (k : Nat) (w : World) (H : Hp) (x1 : Cell) (A2 : Option Addr) (c3 : Nat) (h4 : Rd tByte H A2 x1.text) (l5 : x1.text.length ≤ c3) (S : Own [] H w) (r : Cell) (M : laws_toCell.f k x1 = some r) :
    Calls Try.prog 57 #[.agg #[.int .i64 x1.kind, .int .i64 x1.n, .slice A2 x1.text.length c3]] w (fun e e_w => ∃ (A_1 : Option Addr) (c_1 : Nat) (F_1 : Foot) (H_ : Hp), e = .returned (.agg #[.int .i64 r.kind, .int .i64 r.n, .slice A_1 r.text.length c_1]) ∧ Row tByte 5 H_ (hp e_w) F_1 A_1 c_1 r.text ∧ St (anyOf []) H w [F_1] H_ e_w) := by
  rw [laws_toCell.f] at M
  refine enter (l := [.agg #[.int .i64 x1.kind, .int .i64 x1.n, .slice A2 x1.text.length c3]]) 15 Try.func57 rfl rfl rfl ?_
  have S0_ := S.st
  refine wp_seq ?_
  refine wp_region_lit ?_
  refine lve (d := 1) rfl rfl (by kernel_rfl) (new_blk (v := fun g_ => .pointer (some ⟨g_, 0, none⟩)) (cs := #[.int .i64 x1.kind, .int .i64 x1.n, .slice A2 x1.text.length c3]) (t := 68) S0_ (by kernel_rfl)) ?_
  rintro _ w6 ⟨g7, rfl, b8, S9, K10⟩
  refine lve (d := 2) rfl rfl (by kernel_rfl) (new_blk (v := fun g_ => .pointer (some ⟨g_, 0, none⟩)) (cs := #[.int .i64 0, .int .i64 0, .slice none 0 0]) (t := 65) S9 (by kernel_rfl)) ?_
  rintro _ w11 ⟨g12, rfl, b13, S14, K15⟩
  replace b8 := K15.blk 0 rfl b8
  refine wpList_nil ?_
  refine then_n ?_
  refine wp_seq ?_
  refine wp_region_lit ?_
  refine lve (d := 3) rfl rfl (by kernel_rfl) (new_blk (v := fun g_ => .pointer (some ⟨g_, 0, none⟩)) (cs := #[.int .i64 0, .int .i64 0, .slice none 0 0]) (t := 65) S14 (by kernel_rfl)) ?_
  rintro _ w16 ⟨g17, rfl, b18, S19, K20⟩
  replace b13 := K20.blk 0 rfl b13
  replace b8 := K20.blk 1 rfl b8
  refine wpList_nil ?_
  refine then_n ?_
  refine wp_seq ?_
  refine wp_region_lit ?_
  refine lv (d := 4) rfl rfl (by kernel_rfl) (e_fieldAddr (b := g7) (off := 0) (o := 0) Try.underlying68 rfl rfl (sz := 1) (by kernel_rfl) (by decide) (by kernel_rfl)) ?_
  refine lv (d := 5) rfl rfl (by kernel_rfl) (e_load1 (ad := ⟨g7, 0 + 0, none⟩) (v := .int .i64 x1.kind) Try.underlying3 rfl (by kernel_rfl) (blk_cell b8 rfl)) ?_
  refine lv (d := 6) rfl rfl (by kernel_rfl) (e_fieldAddr (b := g17) (off := 0) (o := 0) Try.underlying65 rfl rfl (sz := 1) (by kernel_rfl) (by decide) (by kernel_rfl)) ?_
  refine lse rfl rfl (by kernel_rfl) (e_store (g := g17) (o := 0 + 0) (v := .int .i64 x1.kind) (cur' := #[.int .i64 x1.kind, .int .i64 0, .slice none 0 0]) (vs := [.int .i64 x1.kind]) S19 (by kernel_rfl) (by kernel_rfl) rfl (by kernel_rfl) b18 (Nat.le_of_ble_eq_true rfl) (List.forall_mem_cons.2 ⟨rfl, (fun _ h_ => by cases h_)⟩) rfl) ?_
  rintro w21 ⟨b22, S23, K24⟩
  replace b13 := K24.blk 0 rfl b13
  replace b8 := K24.blk 1 rfl b8
  clear b18
  refine wpList_nil ?_
  refine then_n ?_
  refine wp_seq ?_
  refine wp_region_lit ?_
  refine lv (d := 7) rfl rfl (by kernel_rfl) (e_fieldAddr (b := g7) (off := 0) (o := 1) Try.underlying68 rfl rfl (sz := 1) (by kernel_rfl) (by decide) (by kernel_rfl)) ?_
  refine lv (d := 8) rfl rfl (by kernel_rfl) (e_load1 (ad := ⟨g7, 0 + 1, none⟩) (v := .int .i64 x1.n) Try.underlying3 rfl (by kernel_rfl) (blk_cell b8 rfl)) ?_
  refine lv (d := 9) rfl rfl (by kernel_rfl) (e_fieldAddr (b := g17) (off := 0) (o := 1) Try.underlying65 rfl rfl (sz := 1) (by kernel_rfl) (by decide) (by kernel_rfl)) ?_
  refine lse rfl rfl (by kernel_rfl) (e_store (g := g17) (o := 0 + 1) (v := .int .i64 x1.n) (cur' := #[.int .i64 x1.kind, .int .i64 x1.n, .slice none 0 0]) (vs := [.int .i64 x1.n]) S23 (by kernel_rfl) (by kernel_rfl) rfl (by kernel_rfl) b22 (Nat.le_of_ble_eq_true rfl) (List.forall_mem_cons.2 ⟨rfl, (fun _ h_ => by cases h_)⟩) rfl) ?_
  rintro w25 ⟨b26, S27, K28⟩
  replace b13 := K28.blk 0 rfl b13
  replace b8 := K28.blk 1 rfl b8
  clear b22
  refine wpList_nil ?_
  refine then_n ?_
  refine wp_seq ?_
  refine wp_region_lit ?_
  refine lv (d := 10) rfl rfl (by kernel_rfl) (e_fieldAddr (b := g7) (off := 0) (o := 2) Try.underlying68 rfl rfl (sz := 1) (by kernel_rfl) (by decide) (by kernel_rfl)) ?_
  refine lv (d := 11) rfl rfl (by kernel_rfl) (e_load1 (ad := ⟨g7, 0 + 2, none⟩) (v := .slice A2 x1.text.length c3) Try.underlying59 rfl (by kernel_rfl) (blk_cell b8 rfl)) ?_
  obtain ⟨t29, u30, M⟩ := bnd M
  refine lcall (d := 12) rfl rfl (by kernel_rfl) (e_call (l := [.tmp 11]) (vs := [.slice A2 x1.text.length c3]) Try.func103 (by kernel_rfl) rfl (by kernel_rfl) rfl) (laws_toByteS.calls k w25 H x1.text A2 c3 h4 l5 (St.own' (Fa := []) (Fr := [(is g17), (is g12), (is g7)]) S27) t29 u30) ?_
  rintro _ w31 ⟨A34, c35, F37, H32, rfl, h36, T33⟩
  refine ⟨_, rfl, ?_⟩
  obtain ⟨S38, K39⟩ := St.call (Fa := []) (Fr := [(is g17), (is g12), (is g7)]) S27 T33
  replace b26 := K39.blk 0 rfl b26
  replace b13 := K39.blk 1 rfl b13
  replace b8 := K39.blk 2 rfl b8
  have E40 := T33.ext
  refine lv (d := 13) rfl rfl (by kernel_rfl) (e_fieldAddr (b := g17) (off := 0) (o := 2) Try.underlying65 rfl rfl (sz := 1) (by kernel_rfl) (by decide) (by kernel_rfl)) ?_
  have S41 := S38.pull (F := (is g17)) (Fr := [F37, (is g12), (is g7)]) 1 rfl rfl
  refine lse rfl rfl (by kernel_rfl) (e_store (g := g17) (o := 0 + 2) (v := .slice A34 t29.length c35) (cur' := #[.int .i64 x1.kind, .int .i64 x1.n, .slice A34 t29.length c35]) (vs := [.slice A34 t29.length c35]) S41 (by kernel_rfl) (by kernel_rfl) rfl (by kernel_rfl) b26 (Nat.le_of_ble_eq_true rfl) (List.forall_mem_cons.2 ⟨rfl, (fun _ h_ => by cases h_)⟩) rfl) ?_
  rintro w42 ⟨b43, S44, K45⟩
  replace h36 := h36.move (K45.at 0 rfl)
  replace b13 := K45.blk 1 rfl b13
  replace b8 := K45.blk 2 rfl b8
  clear b26
  refine wpList_nil ?_
  refine then_n ?_
  refine wp_seq ?_
  refine wp_region_lit ?_
  refine lv (d := 14) rfl rfl (by kernel_rfl) (e_loadS (b := g17) (off := 0) (cs := [.int .i64 x1.kind, .int .i64 x1.n, .slice A34 t29.length c35]) Try.underlying65 rfl (by kernel_rfl) (by kernel_rfl) (blk_cells b43 rfl)) ?_
  have S46 := S44.pull (F := (is g12)) (Fr := [(is g17), F37, (is g7)]) 2 rfl rfl
  refine lse rfl rfl (by kernel_rfl) (e_store (g := g12) (o := 0) (v := .agg #[.int .i64 x1.kind, .int .i64 x1.n, .slice A34 t29.length c35]) (cur' := #[.int .i64 x1.kind, .int .i64 x1.n, .slice A34 t29.length c35]) (vs := [.int .i64 x1.kind, .int .i64 x1.n, .slice A34 t29.length c35]) S46 (by kernel_rfl) (by kernel_rfl) rfl (by kernel_rfl) b13 (Nat.le_of_ble_eq_true rfl) (List.forall_mem_cons.2 ⟨rfl, (List.forall_mem_cons.2 ⟨rfl, (List.forall_mem_cons.2 ⟨rfl, (fun _ h_ => by cases h_)⟩)⟩)⟩) rfl) ?_
  rintro w47 ⟨b48, S49, K50⟩
  replace b43 := K50.blk 0 rfl b43
  replace h36 := h36.move (K50.at 1 rfl)
  replace b8 := K50.blk 2 rfl b8
  clear b13
  refine wpList_nil ?_
  refine then_n ?_
  refine wp_ret ?_
  obtain rfl := Option.some.inj M
  have S51 := S49.pull (F := F37) (Fr := [(is g12), (is g17), (is g7)]) 2 rfl rfl
  have S52 := St.first (Fa := [F37]) (Fr := [(is g12), (is g17), (is g7)]) S51
  exact retS (ty := 65) (cur := #[.int .i64 x1.kind, .int .i64 x1.n, .slice A34 t29.length c35]) rfl rfl (by kernel_rfl) b48 Try.underlying65 rfl (by kernel_rfl) ⟨A34, c35, F37, H32, rfl, h36, S52⟩

/-! laws_toCellS -/
def laws_toCellS.l0 : Nat → (List Cell) → Int → (List Cell) → Option (List Cell)
  | 0, _, _, _ => none
  | k30 + 1, x1, x19, x21 => (if x19 < (x1.length : Int) then (if 0 ≤ x19 then ((laws_toCell.f k30 (x1.getD ((x19).toNat) z68)).bind fun t43 => (if x19 < (((x1.length : Int)).toNat : Int) then (laws_toCellS.l0 k30 x1 (IntKind.i64.wrap (x19 + 1)) (x21.set ((x19).toNat) t43)) else none)) else none) else some x21)
def laws_toCellS.f (k : Nat) (x1 : List Cell) : Option (List Cell) := (if 0 ≤ (x1.length : Int) then (if ((x1.length : Int)).toNat ≤ 7036874417766 then (laws_toCellS.l0 k x1 0 (List.replicate ((x1.length : Int)).toNat z65)) else none) else none)
theorem laws_toCellS.calls (k : Nat) (w : World) (H : Hp) (x1 : List Cell) (A2 : Option Addr) (c3 : Nat) (h4 : Rd st68 H A2 x1) (l5 : x1.length ≤ c3) (S : Own [] H w) (r : List Cell) (M : laws_toCellS.f k x1 = some r) :
    Calls Try.prog 16 #[.slice A2 x1.length c3] w (fun e e_w => ∃ (A_1 : Option Addr) (c_1 : Nat) (F_1 : Foot) (H_ : Hp), e = .returned (.slice A_1 r.length c_1) ∧ Row st65 65 H_ (hp e_w) F_1 A_1 c_1 r ∧ St (anyOf []) H w [F_1] H_ e_w) := by
  rw [laws_toCellS.f] at M
  refine enter (l := [.slice A2 x1.length c3]) 23 Try.func16 rfl rfl rfl ?_
  have S0_ := S.st
  refine wp_seq ?_
  refine wp_region_lit ?_
  refine lv (d := 2) rfl rfl (by kernel_rfl) (e_assign (v := .slice none 0 0) rfl) ?_
  refine wpList_nil ?_
  refine then_n ?_
  refine wp_seq ?_
  refine wp_region_lit ?_
  refine lv (d := 5) rfl rfl (by kernel_rfl) (e_move (v := .slice A2 x1.length c3) (by kernel_rfl)) ?_
  refine lv (d := 6) rfl rfl (by kernel_rfl) (e_len (A := A2) (n := x1.length) (c := c3) Try.underlying22 (by kernel_rfl)) ?_
  obtain ⟨q6, M⟩ := chk M
  obtain ⟨q7, M⟩ := chk M
  refine lve (d := 7) rfl rfl (by kernel_rfl) (e_make (d := st65) (k := .i64) (k2 := .i64) (n := (x1.length : Int)) (z := .agg #[.int .i64 0, .int .i64 0, .slice none 0 0]) (zx := z65) (bytes := 40) S0_ Try.underlying25 (by kernel_rfl) rfl (by decide) (z65_O _) (by kernel_rfl) (by kernel_rfl) q6 (by omega) (by omega)) ?_
  rintro _ w8 ⟨A9, c10, F11, rfl, h12, S13, K14⟩
  refine lv (d := 3) rfl rfl (by kernel_rfl) (e_assign (v := .slice A9 (((x1.length : Int)).toNat) c10) (by kernel_rfl)) ?_
  refine wpList_nil ?_
  refine then_n ?_
  refine wp_seq ?_
  refine wp_seq ?_
  refine wp_region_lit ?_
  refine lv (d := 4) rfl rfl (by kernel_rfl) (e_assign (v := .int .i64 0) rfl) ?_
  refine wpList_nil ?_
  refine then_n ?_
  refine wp_block ?_
  refine wp_loop_g (fun k28 a29 w15 => ∃ (f16 : Nat → Value) (H17 : Hp) (x19 : Int) (F20 : Foot) (x21 : List Cell), a29 = mk 23 f16 ∧ f16 0 = .slice A2 x1.length c3 ∧ f16 3 = .slice A9 (((x1.length : Int)).toNat) c10 ∧ f16 4 = .int .i64 x19 ∧ Row st65 65 H17 (hp w15) F20 A9 c10 x21 ∧ x21.length = ((x1.length : Int)).toNat ∧ Ext H H17 ∧ St (anyOf []) H w [F20] H17 w15 ∧ laws_toCellS.l0 k28 x1 x19 x21 = some r) k ⟨_, H, 0, F11, (List.replicate ((x1.length : Int)).toNat z65), rfl, (by kernel_rfl), (by kernel_rfl), (by kernel_rfl), h12, List.length_replicate, (Ext.refl _), S13, M⟩ ?_
  clear M
  rintro k28 a29 w15 ⟨f16, H17, x19, F20, x21, rfl, e23, e24, e25, h12, n22, Y18, S26, M⟩
  rcases k28 with _ | k30
  · rw [laws_toCellS.l0] at M
    cases M
  rw [laws_toCellS.l0] at M
  refine wp_seq ?_
  refine wp_seq ?_
  refine wp_region_lit ?_
  refine lv (d := 8) rfl rfl (by kernel_rfl) (e_move (v := .int .i64 x19) (by exact e25)) ?_
  refine lv (d := 9) rfl rfl (by kernel_rfl) (e_move (v := .slice A2 x1.length c3) (by exact e23)) ?_
  refine lv (d := 10) rfl rfl (by kernel_rfl) (e_len (A := A2) (n := x1.length) (c := c3) Try.underlying22 (by kernel_rfl)) ?_
  refine lv (d := 11) rfl rfl (by kernel_rfl) (e_lss (k := .i64) (a := x19) (b := (x1.length : Int)) (by kernel_rfl) (by kernel_rfl)) ?_
  refine wpList_nil ?_
  refine then_n ?_
  by_cases q31 : x19 < (x1.length : Int)
  · replace M := ifp q31 M
    refine cond_t rfl (bt q31 (by kernel_rfl)) ?_
    refine wp_skip ?_
    refine then_n ?_
    refine wp_seq ?_
    refine wp_block ?_
    refine wp_region_lit ?_
    refine lv (d := 14) rfl rfl (by kernel_rfl) (e_move (v := .slice A9 (((x1.length : Int)).toNat) c10) (by exact e24)) ?_
    refine lv (d := 15) rfl rfl (by kernel_rfl) (e_move (v := .int .i64 x19) (by exact e25)) ?_
    refine lv (d := 16) rfl rfl (by kernel_rfl) (e_move (v := .slice A2 x1.length c3) (by exact e23)) ?_
    refine lv (d := 17) rfl rfl (by kernel_rfl) (e_move (v := .int .i64 x19) (by exact e25)) ?_
    obtain ⟨q32, M⟩ := chk M
    obtain ⟨b33, o34, e35⟩ := Rd.addr h4 (show (x19).toNat < x1.length by omega)
    obtain ⟨y36, r37, k38⟩ := Rd.at h4 e35 (getD_some z68 (show (x19).toNat < x1.length by omega))
    obtain ⟨A39, c40, rfl, l41, h42⟩ := st68_open r37
    refine lv (d := 18) rfl rfl (by kernel_rfl) (e_indexAddr (b := b33) (off := o34) (n := x1.length) (c := c3) (sz := 3) (i := x19) (k := .i64) Try.underlying22 e35 (by kernel_rfl) (by kernel_rfl) (by kernel_rfl) q32 q31) ?_
    refine lv (d := 19) rfl rfl (by kernel_rfl) (e_loadS (b := b33) (off := o34 + (x19 : Int).toNat * 3) (cs := [.int .i64 ((x1.getD ((x19).toNat) z68).kind), .int .i64 ((x1.getD ((x19).toNat) z68).n), .slice A39 ((x1.getD ((x19).toNat) z68).text).length c40]) Try.underlying68 rfl (by kernel_rfl) (by kernel_rfl) (fun j_ u_ e_ => (hpx (S26.inv.cell (Y18.cell (k38 j_ u_ e_)))))) ?_
    obtain ⟨t43, u44, M⟩ := bnd M
    refine lcall (d := 20) rfl rfl (by kernel_rfl) (e_call (l := [.tmp 19]) (vs := [.agg #[.int .i64 ((x1.getD ((x19).toNat) z68).kind), .int .i64 ((x1.getD ((x19).toNat) z68).n), .slice A39 ((x1.getD ((x19).toNat) z68).text).length c40]]) Try.func57 (by kernel_rfl) rfl (by kernel_rfl) rfl) (laws_toCell.calls k30 w15 H17 (x1.getD ((x19).toNat) z68) A39 c40 (h42.ext Y18) l41 (St.own' (Fa := []) (Fr := [F20]) S26) t43 u44) ?_
    rintro _ w45 ⟨A48, c49, F51, H46, rfl, h50, T47⟩
    refine ⟨_, rfl, ?_⟩
    obtain ⟨S52, K53⟩ := St.call (Fa := []) (Fr := [F20]) S26 T47
    replace h12 := h12.move (K53.at 0 rfl)
    have E54 := T47.ext
    replace h12 := h12.ext E54
    obtain ⟨q55, M⟩ := chk M
    obtain ⟨b56, e58⟩ := Row.addr h12 (show (x19).toNat < x21.length by have : x21.length = ((x1.length : Int)).toNat := n22; omega)
    refine lv (d := 21) rfl rfl (by kernel_rfl) (e_indexAddr (b := b56) (off := 0) (n := ((x1.length : Int)).toNat) (c := c10) (sz := 3) (i := x19) (k := .i64) Try.underlying25 e58 (by kernel_rfl) (by kernel_rfl) (by kernel_rfl) q32 q55) ?_
    have S59 := S52.pull (F := F20) (Fr := [F51]) 1 rfl rfl
    refine lse rfl rfl (by kernel_rfl) (e_setel (d := st65) (b := b56) (i := (x19).toNat) (v := .agg #[.int .i64 t43.kind, .int .i64 t43.n, .slice A48 t43.text.length c49]) (vs := [.int .i64 t43.kind, .int .i64 t43.n, .slice A48 t43.text.length c49]) (yv := t43) S59 (by kernel_rfl) e58 (by kernel_rfl) rfl (by kernel_rfl) h12 (show (x19).toNat < x21.length by have : x21.length = ((x1.length : Int)).toNat := n22; omega) (st65_mkO (x := t43) h50)) ?_
    rintro w60 ⟨F62, h61, S63, K64⟩
    clear h12
    refine wpList_nil ?_
    refine inb_n ?_
    refine then_n ?_
    refine wp_region_lit ?_
    refine lv (d := 12) rfl rfl (by kernel_rfl) (e_move (v := .int .i64 x19) (by exact e25)) ?_
    refine lv (d := 13) rfl rfl (by kernel_rfl) (e_add (k := .i64) (a := x19) (b := 1) (by kernel_rfl) rfl) ?_
    refine lv (d := 4) rfl rfl (by kernel_rfl) (e_assign (v := .int .i64 (IntKind.i64.wrap (x19 + 1))) (by kernel_rfl)) ?_
    refine wpList_nil ?_
    refine then_n ?_
    exact ⟨k30, (by omega), _, H46, (IntKind.i64.wrap (x19 + 1)), F62, (x21.set ((x19).toNat) t43), rfl, (by exact e23), (by exact e24), (by kernel_rfl), h61, (List.length_set.trans n22), (Y18.trans E54), S63, M⟩
  replace M := ifn q31 M
  refine cond_f rfl (bf q31 (by kernel_rfl)) ?_
  refine wp_exit ?_
  refine then_e ?_
  refine then_e ?_
  refine inb_hit ?_
  refine then_n ?_
  refine wp_seq ?_
  refine wp_region_lit ?_
  refine lv (d := 22) rfl rfl (by kernel_rfl) (e_move (v := .slice A9 (((x1.length : Int)).toNat) c10) (by exact e24)) ?_
  refine lv (d := 2) rfl rfl (by kernel_rfl) (e_assign (v := .slice A9 (((x1.length : Int)).toNat) c10) (by kernel_rfl)) ?_
  refine wpList_nil ?_
  refine then_n ?_
  refine wp_ret ?_
  obtain rfl := Option.some.inj M
  exact ret1 rfl rfl  (show _ = .slice A9 (((x1.length : Int)).toNat) c10 from (by kernel_rfl)) ⟨A9, c10, F20, H17, (by rw [(show x21.length = ((x1.length : Int)).toNat from n22)]), h12, S26⟩

/-! laws_toCellSS -/
def laws_toCellSS.l0 : Nat → (List (List Cell)) → Int → (List (List Cell)) → Option (List (List Cell))
  | 0, _, _, _ => none
  | k30 + 1, x1, x19, x21 => (if x19 < (x1.length : Int) then (if 0 ≤ x19 then ((laws_toCellS.f k30 (x1.getD ((x19).toNat) ([] : List Cell))).bind fun t43 => (if x19 < (((x1.length : Int)).toNat : Int) then (laws_toCellSS.l0 k30 x1 (IntKind.i64.wrap (x19 + 1)) (x21.set ((x19).toNat) t43)) else none)) else none) else some x21)
def laws_toCellSS.f (k : Nat) (x1 : List (List Cell)) : Option (List (List Cell)) := (if 0 ≤ (x1.length : Int) then (if ((x1.length : Int)).toNat ≤ 11728124029610 then (laws_toCellSS.l0 k x1 0 (List.replicate ((x1.length : Int)).toNat ([] : List Cell))) else none) else none)
theorem laws_toCellSS.calls (k : Nat) (w : World) (H : Hp) (x1 : List (List Cell)) (A2 : Option Addr) (c3 : Nat) (h4 : Rd sl68 H A2 x1) (l5 : x1.length ≤ c3) (S : Own [] H w) (r : List (List Cell)) (M : laws_toCellSS.f k x1 = some r) :
    Calls Try.prog 41 #[.slice A2 x1.length c3] w (fun e e_w => ∃ (A_1 : Option Addr) (c_1 : Nat) (F_1 : Foot) (H_ : Hp), e = .returned (.slice A_1 r.length c_1) ∧ Row sl65 25 H_ (hp e_w) F_1 A_1 c_1 r ∧ St (anyOf []) H w [F_1] H_ e_w) := by
  rw [laws_toCellSS.f] at M
  refine enter (l := [.slice A2 x1.length c3]) 23 Try.func41 rfl rfl rfl ?_
  have S0_ := S.st
  refine wp_seq ?_
  refine wp_region_lit ?_
  refine lv (d := 2) rfl rfl (by kernel_rfl) (e_assign (v := .slice none 0 0) rfl) ?_
  refine wpList_nil ?_
  refine then_n ?_
  refine wp_seq ?_
  refine wp_region_lit ?_
  refine lv (d := 5) rfl rfl (by kernel_rfl) (e_move (v := .slice A2 x1.length c3) (by kernel_rfl)) ?_
  refine lv (d := 6) rfl rfl (by kernel_rfl) (e_len (A := A2) (n := x1.length) (c := c3) Try.underlying43 (by kernel_rfl)) ?_
  obtain ⟨q6, M⟩ := chk M
  obtain ⟨q7, M⟩ := chk M
  refine lve (d := 7) rfl rfl (by kernel_rfl) (e_make (d := sl65) (k := .i64) (k2 := .i64) (n := (x1.length : Int)) (z := .slice none 0 0) (zx := ([] : List Cell)) (bytes := 24) S0_ Try.underlying38 (by kernel_rfl) rfl (by decide) (fun _ => ⟨none, 0, rfl, Row.nil _ _ _ _ _⟩) (by kernel_rfl) (by kernel_rfl) q6 (by omega) (by omega)) ?_
  rintro _ w8 ⟨A9, c10, F11, rfl, h12, S13, K14⟩
  refine lv (d := 3) rfl rfl (by kernel_rfl) (e_assign (v := .slice A9 (((x1.length : Int)).toNat) c10) (by kernel_rfl)) ?_
  refine wpList_nil ?_
  refine then_n ?_
  refine wp_seq ?_
  refine wp_seq ?_
  refine wp_region_lit ?_
  refine lv (d := 4) rfl rfl (by kernel_rfl) (e_assign (v := .int .i64 0) rfl) ?_
  refine wpList_nil ?_
  refine then_n ?_
  refine wp_block ?_
  refine wp_loop_g (fun k28 a29 w15 => ∃ (f16 : Nat → Value) (H17 : Hp) (x19 : Int) (F20 : Foot) (x21 : List (List Cell)), a29 = mk 23 f16 ∧ f16 0 = .slice A2 x1.length c3 ∧ f16 3 = .slice A9 (((x1.length : Int)).toNat) c10 ∧ f16 4 = .int .i64 x19 ∧ Row sl65 25 H17 (hp w15) F20 A9 c10 x21 ∧ x21.length = ((x1.length : Int)).toNat ∧ Ext H H17 ∧ St (anyOf []) H w [F20] H17 w15 ∧ laws_toCellSS.l0 k28 x1 x19 x21 = some r) k ⟨_, H, 0, F11, (List.replicate ((x1.length : Int)).toNat ([] : List Cell)), rfl, (by kernel_rfl), (by kernel_rfl), (by kernel_rfl), h12, List.length_replicate, (Ext.refl _), S13, M⟩ ?_
  clear M
  rintro k28 a29 w15 ⟨f16, H17, x19, F20, x21, rfl, e23, e24, e25, h12, n22, Y18, S26, M⟩
  rcases k28 with _ | k30
  · rw [laws_toCellSS.l0] at M
    cases M
  rw [laws_toCellSS.l0] at M
  refine wp_seq ?_
  refine wp_seq ?_
  refine wp_region_lit ?_
  refine lv (d := 8) rfl rfl (by kernel_rfl) (e_move (v := .int .i64 x19) (by exact e25)) ?_
  refine lv (d := 9) rfl rfl (by kernel_rfl) (e_move (v := .slice A2 x1.length c3) (by exact e23)) ?_
  refine lv (d := 10) rfl rfl (by kernel_rfl) (e_len (A := A2) (n := x1.length) (c := c3) Try.underlying43 (by kernel_rfl)) ?_
  refine lv (d := 11) rfl rfl (by kernel_rfl) (e_lss (k := .i64) (a := x19) (b := (x1.length : Int)) (by kernel_rfl) (by kernel_rfl)) ?_
  refine wpList_nil ?_
  refine then_n ?_
  by_cases q31 : x19 < (x1.length : Int)
  · replace M := ifp q31 M
    refine cond_t rfl (bt q31 (by kernel_rfl)) ?_
    refine wp_skip ?_
    refine then_n ?_
    refine wp_seq ?_
    refine wp_block ?_
    refine wp_region_lit ?_
    refine lv (d := 14) rfl rfl (by kernel_rfl) (e_move (v := .slice A9 (((x1.length : Int)).toNat) c10) (by exact e24)) ?_
    refine lv (d := 15) rfl rfl (by kernel_rfl) (e_move (v := .int .i64 x19) (by exact e25)) ?_
    refine lv (d := 16) rfl rfl (by kernel_rfl) (e_move (v := .slice A2 x1.length c3) (by exact e23)) ?_
    refine lv (d := 17) rfl rfl (by kernel_rfl) (e_move (v := .int .i64 x19) (by exact e25)) ?_
    obtain ⟨q32, M⟩ := chk M
    obtain ⟨b33, o34, e35⟩ := Rd.addr h4 (show (x19).toNat < x1.length by omega)
    obtain ⟨y36, r37, k38⟩ := Rd.at h4 e35 (getD_some ([] : List Cell) (show (x19).toNat < x1.length by omega))
    obtain ⟨A39, c40, rfl, l41, h42⟩ := r37
    refine lv (d := 18) rfl rfl (by kernel_rfl) (e_indexAddr (b := b33) (off := o34) (n := x1.length) (c := c3) (sz := 1) (i := x19) (k := .i64) Try.underlying43 e35 (by kernel_rfl) (by kernel_rfl) (by kernel_rfl) q32 q31) ?_
    refine lv (d := 19) rfl rfl (by kernel_rfl) (e_load1 (ad := ⟨b33, o34 + (x19 : Int).toNat * 1, none⟩) (v := .slice A39 (x1.getD ((x19).toNat) ([] : List Cell)).length c40) Try.underlying22 rfl (by kernel_rfl) (hpx (S26.inv.cell (Y18.cell (k38 0 _ rfl))))) ?_
    obtain ⟨t43, u44, M⟩ := bnd M
    refine lcall (d := 20) rfl rfl (by kernel_rfl) (e_call (l := [.tmp 19]) (vs := [.slice A39 (x1.getD ((x19).toNat) ([] : List Cell)).length c40]) Try.func16 (by kernel_rfl) rfl (by kernel_rfl) rfl) (laws_toCellS.calls k30 w15 H17 (x1.getD ((x19).toNat) ([] : List Cell)) A39 c40 (h42.ext Y18) l41 (St.own' (Fa := []) (Fr := [F20]) S26) t43 u44) ?_
    rintro _ w45 ⟨A48, c49, F51, H46, rfl, h50, T47⟩
    refine ⟨_, rfl, ?_⟩
    obtain ⟨S52, K53⟩ := St.call (Fa := []) (Fr := [F20]) S26 T47
    replace h12 := h12.move (K53.at 0 rfl)
    have E54 := T47.ext
    replace h12 := h12.ext E54
    obtain ⟨q55, M⟩ := chk M
    obtain ⟨b56, e58⟩ := Row.addr h12 (show (x19).toNat < x21.length by have : x21.length = ((x1.length : Int)).toNat := n22; omega)
    refine lv (d := 21) rfl rfl (by kernel_rfl) (e_indexAddr (b := b56) (off := 0) (n := ((x1.length : Int)).toNat) (c := c10) (sz := 1) (i := x19) (k := .i64) Try.underlying38 e58 (by kernel_rfl) (by kernel_rfl) (by kernel_rfl) q32 q55) ?_
    have S59 := S52.pull (F := F20) (Fr := [F51]) 1 rfl rfl
    refine lse rfl rfl (by kernel_rfl) (e_setel (d := sl65) (b := b56) (i := (x19).toNat) (v := .slice A48 t43.length c49) (vs := [.slice A48 t43.length c49]) (yv := t43) S59 (by kernel_rfl) e58 (by kernel_rfl) rfl (by kernel_rfl) h12 (show (x19).toNat < x21.length by have : x21.length = ((x1.length : Int)).toNat := n22; omega) ⟨A48, c49, rfl, h50⟩) ?_
    rintro w60 ⟨F62, h61, S63, K64⟩
    clear h12
    refine wpList_nil ?_
    refine inb_n ?_
    refine then_n ?_
    refine wp_region_lit ?_
    refine lv (d := 12) rfl rfl (by kernel_rfl) (e_move (v := .int .i64 x19) (by exact e25)) ?_
    refine lv (d := 13) rfl rfl (by kernel_rfl) (e_add (k := .i64) (a := x19) (b := 1) (by kernel_rfl) rfl) ?_
    refine lv (d := 4) rfl rfl (by kernel_rfl) (e_assign (v := .int .i64 (IntKind.i64.wrap (x19 + 1))) (by kernel_rfl)) ?_
    refine wpList_nil ?_
    refine then_n ?_
    exact ⟨k30, (by omega), _, H46, (IntKind.i64.wrap (x19 + 1)), F62, (x21.set ((x19).toNat) t43), rfl, (by exact e23), (by exact e24), (by kernel_rfl), h61, (List.length_set.trans n22), (Y18.trans E54), S63, M⟩
  replace M := ifn q31 M
  refine cond_f rfl (bf q31 (by kernel_rfl)) ?_
  refine wp_exit ?_
  refine then_e ?_
  refine then_e ?_
  refine inb_hit ?_
  refine then_n ?_
  refine wp_seq ?_
  refine wp_region_lit ?_
  refine lv (d := 22) rfl rfl (by kernel_rfl) (e_move (v := .slice A9 (((x1.length : Int)).toNat) c10) (by exact e24)) ?_
  refine lv (d := 2) rfl rfl (by kernel_rfl) (e_assign (v := .slice A9 (((x1.length : Int)).toNat) c10) (by kernel_rfl)) ?_
  refine wpList_nil ?_
  refine then_n ?_
  refine wp_ret ?_
  obtain rfl := Option.some.inj M
  exact ret1 rfl rfl  (show _ = .slice A9 (((x1.length : Int)).toNat) c10 from (by kernel_rfl)) ⟨A9, c10, F20, H17, (by rw [(show x21.length = ((x1.length : Int)).toNat from n22)]), h12, S26⟩

/-! spec_l2cell -/
def spec_l2cell.f (x1 : Cell) : Option Bool := (if x1.kind = 0 then (if x1.n ≥ 0 then (if x1.n ≤ 1000000 then some (decide ((x1.text.length : Int) = 0)) else some false) else some false) else (if x1.kind = 1 then (if x1.n ≥ (-1000000000000000) then (if x1.n ≤ 1000000000000000 then some (decide ((x1.text.length : Int) = 0)) else some false) else some false) else (if (x1.text.length : Int) > 100 then some false else (if x1.kind = 2 then some (decide (x1.n = 0)) else (if x1.kind = 3 then (if x1.n ≥ 1 then some (decide (x1.n ≤ 20)) else some false) else some false)))))
theorem spec_l2cell.calls (w : World) (H : Hp) (x1 : Cell) (A2 : Option Addr) (c3 : Nat) (h4 : Rd tByte H A2 x1.text) (l5 : x1.text.length ≤ c3) (S : Own [] H w) (r : Bool) (M : spec_l2cell.f x1 = some r) :
    Calls Try.prog 56 #[.agg #[.int .i64 x1.kind, .int .i64 x1.n, .slice A2 x1.text.length c3]] w (fun e e_w => e = .returned (.bool r) ∧ Chg no w e_w) := by
  rw [spec_l2cell.f] at M
  refine enter (l := [.agg #[.int .i64 x1.kind, .int .i64 x1.n, .slice A2 x1.text.length c3]]) 60 Try.func56 rfl rfl rfl ?_
  have S0_ := S.st
  refine wp_seq ?_
  refine wp_region_lit ?_
  refine lve (d := 1) rfl rfl (by kernel_rfl) (new_blk (v := fun g_ => .pointer (some ⟨g_, 0, none⟩)) (cs := #[.int .i64 x1.kind, .int .i64 x1.n, .slice A2 x1.text.length c3]) (t := 65) S0_ (by kernel_rfl)) ?_
  rintro _ w6 ⟨g7, rfl, b8, S9, K10⟩
  refine lv (d := 2) rfl rfl (by kernel_rfl) (e_assign (v := .bool false) rfl) ?_
  refine wpList_nil ?_
  refine then_n ?_
  refine wp_seq ?_
  refine wp_seq ?_
  refine wp_region_lit ?_
  refine lv (d := 3) rfl rfl (by kernel_rfl) (e_fieldAddr (b := g7) (off := 0) (o := 0) Try.underlying65 rfl rfl (sz := 1) (by kernel_rfl) (by decide) (by kernel_rfl)) ?_
  refine lv (d := 4) rfl rfl (by kernel_rfl) (e_load1 (ad := ⟨g7, 0 + 0, none⟩) (v := .int .i64 x1.kind) Try.underlying3 rfl (by kernel_rfl) (blk_cell b8 rfl)) ?_
  refine lv (d := 5) rfl rfl (by kernel_rfl) (e_eql (k := .i64) (a := x1.kind) (b := 0) (by kernel_rfl) rfl) ?_
  refine wpList_nil ?_
  refine then_n ?_
  by_cases q11 : x1.kind = 0
  · replace M := ifp q11 M
    refine cond_t rfl (bt q11 (by kernel_rfl)) ?_
    refine wp_seq ?_
    refine wp_region_lit ?_
    refine lv (d := 6) rfl rfl (by kernel_rfl) (e_fieldAddr (b := g7) (off := 0) (o := 1) Try.underlying65 rfl rfl (sz := 1) (by kernel_rfl) (by decide) (by kernel_rfl)) ?_
    refine lv (d := 7) rfl rfl (by kernel_rfl) (e_load1 (ad := ⟨g7, 0 + 1, none⟩) (v := .int .i64 x1.n) Try.underlying3 rfl (by kernel_rfl) (blk_cell b8 rfl)) ?_
    refine lv (d := 8) rfl rfl (by kernel_rfl) (e_geq (k := .i64) (a := x1.n) (b := 0) (by kernel_rfl) rfl) ?_
    refine lv (d := 9) rfl rfl (by kernel_rfl) (e_move (v := .bool (decide (x1.n ≥ 0))) (by kernel_rfl)) ?_
    by_cases q12 : x1.n ≥ 0
    · replace M := ifp q12 M
      refine lvg (d := 10) (t := 9) rfl (by kernel_rfl) rfl (bt q12 (by kernel_rfl)) rfl (by kernel_rfl) (e_fieldAddr (b := g7) (off := 0) (o := 1) Try.underlying65 rfl rfl (sz := 1) (by kernel_rfl) (by decide) (by kernel_rfl)) ?_
      refine lvg (d := 11) (t := 9) rfl (by kernel_rfl) rfl (bt q12 (by kernel_rfl)) rfl (by kernel_rfl) (e_load1 (ad := ⟨g7, 0 + 1, none⟩) (v := .int .i64 x1.n) Try.underlying3 rfl (by kernel_rfl) (blk_cell b8 rfl)) ?_
      refine lvg (d := 12) (t := 9) rfl (by kernel_rfl) rfl (bt q12 (by kernel_rfl)) rfl (by kernel_rfl) (e_leq (k := .i64) (a := x1.n) (b := 1000000) (by kernel_rfl) rfl) ?_
      refine lv (d := 13) rfl rfl (by kernel_rfl) (e_pick_t (v := .bool (decide (x1.n ≤ 1000000))) (bt q12 (by kernel_rfl)) (by kernel_rfl)) ?_
      refine lv (d := 14) rfl rfl (by kernel_rfl) (e_move (v := .bool (decide (x1.n ≤ 1000000))) (by kernel_rfl)) ?_
      by_cases q13 : x1.n ≤ 1000000
      · replace M := ifp q13 M
        refine lvg (d := 15) (t := 14) rfl (by kernel_rfl) rfl (bt q13 (by kernel_rfl)) rfl (by kernel_rfl) (e_fieldAddr (b := g7) (off := 0) (o := 2) Try.underlying65 rfl rfl (sz := 1) (by kernel_rfl) (by decide) (by kernel_rfl)) ?_
        refine lvg (d := 16) (t := 14) rfl (by kernel_rfl) rfl (bt q13 (by kernel_rfl)) rfl (by kernel_rfl) (e_load1 (ad := ⟨g7, 0 + 2, none⟩) (v := .slice A2 x1.text.length c3) Try.underlying59 rfl (by kernel_rfl) (blk_cell b8 rfl)) ?_
        refine lvg (d := 17) (t := 14) rfl (by kernel_rfl) rfl (bt q13 (by kernel_rfl)) rfl (by kernel_rfl) (e_len (A := A2) (n := x1.text.length) (c := c3) Try.underlying59 (by kernel_rfl)) ?_
        refine lvg (d := 18) (t := 14) rfl (by kernel_rfl) rfl (bt q13 (by kernel_rfl)) rfl (by kernel_rfl) (e_eql (k := .i64) (a := (x1.text.length : Int)) (b := 0) (by kernel_rfl) rfl) ?_
        refine lv (d := 19) rfl rfl (by kernel_rfl) (e_pick_t (v := .bool (decide ((x1.text.length : Int) = 0))) (bt q13 (by kernel_rfl)) (by kernel_rfl)) ?_
        refine lv (d := 2) rfl rfl (by kernel_rfl) (e_assign (v := .bool (decide ((x1.text.length : Int) = 0))) (by kernel_rfl)) ?_
        refine wpList_nil ?_
        refine then_n ?_
        refine wp_ret ?_
        refine then_r ?_
        obtain rfl := Option.some.inj M
        exact ret1 rfl rfl  (show _ = .bool (decide ((x1.text.length : Int) = 0)) from (by kernel_rfl)) ⟨rfl, S9.chg⟩
      replace M := ifn q13 M
      refine lskip (t := 14) (c := false) rfl (by kernel_rfl) rfl (bf q13 (by kernel_rfl)) rfl rfl ?_
      refine lskip (t := 14) (c := false) rfl (by kernel_rfl) rfl (bf q13 (by kernel_rfl)) rfl rfl ?_
      refine lskip (t := 14) (c := false) rfl (by kernel_rfl) rfl (bf q13 (by kernel_rfl)) rfl rfl ?_
      refine lskip (t := 14) (c := false) rfl (by kernel_rfl) rfl (bf q13 (by kernel_rfl)) rfl rfl ?_
      refine lv (d := 19) rfl rfl (by kernel_rfl) (e_pick_f (v := .bool false) (bf q13 (by kernel_rfl)) rfl) ?_
      refine lv (d := 2) rfl rfl (by kernel_rfl) (e_assign (v := .bool false) (by kernel_rfl)) ?_
      refine wpList_nil ?_
      refine then_n ?_
      refine wp_ret ?_
      refine then_r ?_
      obtain rfl := Option.some.inj M
      exact ret1 rfl rfl  (show _ = .bool false from (by kernel_rfl)) ⟨rfl, S9.chg⟩
    replace M := ifn q12 M
    refine lskip (t := 9) (c := false) rfl (by kernel_rfl) rfl (bf q12 (by kernel_rfl)) rfl rfl ?_
    refine lskip (t := 9) (c := false) rfl (by kernel_rfl) rfl (bf q12 (by kernel_rfl)) rfl rfl ?_
    refine lskip (t := 9) (c := false) rfl (by kernel_rfl) rfl (bf q12 (by kernel_rfl)) rfl rfl ?_
    refine lv (d := 13) rfl rfl (by kernel_rfl) (e_pick_f (v := .bool false) (bf q12 (by kernel_rfl)) rfl) ?_
    refine lv (d := 14) rfl rfl (by kernel_rfl) (e_move (v := .bool false) (by kernel_rfl)) ?_
    refine lskip (t := 14) (c := false) rfl (by kernel_rfl) rfl (by kernel_rfl) rfl rfl ?_
    refine lskip (t := 14) (c := false) rfl (by kernel_rfl) rfl (by kernel_rfl) rfl rfl ?_
    refine lskip (t := 14) (c := false) rfl (by kernel_rfl) rfl (by kernel_rfl) rfl rfl ?_
    refine lskip (t := 14) (c := false) rfl (by kernel_rfl) rfl (by kernel_rfl) rfl rfl ?_
    refine lv (d := 19) rfl rfl (by kernel_rfl) (e_pick_f (v := .bool false) (by kernel_rfl) rfl) ?_
    refine lv (d := 2) rfl rfl (by kernel_rfl) (e_assign (v := .bool false) (by kernel_rfl)) ?_
    refine wpList_nil ?_
    refine then_n ?_
    refine wp_ret ?_
    refine then_r ?_
    obtain rfl := Option.some.inj M
    exact ret1 rfl rfl  (show _ = .bool false from (by kernel_rfl)) ⟨rfl, S9.chg⟩
  replace M := ifn q11 M
  refine cond_f rfl (bf q11 (by kernel_rfl)) ?_
  refine wp_skip ?_
  refine then_n ?_
  refine wp_seq ?_
  refine wp_seq ?_
  refine wp_region_lit ?_
  refine lv (d := 20) rfl rfl (by kernel_rfl) (e_fieldAddr (b := g7) (off := 0) (o := 0) Try.underlying65 rfl rfl (sz := 1) (by kernel_rfl) (by decide) (by kernel_rfl)) ?_
  refine lv (d := 21) rfl rfl (by kernel_rfl) (e_load1 (ad := ⟨g7, 0 + 0, none⟩) (v := .int .i64 x1.kind) Try.underlying3 rfl (by kernel_rfl) (blk_cell b8 rfl)) ?_
  refine lv (d := 22) rfl rfl (by kernel_rfl) (e_eql (k := .i64) (a := x1.kind) (b := 1) (by kernel_rfl) rfl) ?_
  refine wpList_nil ?_
  refine then_n ?_
  by_cases q14 : x1.kind = 1
  · replace M := ifp q14 M
    refine cond_t rfl (bt q14 (by kernel_rfl)) ?_
    refine wp_seq ?_
    refine wp_region_lit ?_
    refine lv (d := 23) rfl rfl (by kernel_rfl) (e_fieldAddr (b := g7) (off := 0) (o := 1) Try.underlying65 rfl rfl (sz := 1) (by kernel_rfl) (by decide) (by kernel_rfl)) ?_
    refine lv (d := 24) rfl rfl (by kernel_rfl) (e_load1 (ad := ⟨g7, 0 + 1, none⟩) (v := .int .i64 x1.n) Try.underlying3 rfl (by kernel_rfl) (blk_cell b8 rfl)) ?_
    refine lv (d := 25) rfl rfl (by kernel_rfl) (e_geq (k := .i64) (a := x1.n) (b := (-1000000000000000)) (by kernel_rfl) rfl) ?_
    refine lv (d := 26) rfl rfl (by kernel_rfl) (e_move (v := .bool (decide (x1.n ≥ (-1000000000000000)))) (by kernel_rfl)) ?_
    by_cases q15 : x1.n ≥ (-1000000000000000)
    · replace M := ifp q15 M
      refine lvg (d := 27) (t := 26) rfl (by kernel_rfl) rfl (bt q15 (by kernel_rfl)) rfl (by kernel_rfl) (e_fieldAddr (b := g7) (off := 0) (o := 1) Try.underlying65 rfl rfl (sz := 1) (by kernel_rfl) (by decide) (by kernel_rfl)) ?_
      refine lvg (d := 28) (t := 26) rfl (by kernel_rfl) rfl (bt q15 (by kernel_rfl)) rfl (by kernel_rfl) (e_load1 (ad := ⟨g7, 0 + 1, none⟩) (v := .int .i64 x1.n) Try.underlying3 rfl (by kernel_rfl) (blk_cell b8 rfl)) ?_
      refine lvg (d := 29) (t := 26) rfl (by kernel_rfl) rfl (bt q15 (by kernel_rfl)) rfl (by kernel_rfl) (e_leq (k := .i64) (a := x1.n) (b := 1000000000000000) (by kernel_rfl) rfl) ?_
      refine lv (d := 30) rfl rfl (by kernel_rfl) (e_pick_t (v := .bool (decide (x1.n ≤ 1000000000000000))) (bt q15 (by kernel_rfl)) (by kernel_rfl)) ?_
      refine lv (d := 31) rfl rfl (by kernel_rfl) (e_move (v := .bool (decide (x1.n ≤ 1000000000000000))) (by kernel_rfl)) ?_
      by_cases q16 : x1.n ≤ 1000000000000000
      · replace M := ifp q16 M
        refine lvg (d := 32) (t := 31) rfl (by kernel_rfl) rfl (bt q16 (by kernel_rfl)) rfl (by kernel_rfl) (e_fieldAddr (b := g7) (off := 0) (o := 2) Try.underlying65 rfl rfl (sz := 1) (by kernel_rfl) (by decide) (by kernel_rfl)) ?_
        refine lvg (d := 33) (t := 31) rfl (by kernel_rfl) rfl (bt q16 (by kernel_rfl)) rfl (by kernel_rfl) (e_load1 (ad := ⟨g7, 0 + 2, none⟩) (v := .slice A2 x1.text.length c3) Try.underlying59 rfl (by kernel_rfl) (blk_cell b8 rfl)) ?_
        refine lvg (d := 34) (t := 31) rfl (by kernel_rfl) rfl (bt q16 (by kernel_rfl)) rfl (by kernel_rfl) (e_len (A := A2) (n := x1.text.length) (c := c3) Try.underlying59 (by kernel_rfl)) ?_
        refine lvg (d := 35) (t := 31) rfl (by kernel_rfl) rfl (bt q16 (by kernel_rfl)) rfl (by kernel_rfl) (e_eql (k := .i64) (a := (x1.text.length : Int)) (b := 0) (by kernel_rfl) rfl) ?_
        refine lv (d := 36) rfl rfl (by kernel_rfl) (e_pick_t (v := .bool (decide ((x1.text.length : Int) = 0))) (bt q16 (by kernel_rfl)) (by kernel_rfl)) ?_
        refine lv (d := 2) rfl rfl (by kernel_rfl) (e_assign (v := .bool (decide ((x1.text.length : Int) = 0))) (by kernel_rfl)) ?_
        refine wpList_nil ?_
        refine then_n ?_
        refine wp_ret ?_
        refine then_r ?_
        obtain rfl := Option.some.inj M
        exact ret1 rfl rfl  (show _ = .bool (decide ((x1.text.length : Int) = 0)) from (by kernel_rfl)) ⟨rfl, S9.chg⟩
      replace M := ifn q16 M
      refine lskip (t := 31) (c := false) rfl (by kernel_rfl) rfl (bf q16 (by kernel_rfl)) rfl rfl ?_
      refine lskip (t := 31) (c := false) rfl (by kernel_rfl) rfl (bf q16 (by kernel_rfl)) rfl rfl ?_
      refine lskip (t := 31) (c := false) rfl (by kernel_rfl) rfl (bf q16 (by kernel_rfl)) rfl rfl ?_
      refine lskip (t := 31) (c := false) rfl (by kernel_rfl) rfl (bf q16 (by kernel_rfl)) rfl rfl ?_
      refine lv (d := 36) rfl rfl (by kernel_rfl) (e_pick_f (v := .bool false) (bf q16 (by kernel_rfl)) rfl) ?_
      refine lv (d := 2) rfl rfl (by kernel_rfl) (e_assign (v := .bool false) (by kernel_rfl)) ?_
      refine wpList_nil ?_
      refine then_n ?_
      refine wp_ret ?_
      refine then_r ?_
      obtain rfl := Option.some.inj M
      exact ret1 rfl rfl  (show _ = .bool false from (by kernel_rfl)) ⟨rfl, S9.chg⟩
    replace M := ifn q15 M
    refine lskip (t := 26) (c := false) rfl (by kernel_rfl) rfl (bf q15 (by kernel_rfl)) rfl rfl ?_
    refine lskip (t := 26) (c := false) rfl (by kernel_rfl) rfl (bf q15 (by kernel_rfl)) rfl rfl ?_
    refine lskip (t := 26) (c := false) rfl (by kernel_rfl) rfl (bf q15 (by kernel_rfl)) rfl rfl ?_
    refine lv (d := 30) rfl rfl (by kernel_rfl) (e_pick_f (v := .bool false) (bf q15 (by kernel_rfl)) rfl) ?_
    refine lv (d := 31) rfl rfl (by kernel_rfl) (e_move (v := .bool false) (by kernel_rfl)) ?_
    refine lskip (t := 31) (c := false) rfl (by kernel_rfl) rfl (by kernel_rfl) rfl rfl ?_
    refine lskip (t := 31) (c := false) rfl (by kernel_rfl) rfl (by kernel_rfl) rfl rfl ?_
    refine lskip (t := 31) (c := false) rfl (by kernel_rfl) rfl (by kernel_rfl) rfl rfl ?_
    refine lskip (t := 31) (c := false) rfl (by kernel_rfl) rfl (by kernel_rfl) rfl rfl ?_
    refine lv (d := 36) rfl rfl (by kernel_rfl) (e_pick_f (v := .bool false) (by kernel_rfl) rfl) ?_
    refine lv (d := 2) rfl rfl (by kernel_rfl) (e_assign (v := .bool false) (by kernel_rfl)) ?_
    refine wpList_nil ?_
    refine then_n ?_
    refine wp_ret ?_
    refine then_r ?_
    obtain rfl := Option.some.inj M
    exact ret1 rfl rfl  (show _ = .bool false from (by kernel_rfl)) ⟨rfl, S9.chg⟩
  replace M := ifn q14 M
  refine cond_f rfl (bf q14 (by kernel_rfl)) ?_
  refine wp_skip ?_
  refine then_n ?_
  refine wp_seq ?_
  refine wp_seq ?_
  refine wp_region_lit ?_
  refine lv (d := 37) rfl rfl (by kernel_rfl) (e_fieldAddr (b := g7) (off := 0) (o := 2) Try.underlying65 rfl rfl (sz := 1) (by kernel_rfl) (by decide) (by kernel_rfl)) ?_
  refine lv (d := 38) rfl rfl (by kernel_rfl) (e_load1 (ad := ⟨g7, 0 + 2, none⟩) (v := .slice A2 x1.text.length c3) Try.underlying59 rfl (by kernel_rfl) (blk_cell b8 rfl)) ?_
  refine lv (d := 39) rfl rfl (by kernel_rfl) (e_len (A := A2) (n := x1.text.length) (c := c3) Try.underlying59 (by kernel_rfl)) ?_
  refine lv (d := 40) rfl rfl (by kernel_rfl) (e_gtr (k := .i64) (a := (x1.text.length : Int)) (b := 100) (by kernel_rfl) rfl) ?_
  refine wpList_nil ?_
  refine then_n ?_
  by_cases q17 : (x1.text.length : Int) > 100
  · replace M := ifp q17 M
    refine cond_t rfl (bt q17 (by kernel_rfl)) ?_
    refine wp_seq ?_
    refine wp_region_lit ?_
    refine lv (d := 2) rfl rfl (by kernel_rfl) (e_assign (v := .bool false) rfl) ?_
    refine wpList_nil ?_
    refine then_n ?_
    refine wp_ret ?_
    refine then_r ?_
    obtain rfl := Option.some.inj M
    exact ret1 rfl rfl  (show _ = .bool false from (by kernel_rfl)) ⟨rfl, S9.chg⟩
  replace M := ifn q17 M
  refine cond_f rfl (bf q17 (by kernel_rfl)) ?_
  refine wp_skip ?_
  refine then_n ?_
  refine wp_seq ?_
  refine wp_seq ?_
  refine wp_region_lit ?_
  refine lv (d := 41) rfl rfl (by kernel_rfl) (e_fieldAddr (b := g7) (off := 0) (o := 0) Try.underlying65 rfl rfl (sz := 1) (by kernel_rfl) (by decide) (by kernel_rfl)) ?_
  refine lv (d := 42) rfl rfl (by kernel_rfl) (e_load1 (ad := ⟨g7, 0 + 0, none⟩) (v := .int .i64 x1.kind) Try.underlying3 rfl (by kernel_rfl) (blk_cell b8 rfl)) ?_
  refine lv (d := 43) rfl rfl (by kernel_rfl) (e_eql (k := .i64) (a := x1.kind) (b := 2) (by kernel_rfl) rfl) ?_
  refine wpList_nil ?_
  refine then_n ?_
  by_cases q18 : x1.kind = 2
  · replace M := ifp q18 M
    refine cond_t rfl (bt q18 (by kernel_rfl)) ?_
    refine wp_seq ?_
    refine wp_region_lit ?_
    refine lv (d := 44) rfl rfl (by kernel_rfl) (e_fieldAddr (b := g7) (off := 0) (o := 1) Try.underlying65 rfl rfl (sz := 1) (by kernel_rfl) (by decide) (by kernel_rfl)) ?_
    refine lv (d := 45) rfl rfl (by kernel_rfl) (e_load1 (ad := ⟨g7, 0 + 1, none⟩) (v := .int .i64 x1.n) Try.underlying3 rfl (by kernel_rfl) (blk_cell b8 rfl)) ?_
    refine lv (d := 46) rfl rfl (by kernel_rfl) (e_eql (k := .i64) (a := x1.n) (b := 0) (by kernel_rfl) rfl) ?_
    refine lv (d := 2) rfl rfl (by kernel_rfl) (e_assign (v := .bool (decide (x1.n = 0))) (by kernel_rfl)) ?_
    refine wpList_nil ?_
    refine then_n ?_
    refine wp_ret ?_
    refine then_r ?_
    obtain rfl := Option.some.inj M
    exact ret1 rfl rfl  (show _ = .bool (decide (x1.n = 0)) from (by kernel_rfl)) ⟨rfl, S9.chg⟩
  replace M := ifn q18 M
  refine cond_f rfl (bf q18 (by kernel_rfl)) ?_
  refine wp_skip ?_
  refine then_n ?_
  refine wp_seq ?_
  refine wp_region_lit ?_
  refine lv (d := 47) rfl rfl (by kernel_rfl) (e_fieldAddr (b := g7) (off := 0) (o := 0) Try.underlying65 rfl rfl (sz := 1) (by kernel_rfl) (by decide) (by kernel_rfl)) ?_
  refine lv (d := 48) rfl rfl (by kernel_rfl) (e_load1 (ad := ⟨g7, 0 + 0, none⟩) (v := .int .i64 x1.kind) Try.underlying3 rfl (by kernel_rfl) (blk_cell b8 rfl)) ?_
  refine lv (d := 49) rfl rfl (by kernel_rfl) (e_eql (k := .i64) (a := x1.kind) (b := 3) (by kernel_rfl) rfl) ?_
  refine lv (d := 50) rfl rfl (by kernel_rfl) (e_move (v := .bool (decide (x1.kind = 3))) (by kernel_rfl)) ?_
  by_cases q19 : x1.kind = 3
  · replace M := ifp q19 M
    refine lvg (d := 51) (t := 50) rfl (by kernel_rfl) rfl (bt q19 (by kernel_rfl)) rfl (by kernel_rfl) (e_fieldAddr (b := g7) (off := 0) (o := 1) Try.underlying65 rfl rfl (sz := 1) (by kernel_rfl) (by decide) (by kernel_rfl)) ?_
    refine lvg (d := 52) (t := 50) rfl (by kernel_rfl) rfl (bt q19 (by kernel_rfl)) rfl (by kernel_rfl) (e_load1 (ad := ⟨g7, 0 + 1, none⟩) (v := .int .i64 x1.n) Try.underlying3 rfl (by kernel_rfl) (blk_cell b8 rfl)) ?_
    refine lvg (d := 53) (t := 50) rfl (by kernel_rfl) rfl (bt q19 (by kernel_rfl)) rfl (by kernel_rfl) (e_geq (k := .i64) (a := x1.n) (b := 1) (by kernel_rfl) rfl) ?_
    refine lv (d := 54) rfl rfl (by kernel_rfl) (e_pick_t (v := .bool (decide (x1.n ≥ 1))) (bt q19 (by kernel_rfl)) (by kernel_rfl)) ?_
    refine lv (d := 55) rfl rfl (by kernel_rfl) (e_move (v := .bool (decide (x1.n ≥ 1))) (by kernel_rfl)) ?_
    by_cases q20 : x1.n ≥ 1
    · replace M := ifp q20 M
      refine lvg (d := 56) (t := 55) rfl (by kernel_rfl) rfl (bt q20 (by kernel_rfl)) rfl (by kernel_rfl) (e_fieldAddr (b := g7) (off := 0) (o := 1) Try.underlying65 rfl rfl (sz := 1) (by kernel_rfl) (by decide) (by kernel_rfl)) ?_
      refine lvg (d := 57) (t := 55) rfl (by kernel_rfl) rfl (bt q20 (by kernel_rfl)) rfl (by kernel_rfl) (e_load1 (ad := ⟨g7, 0 + 1, none⟩) (v := .int .i64 x1.n) Try.underlying3 rfl (by kernel_rfl) (blk_cell b8 rfl)) ?_
      refine lvg (d := 58) (t := 55) rfl (by kernel_rfl) rfl (bt q20 (by kernel_rfl)) rfl (by kernel_rfl) (e_leq (k := .i64) (a := x1.n) (b := 20) (by kernel_rfl) rfl) ?_
      refine lv (d := 59) rfl rfl (by kernel_rfl) (e_pick_t (v := .bool (decide (x1.n ≤ 20))) (bt q20 (by kernel_rfl)) (by kernel_rfl)) ?_
      refine lv (d := 2) rfl rfl (by kernel_rfl) (e_assign (v := .bool (decide (x1.n ≤ 20))) (by kernel_rfl)) ?_
      refine wpList_nil ?_
      refine then_n ?_
      refine wp_ret ?_
      obtain rfl := Option.some.inj M
      exact ret1 rfl rfl  (show _ = .bool (decide (x1.n ≤ 20)) from (by kernel_rfl)) ⟨rfl, S9.chg⟩
    replace M := ifn q20 M
    refine lskip (t := 55) (c := false) rfl (by kernel_rfl) rfl (bf q20 (by kernel_rfl)) rfl rfl ?_
    refine lskip (t := 55) (c := false) rfl (by kernel_rfl) rfl (bf q20 (by kernel_rfl)) rfl rfl ?_
    refine lskip (t := 55) (c := false) rfl (by kernel_rfl) rfl (bf q20 (by kernel_rfl)) rfl rfl ?_
    refine lv (d := 59) rfl rfl (by kernel_rfl) (e_pick_f (v := .bool false) (bf q20 (by kernel_rfl)) rfl) ?_
    refine lv (d := 2) rfl rfl (by kernel_rfl) (e_assign (v := .bool false) (by kernel_rfl)) ?_
    refine wpList_nil ?_
    refine then_n ?_
    refine wp_ret ?_
    obtain rfl := Option.some.inj M
    exact ret1 rfl rfl  (show _ = .bool false from (by kernel_rfl)) ⟨rfl, S9.chg⟩
  replace M := ifn q19 M
  refine lskip (t := 50) (c := false) rfl (by kernel_rfl) rfl (bf q19 (by kernel_rfl)) rfl rfl ?_
  refine lskip (t := 50) (c := false) rfl (by kernel_rfl) rfl (bf q19 (by kernel_rfl)) rfl rfl ?_
  refine lskip (t := 50) (c := false) rfl (by kernel_rfl) rfl (bf q19 (by kernel_rfl)) rfl rfl ?_
  refine lv (d := 54) rfl rfl (by kernel_rfl) (e_pick_f (v := .bool false) (bf q19 (by kernel_rfl)) rfl) ?_
  refine lv (d := 55) rfl rfl (by kernel_rfl) (e_move (v := .bool false) (by kernel_rfl)) ?_
  refine lskip (t := 55) (c := false) rfl (by kernel_rfl) rfl (by kernel_rfl) rfl rfl ?_
  refine lskip (t := 55) (c := false) rfl (by kernel_rfl) rfl (by kernel_rfl) rfl rfl ?_
  refine lskip (t := 55) (c := false) rfl (by kernel_rfl) rfl (by kernel_rfl) rfl rfl ?_
  refine lv (d := 59) rfl rfl (by kernel_rfl) (e_pick_f (v := .bool false) (by kernel_rfl) rfl) ?_
  refine lv (d := 2) rfl rfl (by kernel_rfl) (e_assign (v := .bool false) (by kernel_rfl)) ?_
  refine wpList_nil ?_
  refine then_n ?_
  refine wp_ret ?_
  obtain rfl := Option.some.inj M
  exact ret1 rfl rfl  (show _ = .bool false from (by kernel_rfl)) ⟨rfl, S9.chg⟩

/-! spec_ValidTerm -/
def spec_ValidTerm.l0 : Nat → (List Cell) → Int → Int → Option Bool
  | 0, _, _, _ => none
  | k18 + 1, x1, x9, x10 => (if x10 < (x1.length : Int) then (if x9 = 0 then some false else (if 0 ≤ x10 then ((spec_l2cell.f (x1.getD ((x10).toNat) z65)).bind fun t32 => (if ¬ (t32 = true) then some false else (if ((x1.getD ((x10).toNat) z65).kind) = 3 then (spec_ValidTerm.l0 k18 x1 (IntKind.i64.wrap ((IntKind.i64.wrap (x9 - 1)) + ((x1.getD ((x10).toNat) z65).n))) (IntKind.i64.wrap (x10 + 1))) else (spec_ValidTerm.l0 k18 x1 (IntKind.i64.wrap (x9 - 1)) (IntKind.i64.wrap (x10 + 1)))))) else none)) else some (decide (x9 = 0)))
def spec_ValidTerm.f (k : Nat) (x1 : List Cell) : Option Bool := (if (x1.length : Int) > 2000 then some false else (spec_ValidTerm.l0 k x1 1 0))
theorem spec_ValidTerm.calls (k : Nat) (w : World) (H : Hp) (x1 : List Cell) (A2 : Option Addr) (c3 : Nat) (h4 : Rd st65 H A2 x1) (l5 : x1.length ≤ c3) (S : Own [] H w) (r : Bool) (M : spec_ValidTerm.f k x1 = some r) :
    Calls Try.prog 15 #[.slice A2 x1.length c3] w (fun e e_w => e = .returned (.bool r) ∧ Chg no w e_w) := by
  rw [spec_ValidTerm.f] at M
  refine enter (l := [.slice A2 x1.length c3]) 41 Try.func15 rfl rfl rfl ?_
  have S0_ := S.st
  refine wp_seq ?_
  refine wp_region_lit ?_
  refine lv (d := 2) rfl rfl (by kernel_rfl) (e_assign (v := .bool false) rfl) ?_
  refine wpList_nil ?_
  refine then_n ?_
  refine wp_seq ?_
  refine wp_seq ?_
  refine wp_region_lit ?_
  refine lv (d := 5) rfl rfl (by kernel_rfl) (e_move (v := .slice A2 x1.length c3) (by kernel_rfl)) ?_
  refine lv (d := 6) rfl rfl (by kernel_rfl) (e_len (A := A2) (n := x1.length) (c := c3) Try.underlying25 (by kernel_rfl)) ?_
  refine lv (d := 7) rfl rfl (by kernel_rfl) (e_gtr (k := .i64) (a := (x1.length : Int)) (b := 2000) (by kernel_rfl) rfl) ?_
  refine wpList_nil ?_
  refine then_n ?_
  by_cases q6 : (x1.length : Int) > 2000
  · replace M := ifp q6 M
    refine cond_t rfl (bt q6 (by kernel_rfl)) ?_
    refine wp_seq ?_
    refine wp_region_lit ?_
    refine lv (d := 2) rfl rfl (by kernel_rfl) (e_assign (v := .bool false) rfl) ?_
    refine wpList_nil ?_
    refine then_n ?_
    refine wp_ret ?_
    refine then_r ?_
    obtain rfl := Option.some.inj M
    exact ret1 rfl rfl  (show _ = .bool false from (by kernel_rfl)) ⟨rfl, S0_.chg⟩
  replace M := ifn q6 M
  refine cond_f rfl (bf q6 (by kernel_rfl)) ?_
  refine wp_skip ?_
  refine then_n ?_
  refine wp_seq ?_
  refine wp_region_lit ?_
  refine lv (d := 3) rfl rfl (by kernel_rfl) (e_assign (v := .int .i64 1) rfl) ?_
  refine wpList_nil ?_
  refine then_n ?_
  refine wp_seq ?_
  refine wp_seq ?_
  refine wp_region_lit ?_
  refine lv (d := 4) rfl rfl (by kernel_rfl) (e_assign (v := .int .i64 0) rfl) ?_
  refine wpList_nil ?_
  refine then_n ?_
  refine wp_block ?_
  refine wp_loop_g (fun k16 a17 w7 => ∃ (f8 : Nat → Value) (x9 : Int) (x10 : Int), a17 = mk 41 f8 ∧ f8 0 = .slice A2 x1.length c3 ∧ f8 3 = .int .i64 x9 ∧ f8 4 = .int .i64 x10 ∧ St (anyOf []) H w [] H w7 ∧ spec_ValidTerm.l0 k16 x1 x9 x10 = some r) k ⟨_, 1, 0, rfl, (by kernel_rfl), (by kernel_rfl), (by kernel_rfl), S0_, M⟩ ?_
  clear M
  rintro k16 a17 w7 ⟨f8, x9, x10, rfl, e11, e12, e13, S14, M⟩
  rcases k16 with _ | k18
  · rw [spec_ValidTerm.l0] at M
    cases M
  rw [spec_ValidTerm.l0] at M
  refine wp_seq ?_
  refine wp_seq ?_
  refine wp_region_lit ?_
  refine lv (d := 8) rfl rfl (by kernel_rfl) (e_move (v := .int .i64 x10) (by exact e13)) ?_
  refine lv (d := 9) rfl rfl (by kernel_rfl) (e_move (v := .slice A2 x1.length c3) (by exact e11)) ?_
  refine lv (d := 10) rfl rfl (by kernel_rfl) (e_len (A := A2) (n := x1.length) (c := c3) Try.underlying25 (by kernel_rfl)) ?_
  refine lv (d := 11) rfl rfl (by kernel_rfl) (e_lss (k := .i64) (a := x10) (b := (x1.length : Int)) (by kernel_rfl) (by kernel_rfl)) ?_
  refine wpList_nil ?_
  refine then_n ?_
  by_cases q19 : x10 < (x1.length : Int)
  · replace M := ifp q19 M
    refine cond_t rfl (bt q19 (by kernel_rfl)) ?_
    refine wp_skip ?_
    refine then_n ?_
    refine wp_seq ?_
    refine wp_block ?_
    refine wp_seq ?_
    refine wp_seq ?_
    refine wp_region_lit ?_
    refine lv (d := 14) rfl rfl (by kernel_rfl) (e_move (v := .int .i64 x9) (by exact e12)) ?_
    refine lv (d := 15) rfl rfl (by kernel_rfl) (e_eql (k := .i64) (a := x9) (b := 0) (by kernel_rfl) rfl) ?_
    refine lv (d := 16) rfl rfl (by kernel_rfl) (e_move (v := .bool (decide (x9 = 0))) (by kernel_rfl)) ?_
    by_cases q20 : x9 = 0
    · replace M := ifp q20 M
      refine lskip (t := 16) (c := true) rfl (by kernel_rfl) rfl (bt q20 (by kernel_rfl)) rfl rfl ?_
      refine lskip (t := 16) (c := true) rfl (by kernel_rfl) rfl (bt q20 (by kernel_rfl)) rfl rfl ?_
      refine lskip (t := 16) (c := true) rfl (by kernel_rfl) rfl (bt q20 (by kernel_rfl)) rfl rfl ?_
      refine lskip (t := 16) (c := true) rfl (by kernel_rfl) rfl (bt q20 (by kernel_rfl)) rfl rfl ?_
      refine lskip (t := 16) (c := true) rfl (by kernel_rfl) rfl (bt q20 (by kernel_rfl)) rfl rfl ?_
      refine lskip (t := 16) (c := true) rfl (by kernel_rfl) rfl (bt q20 (by kernel_rfl)) rfl rfl ?_
      refine lv (d := 23) rfl rfl (by kernel_rfl) (e_pick_t (v := .bool true) (bt q20 (by kernel_rfl)) rfl) ?_
      refine wpList_nil ?_
      refine then_n ?_
      refine cond_t rfl (by kernel_rfl) ?_
      refine wp_seq ?_
      refine wp_region_lit ?_
      refine lv (d := 2) rfl rfl (by kernel_rfl) (e_assign (v := .bool false) rfl) ?_
      refine wpList_nil ?_
      refine then_n ?_
      refine wp_ret ?_
      refine then_r ?_
      refine inb_r ?_
      refine then_r ?_
      refine then_r ?_
      refine inb_r ?_
      refine then_r ?_
      obtain rfl := Option.some.inj M
      exact ret1 rfl rfl  (show _ = .bool false from (by kernel_rfl)) ⟨rfl, S14.chg⟩
    replace M := ifn q20 M
    refine lvg (d := 17) (t := 16) rfl (by kernel_rfl) rfl (bf q20 (by kernel_rfl)) rfl (by kernel_rfl) (e_move (v := .slice A2 x1.length c3) (by exact e11)) ?_
    refine lvg (d := 18) (t := 16) rfl (by kernel_rfl) rfl (bf q20 (by kernel_rfl)) rfl (by kernel_rfl) (e_move (v := .int .i64 x10) (by exact e13)) ?_
    obtain ⟨q21, M⟩ := chk M
    obtain ⟨b22, o23, e24⟩ := Rd.addr h4 (show (x10).toNat < x1.length by omega)
    obtain ⟨y25, r26, k27⟩ := Rd.at h4 e24 (getD_some z65 (show (x10).toNat < x1.length by omega))
    obtain ⟨A28, c29, rfl, l30, h31⟩ := st65_open r26
    refine lvg (d := 19) (t := 16) rfl (by kernel_rfl) rfl (bf q20 (by kernel_rfl)) rfl (by kernel_rfl) (e_indexAddr (b := b22) (off := o23) (n := x1.length) (c := c3) (sz := 3) (i := x10) (k := .i64) Try.underlying25 e24 (by kernel_rfl) (by kernel_rfl) (by kernel_rfl) q21 q19) ?_
    refine lvg (d := 20) (t := 16) rfl (by kernel_rfl) rfl (bf q20 (by kernel_rfl)) rfl (by kernel_rfl) (e_loadS (b := b22) (off := o23 + (x10 : Int).toNat * 3) (cs := [.int .i64 ((x1.getD ((x10).toNat) z65).kind), .int .i64 ((x1.getD ((x10).toNat) z65).n), .slice A28 ((x1.getD ((x10).toNat) z65).text).length c29]) Try.underlying65 rfl (by kernel_rfl) (by kernel_rfl) (fun j_ u_ e_ => (hpx (S14.inv.cell (k27 j_ u_ e_))))) ?_
    obtain ⟨t32, u33, M⟩ := bnd M
    refine lcallg (d := 21) (t := 16) rfl (by kernel_rfl) rfl (bf q20 (by kernel_rfl)) rfl (by kernel_rfl) (e_call (l := [.tmp 20]) (vs := [.agg #[.int .i64 ((x1.getD ((x10).toNat) z65).kind), .int .i64 ((x1.getD ((x10).toNat) z65).n), .slice A28 ((x1.getD ((x10).toNat) z65).text).length c29]]) Try.func56 (by kernel_rfl) rfl (by kernel_rfl) rfl) (spec_l2cell.calls w7 H (x1.getD ((x10).toNat) z65) A28 c29 h31 l30 S14.own0 t32 u33) ?_
    rintro _ w34 ⟨rfl, C35⟩
    refine ⟨_, rfl, ?_⟩
    obtain ⟨S36, K37⟩ := S14.still C35
    refine lvg (d := 22) (t := 16) rfl (by kernel_rfl) rfl (bf q20 (by kernel_rfl)) rfl (by kernel_rfl) (e_notv (c := t32) (by kernel_rfl)) ?_
    refine lv (d := 23) rfl rfl (by kernel_rfl) (e_pick_f (v := .bool (decide (¬ (t32 = true)))) (bf q20 (by kernel_rfl)) (by kernel_rfl)) ?_
    refine wpList_nil ?_
    refine then_n ?_
    by_cases q38 : ¬ (t32 = true)
    · replace M := ifp q38 M
      refine cond_t rfl (bt q38 (by kernel_rfl)) ?_
      refine wp_seq ?_
      refine wp_region_lit ?_
      refine lv (d := 2) rfl rfl (by kernel_rfl) (e_assign (v := .bool false) rfl) ?_
      refine wpList_nil ?_
      refine then_n ?_
      refine wp_ret ?_
      refine then_r ?_
      refine inb_r ?_
      refine then_r ?_
      refine then_r ?_
      refine inb_r ?_
      refine then_r ?_
      obtain rfl := Option.some.inj M
      exact ret1 rfl rfl  (show _ = .bool false from (by kernel_rfl)) ⟨rfl, S36.chg⟩
    replace M := ifn q38 M
    refine cond_f rfl (bf q38 (by kernel_rfl)) ?_
    refine wp_skip ?_
    refine then_n ?_
    refine wp_seq ?_
    refine wp_region_lit ?_
    refine lv (d := 24) rfl rfl (by kernel_rfl) (e_move (v := .int .i64 x9) (by exact e12)) ?_
    refine lv (d := 25) rfl rfl (by kernel_rfl) (e_sub (k := .i64) (a := x9) (b := 1) (by kernel_rfl) rfl) ?_
    refine lv (d := 3) rfl rfl (by kernel_rfl) (e_assign (v := .int .i64 (IntKind.i64.wrap (x9 - 1))) (by kernel_rfl)) ?_
    refine wpList_nil ?_
    refine then_n ?_
    refine wp_seq ?_
    refine wp_region_lit ?_
    refine lv (d := 26) rfl rfl (by kernel_rfl) (e_move (v := .slice A2 x1.length c3) (by exact e11)) ?_
    refine lv (d := 27) rfl rfl (by kernel_rfl) (e_move (v := .int .i64 x10) (by exact e13)) ?_
    obtain ⟨b39, o40, e41⟩ := Rd.addr h4 (show (x10).toNat < x1.length by omega)
    obtain ⟨y42, r43, k44⟩ := Rd.at h4 e41 (getD_some z65 (show (x10).toNat < x1.length by omega))
    obtain ⟨A45, c46, rfl, l47, h48⟩ := st65_open r43
    refine lv (d := 28) rfl rfl (by kernel_rfl) (e_indexAddr (b := b39) (off := o40) (n := x1.length) (c := c3) (sz := 3) (i := x10) (k := .i64) Try.underlying25 e41 (by kernel_rfl) (by kernel_rfl) (by kernel_rfl) q21 q19) ?_
    refine lv (d := 29) rfl rfl (by kernel_rfl) (e_fieldAddr (b := b39) (off := o40 + (x10 : Int).toNat * 3) (o := 0) Try.underlying65 rfl rfl (sz := 1) (by kernel_rfl) (by decide) (by kernel_rfl)) ?_
    refine lv (d := 30) rfl rfl (by kernel_rfl) (e_load1 (ad := ⟨b39, o40 + (x10 : Int).toNat * 3 + 0, none⟩) (v := .int .i64 ((x1.getD ((x10).toNat) z65).kind)) Try.underlying3 rfl (by kernel_rfl) (hpx (S36.inv.cell (k44 0 _ rfl)))) ?_
    refine lv (d := 31) rfl rfl (by kernel_rfl) (e_eql (k := .i64) (a := (x1.getD ((x10).toNat) z65).kind) (b := 3) (by kernel_rfl) rfl) ?_
    refine wpList_nil ?_
    refine then_n ?_
    by_cases q49 : ((x1.getD ((x10).toNat) z65).kind) = 3
    · replace M := ifp q49 M
      refine cond_t rfl (bt q49 (by kernel_rfl)) ?_
      refine wp_region_lit ?_
      refine lv (d := 32) rfl rfl (by kernel_rfl) (e_move (v := .int .i64 (IntKind.i64.wrap (x9 - 1))) (by kernel_rfl)) ?_
      refine lv (d := 33) rfl rfl (by kernel_rfl) (e_move (v := .slice A2 x1.length c3) (by exact e11)) ?_
      refine lv (d := 34) rfl rfl (by kernel_rfl) (e_move (v := .int .i64 x10) (by exact e13)) ?_
      obtain ⟨b50, o51, e52⟩ := Rd.addr h4 (show (x10).toNat < x1.length by omega)
      obtain ⟨y53, r54, k55⟩ := Rd.at h4 e52 (getD_some z65 (show (x10).toNat < x1.length by omega))
      obtain ⟨A56, c57, rfl, l58, h59⟩ := st65_open r54
      refine lv (d := 35) rfl rfl (by kernel_rfl) (e_indexAddr (b := b50) (off := o51) (n := x1.length) (c := c3) (sz := 3) (i := x10) (k := .i64) Try.underlying25 e52 (by kernel_rfl) (by kernel_rfl) (by kernel_rfl) q21 q19) ?_
      refine lv (d := 36) rfl rfl (by kernel_rfl) (e_fieldAddr (b := b50) (off := o51 + (x10 : Int).toNat * 3) (o := 1) Try.underlying65 rfl rfl (sz := 1) (by kernel_rfl) (by decide) (by kernel_rfl)) ?_
      refine lv (d := 37) rfl rfl (by kernel_rfl) (e_load1 (ad := ⟨b50, o51 + (x10 : Int).toNat * 3 + 1, none⟩) (v := .int .i64 ((x1.getD ((x10).toNat) z65).n)) Try.underlying3 rfl (by kernel_rfl) (hpx (S36.inv.cell (k55 1 _ rfl)))) ?_
      refine lv (d := 38) rfl rfl (by kernel_rfl) (e_add (k := .i64) (a := (IntKind.i64.wrap (x9 - 1))) (b := (x1.getD ((x10).toNat) z65).n) (by kernel_rfl) (by kernel_rfl)) ?_
      refine lv (d := 3) rfl rfl (by kernel_rfl) (e_assign (v := .int .i64 (IntKind.i64.wrap ((IntKind.i64.wrap (x9 - 1)) + ((x1.getD ((x10).toNat) z65).n)))) (by kernel_rfl)) ?_
      refine wpList_nil ?_
      refine inb_n ?_
      refine then_n ?_
      refine wp_region_lit ?_
      refine lv (d := 12) rfl rfl (by kernel_rfl) (e_move (v := .int .i64 x10) (by exact e13)) ?_
      refine lv (d := 13) rfl rfl (by kernel_rfl) (e_add (k := .i64) (a := x10) (b := 1) (by kernel_rfl) rfl) ?_
      refine lv (d := 4) rfl rfl (by kernel_rfl) (e_assign (v := .int .i64 (IntKind.i64.wrap (x10 + 1))) (by kernel_rfl)) ?_
      refine wpList_nil ?_
      refine then_n ?_
      exact ⟨k18, (by omega), _, (IntKind.i64.wrap ((IntKind.i64.wrap (x9 - 1)) + ((x1.getD ((x10).toNat) z65).n))), (IntKind.i64.wrap (x10 + 1)), rfl, (by exact e11), (by kernel_rfl), (by kernel_rfl), S36, M⟩
    replace M := ifn q49 M
    refine cond_f rfl (bf q49 (by kernel_rfl)) ?_
    refine wp_skip ?_
    refine inb_n ?_
    refine then_n ?_
    refine wp_region_lit ?_
    refine lv (d := 12) rfl rfl (by kernel_rfl) (e_move (v := .int .i64 x10) (by exact e13)) ?_
    refine lv (d := 13) rfl rfl (by kernel_rfl) (e_add (k := .i64) (a := x10) (b := 1) (by kernel_rfl) rfl) ?_
    refine lv (d := 4) rfl rfl (by kernel_rfl) (e_assign (v := .int .i64 (IntKind.i64.wrap (x10 + 1))) (by kernel_rfl)) ?_
    refine wpList_nil ?_
    refine then_n ?_
    exact ⟨k18, (by omega), _, (IntKind.i64.wrap (x9 - 1)), (IntKind.i64.wrap (x10 + 1)), rfl, (by exact e11), (by kernel_rfl), (by kernel_rfl), S36, M⟩
  replace M := ifn q19 M
  refine cond_f rfl (bf q19 (by kernel_rfl)) ?_
  refine wp_exit ?_
  refine then_e ?_
  refine then_e ?_
  refine inb_hit ?_
  refine then_n ?_
  refine wp_seq ?_
  refine wp_region_lit ?_
  refine lv (d := 39) rfl rfl (by kernel_rfl) (e_move (v := .int .i64 x9) (by exact e12)) ?_
  refine lv (d := 40) rfl rfl (by kernel_rfl) (e_eql (k := .i64) (a := x9) (b := 0) (by kernel_rfl) rfl) ?_
  refine lv (d := 2) rfl rfl (by kernel_rfl) (e_assign (v := .bool (decide (x9 = 0))) (by kernel_rfl)) ?_
  refine wpList_nil ?_
  refine then_n ?_
  refine wp_ret ?_
  obtain rfl := Option.some.inj M
  exact ret1 rfl rfl  (show _ = .bool (decide (x9 = 0)) from (by kernel_rfl)) ⟨rfl, S14.chg⟩

/-! spec_l2atom -/
def spec_l2atom.f (x1 : List UInt8) : Option (List Cell) := (if x1.length ≤ 9223372036854775807 then some [(⟨2, 0, x1⟩ : Cell)] else none)
theorem spec_l2atom.calls (w : World) (H : Hp) (x1 : List UInt8) (S : Own [] H w) (r : List Cell) (M : spec_l2atom.f x1 = some r) :
    Calls Try.prog 79 #[str x1] w (fun e e_w => ∃ (A_1 : Option Addr) (c_1 : Nat) (F_1 : Foot) (H_ : Hp), e = .returned (.slice A_1 r.length c_1) ∧ Row st65 65 H_ (hp e_w) F_1 A_1 c_1 r ∧ St (anyOf []) H w [F_1] H_ e_w) := by
  rw [spec_l2atom.f] at M
  refine enter (l := [str x1]) 7 Try.func79 rfl rfl rfl ?_
  have S0_ := S.st
  refine wp_seq ?_
  refine wp_region_lit ?_
  refine lv (d := 2) rfl rfl (by kernel_rfl) (e_assign (v := .slice none 0 0) rfl) ?_
  refine wpList_nil ?_
  refine then_n ?_
  refine wp_seq ?_
  refine wp_region_lit ?_
  refine lv (d := 3) rfl rfl (by kernel_rfl) (e_move (v := str x1) (by kernel_rfl)) ?_
  obtain ⟨q2, M⟩ := chk M
  refine lve (d := 4) rfl rfl (by kernel_rfl) (e_conv_sb (xs := x1) S0_ Try.underlying9 Try.underlying59 Try.underlying5 (by kernel_rfl) q2) ?_
  rintro _ w3 ⟨A4, c5, F6, rfl, h7, S8, K9⟩
  refine lv (d := 5) rfl rfl (by kernel_rfl) (show _ = Result.ok (Next.value (.agg #[.int .i64 2, .int .i64 0, .slice A4 x1.length c5])) w3 from by kernel_rfl) ?_
  refine lve (d := 6) rfl rfl (by kernel_rfl) (new_blk (v := fun g_ => .slice (some ⟨g_, 0, none⟩) 1 1) (cs := #[.int .i64 2, .int .i64 0, .slice A4 x1.length c5]) (t := 65) S8 (by kernel_rfl)) ?_
  rintro _ w10 ⟨g11, rfl, b12, S13, K14⟩
  replace h7 := h7.move (K14.at 0 rfl)
  have S15 := S13.pull (F := F6) (Fr := [(is g11)]) 1 rfl rfl
  have S16 := S15.pull (F := (is g11)) (Fr := [F6]) 1 rfl rfl
  obtain ⟨h17, S18⟩ := row_lit (d := st65) (xs := [(⟨2, 0, x1⟩ : Cell)]) S16 b12 rfl (elsO_one1 (st65_mkO (x := (⟨2, 0, x1⟩ : Cell)) h7)) (Nat.le_of_ble_eq_true rfl)
  refine lv (d := 2) rfl rfl (by kernel_rfl) (e_assign (v := .slice (some ⟨g11, 0, none⟩) 1 1) (by kernel_rfl)) ?_
  refine wpList_nil ?_
  refine then_n ?_
  refine wp_ret ?_
  obtain rfl := Option.some.inj M
  exact ret1 rfl rfl  (show _ = .slice (some ⟨g11, 0, none⟩) 1 1 from (by kernel_rfl)) ⟨(some ⟨g11, 0, none⟩), 1, (or2 (is g11) F6), H, rfl, h17, S18⟩

/-! spec_l1copy -/
def spec_l1copy.f (x1 : List UInt8) : Option (List UInt8) := (if 0 + x1.length ≤ 140737488355328 then some x1 else none)
theorem spec_l1copy.calls (w : World) (H : Hp) (x1 : List UInt8) (A2 : Option Addr) (c3 : Nat) (h4 : Rd tByte H A2 x1) (l5 : x1.length ≤ c3) (S : Own [] H w) (r : List UInt8) (M : spec_l1copy.f x1 = some r) :
    Calls Try.prog 113 #[.slice A2 x1.length c3] w (fun e e_w => ∃ (A_1 : Option Addr) (c_1 : Nat) (F_1 : Foot) (H_ : Hp), e = .returned (.slice A_1 r.length c_1) ∧ Row tByte 5 H_ (hp e_w) F_1 A_1 c_1 r ∧ St (anyOf []) H w [F_1] H_ e_w) := by
  rw [spec_l1copy.f] at M
  refine enter (l := [.slice A2 x1.length c3]) 7 Try.func113 rfl rfl rfl ?_
  have S0_ := S.st
  refine wp_seq ?_
  refine wp_region_lit ?_
  refine lv (d := 2) rfl rfl (by kernel_rfl) (e_assign (v := .slice none 0 0) rfl) ?_
  refine wpList_nil ?_
  refine then_n ?_
  refine wp_seq ?_
  refine wp_region_lit ?_
  refine lv (d := 3) rfl rfl (by kernel_rfl) (e_assign (v := .slice none 0 0) rfl) ?_
  refine wpList_nil ?_
  refine then_n ?_
  refine wp_seq ?_
  refine wp_region_lit ?_
  refine lv (d := 4) rfl rfl (by kernel_rfl) (e_move (v := .slice none 0 0) (by kernel_rfl)) ?_
  refine lv (d := 5) rfl rfl (by kernel_rfl) (e_move (v := .slice A2 x1.length c3) (by kernel_rfl)) ?_
  obtain ⟨y6, h7, h8⟩ := Rd.news (d := tByte) (ro_scal _ _) S0_ h4
  obtain ⟨q9, M⟩ := chk M
  have S10 := S0_.unit
  have S11 := S10.unit
  have S12 := S11.pull (F := no) (Fr := [no]) 1 rfl rfl
  refine lve (d := 6) rfl rfl (by kernel_rfl) (e_append (d := tByte) (n := 0) (xs := []) (cap := 0) (A := none) (ys := x1) (A2 := A2) (c2 := c3) (z := .int .u8 0) (bytes := 1) S12 Try.underlying59 (by kernel_rfl) rfl (by decide) (by kernel_rfl) rfl (by kernel_rfl) (Row.nil _ _ _ _ no) h7 h8 (show (0 + x1.length) * 1 ≤ _ by first | omega | (simp only [List.length_cons, List.length_nil]; omega)) (by decide)) ?_
  rintro _ w13 ⟨A14, c15, F16, rfl, h17, S18, K19⟩
  replace h17 : Row tByte 5 H (hp w13) F16 A14 c15 x1 := h17
  refine lv (d := 2) rfl rfl (by kernel_rfl) (e_assign (v := .slice A14 x1.length c15) (by kernel_rfl)) ?_
  refine wpList_nil ?_
  refine then_n ?_
  refine wp_ret ?_
  obtain rfl := Option.some.inj M
  exact ret1 rfl rfl  (show _ = .slice A14 x1.length c15 from (by kernel_rfl)) ⟨A14, c15, F16, H, rfl, h17, S18⟩

/-! spec_l2copy -/
def spec_l2copy.l0 : Nat → (List Cell) → (List Cell) → Int → Option (List Cell)
  | 0, _, _, _ => none
  | k23 + 1, x1, x10, x15 => (if x15 < (x1.length : Int) then (if 0 ≤ x15 then ((spec_l1copy.f ((x1.getD ((x15).toNat) z65).text)).bind fun t94 => (if x10.length + 1 ≤ 3518437208883 then (spec_l2copy.l0 k23 x1 (x10 ++ [(⟨(x1.getD ((x15).toNat) z65).kind, (x1.getD ((x15).toNat) z65).n, t94⟩ : Cell)]) (IntKind.i64.wrap (x15 + 1))) else none)) else none) else some x10)
def spec_l2copy.f (k : Nat) (x1 : List Cell) : Option (List Cell) := (spec_l2copy.l0 k x1 [] 0)
theorem spec_l2copy.calls (k : Nat) (w : World) (H : Hp) (x1 : List Cell) (A2 : Option Addr) (c3 : Nat) (h4 : Rd st65 H A2 x1) (l5 : x1.length ≤ c3) (S : Own [] H w) (r : List Cell) (M : spec_l2copy.f k x1 = some r) :
    Calls Try.prog 75 #[.slice A2 x1.length c3] w (fun e e_w => ∃ (A_1 : Option Addr) (c_1 : Nat) (F_1 : Foot) (H_ : Hp), e = .returned (.slice A_1 r.length c_1) ∧ Row st65 65 H_ (hp e_w) F_1 A_1 c_1 r ∧ St (anyOf []) H w [F_1] H_ e_w) := by
  rw [spec_l2copy.f] at M
  refine enter (l := [.slice A2 x1.length c3]) 32 Try.func75 rfl rfl rfl ?_
  have S0_ := S.st
  refine wp_seq ?_
  refine wp_region_lit ?_
  refine lv (d := 2) rfl rfl (by kernel_rfl) (e_assign (v := .slice none 0 0) rfl) ?_
  refine wpList_nil ?_
  refine then_n ?_
  refine wp_seq ?_
  refine wp_region_lit ?_
  refine lv (d := 3) rfl rfl (by kernel_rfl) (e_assign (v := .slice none 0 0) rfl) ?_
  refine wpList_nil ?_
  refine then_n ?_
  refine wp_seq ?_
  refine wp_seq ?_
  refine wp_region_lit ?_
  refine lv (d := 4) rfl rfl (by kernel_rfl) (e_assign (v := .int .i64 0) rfl) ?_
  refine wpList_nil ?_
  refine then_n ?_
  refine wp_block ?_
  have S24 := S0_.unit
  refine wp_loop_g (fun k21 a22 w6 => ∃ (f7 : Nat → Value) (H8 : Hp) (x10 : List Cell) (A11 : Option Addr) (c12 : Nat) (F13 : Foot) (x15 : Int), a22 = mk 32 f7 ∧ f7 0 = .slice A2 x1.length c3 ∧ f7 3 = .slice A11 x10.length c12 ∧ f7 4 = .int .i64 x15 ∧ Row st65 65 H8 (hp w6) F13 A11 c12 x10 ∧ Ext H H8 ∧ St (anyOf []) H w [F13] H8 w6 ∧ spec_l2copy.l0 k21 x1 x10 x15 = some r) k ⟨_, H, [], none, 0, no, 0, rfl, (by kernel_rfl), (by kernel_rfl), (by kernel_rfl), (Row.nil _ _ _ _ _), (Ext.refl _), S24, M⟩ ?_
  clear M
  rintro k21 a22 w6 ⟨f7, H8, x10, A11, c12, F13, x15, rfl, e16, e17, e18, h14, Y9, S19, M⟩
  rcases k21 with _ | k23
  · rw [spec_l2copy.l0] at M
    cases M
  rw [spec_l2copy.l0] at M
  refine wp_seq ?_
  refine wp_seq ?_
  refine wp_region_lit ?_
  refine lv (d := 5) rfl rfl (by kernel_rfl) (e_move (v := .int .i64 x15) (by exact e18)) ?_
  refine lv (d := 6) rfl rfl (by kernel_rfl) (e_move (v := .slice A2 x1.length c3) (by exact e16)) ?_
  refine lv (d := 7) rfl rfl (by kernel_rfl) (e_len (A := A2) (n := x1.length) (c := c3) Try.underlying25 (by kernel_rfl)) ?_
  refine lv (d := 8) rfl rfl (by kernel_rfl) (e_lss (k := .i64) (a := x15) (b := (x1.length : Int)) (by kernel_rfl) (by kernel_rfl)) ?_
  refine wpList_nil ?_
  refine then_n ?_
  by_cases q25 : x15 < (x1.length : Int)
  · replace M := ifp q25 M
    refine cond_t rfl (bt q25 (by kernel_rfl)) ?_
    refine wp_skip ?_
    refine then_n ?_
    refine wp_seq ?_
    refine wp_block ?_
    refine region_mix (S := (fun (L_ : Array Bool) (w_ : World) => Ext H8 (hp w_) ∧ True)) (by kernel_rfl) S19 ?_
    intro w26 S27 K28 hc29
    have hs30 : (fun (L_ : Array Bool) (w_ : World) => Ext H8 (hp w_) ∧ True) (Array.replicate 21 false) w26 := ⟨S27.inv, trivial⟩
    replace h14 := h14.move (K28.at 0 rfl)
    refine xv (i := 0) (d := 11) rfl rfl rfl (by kernel_rfl) (by kernel_rfl) (fun _ _ => Iff.rfl) hc29 hs30 (fun L_ w_ hc_ hu_ hs_ => e_move (v := .slice A11 x10.length c12) (by exact e17)) ?_; intro hc31 hs32
    refine xv (i := 1) (d := 12) rfl rfl rfl (by kernel_rfl) (by kernel_rfl) (fun _ _ => Iff.rfl) hc31 hs32 (fun L_ w_ hc_ hu_ hs_ => e_move (v := .slice A2 x1.length c3) (by exact e16)) ?_; intro hc33 hs34
    refine xv (i := 2) (d := 13) rfl rfl rfl (by kernel_rfl) (by kernel_rfl) (fun _ _ => Iff.rfl) hc33 hs34 (fun L_ w_ hc_ hu_ hs_ => e_move (v := .int .i64 x15) (by exact e18)) ?_; intro hc35 hs36
    obtain ⟨q37, M⟩ := chk M
    obtain ⟨b38, o39, e40⟩ := Rd.addr h4 (show (x15).toNat < x1.length by omega)
    obtain ⟨y41, r42, k43⟩ := Rd.at h4 e40 (getD_some z65 (show (x15).toNat < x1.length by omega))
    obtain ⟨A44, c45, rfl, l46, h47⟩ := st65_open r42
    refine xv (i := 3) (d := 14) rfl rfl rfl (by kernel_rfl) (by kernel_rfl) (fun _ _ => Iff.rfl) hc35 hs36 (fun L_ w_ hc_ hu_ hs_ => e_indexAddr (b := b38) (off := o39) (n := x1.length) (c := c3) (sz := 3) (i := x15) (k := .i64) Try.underlying25 e40 (by kernel_rfl) (by kernel_rfl) (by kernel_rfl) q37 q25) ?_; intro hc48 hs49
    refine xv (i := 4) (d := 15) rfl rfl rfl (by kernel_rfl) (by kernel_rfl) (fun _ _ => Iff.rfl) hc48 hs49 (fun L_ w_ hc_ hu_ hs_ => e_fieldAddr (b := b38) (off := o39 + (x15 : Int).toNat * 3) (o := 0) Try.underlying65 rfl rfl (sz := 1) (by kernel_rfl) (by decide) (by kernel_rfl)) ?_; intro hc50 hs51
    refine xv (i := 5) (d := 16) rfl rfl rfl (by kernel_rfl) (by kernel_rfl) (fun _ _ => Iff.rfl) hc50 hs51 (fun L_ w_ hc_ hu_ hs_ => e_load1 (ad := ⟨b38, o39 + (x15 : Int).toNat * 3 + 0, none⟩) (v := .int .i64 ((x1.getD ((x15).toNat) z65).kind)) Try.underlying3 rfl (by kernel_rfl) (hpx (hs_.1.cell (Y9.cell (k43 0 _ rfl))))) ?_; intro hc52 hs53
    refine xv (i := 6) (d := 17) rfl rfl rfl (by kernel_rfl) (by kernel_rfl) (fun _ _ => Iff.rfl) hc52 hs53 (fun L_ w_ hc_ hu_ hs_ => e_move (v := .slice A2 x1.length c3) (by exact e16)) ?_; intro hc54 hs55
    refine xv (i := 7) (d := 18) rfl rfl rfl (by kernel_rfl) (by kernel_rfl) (fun _ _ => Iff.rfl) hc54 hs55 (fun L_ w_ hc_ hu_ hs_ => e_move (v := .int .i64 x15) (by exact e18)) ?_; intro hc56 hs57
    obtain ⟨b58, o59, e60⟩ := Rd.addr h4 (show (x15).toNat < x1.length by omega)
    obtain ⟨y61, r62, k63⟩ := Rd.at h4 e60 (getD_some z65 (show (x15).toNat < x1.length by omega))
    obtain ⟨A64, c65, rfl, l66, h67⟩ := st65_open r62
    refine xv (i := 8) (d := 19) rfl rfl rfl (by kernel_rfl) (by kernel_rfl) (fun _ _ => Iff.rfl) hc56 hs57 (fun L_ w_ hc_ hu_ hs_ => e_indexAddr (b := b58) (off := o59) (n := x1.length) (c := c3) (sz := 3) (i := x15) (k := .i64) Try.underlying25 e60 (by kernel_rfl) (by kernel_rfl) (by kernel_rfl) q37 q25) ?_; intro hc68 hs69
    refine xv (i := 9) (d := 20) rfl rfl rfl (by kernel_rfl) (by kernel_rfl) (fun _ _ => Iff.rfl) hc68 hs69 (fun L_ w_ hc_ hu_ hs_ => e_fieldAddr (b := b58) (off := o59 + (x15 : Int).toNat * 3) (o := 1) Try.underlying65 rfl rfl (sz := 1) (by kernel_rfl) (by decide) (by kernel_rfl)) ?_; intro hc70 hs71
    refine xv (i := 10) (d := 21) rfl rfl rfl (by kernel_rfl) (by kernel_rfl) (fun _ _ => Iff.rfl) hc70 hs71 (fun L_ w_ hc_ hu_ hs_ => e_load1 (ad := ⟨b58, o59 + (x15 : Int).toNat * 3 + 1, none⟩) (v := .int .i64 ((x1.getD ((x15).toNat) z65).n)) Try.underlying3 rfl (by kernel_rfl) (hpx (hs_.1.cell (Y9.cell (k63 1 _ rfl))))) ?_; intro hc72 hs73
    refine xv (i := 11) (d := 22) rfl rfl rfl (by kernel_rfl) (by kernel_rfl) (fun _ _ => Iff.rfl) hc72 hs73 (fun L_ w_ hc_ hu_ hs_ => e_move (v := .slice A2 x1.length c3) (by exact e16)) ?_; intro hc74 hs75
    refine xone (i := 12) (by kernel_rfl) hc74 ?_
    refine yo (i := 12) (d := 23) rfl rfl (wanted_none rfl _) (by kernel_rfl) (by kernel_rfl) (fun _ _ => Iff.rfl) hs75 (e_move (v := .int .i64 x15) (by exact e18)) ?_; intro hc76 hs77
    obtain ⟨b78, o79, e80⟩ := Rd.addr h4 (show (x15).toNat < x1.length by omega)
    obtain ⟨y81, r82, k83⟩ := Rd.at h4 e80 (getD_some z65 (show (x15).toNat < x1.length by omega))
    obtain ⟨A84, c85, rfl, l86, h87⟩ := st65_open r82
    refine xone (i := 13) (by kernel_rfl) hc76 ?_
    refine yo (i := 13) (d := 24) rfl rfl (wanted_none rfl _) (by kernel_rfl) (by kernel_rfl) (fun _ _ => Iff.rfl) hs77 (e_indexAddr (b := b78) (off := o79) (n := x1.length) (c := c3) (sz := 3) (i := x15) (k := .i64) Try.underlying25 e80 (by kernel_rfl) (by kernel_rfl) (by kernel_rfl) q37 q25) ?_; intro hc88 hs89
    refine xone (i := 14) (by kernel_rfl) hc88 ?_
    refine yo (i := 14) (d := 25) rfl rfl (wanted_none rfl _) (by kernel_rfl) (by kernel_rfl) (fun _ _ => Iff.rfl) hs89 (e_fieldAddr (b := b78) (off := o79 + (x15 : Int).toNat * 3) (o := 2) Try.underlying65 rfl rfl (sz := 1) (by kernel_rfl) (by decide) (by kernel_rfl)) ?_; intro hc90 hs91
    refine xone (i := 15) (by kernel_rfl) hc90 ?_
    refine yo (i := 15) (d := 26) rfl rfl (wanted_none rfl _) (by kernel_rfl) (by kernel_rfl) (fun _ _ => Iff.rfl) hs91 (e_load1 (ad := ⟨b78, o79 + (x15 : Int).toNat * 3 + 2, none⟩) (v := .slice A84 ((x1.getD ((x15).toNat) z65).text).length c85) Try.underlying59 rfl (by kernel_rfl) (hpx (S27.inv.cell (Y9.cell (k83 2 _ rfl))))) ?_; intro hc92 hs93
    obtain ⟨t94, u95, M⟩ := bnd M
    refine xone (i := 16) (by kernel_rfl) hc92 ?_
    refine yc (i := 16) rfl (wanted_none rfl _) (by kernel_rfl) (by kernel_rfl) (e_call (l := [.tmp 26]) (vs := [.slice A84 ((x1.getD ((x15).toNat) z65).text).length c85]) Try.func113 (by kernel_rfl) rfl (by kernel_rfl) rfl) (spec_l1copy.calls w26 H8 ((x1.getD ((x15).toNat) z65).text) A84 c85 (h87.ext Y9) l86 (St.own' (Fa := []) (Fr := [F13]) S27) t94 u95) ?_
    rintro hc103 _ w96 ⟨A99, c100, F102, H97, rfl, h101, T98⟩
    refine ⟨_, rfl, ?_⟩
    obtain ⟨S104, K105⟩ := St.call (Fa := []) (Fr := [F13]) S27 T98
    replace h14 := h14.move (K105.at 0 rfl)
    have E106 := T98.ext
    replace h14 := h14.ext E106
    refine ⟨⟨(Ext.trans E106 S104.inv), trivial⟩, fun hs107 => ?_⟩
    refine xone (i := 17) (by kernel_rfl) hc103 ?_
    refine yo (i := 17) (d := 28) rfl rfl (wanted_none rfl _) (by kernel_rfl) (by kernel_rfl) (fun _ _ => Iff.rfl) hs107 (show _ = Result.ok (Next.value (.agg #[.int .i64 ((x1.getD ((x15).toNat) z65).kind), .int .i64 ((x1.getD ((x15).toNat) z65).n), .slice A99 t94.length c100])) w96 from by kernel_rfl) ?_; intro hc108 hs109
    refine xone (i := 18) (by kernel_rfl) hc108 ?_
    refine ye (i := 18) (d := 29) rfl rfl (wanted_none rfl _) (by kernel_rfl) (by kernel_rfl) (new_blk (v := fun g_ => .slice (some ⟨g_, 0, none⟩) 1 1) (cs := #[.int .i64 ((x1.getD ((x15).toNat) z65).kind), .int .i64 ((x1.getD ((x15).toNat) z65).n), .slice A99 t94.length c100]) (t := 65) S104 (by kernel_rfl)) ?_
    rintro hc115 _ w110 ⟨g111, rfl, b112, S113, K114⟩
    replace h101 := h101.move (K114.at 0 rfl)
    replace h14 := h14.move (K114.at 1 rfl)
    refine ⟨⟨(Ext.trans E106 S113.inv), trivial⟩, fun hs116 => ?_⟩
    obtain ⟨q117, M⟩ := chk M
    have S118 := S113.pull (F := F102) (Fr := [(is g111), F13]) 1 rfl rfl
    have S119 := S118.pull (F := F13) (Fr := [F102, (is g111)]) 2 rfl rfl
    refine xone (i := 19) (by kernel_rfl) hc115 ?_
    refine ye (i := 19) (d := 30) rfl rfl (wanted_none rfl _) (by kernel_rfl) (by kernel_rfl) (e_append (d := st65) (n := x10.length) (xs := x10) (cap := c12) (A := A11) (ys := [(⟨(x1.getD ((x15).toNat) z65).kind, (x1.getD ((x15).toNat) z65).n, t94⟩ : Cell)]) (A2 := (some ⟨g111, 0, none⟩)) (c2 := 1) (z := .agg #[.int .i64 0, .int .i64 0, .slice none 0 0]) (bytes := 40) S119 Try.underlying25 (by kernel_rfl) rfl (by decide) (by kernel_rfl) rfl (by kernel_rfl) h14 (elsO_one1 (st65_mkO (x := (⟨(x1.getD ((x15).toNat) z65).kind, (x1.getD ((x15).toNat) z65).n, t94⟩ : Cell)) h101)) (.inr (blk_news b112 rfl)) (show (x10.length + [(⟨(x1.getD ((x15).toNat) z65).kind, (x1.getD ((x15).toNat) z65).n, t94⟩ : Cell)].length) * 40 ≤ _ by first | omega | (simp only [List.length_cons, List.length_nil]; omega)) (by decide)) ?_
    rintro hc127 _ w120 ⟨A121, c122, F123, rfl, h124, S125, K126⟩
    replace b112 := K126.blk 0 rfl b112
    refine ⟨⟨(Ext.trans E106 S125.inv), trivial⟩, fun hs128 => ?_⟩
    refine xone (i := 20) (by kernel_rfl) hc127 ?_
    refine yo (i := 20) (d := 3) rfl rfl (wanted_none rfl _) (by kernel_rfl) (by kernel_rfl) (fun _ _ => Iff.rfl) hs128 (e_assign (v := .slice A121 ((x10 ++ [(⟨(x1.getD ((x15).toNat) z65).kind, (x1.getD ((x15).toNat) z65).n, t94⟩ : Cell)]).length) c122) (by kernel_rfl)) ?_; intro hc129 hs130
    refine xn (by kernel_rfl) ?_ _
    refine inb_n ?_
    refine then_n ?_
    refine wp_region_lit ?_
    refine lv (d := 9) rfl rfl (by kernel_rfl) (e_move (v := .int .i64 x15) (by exact e18)) ?_
    refine lv (d := 10) rfl rfl (by kernel_rfl) (e_add (k := .i64) (a := x15) (b := 1) (by kernel_rfl) rfl) ?_
    refine lv (d := 4) rfl rfl (by kernel_rfl) (e_assign (v := .int .i64 (IntKind.i64.wrap (x15 + 1))) (by kernel_rfl)) ?_
    refine wpList_nil ?_
    refine then_n ?_
    have S131 := St.first (Fa := [F123]) (Fr := [(is g111)]) S125
    exact ⟨k23, (by omega), _, H97, (x10 ++ [(⟨(x1.getD ((x15).toNat) z65).kind, (x1.getD ((x15).toNat) z65).n, t94⟩ : Cell)]), A121, c122, F123, (IntKind.i64.wrap (x15 + 1)), rfl, (by exact e16), (by kernel_rfl), (by kernel_rfl), h124, (Y9.trans E106), S131, M⟩
  replace M := ifn q25 M
  refine cond_f rfl (bf q25 (by kernel_rfl)) ?_
  refine wp_exit ?_
  refine then_e ?_
  refine then_e ?_
  refine inb_hit ?_
  refine then_n ?_
  refine wp_seq ?_
  refine wp_region_lit ?_
  refine lv (d := 31) rfl rfl (by kernel_rfl) (e_move (v := .slice A11 x10.length c12) (by exact e17)) ?_
  refine lv (d := 2) rfl rfl (by kernel_rfl) (e_assign (v := .slice A11 x10.length c12) (by kernel_rfl)) ?_
  refine wpList_nil ?_
  refine then_n ?_
  refine wp_ret ?_
  obtain rfl := Option.some.inj M
  exact ret1 rfl rfl  (show _ = .slice A11 x10.length c12 from (by kernel_rfl)) ⟨A11, c12, F13, H8, rfl, h14, S19⟩

/-! spec_l2list -/
def spec_l2list.l0 : Nat → (List (List Cell)) → (List Cell) → (List Cell) → Int → Option (List Cell)
  | 0, _, _, _, _ => none
  | k29 + 1, x1, x6, x15, x20 => (if x20 < (x1.length : Int) then (if x15.length + 1 ≤ 3518437208883 then (if 0 ≤ x20 then ((spec_l2copy.f k29 (x1.getD ((x20).toNat) ([] : List Cell))).bind fun t67 => (if (x15 ++ [(⟨3, 2, [(46 : UInt8)]⟩ : Cell)]).length + t67.length ≤ 3518437208883 then (spec_l2list.l0 k29 x1 x6 ((x15 ++ [(⟨3, 2, [(46 : UInt8)]⟩ : Cell)]) ++ t67) (IntKind.i64.wrap (x20 + 1))) else none)) else none) else none) else ((spec_l2copy.f k29 x6).bind fun t92 => (if x15.length + t92.length ≤ 3518437208883 then some (x15 ++ t92) else none)))
def spec_l2list.f (k : Nat) (x1 : List (List Cell)) (x6 : List Cell) : Option (List Cell) := (spec_l2list.l0 k x1 x6 [] 0)
theorem spec_l2list.calls (k : Nat) (w : World) (H : Hp) (x1 : List (List Cell)) (A2 : Option Addr) (c3 : Nat) (x6 : List Cell) (A7 : Option Addr) (c8 : Nat) (h4 : Rd sl65 H A2 x1) (l5 : x1.length ≤ c3) (h9 : Rd st65 H A7 x6) (l10 : x6.length ≤ c8) (S : Own [] H w) (r : List Cell) (M : spec_l2list.f k x1 x6 = some r) :
    Calls Try.prog 78 #[.slice A2 x1.length c3, .slice A7 x6.length c8] w (fun e e_w => ∃ (A_1 : Option Addr) (c_1 : Nat) (F_1 : Foot) (H_ : Hp), e = .returned (.slice A_1 r.length c_1) ∧ Row st65 65 H_ (hp e_w) F_1 A_1 c_1 r ∧ St (anyOf []) H w [F_1] H_ e_w) := by
  rw [spec_l2list.f] at M
  refine enter (l := [.slice A2 x1.length c3, .slice A7 x6.length c8]) 30 Try.func78 rfl rfl rfl ?_
  have S0_ := S.st
  refine wp_seq ?_
  refine wp_region_lit ?_
  refine lv (d := 4) rfl rfl (by kernel_rfl) (e_assign (v := .slice none 0 0) rfl) ?_
  refine wpList_nil ?_
  refine then_n ?_
  refine wp_seq ?_
  refine wp_region_lit ?_
  refine lv (d := 5) rfl rfl (by kernel_rfl) (e_assign (v := .slice none 0 0) rfl) ?_
  refine wpList_nil ?_
  refine then_n ?_
  refine wp_seq ?_
  refine wp_seq ?_
  refine wp_region_lit ?_
  refine lv (d := 6) rfl rfl (by kernel_rfl) (e_assign (v := .int .i64 0) rfl) ?_
  refine wpList_nil ?_
  refine then_n ?_
  refine wp_block ?_
  have S30 := S0_.unit
  refine wp_loop_g (fun k27 a28 w11 => ∃ (f12 : Nat → Value) (H13 : Hp) (x15 : List Cell) (A16 : Option Addr) (c17 : Nat) (F18 : Foot) (x20 : Int), a28 = mk 30 f12 ∧ f12 0 = .slice A2 x1.length c3 ∧ f12 1 = .slice A7 x6.length c8 ∧ f12 5 = .slice A16 x15.length c17 ∧ f12 6 = .int .i64 x20 ∧ Row st65 65 H13 (hp w11) F18 A16 c17 x15 ∧ Ext H H13 ∧ St (anyOf []) H w [F18] H13 w11 ∧ spec_l2list.l0 k27 x1 x6 x15 x20 = some r) k ⟨_, H, [], none, 0, no, 0, rfl, (by kernel_rfl), (by kernel_rfl), (by kernel_rfl), (by kernel_rfl), (Row.nil _ _ _ _ _), (Ext.refl _), S30, M⟩ ?_
  clear M
  rintro k27 a28 w11 ⟨f12, H13, x15, A16, c17, F18, x20, rfl, e21, e22, e23, e24, h19, Y14, S25, M⟩
  rcases k27 with _ | k29
  · rw [spec_l2list.l0] at M
    cases M
  rw [spec_l2list.l0] at M
  refine wp_seq ?_
  refine wp_seq ?_
  refine wp_region_lit ?_
  refine lv (d := 7) rfl rfl (by kernel_rfl) (e_move (v := .int .i64 x20) (by exact e24)) ?_
  refine lv (d := 8) rfl rfl (by kernel_rfl) (e_move (v := .slice A2 x1.length c3) (by exact e21)) ?_
  refine lv (d := 9) rfl rfl (by kernel_rfl) (e_len (A := A2) (n := x1.length) (c := c3) Try.underlying38 (by kernel_rfl)) ?_
  refine lv (d := 10) rfl rfl (by kernel_rfl) (e_lss (k := .i64) (a := x20) (b := (x1.length : Int)) (by kernel_rfl) (by kernel_rfl)) ?_
  refine wpList_nil ?_
  refine then_n ?_
  by_cases q31 : x20 < (x1.length : Int)
  · replace M := ifp q31 M
    refine cond_t rfl (bt q31 (by kernel_rfl)) ?_
    refine wp_skip ?_
    refine then_n ?_
    refine wp_seq ?_
    refine wp_block ?_
    refine wp_seq ?_
    refine wp_region_lit ?_
    refine lv (d := 13) rfl rfl (by kernel_rfl) (e_move (v := .slice A16 x15.length c17) (by exact e23)) ?_
    refine lve (d := 14) rfl rfl (by kernel_rfl) (new_blk (v := fun g_ => .slice (some ⟨g_, 0, none⟩) 1 1) (cs := #[.int .u8 46]) (t := 5) S25 (by kernel_rfl)) ?_
    rintro _ w32 ⟨g33, rfl, b34, S35, K36⟩
    replace h19 := h19.move (K36.at 0 rfl)
    refine lve (d := 15) rfl rfl (by kernel_rfl) (e_conv_lit (g := g33) (n := 1) (cur := #[.int .u8 46]) (xs := [(46 : UInt8)]) S35 b34 Try.underlying59 Try.underlying5 (by kernel_rfl) rfl rfl (by decide)) ?_
    rintro _ w37 ⟨rfl, h38, S39, K40⟩
    replace h19 := h19.move (K40.at 0 rfl)
    clear b34
    refine lv (d := 16) rfl rfl (by kernel_rfl) (show _ = Result.ok (Next.value (.agg #[.int .i64 3, .int .i64 2, .slice (some ⟨g33, 0, none⟩) 1 1])) w37 from by kernel_rfl) ?_
    refine lve (d := 17) rfl rfl (by kernel_rfl) (new_blk (v := fun g_ => .slice (some ⟨g_, 0, none⟩) 1 1) (cs := #[.int .i64 3, .int .i64 2, .slice (some ⟨g33, 0, none⟩) 1 1]) (t := 65) S39 (by kernel_rfl)) ?_
    rintro _ w41 ⟨g42, rfl, b43, S44, K45⟩
    replace h38 := h38.move (K45.at 0 rfl)
    replace h19 := h19.move (K45.at 1 rfl)
    obtain ⟨q46, M⟩ := chk M
    have S47 := S44.pull (F := (is g33)) (Fr := [(is g42), F18]) 1 rfl rfl
    have S48 := S47.pull (F := F18) (Fr := [(is g33), (is g42)]) 2 rfl rfl
    refine lve (d := 18) rfl rfl (by kernel_rfl) (e_append (d := st65) (n := x15.length) (xs := x15) (cap := c17) (A := A16) (ys := [(⟨3, 2, [(46 : UInt8)]⟩ : Cell)]) (A2 := (some ⟨g42, 0, none⟩)) (c2 := 1) (z := .agg #[.int .i64 0, .int .i64 0, .slice none 0 0]) (bytes := 40) S48 Try.underlying25 (by kernel_rfl) rfl (by decide) (by kernel_rfl) rfl (by kernel_rfl) h19 (elsO_one1 (st65_mkO (x := (⟨3, 2, [(46 : UInt8)]⟩ : Cell)) h38)) (.inr (blk_news b43 rfl)) (show (x15.length + [(⟨3, 2, [(46 : UInt8)]⟩ : Cell)].length) * 40 ≤ _ by first | omega | (simp only [List.length_cons, List.length_nil]; omega)) (by decide)) ?_
    rintro _ w49 ⟨A50, c51, F52, rfl, h53, S54, K55⟩
    replace b43 := K55.blk 0 rfl b43
    refine lv (d := 5) rfl rfl (by kernel_rfl) (e_assign (v := .slice A50 ((x15 ++ [(⟨3, 2, [(46 : UInt8)]⟩ : Cell)]).length) c51) (by kernel_rfl)) ?_
    refine wpList_nil ?_
    refine then_n ?_
    refine wp_region_lit ?_
    refine lv (d := 19) rfl rfl (by kernel_rfl) (e_move (v := .slice A50 ((x15 ++ [(⟨3, 2, [(46 : UInt8)]⟩ : Cell)]).length) c51) (by kernel_rfl)) ?_
    refine lv (d := 20) rfl rfl (by kernel_rfl) (e_move (v := .slice A2 x1.length c3) (by exact e21)) ?_
    refine lv (d := 21) rfl rfl (by kernel_rfl) (e_move (v := .int .i64 x20) (by exact e24)) ?_
    obtain ⟨q56, M⟩ := chk M
    obtain ⟨b57, o58, e59⟩ := Rd.addr h4 (show (x20).toNat < x1.length by omega)
    obtain ⟨y60, r61, k62⟩ := Rd.at h4 e59 (getD_some ([] : List Cell) (show (x20).toNat < x1.length by omega))
    obtain ⟨A63, c64, rfl, l65, h66⟩ := r61
    refine lv (d := 22) rfl rfl (by kernel_rfl) (e_indexAddr (b := b57) (off := o58) (n := x1.length) (c := c3) (sz := 1) (i := x20) (k := .i64) Try.underlying38 e59 (by kernel_rfl) (by kernel_rfl) (by kernel_rfl) q56 q31) ?_
    refine lv (d := 23) rfl rfl (by kernel_rfl) (e_load1 (ad := ⟨b57, o58 + (x20 : Int).toNat * 1, none⟩) (v := .slice A63 (x1.getD ((x20).toNat) ([] : List Cell)).length c64) Try.underlying25 rfl (by kernel_rfl) (hpx (S54.inv.cell (Y14.cell (k62 0 _ rfl))))) ?_
    obtain ⟨t67, u68, M⟩ := bnd M
    refine lcall (d := 24) rfl rfl (by kernel_rfl) (e_call (l := [.tmp 23]) (vs := [.slice A63 (x1.getD ((x20).toNat) ([] : List Cell)).length c64]) Try.func75 (by kernel_rfl) rfl (by kernel_rfl) rfl) (spec_l2copy.calls k29 w49 H13 (x1.getD ((x20).toNat) ([] : List Cell)) A63 c64 (h66.ext Y14) l65 (St.own' (Fa := []) (Fr := [F52, (is g42)]) S54) t67 u68) ?_
    rintro _ w69 ⟨A72, c73, F75, H70, rfl, h74, T71⟩
    refine ⟨_, rfl, ?_⟩
    obtain ⟨S76, K77⟩ := St.call (Fa := []) (Fr := [F52, (is g42)]) S54 T71
    replace h53 := h53.move (K77.at 0 rfl)
    replace b43 := K77.blk 1 rfl b43
    have E78 := T71.ext
    replace h53 := h53.ext E78
    obtain ⟨y79, h80, h81⟩ := Row.news h74
    obtain ⟨q82, M⟩ := chk M
    have S83 := S76.pull (F := F52) (Fr := [F75, (is g42)]) 1 rfl rfl
    refine lve (d := 25) rfl rfl (by kernel_rfl) (e_append (d := st65) (n := (x15 ++ [(⟨3, 2, [(46 : UInt8)]⟩ : Cell)]).length) (xs := (x15 ++ [(⟨3, 2, [(46 : UInt8)]⟩ : Cell)])) (cap := c51) (A := A50) (ys := t67) (A2 := A72) (c2 := c73) (z := .agg #[.int .i64 0, .int .i64 0, .slice none 0 0]) (bytes := 40) S83 Try.underlying25 (by kernel_rfl) rfl (by decide) (by kernel_rfl) rfl (by kernel_rfl) h53 h80 h81 (show ((x15 ++ [(⟨3, 2, [(46 : UInt8)]⟩ : Cell)]).length + t67.length) * 40 ≤ _ by first | omega | (simp only [List.length_cons, List.length_nil]; omega)) (by decide)) ?_
    rintro _ w84 ⟨A85, c86, F87, rfl, h88, S89, K90⟩
    replace b43 := K90.blk 0 rfl b43
    refine lv (d := 5) rfl rfl (by kernel_rfl) (e_assign (v := .slice A85 (((x15 ++ [(⟨3, 2, [(46 : UInt8)]⟩ : Cell)]) ++ t67).length) c86) (by kernel_rfl)) ?_
    refine wpList_nil ?_
    refine inb_n ?_
    refine then_n ?_
    refine wp_region_lit ?_
    refine lv (d := 11) rfl rfl (by kernel_rfl) (e_move (v := .int .i64 x20) (by exact e24)) ?_
    refine lv (d := 12) rfl rfl (by kernel_rfl) (e_add (k := .i64) (a := x20) (b := 1) (by kernel_rfl) rfl) ?_
    refine lv (d := 6) rfl rfl (by kernel_rfl) (e_assign (v := .int .i64 (IntKind.i64.wrap (x20 + 1))) (by kernel_rfl)) ?_
    refine wpList_nil ?_
    refine then_n ?_
    have S91 := St.first (Fa := [F87]) (Fr := [(is g42)]) S89
    exact ⟨k29, (by omega), _, H70, ((x15 ++ [(⟨3, 2, [(46 : UInt8)]⟩ : Cell)]) ++ t67), A85, c86, F87, (IntKind.i64.wrap (x20 + 1)), rfl, (by exact e21), (by exact e22), (by kernel_rfl), (by kernel_rfl), h88, (Y14.trans E78), S91, M⟩
  replace M := ifn q31 M
  refine cond_f rfl (bf q31 (by kernel_rfl)) ?_
  refine wp_exit ?_
  refine then_e ?_
  refine then_e ?_
  refine inb_hit ?_
  refine then_n ?_
  refine wp_seq ?_
  refine wp_region_lit ?_
  refine lv (d := 26) rfl rfl (by kernel_rfl) (e_move (v := .slice A16 x15.length c17) (by exact e23)) ?_
  refine lv (d := 27) rfl rfl (by kernel_rfl) (e_move (v := .slice A7 x6.length c8) (by exact e22)) ?_
  obtain ⟨t92, u93, M⟩ := bnd M
  refine lcall (d := 28) rfl rfl (by kernel_rfl) (e_call (l := [.tmp 27]) (vs := [.slice A7 x6.length c8]) Try.func75 (by kernel_rfl) rfl (by kernel_rfl) rfl) (spec_l2copy.calls k29 w11 H13 x6 A7 c8 (h9.ext Y14) l10 (St.own' (Fa := []) (Fr := [F18]) S25) t92 u93) ?_
  rintro _ w94 ⟨A97, c98, F100, H95, rfl, h99, T96⟩
  refine ⟨_, rfl, ?_⟩
  obtain ⟨S101, K102⟩ := St.call (Fa := []) (Fr := [F18]) S25 T96
  replace h19 := h19.move (K102.at 0 rfl)
  have E103 := T96.ext
  replace h19 := h19.ext E103
  obtain ⟨y104, h105, h106⟩ := Row.news h99
  obtain ⟨q107, M⟩ := chk M
  have S108 := S101.pull (F := F18) (Fr := [F100]) 1 rfl rfl
  refine lve (d := 29) rfl rfl (by kernel_rfl) (e_append (d := st65) (n := x15.length) (xs := x15) (cap := c17) (A := A16) (ys := t92) (A2 := A97) (c2 := c98) (z := .agg #[.int .i64 0, .int .i64 0, .slice none 0 0]) (bytes := 40) S108 Try.underlying25 (by kernel_rfl) rfl (by decide) (by kernel_rfl) rfl (by kernel_rfl) h19 h105 h106 (show (x15.length + t92.length) * 40 ≤ _ by first | omega | (simp only [List.length_cons, List.length_nil]; omega)) (by decide)) ?_
  rintro _ w109 ⟨A110, c111, F112, rfl, h113, S114, K115⟩
  refine lv (d := 4) rfl rfl (by kernel_rfl) (e_assign (v := .slice A110 ((x15 ++ t92).length) c111) (by kernel_rfl)) ?_
  refine wpList_nil ?_
  refine then_n ?_
  refine wp_ret ?_
  obtain rfl := Option.some.inj M
  exact ret1 rfl rfl  (show _ = .slice A110 ((x15 ++ t92).length) c111 from (by kernel_rfl)) ⟨A110, c111, F112, H95, rfl, h113, S114⟩

/-! spec_MakeList -/
def spec_MakeList.l0 : Nat → (List (List Cell)) → Int → Int → Option ((List Cell) × Int)
  | 0, _, _, _ => none
  | k19 + 1, x1, x10, x11 => (if x11 < (x1.length : Int) then (if 0 ≤ x11 then ((spec_ValidTerm.f k19 (x1.getD ((x11).toNat) ([] : List Cell))).bind fun t32 => (if ¬ (t32 = true) then some ([], 1) else (spec_MakeList.l0 k19 x1 (IntKind.i64.wrap (x10 + (IntKind.i64.wrap (1 + ((x1.getD ((x11).toNat) ([] : List Cell)).length : Int))))) (IntKind.i64.wrap (x11 + 1))))) else none) else (if x10 > 2000 then some ([], 3) else ((spec_l2atom.f ([91, 93] : List UInt8)).bind fun t52 => ((spec_l2list.f k19 x1 t52).bind fun t70 => some (t70, 0)))))
def spec_MakeList.f (k : Nat) (x1 : List (List Cell)) : Option ((List Cell) × Int) := (if (x1.length : Int) > 2000 then some ([], 1) else (spec_MakeList.l0 k x1 1 0))
theorem spec_MakeList.calls (k : Nat) (w : World) (H : Hp) (x1 : List (List Cell)) (A2 : Option Addr) (c3 : Nat) (h4 : Rd sl65 H A2 x1) (l5 : x1.length ≤ c3) (S : Own [] H w) (r : (List Cell) × Int) (M : spec_MakeList.f k x1 = some r) :
    Calls Try.prog 40 #[.slice A2 x1.length c3] w (fun e e_w => ∃ (A_1 : Option Addr) (c_1 : Nat) (F_1 : Foot) (H_ : Hp), e = .returned (.tuple #[.slice A_1 r.1.length c_1, .int .i64 r.2]) ∧ Row st65 65 H_ (hp e_w) F_1 A_1 c_1 r.1 ∧ St (anyOf []) H w [F_1] H_ e_w) := by
  rw [spec_MakeList.f] at M
  refine enter (l := [.slice A2 x1.length c3]) 34 Try.func40 rfl rfl rfl ?_
  have S0_ := S.st
  refine wp_seq ?_
  refine wp_region_lit ?_
  refine lv (d := 2) rfl rfl (by kernel_rfl) (e_assign (v := .slice none 0 0) rfl) ?_
  refine lv (d := 3) rfl rfl (by kernel_rfl) (e_assign (v := .int .i64 0) rfl) ?_
  refine wpList_nil ?_
  refine then_n ?_
  refine wp_seq ?_
  refine wp_seq ?_
  refine wp_region_lit ?_
  refine lv (d := 6) rfl rfl (by kernel_rfl) (e_move (v := .slice A2 x1.length c3) (by kernel_rfl)) ?_
  refine lv (d := 7) rfl rfl (by kernel_rfl) (e_len (A := A2) (n := x1.length) (c := c3) Try.underlying38 (by kernel_rfl)) ?_
  refine lv (d := 8) rfl rfl (by kernel_rfl) (e_gtr (k := .i64) (a := (x1.length : Int)) (b := 2000) (by kernel_rfl) rfl) ?_
  refine wpList_nil ?_
  refine then_n ?_
  by_cases q6 : (x1.length : Int) > 2000
  · replace M := ifp q6 M
    refine cond_t rfl (bt q6 (by kernel_rfl)) ?_
    refine wp_seq ?_
    refine wp_region_lit ?_
    refine lv (d := 2) rfl rfl (by kernel_rfl) (e_assign (v := .slice none 0 0) rfl) ?_
    refine lv (d := 3) rfl rfl (by kernel_rfl) (e_assign (v := .int .i64 1) rfl) ?_
    refine wpList_nil ?_
    refine then_n ?_
    refine wp_ret ?_
    refine then_r ?_
    obtain rfl := Option.some.inj M
    have S7 := S0_.unit
    exact ret2 rfl rfl rfl (show _ = .slice none 0 0 from (by kernel_rfl)) (show _ = .int .i64 1 from (by kernel_rfl)) ⟨none, 0, no, H, rfl, (Row.nil _ _ _ _ no), S7⟩
  replace M := ifn q6 M
  refine cond_f rfl (bf q6 (by kernel_rfl)) ?_
  refine wp_skip ?_
  refine then_n ?_
  refine wp_seq ?_
  refine wp_region_lit ?_
  refine lv (d := 4) rfl rfl (by kernel_rfl) (e_assign (v := .int .i64 1) rfl) ?_
  refine wpList_nil ?_
  refine then_n ?_
  refine wp_seq ?_
  refine wp_seq ?_
  refine wp_region_lit ?_
  refine lv (d := 5) rfl rfl (by kernel_rfl) (e_assign (v := .int .i64 0) rfl) ?_
  refine wpList_nil ?_
  refine then_n ?_
  refine wp_block ?_
  refine wp_loop_g (fun k17 a18 w8 => ∃ (f9 : Nat → Value) (x10 : Int) (x11 : Int), a18 = mk 34 f9 ∧ f9 0 = .slice A2 x1.length c3 ∧ f9 4 = .int .i64 x10 ∧ f9 5 = .int .i64 x11 ∧ St (anyOf []) H w [] H w8 ∧ spec_MakeList.l0 k17 x1 x10 x11 = some r) k ⟨_, 1, 0, rfl, (by kernel_rfl), (by kernel_rfl), (by kernel_rfl), S0_, M⟩ ?_
  clear M
  rintro k17 a18 w8 ⟨f9, x10, x11, rfl, e12, e13, e14, S15, M⟩
  rcases k17 with _ | k19
  · rw [spec_MakeList.l0] at M
    cases M
  rw [spec_MakeList.l0] at M
  refine wp_seq ?_
  refine wp_seq ?_
  refine wp_region_lit ?_
  refine lv (d := 9) rfl rfl (by kernel_rfl) (e_move (v := .int .i64 x11) (by exact e14)) ?_
  refine lv (d := 10) rfl rfl (by kernel_rfl) (e_move (v := .slice A2 x1.length c3) (by exact e12)) ?_
  refine lv (d := 11) rfl rfl (by kernel_rfl) (e_len (A := A2) (n := x1.length) (c := c3) Try.underlying38 (by kernel_rfl)) ?_
  refine lv (d := 12) rfl rfl (by kernel_rfl) (e_lss (k := .i64) (a := x11) (b := (x1.length : Int)) (by kernel_rfl) (by kernel_rfl)) ?_
  refine wpList_nil ?_
  refine then_n ?_
  by_cases q20 : x11 < (x1.length : Int)
  · replace M := ifp q20 M
    refine cond_t rfl (bt q20 (by kernel_rfl)) ?_
    refine wp_skip ?_
    refine then_n ?_
    refine wp_seq ?_
    refine wp_block ?_
    refine wp_seq ?_
    refine wp_seq ?_
    refine wp_region_lit ?_
    refine lv (d := 15) rfl rfl (by kernel_rfl) (e_move (v := .slice A2 x1.length c3) (by exact e12)) ?_
    refine lv (d := 16) rfl rfl (by kernel_rfl) (e_move (v := .int .i64 x11) (by exact e14)) ?_
    obtain ⟨q21, M⟩ := chk M
    obtain ⟨b22, o23, e24⟩ := Rd.addr h4 (show (x11).toNat < x1.length by omega)
    obtain ⟨y25, r26, k27⟩ := Rd.at h4 e24 (getD_some ([] : List Cell) (show (x11).toNat < x1.length by omega))
    obtain ⟨A28, c29, rfl, l30, h31⟩ := r26
    refine lv (d := 17) rfl rfl (by kernel_rfl) (e_indexAddr (b := b22) (off := o23) (n := x1.length) (c := c3) (sz := 1) (i := x11) (k := .i64) Try.underlying38 e24 (by kernel_rfl) (by kernel_rfl) (by kernel_rfl) q21 q20) ?_
    refine lv (d := 18) rfl rfl (by kernel_rfl) (e_load1 (ad := ⟨b22, o23 + (x11 : Int).toNat * 1, none⟩) (v := .slice A28 (x1.getD ((x11).toNat) ([] : List Cell)).length c29) Try.underlying25 rfl (by kernel_rfl) (hpx (S15.inv.cell (k27 0 _ rfl)))) ?_
    obtain ⟨t32, u33, M⟩ := bnd M
    refine lcall (d := 19) rfl rfl (by kernel_rfl) (e_call (l := [.tmp 18]) (vs := [.slice A28 (x1.getD ((x11).toNat) ([] : List Cell)).length c29]) Try.func15 (by kernel_rfl) rfl (by kernel_rfl) rfl) (spec_ValidTerm.calls k19 w8 H (x1.getD ((x11).toNat) ([] : List Cell)) A28 c29 h31 l30 S15.own0 t32 u33) ?_
    rintro _ w34 ⟨rfl, C35⟩
    refine ⟨_, rfl, ?_⟩
    obtain ⟨S36, K37⟩ := S15.still C35
    refine lv (d := 20) rfl rfl (by kernel_rfl) (e_notv (c := t32) (by kernel_rfl)) ?_
    refine wpList_nil ?_
    refine then_n ?_
    by_cases q38 : ¬ (t32 = true)
    · replace M := ifp q38 M
      refine cond_t rfl (bt q38 (by kernel_rfl)) ?_
      refine wp_seq ?_
      refine wp_region_lit ?_
      refine lv (d := 2) rfl rfl (by kernel_rfl) (e_assign (v := .slice none 0 0) rfl) ?_
      refine lv (d := 3) rfl rfl (by kernel_rfl) (e_assign (v := .int .i64 1) rfl) ?_
      refine wpList_nil ?_
      refine then_n ?_
      refine wp_ret ?_
      refine then_r ?_
      refine inb_r ?_
      refine then_r ?_
      refine then_r ?_
      refine inb_r ?_
      refine then_r ?_
      obtain rfl := Option.some.inj M
      have S39 := S36.unit
      exact ret2 rfl rfl rfl (show _ = .slice none 0 0 from (by kernel_rfl)) (show _ = .int .i64 1 from (by kernel_rfl)) ⟨none, 0, no, H, rfl, (Row.nil _ _ _ _ no), S39⟩
    replace M := ifn q38 M
    refine cond_f rfl (bf q38 (by kernel_rfl)) ?_
    refine wp_skip ?_
    refine then_n ?_
    refine wp_region_lit ?_
    refine lv (d := 21) rfl rfl (by kernel_rfl) (e_move (v := .int .i64 x10) (by exact e13)) ?_
    refine lv (d := 22) rfl rfl (by kernel_rfl) (e_move (v := .slice A2 x1.length c3) (by exact e12)) ?_
    refine lv (d := 23) rfl rfl (by kernel_rfl) (e_move (v := .int .i64 x11) (by exact e14)) ?_
    obtain ⟨b40, o41, e42⟩ := Rd.addr h4 (show (x11).toNat < x1.length by omega)
    obtain ⟨y43, r44, k45⟩ := Rd.at h4 e42 (getD_some ([] : List Cell) (show (x11).toNat < x1.length by omega))
    obtain ⟨A46, c47, rfl, l48, h49⟩ := r44
    refine lv (d := 24) rfl rfl (by kernel_rfl) (e_indexAddr (b := b40) (off := o41) (n := x1.length) (c := c3) (sz := 1) (i := x11) (k := .i64) Try.underlying38 e42 (by kernel_rfl) (by kernel_rfl) (by kernel_rfl) q21 q20) ?_
    refine lv (d := 25) rfl rfl (by kernel_rfl) (e_load1 (ad := ⟨b40, o41 + (x11 : Int).toNat * 1, none⟩) (v := .slice A46 (x1.getD ((x11).toNat) ([] : List Cell)).length c47) Try.underlying25 rfl (by kernel_rfl) (hpx (S36.inv.cell (k45 0 _ rfl)))) ?_
    refine lv (d := 26) rfl rfl (by kernel_rfl) (e_len (A := A46) (n := (x1.getD ((x11).toNat) ([] : List Cell)).length) (c := c47) Try.underlying25 (by kernel_rfl)) ?_
    refine lv (d := 27) rfl rfl (by kernel_rfl) (e_add (k := .i64) (a := 1) (b := ((x1.getD ((x11).toNat) ([] : List Cell)).length : Int)) rfl (by kernel_rfl)) ?_
    refine lv (d := 28) rfl rfl (by kernel_rfl) (e_add (k := .i64) (a := x10) (b := (IntKind.i64.wrap (1 + ((x1.getD ((x11).toNat) ([] : List Cell)).length : Int)))) (by kernel_rfl) (by kernel_rfl)) ?_
    refine lv (d := 4) rfl rfl (by kernel_rfl) (e_assign (v := .int .i64 (IntKind.i64.wrap (x10 + (IntKind.i64.wrap (1 + ((x1.getD ((x11).toNat) ([] : List Cell)).length : Int)))))) (by kernel_rfl)) ?_
    refine wpList_nil ?_
    refine inb_n ?_
    refine then_n ?_
    refine wp_region_lit ?_
    refine lv (d := 13) rfl rfl (by kernel_rfl) (e_move (v := .int .i64 x11) (by exact e14)) ?_
    refine lv (d := 14) rfl rfl (by kernel_rfl) (e_add (k := .i64) (a := x11) (b := 1) (by kernel_rfl) rfl) ?_
    refine lv (d := 5) rfl rfl (by kernel_rfl) (e_assign (v := .int .i64 (IntKind.i64.wrap (x11 + 1))) (by kernel_rfl)) ?_
    refine wpList_nil ?_
    refine then_n ?_
    exact ⟨k19, (by omega), _, (IntKind.i64.wrap (x10 + (IntKind.i64.wrap (1 + ((x1.getD ((x11).toNat) ([] : List Cell)).length : Int))))), (IntKind.i64.wrap (x11 + 1)), rfl, (by exact e12), (by kernel_rfl), (by kernel_rfl), S36, M⟩
  replace M := ifn q20 M
  refine cond_f rfl (bf q20 (by kernel_rfl)) ?_
  refine wp_exit ?_
  refine then_e ?_
  refine then_e ?_
  refine inb_hit ?_
  refine then_n ?_
  refine wp_seq ?_
  refine wp_seq ?_
  refine wp_region_lit ?_
  refine lv (d := 29) rfl rfl (by kernel_rfl) (e_move (v := .int .i64 x10) (by exact e13)) ?_
  refine lv (d := 30) rfl rfl (by kernel_rfl) (e_gtr (k := .i64) (a := x10) (b := 2000) (by kernel_rfl) rfl) ?_
  refine wpList_nil ?_
  refine then_n ?_
  by_cases q50 : x10 > 2000
  · replace M := ifp q50 M
    refine cond_t rfl (bt q50 (by kernel_rfl)) ?_
    refine wp_seq ?_
    refine wp_region_lit ?_
    refine lv (d := 2) rfl rfl (by kernel_rfl) (e_assign (v := .slice none 0 0) rfl) ?_
    refine lv (d := 3) rfl rfl (by kernel_rfl) (e_assign (v := .int .i64 3) rfl) ?_
    refine wpList_nil ?_
    refine then_n ?_
    refine wp_ret ?_
    refine then_r ?_
    obtain rfl := Option.some.inj M
    have S51 := S15.unit
    exact ret2 rfl rfl rfl (show _ = .slice none 0 0 from (by kernel_rfl)) (show _ = .int .i64 3 from (by kernel_rfl)) ⟨none, 0, no, H, rfl, (Row.nil _ _ _ _ no), S51⟩
  replace M := ifn q50 M
  refine cond_f rfl (bf q50 (by kernel_rfl)) ?_
  refine wp_skip ?_
  refine then_n ?_
  refine wp_seq ?_
  refine wp_region_lit ?_
  refine lv (d := 31) rfl rfl (by kernel_rfl) (e_move (v := .slice A2 x1.length c3) (by exact e12)) ?_
  obtain ⟨t52, u53, M⟩ := bnd M
  refine lcall (d := 32) rfl rfl (by kernel_rfl) (e_call (l := [.const (str ([91, 93] : List UInt8))]) (vs := [str ([91, 93] : List UInt8)]) Try.func79 (by kernel_rfl) rfl (by kernel_rfl) rfl) (spec_l2atom.calls w8 H ([91, 93] : List UInt8)  (St.own' (Fa := []) (Fr := []) S15) t52 u53) ?_
  rintro _ w54 ⟨A57, c58, F60, H55, rfl, h59, T56⟩
  refine ⟨_, rfl, ?_⟩
  obtain ⟨S61, K62⟩ := St.call (Fa := []) (Fr := []) S15 T56
  have E63 := T56.ext
  have l64 := h59.le
  obtain ⟨H65, S66, E67, h68, z69⟩ := S61.frzRow h59
  obtain ⟨t70, u71, M⟩ := bnd M
  refine lcall (d := 33) rfl rfl (by kernel_rfl) (e_call (l := [.tmp 31, .tmp 32]) (vs := [.slice A2 x1.length c3, .slice A57 t52.length c58]) Try.func78 (by kernel_rfl) rfl (by kernel_rfl) rfl) (spec_l2list.calls k19 w54 H65 x1 A2 c3 t52 A57 c58 (h4.ext (E63.trans E67)) l5 h68 l64 (St.own' (Fa := []) (Fr := []) S66) t70 u71) ?_
  rintro _ w72 ⟨A75, c76, F78, H73, rfl, h77, T74⟩
  refine ⟨_, rfl, ?_⟩
  obtain ⟨S79, K80⟩ := St.call (Fa := []) (Fr := []) S66 T74
  have E81 := T74.ext
  refine lv (d := 2) rfl rfl (by kernel_rfl) (e_assign (v := .slice A75 t70.length c76) (by kernel_rfl)) ?_
  refine lv (d := 3) rfl rfl (by kernel_rfl) (e_assign (v := .int .i64 0) rfl) ?_
  refine wpList_nil ?_
  refine then_n ?_
  refine wp_ret ?_
  obtain rfl := Option.some.inj M
  exact ret2 rfl rfl rfl (show _ = .slice A75 t70.length c76 from (by kernel_rfl)) (show _ = .int .i64 0 from (by kernel_rfl)) ⟨A75, c76, F78, H73, rfl, h77, S79⟩

/-! impl_cellOk -/
def impl_cellOk.f (x1 : Cell) : Option Bool := (if x1.kind = 0 then (if x1.n ≥ 0 then (if x1.n ≤ 1000000 then some (decide ((x1.text.length : Int) = 0)) else some false) else some false) else (if x1.kind = 1 then (if x1.n ≥ (-1000000000000000) then (if x1.n ≤ 1000000000000000 then some (decide ((x1.text.length : Int) = 0)) else some false) else some false) else (if x1.kind = 2 then (if x1.n = 0 then some (decide ((x1.text.length : Int) ≤ 100)) else some false) else (if x1.kind = 3 then (if x1.n ≥ 1 then (if x1.n ≤ 20 then some (decide ((x1.text.length : Int) ≤ 100)) else some false) else some false) else some false))))
theorem impl_cellOk.calls (w : World) (H : Hp) (x1 : Cell) (A2 : Option Addr) (c3 : Nat) (h4 : Rd tByte H A2 x1.text) (l5 : x1.text.length ≤ c3) (S : Own [] H w) (r : Bool) (M : impl_cellOk.f x1 = some r) :
    Calls Try.prog 58 #[.agg #[.int .i64 x1.kind, .int .i64 x1.n, .slice A2 x1.text.length c3]] w (fun e e_w => e = .returned (.bool r) ∧ Chg no w e_w) := by
  rw [impl_cellOk.f] at M
  refine enter (l := [.agg #[.int .i64 x1.kind, .int .i64 x1.n, .slice A2 x1.text.length c3]]) 64 Try.func58 rfl rfl rfl ?_
  have S0_ := S.st
  refine wp_seq ?_
  refine wp_region_lit ?_
  refine lve (d := 1) rfl rfl (by kernel_rfl) (new_blk (v := fun g_ => .pointer (some ⟨g_, 0, none⟩)) (cs := #[.int .i64 x1.kind, .int .i64 x1.n, .slice A2 x1.text.length c3]) (t := 65) S0_ (by kernel_rfl)) ?_
  rintro _ w6 ⟨g7, rfl, b8, S9, K10⟩
  refine lv (d := 2) rfl rfl (by kernel_rfl) (e_assign (v := .bool false) rfl) ?_
  refine wpList_nil ?_
  refine then_n ?_
  refine wp_seq ?_
  refine wp_seq ?_
  refine wp_region_lit ?_
  refine lv (d := 3) rfl rfl (by kernel_rfl) (e_fieldAddr (b := g7) (off := 0) (o := 0) Try.underlying65 rfl rfl (sz := 1) (by kernel_rfl) (by decide) (by kernel_rfl)) ?_
  refine lv (d := 4) rfl rfl (by kernel_rfl) (e_load1 (ad := ⟨g7, 0 + 0, none⟩) (v := .int .i64 x1.kind) Try.underlying3 rfl (by kernel_rfl) (blk_cell b8 rfl)) ?_
  refine wpList_nil ?_
  refine then_n ?_
  refine wp_block ?_
  refine wp_seq ?_
  refine wp_region_lit ?_
  refine lv (d := 6) rfl rfl (by kernel_rfl) (e_eql (k := .i64) (a := x1.kind) (b := 0) (by kernel_rfl) rfl) ?_
  refine lv (d := 5) rfl rfl (by kernel_rfl) (e_assign (v := .bool (decide (x1.kind = 0))) (by kernel_rfl)) ?_
  refine wpList_nil ?_
  refine then_n ?_
  by_cases q11 : x1.kind = 0
  · replace M := ifp q11 M
    refine cond_t rfl (bt q11 (by kernel_rfl)) ?_
    refine wp_seq ?_
    refine wp_region_lit ?_
    refine lv (d := 7) rfl rfl (by kernel_rfl) (e_fieldAddr (b := g7) (off := 0) (o := 1) Try.underlying65 rfl rfl (sz := 1) (by kernel_rfl) (by decide) (by kernel_rfl)) ?_
    refine lv (d := 8) rfl rfl (by kernel_rfl) (e_load1 (ad := ⟨g7, 0 + 1, none⟩) (v := .int .i64 x1.n) Try.underlying3 rfl (by kernel_rfl) (blk_cell b8 rfl)) ?_
    refine lv (d := 9) rfl rfl (by kernel_rfl) (e_geq (k := .i64) (a := x1.n) (b := 0) (by kernel_rfl) rfl) ?_
    refine lv (d := 10) rfl rfl (by kernel_rfl) (e_move (v := .bool (decide (x1.n ≥ 0))) (by kernel_rfl)) ?_
    by_cases q12 : x1.n ≥ 0
    · replace M := ifp q12 M
      refine lvg (d := 11) (t := 10) rfl (by kernel_rfl) rfl (bt q12 (by kernel_rfl)) rfl (by kernel_rfl) (e_fieldAddr (b := g7) (off := 0) (o := 1) Try.underlying65 rfl rfl (sz := 1) (by kernel_rfl) (by decide) (by kernel_rfl)) ?_
      refine lvg (d := 12) (t := 10) rfl (by kernel_rfl) rfl (bt q12 (by kernel_rfl)) rfl (by kernel_rfl) (e_load1 (ad := ⟨g7, 0 + 1, none⟩) (v := .int .i64 x1.n) Try.underlying3 rfl (by kernel_rfl) (blk_cell b8 rfl)) ?_
      refine lvg (d := 13) (t := 10) rfl (by kernel_rfl) rfl (bt q12 (by kernel_rfl)) rfl (by kernel_rfl) (e_leq (k := .i64) (a := x1.n) (b := 1000000) (by kernel_rfl) rfl) ?_
      refine lv (d := 14) rfl rfl (by kernel_rfl) (e_pick_t (v := .bool (decide (x1.n ≤ 1000000))) (bt q12 (by kernel_rfl)) (by kernel_rfl)) ?_
      refine lv (d := 15) rfl rfl (by kernel_rfl) (e_move (v := .bool (decide (x1.n ≤ 1000000))) (by kernel_rfl)) ?_
      by_cases q13 : x1.n ≤ 1000000
      · replace M := ifp q13 M
        refine lvg (d := 16) (t := 15) rfl (by kernel_rfl) rfl (bt q13 (by kernel_rfl)) rfl (by kernel_rfl) (e_fieldAddr (b := g7) (off := 0) (o := 2) Try.underlying65 rfl rfl (sz := 1) (by kernel_rfl) (by decide) (by kernel_rfl)) ?_
        refine lvg (d := 17) (t := 15) rfl (by kernel_rfl) rfl (bt q13 (by kernel_rfl)) rfl (by kernel_rfl) (e_load1 (ad := ⟨g7, 0 + 2, none⟩) (v := .slice A2 x1.text.length c3) Try.underlying59 rfl (by kernel_rfl) (blk_cell b8 rfl)) ?_
        refine lvg (d := 18) (t := 15) rfl (by kernel_rfl) rfl (bt q13 (by kernel_rfl)) rfl (by kernel_rfl) (e_len (A := A2) (n := x1.text.length) (c := c3) Try.underlying59 (by kernel_rfl)) ?_
        refine lvg (d := 19) (t := 15) rfl (by kernel_rfl) rfl (bt q13 (by kernel_rfl)) rfl (by kernel_rfl) (e_eql (k := .i64) (a := (x1.text.length : Int)) (b := 0) (by kernel_rfl) rfl) ?_
        refine lv (d := 20) rfl rfl (by kernel_rfl) (e_pick_t (v := .bool (decide ((x1.text.length : Int) = 0))) (bt q13 (by kernel_rfl)) (by kernel_rfl)) ?_
        refine lv (d := 2) rfl rfl (by kernel_rfl) (e_assign (v := .bool (decide ((x1.text.length : Int) = 0))) (by kernel_rfl)) ?_
        refine wpList_nil ?_
        refine then_n ?_
        refine wp_ret ?_
        refine inb_r ?_
        refine then_r ?_
        obtain rfl := Option.some.inj M
        exact ret1 rfl rfl  (show _ = .bool (decide ((x1.text.length : Int) = 0)) from (by kernel_rfl)) ⟨rfl, S9.chg⟩
      replace M := ifn q13 M
      refine lskip (t := 15) (c := false) rfl (by kernel_rfl) rfl (bf q13 (by kernel_rfl)) rfl rfl ?_
      refine lskip (t := 15) (c := false) rfl (by kernel_rfl) rfl (bf q13 (by kernel_rfl)) rfl rfl ?_
      refine lskip (t := 15) (c := false) rfl (by kernel_rfl) rfl (bf q13 (by kernel_rfl)) rfl rfl ?_
      refine lskip (t := 15) (c := false) rfl (by kernel_rfl) rfl (bf q13 (by kernel_rfl)) rfl rfl ?_
      refine lv (d := 20) rfl rfl (by kernel_rfl) (e_pick_f (v := .bool false) (bf q13 (by kernel_rfl)) rfl) ?_
      refine lv (d := 2) rfl rfl (by kernel_rfl) (e_assign (v := .bool false) (by kernel_rfl)) ?_
      refine wpList_nil ?_
      refine then_n ?_
      refine wp_ret ?_
      refine inb_r ?_
      refine then_r ?_
      obtain rfl := Option.some.inj M
      exact ret1 rfl rfl  (show _ = .bool false from (by kernel_rfl)) ⟨rfl, S9.chg⟩
    replace M := ifn q12 M
    refine lskip (t := 10) (c := false) rfl (by kernel_rfl) rfl (bf q12 (by kernel_rfl)) rfl rfl ?_
    refine lskip (t := 10) (c := false) rfl (by kernel_rfl) rfl (bf q12 (by kernel_rfl)) rfl rfl ?_
    refine lskip (t := 10) (c := false) rfl (by kernel_rfl) rfl (bf q12 (by kernel_rfl)) rfl rfl ?_
    refine lv (d := 14) rfl rfl (by kernel_rfl) (e_pick_f (v := .bool false) (bf q12 (by kernel_rfl)) rfl) ?_
    refine lv (d := 15) rfl rfl (by kernel_rfl) (e_move (v := .bool false) (by kernel_rfl)) ?_
    refine lskip (t := 15) (c := false) rfl (by kernel_rfl) rfl (by kernel_rfl) rfl rfl ?_
    refine lskip (t := 15) (c := false) rfl (by kernel_rfl) rfl (by kernel_rfl) rfl rfl ?_
    refine lskip (t := 15) (c := false) rfl (by kernel_rfl) rfl (by kernel_rfl) rfl rfl ?_
    refine lskip (t := 15) (c := false) rfl (by kernel_rfl) rfl (by kernel_rfl) rfl rfl ?_
    refine lv (d := 20) rfl rfl (by kernel_rfl) (e_pick_f (v := .bool false) (by kernel_rfl) rfl) ?_
    refine lv (d := 2) rfl rfl (by kernel_rfl) (e_assign (v := .bool false) (by kernel_rfl)) ?_
    refine wpList_nil ?_
    refine then_n ?_
    refine wp_ret ?_
    refine inb_r ?_
    refine then_r ?_
    obtain rfl := Option.some.inj M
    exact ret1 rfl rfl  (show _ = .bool false from (by kernel_rfl)) ⟨rfl, S9.chg⟩
  replace M := ifn q11 M
  refine cond_f rfl (bf q11 (by kernel_rfl)) ?_
  refine wp_seq ?_
  refine wp_region_lit ?_
  refine lv (d := 22) rfl rfl (by kernel_rfl) (e_eql (k := .i64) (a := x1.kind) (b := 1) (by kernel_rfl) rfl) ?_
  refine lv (d := 21) rfl rfl (by kernel_rfl) (e_assign (v := .bool (decide (x1.kind = 1))) (by kernel_rfl)) ?_
  refine wpList_nil ?_
  refine then_n ?_
  by_cases q14 : x1.kind = 1
  · replace M := ifp q14 M
    refine cond_t rfl (bt q14 (by kernel_rfl)) ?_
    refine wp_seq ?_
    refine wp_region_lit ?_
    refine lv (d := 23) rfl rfl (by kernel_rfl) (e_fieldAddr (b := g7) (off := 0) (o := 1) Try.underlying65 rfl rfl (sz := 1) (by kernel_rfl) (by decide) (by kernel_rfl)) ?_
    refine lv (d := 24) rfl rfl (by kernel_rfl) (e_load1 (ad := ⟨g7, 0 + 1, none⟩) (v := .int .i64 x1.n) Try.underlying3 rfl (by kernel_rfl) (blk_cell b8 rfl)) ?_
    refine lv (d := 25) rfl rfl (by kernel_rfl) (e_geq (k := .i64) (a := x1.n) (b := (-1000000000000000)) (by kernel_rfl) rfl) ?_
    refine lv (d := 26) rfl rfl (by kernel_rfl) (e_move (v := .bool (decide (x1.n ≥ (-1000000000000000)))) (by kernel_rfl)) ?_
    by_cases q15 : x1.n ≥ (-1000000000000000)
    · replace M := ifp q15 M
      refine lvg (d := 27) (t := 26) rfl (by kernel_rfl) rfl (bt q15 (by kernel_rfl)) rfl (by kernel_rfl) (e_fieldAddr (b := g7) (off := 0) (o := 1) Try.underlying65 rfl rfl (sz := 1) (by kernel_rfl) (by decide) (by kernel_rfl)) ?_
      refine lvg (d := 28) (t := 26) rfl (by kernel_rfl) rfl (bt q15 (by kernel_rfl)) rfl (by kernel_rfl) (e_load1 (ad := ⟨g7, 0 + 1, none⟩) (v := .int .i64 x1.n) Try.underlying3 rfl (by kernel_rfl) (blk_cell b8 rfl)) ?_
      refine lvg (d := 29) (t := 26) rfl (by kernel_rfl) rfl (bt q15 (by kernel_rfl)) rfl (by kernel_rfl) (e_leq (k := .i64) (a := x1.n) (b := 1000000000000000) (by kernel_rfl) rfl) ?_
      refine lv (d := 30) rfl rfl (by kernel_rfl) (e_pick_t (v := .bool (decide (x1.n ≤ 1000000000000000))) (bt q15 (by kernel_rfl)) (by kernel_rfl)) ?_
      refine lv (d := 31) rfl rfl (by kernel_rfl) (e_move (v := .bool (decide (x1.n ≤ 1000000000000000))) (by kernel_rfl)) ?_
      by_cases q16 : x1.n ≤ 1000000000000000
      · replace M := ifp q16 M
        refine lvg (d := 32) (t := 31) rfl (by kernel_rfl) rfl (bt q16 (by kernel_rfl)) rfl (by kernel_rfl) (e_fieldAddr (b := g7) (off := 0) (o := 2) Try.underlying65 rfl rfl (sz := 1) (by kernel_rfl) (by decide) (by kernel_rfl)) ?_
        refine lvg (d := 33) (t := 31) rfl (by kernel_rfl) rfl (bt q16 (by kernel_rfl)) rfl (by kernel_rfl) (e_load1 (ad := ⟨g7, 0 + 2, none⟩) (v := .slice A2 x1.text.length c3) Try.underlying59 rfl (by kernel_rfl) (blk_cell b8 rfl)) ?_
        refine lvg (d := 34) (t := 31) rfl (by kernel_rfl) rfl (bt q16 (by kernel_rfl)) rfl (by kernel_rfl) (e_len (A := A2) (n := x1.text.length) (c := c3) Try.underlying59 (by kernel_rfl)) ?_
        refine lvg (d := 35) (t := 31) rfl (by kernel_rfl) rfl (bt q16 (by kernel_rfl)) rfl (by kernel_rfl) (e_eql (k := .i64) (a := (x1.text.length : Int)) (b := 0) (by kernel_rfl) rfl) ?_
        refine lv (d := 36) rfl rfl (by kernel_rfl) (e_pick_t (v := .bool (decide ((x1.text.length : Int) = 0))) (bt q16 (by kernel_rfl)) (by kernel_rfl)) ?_
        refine lv (d := 2) rfl rfl (by kernel_rfl) (e_assign (v := .bool (decide ((x1.text.length : Int) = 0))) (by kernel_rfl)) ?_
        refine wpList_nil ?_
        refine then_n ?_
        refine wp_ret ?_
        refine inb_r ?_
        refine then_r ?_
        obtain rfl := Option.some.inj M
        exact ret1 rfl rfl  (show _ = .bool (decide ((x1.text.length : Int) = 0)) from (by kernel_rfl)) ⟨rfl, S9.chg⟩
      replace M := ifn q16 M
      refine lskip (t := 31) (c := false) rfl (by kernel_rfl) rfl (bf q16 (by kernel_rfl)) rfl rfl ?_
      refine lskip (t := 31) (c := false) rfl (by kernel_rfl) rfl (bf q16 (by kernel_rfl)) rfl rfl ?_
      refine lskip (t := 31) (c := false) rfl (by kernel_rfl) rfl (bf q16 (by kernel_rfl)) rfl rfl ?_
      refine lskip (t := 31) (c := false) rfl (by kernel_rfl) rfl (bf q16 (by kernel_rfl)) rfl rfl ?_
      refine lv (d := 36) rfl rfl (by kernel_rfl) (e_pick_f (v := .bool false) (bf q16 (by kernel_rfl)) rfl) ?_
      refine lv (d := 2) rfl rfl (by kernel_rfl) (e_assign (v := .bool false) (by kernel_rfl)) ?_
      refine wpList_nil ?_
      refine then_n ?_
      refine wp_ret ?_
      refine inb_r ?_
      refine then_r ?_
      obtain rfl := Option.some.inj M
      exact ret1 rfl rfl  (show _ = .bool false from (by kernel_rfl)) ⟨rfl, S9.chg⟩
    replace M := ifn q15 M
    refine lskip (t := 26) (c := false) rfl (by kernel_rfl) rfl (bf q15 (by kernel_rfl)) rfl rfl ?_
    refine lskip (t := 26) (c := false) rfl (by kernel_rfl) rfl (bf q15 (by kernel_rfl)) rfl rfl ?_
    refine lskip (t := 26) (c := false) rfl (by kernel_rfl) rfl (bf q15 (by kernel_rfl)) rfl rfl ?_
    refine lv (d := 30) rfl rfl (by kernel_rfl) (e_pick_f (v := .bool false) (bf q15 (by kernel_rfl)) rfl) ?_
    refine lv (d := 31) rfl rfl (by kernel_rfl) (e_move (v := .bool false) (by kernel_rfl)) ?_
    refine lskip (t := 31) (c := false) rfl (by kernel_rfl) rfl (by kernel_rfl) rfl rfl ?_
    refine lskip (t := 31) (c := false) rfl (by kernel_rfl) rfl (by kernel_rfl) rfl rfl ?_
    refine lskip (t := 31) (c := false) rfl (by kernel_rfl) rfl (by kernel_rfl) rfl rfl ?_
    refine lskip (t := 31) (c := false) rfl (by kernel_rfl) rfl (by kernel_rfl) rfl rfl ?_
    refine lv (d := 36) rfl rfl (by kernel_rfl) (e_pick_f (v := .bool false) (by kernel_rfl) rfl) ?_
    refine lv (d := 2) rfl rfl (by kernel_rfl) (e_assign (v := .bool false) (by kernel_rfl)) ?_
    refine wpList_nil ?_
    refine then_n ?_
    refine wp_ret ?_
    refine inb_r ?_
    refine then_r ?_
    obtain rfl := Option.some.inj M
    exact ret1 rfl rfl  (show _ = .bool false from (by kernel_rfl)) ⟨rfl, S9.chg⟩
  replace M := ifn q14 M
  refine cond_f rfl (bf q14 (by kernel_rfl)) ?_
  refine wp_seq ?_
  refine wp_region_lit ?_
  refine lv (d := 38) rfl rfl (by kernel_rfl) (e_eql (k := .i64) (a := x1.kind) (b := 2) (by kernel_rfl) rfl) ?_
  refine lv (d := 37) rfl rfl (by kernel_rfl) (e_assign (v := .bool (decide (x1.kind = 2))) (by kernel_rfl)) ?_
  refine wpList_nil ?_
  refine then_n ?_
  by_cases q17 : x1.kind = 2
  · replace M := ifp q17 M
    refine cond_t rfl (bt q17 (by kernel_rfl)) ?_
    refine wp_seq ?_
    refine wp_region_lit ?_
    refine lv (d := 39) rfl rfl (by kernel_rfl) (e_fieldAddr (b := g7) (off := 0) (o := 1) Try.underlying65 rfl rfl (sz := 1) (by kernel_rfl) (by decide) (by kernel_rfl)) ?_
    refine lv (d := 40) rfl rfl (by kernel_rfl) (e_load1 (ad := ⟨g7, 0 + 1, none⟩) (v := .int .i64 x1.n) Try.underlying3 rfl (by kernel_rfl) (blk_cell b8 rfl)) ?_
    refine lv (d := 41) rfl rfl (by kernel_rfl) (e_eql (k := .i64) (a := x1.n) (b := 0) (by kernel_rfl) rfl) ?_
    refine lv (d := 42) rfl rfl (by kernel_rfl) (e_move (v := .bool (decide (x1.n = 0))) (by kernel_rfl)) ?_
    by_cases q18 : x1.n = 0
    · replace M := ifp q18 M
      refine lvg (d := 43) (t := 42) rfl (by kernel_rfl) rfl (bt q18 (by kernel_rfl)) rfl (by kernel_rfl) (e_fieldAddr (b := g7) (off := 0) (o := 2) Try.underlying65 rfl rfl (sz := 1) (by kernel_rfl) (by decide) (by kernel_rfl)) ?_
      refine lvg (d := 44) (t := 42) rfl (by kernel_rfl) rfl (bt q18 (by kernel_rfl)) rfl (by kernel_rfl) (e_load1 (ad := ⟨g7, 0 + 2, none⟩) (v := .slice A2 x1.text.length c3) Try.underlying59 rfl (by kernel_rfl) (blk_cell b8 rfl)) ?_
      refine lvg (d := 45) (t := 42) rfl (by kernel_rfl) rfl (bt q18 (by kernel_rfl)) rfl (by kernel_rfl) (e_len (A := A2) (n := x1.text.length) (c := c3) Try.underlying59 (by kernel_rfl)) ?_
      refine lvg (d := 46) (t := 42) rfl (by kernel_rfl) rfl (bt q18 (by kernel_rfl)) rfl (by kernel_rfl) (e_leq (k := .i64) (a := (x1.text.length : Int)) (b := 100) (by kernel_rfl) rfl) ?_
      refine lv (d := 47) rfl rfl (by kernel_rfl) (e_pick_t (v := .bool (decide ((x1.text.length : Int) ≤ 100))) (bt q18 (by kernel_rfl)) (by kernel_rfl)) ?_
      refine lv (d := 2) rfl rfl (by kernel_rfl) (e_assign (v := .bool (decide ((x1.text.length : Int) ≤ 100))) (by kernel_rfl)) ?_
      refine wpList_nil ?_
      refine then_n ?_
      refine wp_ret ?_
      refine inb_r ?_
      refine then_r ?_
      obtain rfl := Option.some.inj M
      exact ret1 rfl rfl  (show _ = .bool (decide ((x1.text.length : Int) ≤ 100)) from (by kernel_rfl)) ⟨rfl, S9.chg⟩
    replace M := ifn q18 M
    refine lskip (t := 42) (c := false) rfl (by kernel_rfl) rfl (bf q18 (by kernel_rfl)) rfl rfl ?_
    refine lskip (t := 42) (c := false) rfl (by kernel_rfl) rfl (bf q18 (by kernel_rfl)) rfl rfl ?_
    refine lskip (t := 42) (c := false) rfl (by kernel_rfl) rfl (bf q18 (by kernel_rfl)) rfl rfl ?_
    refine lskip (t := 42) (c := false) rfl (by kernel_rfl) rfl (bf q18 (by kernel_rfl)) rfl rfl ?_
    refine lv (d := 47) rfl rfl (by kernel_rfl) (e_pick_f (v := .bool false) (bf q18 (by kernel_rfl)) rfl) ?_
    refine lv (d := 2) rfl rfl (by kernel_rfl) (e_assign (v := .bool false) (by kernel_rfl)) ?_
    refine wpList_nil ?_
    refine then_n ?_
    refine wp_ret ?_
    refine inb_r ?_
    refine then_r ?_
    obtain rfl := Option.some.inj M
    exact ret1 rfl rfl  (show _ = .bool false from (by kernel_rfl)) ⟨rfl, S9.chg⟩
  replace M := ifn q17 M
  refine cond_f rfl (bf q17 (by kernel_rfl)) ?_
  refine wp_seq ?_
  refine wp_region_lit ?_
  refine lv (d := 49) rfl rfl (by kernel_rfl) (e_eql (k := .i64) (a := x1.kind) (b := 3) (by kernel_rfl) rfl) ?_
  refine lv (d := 48) rfl rfl (by kernel_rfl) (e_assign (v := .bool (decide (x1.kind = 3))) (by kernel_rfl)) ?_
  refine wpList_nil ?_
  refine then_n ?_
  by_cases q19 : x1.kind = 3
  · replace M := ifp q19 M
    refine cond_t rfl (bt q19 (by kernel_rfl)) ?_
    refine wp_seq ?_
    refine wp_region_lit ?_
    refine lv (d := 50) rfl rfl (by kernel_rfl) (e_fieldAddr (b := g7) (off := 0) (o := 1) Try.underlying65 rfl rfl (sz := 1) (by kernel_rfl) (by decide) (by kernel_rfl)) ?_
    refine lv (d := 51) rfl rfl (by kernel_rfl) (e_load1 (ad := ⟨g7, 0 + 1, none⟩) (v := .int .i64 x1.n) Try.underlying3 rfl (by kernel_rfl) (blk_cell b8 rfl)) ?_
    refine lv (d := 52) rfl rfl (by kernel_rfl) (e_geq (k := .i64) (a := x1.n) (b := 1) (by kernel_rfl) rfl) ?_
    refine lv (d := 53) rfl rfl (by kernel_rfl) (e_move (v := .bool (decide (x1.n ≥ 1))) (by kernel_rfl)) ?_
    by_cases q20 : x1.n ≥ 1
    · replace M := ifp q20 M
      refine lvg (d := 54) (t := 53) rfl (by kernel_rfl) rfl (bt q20 (by kernel_rfl)) rfl (by kernel_rfl) (e_fieldAddr (b := g7) (off := 0) (o := 1) Try.underlying65 rfl rfl (sz := 1) (by kernel_rfl) (by decide) (by kernel_rfl)) ?_
      refine lvg (d := 55) (t := 53) rfl (by kernel_rfl) rfl (bt q20 (by kernel_rfl)) rfl (by kernel_rfl) (e_load1 (ad := ⟨g7, 0 + 1, none⟩) (v := .int .i64 x1.n) Try.underlying3 rfl (by kernel_rfl) (blk_cell b8 rfl)) ?_
      refine lvg (d := 56) (t := 53) rfl (by kernel_rfl) rfl (bt q20 (by kernel_rfl)) rfl (by kernel_rfl) (e_leq (k := .i64) (a := x1.n) (b := 20) (by kernel_rfl) rfl) ?_
      refine lv (d := 57) rfl rfl (by kernel_rfl) (e_pick_t (v := .bool (decide (x1.n ≤ 20))) (bt q20 (by kernel_rfl)) (by kernel_rfl)) ?_
      refine lv (d := 58) rfl rfl (by kernel_rfl) (e_move (v := .bool (decide (x1.n ≤ 20))) (by kernel_rfl)) ?_
      by_cases q21 : x1.n ≤ 20
      · replace M := ifp q21 M
        refine lvg (d := 59) (t := 58) rfl (by kernel_rfl) rfl (bt q21 (by kernel_rfl)) rfl (by kernel_rfl) (e_fieldAddr (b := g7) (off := 0) (o := 2) Try.underlying65 rfl rfl (sz := 1) (by kernel_rfl) (by decide) (by kernel_rfl)) ?_
        refine lvg (d := 60) (t := 58) rfl (by kernel_rfl) rfl (bt q21 (by kernel_rfl)) rfl (by kernel_rfl) (e_load1 (ad := ⟨g7, 0 + 2, none⟩) (v := .slice A2 x1.text.length c3) Try.underlying59 rfl (by kernel_rfl) (blk_cell b8 rfl)) ?_
        refine lvg (d := 61) (t := 58) rfl (by kernel_rfl) rfl (bt q21 (by kernel_rfl)) rfl (by kernel_rfl) (e_len (A := A2) (n := x1.text.length) (c := c3) Try.underlying59 (by kernel_rfl)) ?_
        refine lvg (d := 62) (t := 58) rfl (by kernel_rfl) rfl (bt q21 (by kernel_rfl)) rfl (by kernel_rfl) (e_leq (k := .i64) (a := (x1.text.length : Int)) (b := 100) (by kernel_rfl) rfl) ?_
        refine lv (d := 63) rfl rfl (by kernel_rfl) (e_pick_t (v := .bool (decide ((x1.text.length : Int) ≤ 100))) (bt q21 (by kernel_rfl)) (by kernel_rfl)) ?_
        refine lv (d := 2) rfl rfl (by kernel_rfl) (e_assign (v := .bool (decide ((x1.text.length : Int) ≤ 100))) (by kernel_rfl)) ?_
        refine wpList_nil ?_
        refine then_n ?_
        refine wp_ret ?_
        refine inb_r ?_
        refine then_r ?_
        obtain rfl := Option.some.inj M
        exact ret1 rfl rfl  (show _ = .bool (decide ((x1.text.length : Int) ≤ 100)) from (by kernel_rfl)) ⟨rfl, S9.chg⟩
      replace M := ifn q21 M
      refine lskip (t := 58) (c := false) rfl (by kernel_rfl) rfl (bf q21 (by kernel_rfl)) rfl rfl ?_
      refine lskip (t := 58) (c := false) rfl (by kernel_rfl) rfl (bf q21 (by kernel_rfl)) rfl rfl ?_
      refine lskip (t := 58) (c := false) rfl (by kernel_rfl) rfl (bf q21 (by kernel_rfl)) rfl rfl ?_
      refine lskip (t := 58) (c := false) rfl (by kernel_rfl) rfl (bf q21 (by kernel_rfl)) rfl rfl ?_
      refine lv (d := 63) rfl rfl (by kernel_rfl) (e_pick_f (v := .bool false) (bf q21 (by kernel_rfl)) rfl) ?_
      refine lv (d := 2) rfl rfl (by kernel_rfl) (e_assign (v := .bool false) (by kernel_rfl)) ?_
      refine wpList_nil ?_
      refine then_n ?_
      refine wp_ret ?_
      refine inb_r ?_
      refine then_r ?_
      obtain rfl := Option.some.inj M
      exact ret1 rfl rfl  (show _ = .bool false from (by kernel_rfl)) ⟨rfl, S9.chg⟩
    replace M := ifn q20 M
    refine lskip (t := 53) (c := false) rfl (by kernel_rfl) rfl (bf q20 (by kernel_rfl)) rfl rfl ?_
    refine lskip (t := 53) (c := false) rfl (by kernel_rfl) rfl (bf q20 (by kernel_rfl)) rfl rfl ?_
    refine lskip (t := 53) (c := false) rfl (by kernel_rfl) rfl (bf q20 (by kernel_rfl)) rfl rfl ?_
    refine lv (d := 57) rfl rfl (by kernel_rfl) (e_pick_f (v := .bool false) (bf q20 (by kernel_rfl)) rfl) ?_
    refine lv (d := 58) rfl rfl (by kernel_rfl) (e_move (v := .bool false) (by kernel_rfl)) ?_
    refine lskip (t := 58) (c := false) rfl (by kernel_rfl) rfl (by kernel_rfl) rfl rfl ?_
    refine lskip (t := 58) (c := false) rfl (by kernel_rfl) rfl (by kernel_rfl) rfl rfl ?_
    refine lskip (t := 58) (c := false) rfl (by kernel_rfl) rfl (by kernel_rfl) rfl rfl ?_
    refine lskip (t := 58) (c := false) rfl (by kernel_rfl) rfl (by kernel_rfl) rfl rfl ?_
    refine lv (d := 63) rfl rfl (by kernel_rfl) (e_pick_f (v := .bool false) (by kernel_rfl) rfl) ?_
    refine lv (d := 2) rfl rfl (by kernel_rfl) (e_assign (v := .bool false) (by kernel_rfl)) ?_
    refine wpList_nil ?_
    refine then_n ?_
    refine wp_ret ?_
    refine inb_r ?_
    refine then_r ?_
    obtain rfl := Option.some.inj M
    exact ret1 rfl rfl  (show _ = .bool false from (by kernel_rfl)) ⟨rfl, S9.chg⟩
  replace M := ifn q19 M
  refine cond_f rfl (bf q19 (by kernel_rfl)) ?_
  refine wp_skip ?_
  refine inb_n ?_
  refine then_n ?_
  refine wp_seq ?_
  refine wp_region_lit ?_
  refine lv (d := 2) rfl rfl (by kernel_rfl) (e_assign (v := .bool false) rfl) ?_
  refine wpList_nil ?_
  refine then_n ?_
  refine wp_ret ?_
  obtain rfl := Option.some.inj M
  exact ret1 rfl rfl  (show _ = .bool false from (by kernel_rfl)) ⟨rfl, S9.chg⟩

/-! impl_ValidTerm -/
def impl_ValidTerm.l0 : Nat → (List Cell) → Int → Int → Option Bool
  | 0, _, _, _ => none
  | k19 + 1, x1, x9, x10 => (if x10 < (x1.length : Int) then (if 0 ≤ x10 then (if x9 = 0 then some false else ((impl_cellOk.f (x1.getD ((x10).toNat) z65)).bind fun t42 => (if ¬ (t42 = true) then some false else (if ((x1.getD ((x10).toNat) z65).kind) = 3 then (impl_ValidTerm.l0 k19 x1 (IntKind.i64.wrap ((IntKind.i64.wrap (x9 - 1)) + ((x1.getD ((x10).toNat) z65).n))) (IntKind.i64.wrap (x10 + 1))) else (impl_ValidTerm.l0 k19 x1 (IntKind.i64.wrap (x9 - 1)) (IntKind.i64.wrap (x10 + 1))))))) else none) else some (decide (x9 = 0)))
def impl_ValidTerm.f (k : Nat) (x1 : List Cell) : Option Bool := (if (x1.length : Int) > 2000 then some false else (impl_ValidTerm.l0 k x1 1 0))
theorem impl_ValidTerm.calls (k : Nat) (w : World) (H : Hp) (x1 : List Cell) (A2 : Option Addr) (c3 : Nat) (h4 : Rd st65 H A2 x1) (l5 : x1.length ≤ c3) (S : Own [] H w) (r : Bool) (M : impl_ValidTerm.f k x1 = some r) :
    Calls Try.prog 17 #[.slice A2 x1.length c3] w (fun e e_w => e = .returned (.bool r) ∧ Chg no w e_w) := by
  rw [impl_ValidTerm.f] at M
  refine enter (l := [.slice A2 x1.length c3]) 34 Try.func17 rfl rfl rfl ?_
  have S0_ := S.st
  refine wp_seq ?_
  refine wp_region_lit ?_
  refine lv (d := 2) rfl rfl (by kernel_rfl) (e_assign (v := .bool false) rfl) ?_
  refine wpList_nil ?_
  refine then_n ?_
  refine wp_seq ?_
  refine wp_seq ?_
  refine wp_region_lit ?_
  refine lv (d := 6) rfl rfl (by kernel_rfl) (e_move (v := .slice A2 x1.length c3) (by kernel_rfl)) ?_
  refine lv (d := 7) rfl rfl (by kernel_rfl) (e_len (A := A2) (n := x1.length) (c := c3) Try.underlying25 (by kernel_rfl)) ?_
  refine lv (d := 8) rfl rfl (by kernel_rfl) (e_gtr (k := .i64) (a := (x1.length : Int)) (b := 2000) (by kernel_rfl) rfl) ?_
  refine wpList_nil ?_
  refine then_n ?_
  by_cases q6 : (x1.length : Int) > 2000
  · replace M := ifp q6 M
    refine cond_t rfl (bt q6 (by kernel_rfl)) ?_
    refine wp_seq ?_
    refine wp_region_lit ?_
    refine lv (d := 2) rfl rfl (by kernel_rfl) (e_assign (v := .bool false) rfl) ?_
    refine wpList_nil ?_
    refine then_n ?_
    refine wp_ret ?_
    refine then_r ?_
    obtain rfl := Option.some.inj M
    exact ret1 rfl rfl  (show _ = .bool false from (by kernel_rfl)) ⟨rfl, S0_.chg⟩
  replace M := ifn q6 M
  refine cond_f rfl (bf q6 (by kernel_rfl)) ?_
  refine wp_skip ?_
  refine then_n ?_
  refine wp_seq ?_
  refine wp_region_lit ?_
  refine lv (d := 3) rfl rfl (by kernel_rfl) (e_assign (v := .int .i64 1) rfl) ?_
  refine wpList_nil ?_
  refine then_n ?_
  refine wp_seq ?_
  refine wp_seq ?_
  refine wp_region_lit ?_
  refine lv (d := 9) rfl rfl (by kernel_rfl) (e_move (v := .slice A2 x1.length c3) (by kernel_rfl)) ?_
  refine lv (d := 10) rfl rfl (by kernel_rfl) (e_len (A := A2) (n := x1.length) (c := c3) Try.underlying25 (by kernel_rfl)) ?_
  refine lv (d := 11) rfl rfl (by kernel_rfl) (e_move (v := .int .i64 0) rfl) ?_
  refine wpList_nil ?_
  refine then_n ?_
  refine wp_block ?_
  refine wp_loop_g (fun k17 a18 w7 => ∃ (f8 : Nat → Value) (x9 : Int) (x10 : Int), a18 = mk 34 f8 ∧ f8 3 = .int .i64 x9 ∧ f8 9 = .slice A2 x1.length c3 ∧ f8 10 = .int .i64 (x1.length : Int) ∧ f8 11 = .int .i64 x10 ∧ St (anyOf []) H w [] H w7 ∧ impl_ValidTerm.l0 k17 x1 x9 x10 = some r) k ⟨_, 1, 0, rfl, (by kernel_rfl), (by kernel_rfl), (by kernel_rfl), (by kernel_rfl), S0_, M⟩ ?_
  clear M
  rintro k17 a18 w7 ⟨f8, x9, x10, rfl, e11, e12, e13, e14, S15, M⟩
  rcases k17 with _ | k19
  · rw [impl_ValidTerm.l0] at M
    cases M
  rw [impl_ValidTerm.l0] at M
  refine wp_seq ?_
  refine wp_region_lit ?_
  refine lv (d := 12) rfl rfl (by kernel_rfl) (e_lss (k := .i64) (a := x10) (b := (x1.length : Int)) (by exact e14) (by exact e13)) ?_
  refine wpList_nil ?_
  refine then_n ?_
  refine wp_seq ?_
  by_cases q20 : x10 < (x1.length : Int)
  · replace M := ifp q20 M
    refine cond_t rfl (bt q20 (by kernel_rfl)) ?_
    refine wp_skip ?_
    refine then_n ?_
    refine wp_seq ?_
    refine wp_block ?_
    refine wp_seq ?_
    refine wp_region_lit ?_
    obtain ⟨q21, M⟩ := chk M
    obtain ⟨b22, o23, e24⟩ := Rd.addr h4 (show (x10).toNat < x1.length by omega)
    obtain ⟨y25, r26, k27⟩ := Rd.at h4 e24 (getD_some z65 (show (x10).toNat < x1.length by omega))
    obtain ⟨A28, c29, rfl, l30, h31⟩ := st65_open r26
    refine lv (d := 13) rfl rfl (by kernel_rfl) (e_indexAddr (b := b22) (off := o23) (n := x1.length) (c := c3) (sz := 3) (i := x10) (k := .i64) Try.underlying25 e24 (by kernel_rfl) (by exact e12) (by exact e14) q21 q20) ?_
    refine lv (d := 14) rfl rfl (by kernel_rfl) (e_loadS (b := b22) (off := o23 + (x10 : Int).toNat * 3) (cs := [.int .i64 ((x1.getD ((x10).toNat) z65).kind), .int .i64 ((x1.getD ((x10).toNat) z65).n), .slice A28 ((x1.getD ((x10).toNat) z65).text).length c29]) Try.underlying65 rfl (by kernel_rfl) (by kernel_rfl) (fun j_ u_ e_ => (hpx (S15.inv.cell (k27 j_ u_ e_))))) ?_
    refine lve (d := 5) rfl rfl (by kernel_rfl) (new_blk (v := fun g_ => .pointer (some ⟨g_, 0, none⟩)) (cs := #[.int .i64 0, .int .i64 0, .slice none 0 0]) (t := 65) S15 (by kernel_rfl)) ?_
    rintro _ w32 ⟨g33, rfl, b34, S35, K36⟩
    refine lse rfl rfl (by kernel_rfl) (e_store (g := g33) (o := 0) (v := .agg #[.int .i64 ((x1.getD ((x10).toNat) z65).kind), .int .i64 ((x1.getD ((x10).toNat) z65).n), .slice A28 ((x1.getD ((x10).toNat) z65).text).length c29]) (cur' := #[.int .i64 ((x1.getD ((x10).toNat) z65).kind), .int .i64 ((x1.getD ((x10).toNat) z65).n), .slice A28 ((x1.getD ((x10).toNat) z65).text).length c29]) (vs := [.int .i64 ((x1.getD ((x10).toNat) z65).kind), .int .i64 ((x1.getD ((x10).toNat) z65).n), .slice A28 ((x1.getD ((x10).toNat) z65).text).length c29]) S35 (by kernel_rfl) (by kernel_rfl) rfl (by kernel_rfl) b34 (Nat.le_of_ble_eq_true rfl) (List.forall_mem_cons.2 ⟨rfl, (List.forall_mem_cons.2 ⟨rfl, (List.forall_mem_cons.2 ⟨rfl, (fun _ h_ => by cases h_)⟩)⟩)⟩) rfl) ?_
    rintro w37 ⟨b38, S39, K40⟩
    clear b34
    refine wpList_nil ?_
    refine then_n ?_
    refine wp_seq ?_
    refine wp_seq ?_
    refine wp_region_lit ?_
    refine lv (d := 15) rfl rfl (by kernel_rfl) (e_move (v := .int .i64 x9) (by exact e11)) ?_
    refine lv (d := 16) rfl rfl (by kernel_rfl) (e_eql (k := .i64) (a := x9) (b := 0) (by kernel_rfl) rfl) ?_
    refine lv (d := 17) rfl rfl (by kernel_rfl) (e_move (v := .bool (decide (x9 = 0))) (by kernel_rfl)) ?_
    by_cases q41 : x9 = 0
    · replace M := ifp q41 M
      refine lskip (t := 17) (c := true) rfl (by kernel_rfl) rfl (bt q41 (by kernel_rfl)) rfl rfl ?_
      refine lskip (t := 17) (c := true) rfl (by kernel_rfl) rfl (bt q41 (by kernel_rfl)) rfl rfl ?_
      refine lskip (t := 17) (c := true) rfl (by kernel_rfl) rfl (bt q41 (by kernel_rfl)) rfl rfl ?_
      refine lv (d := 21) rfl rfl (by kernel_rfl) (e_pick_t (v := .bool true) (bt q41 (by kernel_rfl)) rfl) ?_
      refine wpList_nil ?_
      refine then_n ?_
      refine cond_t rfl (by kernel_rfl) ?_
      refine wp_seq ?_
      refine wp_region_lit ?_
      refine lv (d := 2) rfl rfl (by kernel_rfl) (e_assign (v := .bool false) rfl) ?_
      refine wpList_nil ?_
      refine then_n ?_
      refine wp_ret ?_
      refine then_r ?_
      refine inb_r ?_
      refine then_r ?_
      refine then_r ?_
      refine inb_r ?_
      refine then_r ?_
      obtain rfl := Option.some.inj M
      exact ret1 rfl rfl  (show _ = .bool false from (by kernel_rfl)) ⟨rfl, S39.chg⟩
    replace M := ifn q41 M
    refine lvg (d := 18) (t := 17) rfl (by kernel_rfl) rfl (bf q41 (by kernel_rfl)) rfl (by kernel_rfl) (e_loadS (b := g33) (off := 0) (cs := [.int .i64 ((x1.getD ((x10).toNat) z65).kind), .int .i64 ((x1.getD ((x10).toNat) z65).n), .slice A28 ((x1.getD ((x10).toNat) z65).text).length c29]) Try.underlying65 rfl (by kernel_rfl) (by kernel_rfl) (blk_cells b38 rfl)) ?_
    obtain ⟨t42, u43, M⟩ := bnd M
    refine lcallg (d := 19) (t := 17) rfl (by kernel_rfl) rfl (bf q41 (by kernel_rfl)) rfl (by kernel_rfl) (e_call (l := [.tmp 18]) (vs := [.agg #[.int .i64 ((x1.getD ((x10).toNat) z65).kind), .int .i64 ((x1.getD ((x10).toNat) z65).n), .slice A28 ((x1.getD ((x10).toNat) z65).text).length c29]]) Try.func58 (by kernel_rfl) rfl (by kernel_rfl) rfl) (impl_cellOk.calls w37 H (x1.getD ((x10).toNat) z65) A28 c29 h31 l30 S39.own0 t42 u43) ?_
    rintro _ w44 ⟨rfl, C45⟩
    refine ⟨_, rfl, ?_⟩
    obtain ⟨S46, K47⟩ := S39.still C45
    replace b38 := K47.blk 0 rfl b38
    refine lvg (d := 20) (t := 17) rfl (by kernel_rfl) rfl (bf q41 (by kernel_rfl)) rfl (by kernel_rfl) (e_notv (c := t42) (by kernel_rfl)) ?_
    refine lv (d := 21) rfl rfl (by kernel_rfl) (e_pick_f (v := .bool (decide (¬ (t42 = true)))) (bf q41 (by kernel_rfl)) (by kernel_rfl)) ?_
    refine wpList_nil ?_
    refine then_n ?_
    by_cases q48 : ¬ (t42 = true)
    · replace M := ifp q48 M
      refine cond_t rfl (bt q48 (by kernel_rfl)) ?_
      refine wp_seq ?_
      refine wp_region_lit ?_
      refine lv (d := 2) rfl rfl (by kernel_rfl) (e_assign (v := .bool false) rfl) ?_
      refine wpList_nil ?_
      refine then_n ?_
      refine wp_ret ?_
      refine then_r ?_
      refine inb_r ?_
      refine then_r ?_
      refine then_r ?_
      refine inb_r ?_
      refine then_r ?_
      obtain rfl := Option.some.inj M
      exact ret1 rfl rfl  (show _ = .bool false from (by kernel_rfl)) ⟨rfl, S46.chg⟩
    replace M := ifn q48 M
    refine cond_f rfl (bf q48 (by kernel_rfl)) ?_
    refine wp_skip ?_
    refine then_n ?_
    refine wp_seq ?_
    refine wp_region_lit ?_
    refine lv (d := 22) rfl rfl (by kernel_rfl) (e_move (v := .int .i64 x9) (by exact e11)) ?_
    refine lv (d := 23) rfl rfl (by kernel_rfl) (e_sub (k := .i64) (a := x9) (b := 1) (by kernel_rfl) rfl) ?_
    refine lv (d := 3) rfl rfl (by kernel_rfl) (e_assign (v := .int .i64 (IntKind.i64.wrap (x9 - 1))) (by kernel_rfl)) ?_
    refine wpList_nil ?_
    refine then_n ?_
    refine wp_seq ?_
    refine wp_region_lit ?_
    refine lv (d := 24) rfl rfl (by kernel_rfl) (e_fieldAddr (b := g33) (off := 0) (o := 0) Try.underlying65 rfl rfl (sz := 1) (by kernel_rfl) (by decide) (by kernel_rfl)) ?_
    refine lv (d := 25) rfl rfl (by kernel_rfl) (e_load1 (ad := ⟨g33, 0 + 0, none⟩) (v := .int .i64 ((x1.getD ((x10).toNat) z65).kind)) Try.underlying3 rfl (by kernel_rfl) (blk_cell b38 rfl)) ?_
    refine lv (d := 26) rfl rfl (by kernel_rfl) (e_eql (k := .i64) (a := (x1.getD ((x10).toNat) z65).kind) (b := 3) (by kernel_rfl) rfl) ?_
    refine wpList_nil ?_
    refine then_n ?_
    by_cases q49 : ((x1.getD ((x10).toNat) z65).kind) = 3
    · replace M := ifp q49 M
      refine cond_t rfl (bt q49 (by kernel_rfl)) ?_
      refine wp_region_lit ?_
      refine lv (d := 27) rfl rfl (by kernel_rfl) (e_move (v := .int .i64 (IntKind.i64.wrap (x9 - 1))) (by kernel_rfl)) ?_
      refine lv (d := 28) rfl rfl (by kernel_rfl) (e_fieldAddr (b := g33) (off := 0) (o := 1) Try.underlying65 rfl rfl (sz := 1) (by kernel_rfl) (by decide) (by kernel_rfl)) ?_
      refine lv (d := 29) rfl rfl (by kernel_rfl) (e_load1 (ad := ⟨g33, 0 + 1, none⟩) (v := .int .i64 ((x1.getD ((x10).toNat) z65).n)) Try.underlying3 rfl (by kernel_rfl) (blk_cell b38 rfl)) ?_
      refine lv (d := 30) rfl rfl (by kernel_rfl) (e_add (k := .i64) (a := (IntKind.i64.wrap (x9 - 1))) (b := (x1.getD ((x10).toNat) z65).n) (by kernel_rfl) (by kernel_rfl)) ?_
      refine lv (d := 3) rfl rfl (by kernel_rfl) (e_assign (v := .int .i64 (IntKind.i64.wrap ((IntKind.i64.wrap (x9 - 1)) + ((x1.getD ((x10).toNat) z65).n)))) (by kernel_rfl)) ?_
      refine wpList_nil ?_
      refine inb_n ?_
      refine then_n ?_
      refine wp_region_lit ?_
      refine lv (d := 31) rfl rfl (by kernel_rfl) (e_add (k := .i64) (a := x10) (b := 1) (by exact e14) rfl) ?_
      refine lv (d := 11) rfl rfl (by kernel_rfl) (e_move (v := .int .i64 (IntKind.i64.wrap (x10 + 1))) (by kernel_rfl)) ?_
      refine wpList_nil ?_
      refine then_n ?_
      have S50 := St.first (Fa := []) (Fr := [(is g33)]) S46
      exact ⟨k19, (by omega), _, (IntKind.i64.wrap ((IntKind.i64.wrap (x9 - 1)) + ((x1.getD ((x10).toNat) z65).n))), (IntKind.i64.wrap (x10 + 1)), rfl, (by kernel_rfl), (by exact e12), (by exact e13), (by kernel_rfl), S50, M⟩
    replace M := ifn q49 M
    refine cond_f rfl (bf q49 (by kernel_rfl)) ?_
    refine wp_skip ?_
    refine inb_n ?_
    refine then_n ?_
    refine wp_region_lit ?_
    refine lv (d := 31) rfl rfl (by kernel_rfl) (e_add (k := .i64) (a := x10) (b := 1) (by exact e14) rfl) ?_
    refine lv (d := 11) rfl rfl (by kernel_rfl) (e_move (v := .int .i64 (IntKind.i64.wrap (x10 + 1))) (by kernel_rfl)) ?_
    refine wpList_nil ?_
    refine then_n ?_
    have S51 := St.first (Fa := []) (Fr := [(is g33)]) S46
    exact ⟨k19, (by omega), _, (IntKind.i64.wrap (x9 - 1)), (IntKind.i64.wrap (x10 + 1)), rfl, (by kernel_rfl), (by exact e12), (by exact e13), (by kernel_rfl), S51, M⟩
  replace M := ifn q20 M
  refine cond_f rfl (bf q20 (by kernel_rfl)) ?_
  refine wp_exit ?_
  refine then_e ?_
  refine then_e ?_
  refine inb_hit ?_
  refine then_n ?_
  refine wp_seq ?_
  refine wp_region_lit ?_
  refine lv (d := 32) rfl rfl (by kernel_rfl) (e_move (v := .int .i64 x9) (by exact e11)) ?_
  refine lv (d := 33) rfl rfl (by kernel_rfl) (e_eql (k := .i64) (a := x9) (b := 0) (by kernel_rfl) rfl) ?_
  refine lv (d := 2) rfl rfl (by kernel_rfl) (e_assign (v := .bool (decide (x9 = 0))) (by kernel_rfl)) ?_
  refine wpList_nil ?_
  refine then_n ?_
  refine wp_ret ?_
  obtain rfl := Option.some.inj M
  exact ret1 rfl rfl  (show _ = .bool (decide (x9 = 0)) from (by kernel_rfl)) ⟨rfl, S15.chg⟩

/-! impl_allValid -/
def impl_allValid.l0 : Nat → (List (List Cell)) → Int → Option Bool
  | 0, _, _ => none
  | k16 + 1, x1, x8 => (if x8 < (x1.length : Int) then (if 0 ≤ x8 then ((impl_ValidTerm.f k16 (x1.getD ((x8).toNat) ([] : List Cell))).bind fun t29 => (if ¬ (t29 = true) then some false else (impl_allValid.l0 k16 x1 (IntKind.i64.wrap (x8 + 1))))) else none) else some true)
def impl_allValid.f (k : Nat) (x1 : List (List Cell)) : Option Bool := (impl_allValid.l0 k x1 0)
theorem impl_allValid.calls (k : Nat) (w : World) (H : Hp) (x1 : List (List Cell)) (A2 : Option Addr) (c3 : Nat) (h4 : Rd sl65 H A2 x1) (l5 : x1.length ≤ c3) (S : Own [] H w) (r : Bool) (M : impl_allValid.f k x1 = some r) :
    Calls Try.prog 80 #[.slice A2 x1.length c3] w (fun e e_w => e = .returned (.bool r) ∧ Chg no w e_w) := by
  rw [impl_allValid.f] at M
  refine enter (l := [.slice A2 x1.length c3]) 15 Try.func80 rfl rfl rfl ?_
  have S0_ := S.st
  refine wp_seq ?_
  refine wp_region_lit ?_
  refine lv (d := 2) rfl rfl (by kernel_rfl) (e_assign (v := .bool false) rfl) ?_
  refine wpList_nil ?_
  refine then_n ?_
  refine wp_seq ?_
  refine wp_seq ?_
  refine wp_region_lit ?_
  refine lv (d := 5) rfl rfl (by kernel_rfl) (e_move (v := .slice A2 x1.length c3) (by kernel_rfl)) ?_
  refine lv (d := 6) rfl rfl (by kernel_rfl) (e_len (A := A2) (n := x1.length) (c := c3) Try.underlying38 (by kernel_rfl)) ?_
  refine lv (d := 7) rfl rfl (by kernel_rfl) (e_move (v := .int .i64 0) rfl) ?_
  refine wpList_nil ?_
  refine then_n ?_
  refine wp_block ?_
  refine wp_loop_g (fun k14 a15 w6 => ∃ (f7 : Nat → Value) (x8 : Int), a15 = mk 15 f7 ∧ f7 5 = .slice A2 x1.length c3 ∧ f7 6 = .int .i64 (x1.length : Int) ∧ f7 7 = .int .i64 x8 ∧ St (anyOf []) H w [] H w6 ∧ impl_allValid.l0 k14 x1 x8 = some r) k ⟨_, 0, rfl, (by kernel_rfl), (by kernel_rfl), (by kernel_rfl), S0_, M⟩ ?_
  clear M
  rintro k14 a15 w6 ⟨f7, x8, rfl, e9, e10, e11, S12, M⟩
  rcases k14 with _ | k16
  · rw [impl_allValid.l0] at M
    cases M
  rw [impl_allValid.l0] at M
  refine wp_seq ?_
  refine wp_region_lit ?_
  refine lv (d := 8) rfl rfl (by kernel_rfl) (e_lss (k := .i64) (a := x8) (b := (x1.length : Int)) (by exact e11) (by exact e10)) ?_
  refine wpList_nil ?_
  refine then_n ?_
  refine wp_seq ?_
  by_cases q17 : x8 < (x1.length : Int)
  · replace M := ifp q17 M
    refine cond_t rfl (bt q17 (by kernel_rfl)) ?_
    refine wp_skip ?_
    refine then_n ?_
    refine wp_seq ?_
    refine wp_block ?_
    refine wp_seq ?_
    refine wp_region_lit ?_
    obtain ⟨q18, M⟩ := chk M
    obtain ⟨b19, o20, e21⟩ := Rd.addr h4 (show (x8).toNat < x1.length by omega)
    obtain ⟨y22, r23, k24⟩ := Rd.at h4 e21 (getD_some ([] : List Cell) (show (x8).toNat < x1.length by omega))
    obtain ⟨A25, c26, rfl, l27, h28⟩ := r23
    refine lv (d := 9) rfl rfl (by kernel_rfl) (e_indexAddr (b := b19) (off := o20) (n := x1.length) (c := c3) (sz := 1) (i := x8) (k := .i64) Try.underlying38 e21 (by kernel_rfl) (by exact e9) (by exact e11) q18 q17) ?_
    refine lv (d := 10) rfl rfl (by kernel_rfl) (e_load1 (ad := ⟨b19, o20 + (x8 : Int).toNat * 1, none⟩) (v := .slice A25 (x1.getD ((x8).toNat) ([] : List Cell)).length c26) Try.underlying25 rfl (by kernel_rfl) (hpx (S12.inv.cell (k24 0 _ rfl)))) ?_
    refine lv (d := 4) rfl rfl (by kernel_rfl) (e_assign (v := .slice A25 (x1.getD ((x8).toNat) ([] : List Cell)).length c26) (by kernel_rfl)) ?_
    refine wpList_nil ?_
    refine then_n ?_
    refine wp_seq ?_
    refine wp_region_lit ?_
    refine lv (d := 11) rfl rfl (by kernel_rfl) (e_move (v := .slice A25 (x1.getD ((x8).toNat) ([] : List Cell)).length c26) (by kernel_rfl)) ?_
    obtain ⟨t29, u30, M⟩ := bnd M
    refine lcall (d := 12) rfl rfl (by kernel_rfl) (e_call (l := [.tmp 11]) (vs := [.slice A25 (x1.getD ((x8).toNat) ([] : List Cell)).length c26]) Try.func17 (by kernel_rfl) rfl (by kernel_rfl) rfl) (impl_ValidTerm.calls k16 w6 H (x1.getD ((x8).toNat) ([] : List Cell)) A25 c26 h28 l27 S12.own0 t29 u30) ?_
    rintro _ w31 ⟨rfl, C32⟩
    refine ⟨_, rfl, ?_⟩
    obtain ⟨S33, K34⟩ := S12.still C32
    refine lv (d := 13) rfl rfl (by kernel_rfl) (e_notv (c := t29) (by kernel_rfl)) ?_
    refine wpList_nil ?_
    refine then_n ?_
    by_cases q35 : ¬ (t29 = true)
    · replace M := ifp q35 M
      refine cond_t rfl (bt q35 (by kernel_rfl)) ?_
      refine wp_seq ?_
      refine wp_region_lit ?_
      refine lv (d := 2) rfl rfl (by kernel_rfl) (e_assign (v := .bool false) rfl) ?_
      refine wpList_nil ?_
      refine then_n ?_
      refine wp_ret ?_
      refine inb_r ?_
      refine then_r ?_
      refine then_r ?_
      refine inb_r ?_
      refine then_r ?_
      obtain rfl := Option.some.inj M
      exact ret1 rfl rfl  (show _ = .bool false from (by kernel_rfl)) ⟨rfl, S33.chg⟩
    replace M := ifn q35 M
    refine cond_f rfl (bf q35 (by kernel_rfl)) ?_
    refine wp_skip ?_
    refine inb_n ?_
    refine then_n ?_
    refine wp_region_lit ?_
    refine lv (d := 14) rfl rfl (by kernel_rfl) (e_add (k := .i64) (a := x8) (b := 1) (by exact e11) rfl) ?_
    refine lv (d := 7) rfl rfl (by kernel_rfl) (e_move (v := .int .i64 (IntKind.i64.wrap (x8 + 1))) (by kernel_rfl)) ?_
    refine wpList_nil ?_
    refine then_n ?_
    exact ⟨k16, (by omega), _, (IntKind.i64.wrap (x8 + 1)), rfl, (by exact e9), (by exact e10), (by kernel_rfl), S33, M⟩
  replace M := ifn q17 M
  refine cond_f rfl (bf q17 (by kernel_rfl)) ?_
  refine wp_exit ?_
  refine then_e ?_
  refine then_e ?_
  refine inb_hit ?_
  refine then_n ?_
  refine wp_seq ?_
  refine wp_region_lit ?_
  refine lv (d := 2) rfl rfl (by kernel_rfl) (e_assign (v := .bool true) rfl) ?_
  refine wpList_nil ?_
  refine then_n ?_
  refine wp_ret ?_
  obtain rfl := Option.some.inj M
  exact ret1 rfl rfl  (show _ = .bool true from (by kernel_rfl)) ⟨rfl, S12.chg⟩

/-! impl_fromCells -/
mutual
def impl_fromCells.l0 : Nat → (List Cell) → (List Cell) → Int → (List Tm) → Option (Tm × (List Cell))
  | 0, _, _, _, _ => none
  | k60 + 1, x1, x41, x46, x47 => (if x46 < ((x1.getD 0 z65).n) then ((impl_fromCells.f k60 x41).bind fun t65 => (if x47.length + 1 ≤ 17592186044416 then (impl_fromCells.l0 k60 x1 t65.2 (IntKind.i64.wrap (x46 + 1)) (x47 ++ [t65.1])) else none)) else some ((Tm.mk ((x1.getD 0 z65).kind) ((x1.getD 0 z65).n) ((x1.getD 0 z65).text) x47), x41))
def impl_fromCells.f : Nat → (List Cell) → Option (Tm × (List Cell))
  | 0, _ => none
  | k1_ + 1, x1 => (if 0 < (x1.length : Int) then (if 1 ≤ (x1.length : Int) then (if ((x1.getD 0 z65).kind) = 3 then (impl_fromCells.l0 k1_ x1 (x1.drop ((1 : Int).toNat)) 0 []) else some ((Tm.mk ((x1.getD 0 z65).kind) ((x1.getD 0 z65).n) ((x1.getD 0 z65).text) []), (x1.drop ((1 : Int).toNat)))) else none) else none)
end
theorem impl_fromCells.all : ∀ (K : Nat), (∀ (k : Nat), k < K → ∀ (w : World) (H : Hp) (x1 : List Cell) (A2 : Option Addr) (c3 : Nat) (h4 : Rd st65 H A2 x1) (l5 : x1.length ≤ c3) (S : Own [] H w) (r : Tm × (List Cell)) (M : impl_fromCells.f k x1 = some r), Calls Try.prog 108 #[.slice A2 x1.length c3] w (fun e e_w => ∃ (g_1 : Nat) (A_1 : Option Addr) (c_1 : Nat) (H_ : Hp), e = .returned (.tuple #[.pointer (some ⟨g_1, 0, none⟩), .slice A_1 r.2.length c_1]) ∧ NodeR 125 H_ r.1 (.pointer (some ⟨g_1, 0, none⟩)) ∧ Rd st65 H_ A_1 r.2 ∧ r.2.length ≤ c_1 ∧ St (anyOf []) H w [] H_ e_w)) := by
  intro K
  induction K with
  | zero => intro k hk; omega
  | succ K ih =>
    intro k hk w H x1 A2 c3 h4 l5 S r M
    rcases k with _ | k1_
    · rw [impl_fromCells.f] at M
      cases M
    rw [impl_fromCells.f] at M
    refine enter (l := [.slice A2 x1.length c3]) 48 Try.func108 rfl rfl rfl ?_
    have S0_ := S.st
    refine wp_seq ?_
    refine wp_region_lit ?_
    refine lv (d := 2) rfl rfl (by kernel_rfl) (e_assign (v := .pointer none) rfl) ?_
    refine lv (d := 3) rfl rfl (by kernel_rfl) (e_assign (v := .slice none 0 0) rfl) ?_
    refine wpList_nil ?_
    refine then_n ?_
    refine wp_seq ?_
    refine wp_region_lit ?_
    refine lv (d := 8) rfl rfl (by kernel_rfl) (e_move (v := .slice A2 x1.length c3) (by kernel_rfl)) ?_
    obtain ⟨q6, M⟩ := chk M
    obtain ⟨b7, o8, e9⟩ := Rd.addr h4 (show 0 < x1.length by omega)
    obtain ⟨y10, r11, k12⟩ := Rd.at h4 e9 (getD_some z65 (show 0 < x1.length by omega))
    obtain ⟨A13, c14, rfl, l15, h16⟩ := st65_open r11
    refine lv (d := 9) rfl rfl (by kernel_rfl) (e_indexAddr (b := b7) (off := o8) (n := x1.length) (c := c3) (sz := 3) (i := 0) (k := .i64) Try.underlying25 e9 (by kernel_rfl) (by kernel_rfl) rfl (by omega) q6) ?_
    refine lv (d := 10) rfl rfl (by kernel_rfl) (e_loadS (b := b7) (off := o8 + (0 : Int).toNat * 3) (cs := [.int .i64 ((x1.getD 0 z65).kind), .int .i64 ((x1.getD 0 z65).n), .slice A13 ((x1.getD 0 z65).text).length c14]) Try.underlying65 rfl (by kernel_rfl) (by kernel_rfl) (fun j_ u_ e_ => (hpx (S0_.inv.cell (k12 j_ u_ e_))))) ?_
    refine lve (d := 4) rfl rfl (by kernel_rfl) (new_blk (v := fun g_ => .pointer (some ⟨g_, 0, none⟩)) (cs := #[.int .i64 0, .int .i64 0, .slice none 0 0]) (t := 65) S0_ (by kernel_rfl)) ?_
    rintro _ w17 ⟨g18, rfl, b19, S20, K21⟩
    refine lse rfl rfl (by kernel_rfl) (e_store (g := g18) (o := 0) (v := .agg #[.int .i64 ((x1.getD 0 z65).kind), .int .i64 ((x1.getD 0 z65).n), .slice A13 ((x1.getD 0 z65).text).length c14]) (cur' := #[.int .i64 ((x1.getD 0 z65).kind), .int .i64 ((x1.getD 0 z65).n), .slice A13 ((x1.getD 0 z65).text).length c14]) (vs := [.int .i64 ((x1.getD 0 z65).kind), .int .i64 ((x1.getD 0 z65).n), .slice A13 ((x1.getD 0 z65).text).length c14]) S20 (by kernel_rfl) (by kernel_rfl) rfl (by kernel_rfl) b19 (Nat.le_of_ble_eq_true rfl) (List.forall_mem_cons.2 ⟨rfl, (List.forall_mem_cons.2 ⟨rfl, (List.forall_mem_cons.2 ⟨rfl, (fun _ h_ => by cases h_)⟩)⟩)⟩) rfl) ?_
    rintro w22 ⟨b23, S24, K25⟩
    clear b19
    refine wpList_nil ?_
    refine then_n ?_
    refine wp_seq ?_
    refine wp_region_lit ?_
    refine lv (d := 11) rfl rfl (by kernel_rfl) (e_move (v := .slice A2 x1.length c3) (by kernel_rfl)) ?_
    obtain ⟨q26, M⟩ := chk M
    obtain ⟨A27, h30, l29, h28⟩ := Rd.sub1 (d := st65) (n := x1.length) (m := 3) (cap := c3) (a := 1) rfl h4 (by decide) q26 rfl l5
    refine lv (d := 12) rfl rfl (by kernel_rfl) (e_slice_l (n := x1.length) (m := 3) (cap := c3) (A := A2) (a := 1) (k := .i64) Try.underlying25 (by kernel_rfl) (by kernel_rfl) rfl (by decide) q26 l5 h30) ?_
    refine lv (d := 0) rfl rfl (by kernel_rfl) (e_assign (v := .slice A27 (x1.drop ((1 : Int).toNat)).length (c3 - ((1 : Int).toNat))) (by kernel_rfl)) ?_
    refine wpList_nil ?_
    refine then_n ?_
    refine wp_seq ?_
    refine wp_region_lit ?_
    refine lv (d := 13) rfl rfl (by kernel_rfl) (e_fieldAddr (b := g18) (off := 0) (o := 0) Try.underlying65 rfl rfl (sz := 1) (by kernel_rfl) (by decide) (by kernel_rfl)) ?_
    refine lv (d := 14) rfl rfl (by kernel_rfl) (e_load1 (ad := ⟨g18, 0 + 0, none⟩) (v := .int .i64 ((x1.getD 0 z65).kind)) Try.underlying3 rfl (by kernel_rfl) (blk_cell b23 rfl)) ?_
    refine lv (d := 15) rfl rfl (by kernel_rfl) (e_fieldAddr (b := g18) (off := 0) (o := 1) Try.underlying65 rfl rfl (sz := 1) (by kernel_rfl) (by decide) (by kernel_rfl)) ?_
    refine lv (d := 16) rfl rfl (by kernel_rfl) (e_load1 (ad := ⟨g18, 0 + 1, none⟩) (v := .int .i64 ((x1.getD 0 z65).n)) Try.underlying3 rfl (by kernel_rfl) (blk_cell b23 rfl)) ?_
    refine lv (d := 17) rfl rfl (by kernel_rfl) (e_fieldAddr (b := g18) (off := 0) (o := 2) Try.underlying65 rfl rfl (sz := 1) (by kernel_rfl) (by decide) (by kernel_rfl)) ?_
    refine lv (d := 18) rfl rfl (by kernel_rfl) (e_load1 (ad := ⟨g18, 0 + 2, none⟩) (v := .slice A13 ((x1.getD 0 z65).text).length c14) Try.underlying59 rfl (by kernel_rfl) (blk_cell b23 rfl)) ?_
    refine lv (d := 19) rfl rfl (by kernel_rfl) (e_conv_bs (A := A13) (n := ((x1.getD 0 z65).text).length) (c := c14) (xs := (x1.getD 0 z65).text) Try.underlying59 Try.underlying5 Try.underlying9 (by kernel_rfl) rfl (Rd.bytesE S24.inv h16)) ?_
    refine lv (d := 20) rfl rfl (by kernel_rfl) (show _ = Result.ok (Next.value (.agg #[.int .i64 ((x1.getD 0 z65).kind), .int .i64 ((x1.getD 0 z65).n), str ((x1.getD 0 z65).text), .slice none 0 0])) w22 from by kernel_rfl) ?_
    refine lve (d := 21) rfl rfl (by kernel_rfl) (new_blk (v := fun g_ => .pointer (some ⟨g_, 0, none⟩)) (cs := #[.int .i64 ((x1.getD 0 z65).kind), .int .i64 ((x1.getD 0 z65).n), str ((x1.getD 0 z65).text), .slice none 0 0]) (t := 125) S24 (by kernel_rfl)) ?_
    rintro _ w31 ⟨g32, rfl, b33, S34, K35⟩
    replace b23 := K35.blk 0 rfl b23
    refine lv (d := 5) rfl rfl (by kernel_rfl) (e_assign (v := .pointer (some ⟨g32, 0, none⟩)) (by kernel_rfl)) ?_
    refine wpList_nil ?_
    refine then_n ?_
    refine wp_seq ?_
    refine wp_seq ?_
    refine wp_region_lit ?_
    refine lv (d := 22) rfl rfl (by kernel_rfl) (e_fieldAddr (b := g18) (off := 0) (o := 0) Try.underlying65 rfl rfl (sz := 1) (by kernel_rfl) (by decide) (by kernel_rfl)) ?_
    refine lv (d := 23) rfl rfl (by kernel_rfl) (e_load1 (ad := ⟨g18, 0 + 0, none⟩) (v := .int .i64 ((x1.getD 0 z65).kind)) Try.underlying3 rfl (by kernel_rfl) (blk_cell b23 rfl)) ?_
    refine lv (d := 24) rfl rfl (by kernel_rfl) (e_eql (k := .i64) (a := (x1.getD 0 z65).kind) (b := 3) (by kernel_rfl) rfl) ?_
    refine wpList_nil ?_
    refine then_n ?_
    by_cases q36 : ((x1.getD 0 z65).kind) = 3
    · replace M := ifp q36 M
      refine cond_t rfl (bt q36 (by kernel_rfl)) ?_
      refine wp_seq ?_
      refine wp_region_lit ?_
      refine lv (d := 6) rfl rfl (by kernel_rfl) (e_assign (v := .int .i64 0) rfl) ?_
      refine wpList_nil ?_
      refine then_n ?_
      refine wp_block ?_
      have S61 := S34.unit
      have S62 := S61.pull (F := (is g18)) (Fr := [no, (is g32)]) 2 rfl rfl
      have S63 := S62.pull (F := (is g32)) (Fr := [(is g18), no]) 2 rfl rfl
      refine wp_loop_g (fun k58 a59 w37 => ∃ (f38 : Nat → Value) (H39 : Hp) (x41 : List Cell) (A42 : Option Addr) (c43 : Nat) (x46 : Int) (x47 : List Tm) (A48 : Option Addr) (c49 : Nat) (F50 : Foot), k58 < K ∧ a59 = mk 48 f38 ∧ f38 0 = .slice A42 x41.length c43 ∧ f38 4 = .pointer (some ⟨g18, 0, none⟩) ∧ f38 5 = .pointer (some ⟨g32, 0, none⟩) ∧ f38 6 = .int .i64 x46 ∧ w37.heap[g32]? = some (.cells #[.int .i64 ((x1.getD 0 z65).kind), .int .i64 ((x1.getD 0 z65).n), str ((x1.getD 0 z65).text), .slice A48 x47.length c49] 125 (0, 0)) ∧ w37.heap[g18]? = some (.cells #[.int .i64 ((x1.getD 0 z65).kind), .int .i64 ((x1.getD 0 z65).n), .slice A13 ((x1.getD 0 z65).text).length c14] 65 (0, 0)) ∧ Row (node 125) 74 H39 (hp w37) F50 A48 c49 x47 ∧ Rd st65 H39 A42 x41 ∧ x41.length ≤ c43 ∧ Ext H H39 ∧ St (anyOf []) H w [(is g32), (is g18), F50] H39 w37 ∧ impl_fromCells.l0 k58 x1 x41 x46 x47 = some r) k1_ ⟨_, H, (x1.drop ((1 : Int).toNat)), A27, (c3 - ((1 : Int).toNat)), 0, [], none, 0, no, (by omega), rfl, (by kernel_rfl), (by kernel_rfl), (by kernel_rfl), (by kernel_rfl), b33, b23, (Row.nil _ _ _ _ _), h28, l29, (Ext.refl _), S63, M⟩ ?_
      clear M
      rintro k58 a59 w37 ⟨f38, H39, x41, A42, c43, x46, x47, A48, c49, F50, z57, rfl, e52, e53, e54, e55, b33, b23, h51, h44, l45, Y40, S56, M⟩
      rcases k58 with _ | k60
      · rw [impl_fromCells.l0] at M
        cases M
      rw [impl_fromCells.l0] at M
      refine wp_seq ?_
      refine wp_seq ?_
      refine wp_region_lit ?_
      refine lv (d := 25) rfl rfl (by kernel_rfl) (e_move (v := .int .i64 x46) (by exact e55)) ?_
      refine lv (d := 26) rfl rfl (by kernel_rfl) (e_fieldAddr (b := g18) (off := 0) (o := 1) Try.underlying65 rfl rfl (sz := 1) (by kernel_rfl) (by decide) (by exact e53)) ?_
      refine lv (d := 27) rfl rfl (by kernel_rfl) (e_load1 (ad := ⟨g18, 0 + 1, none⟩) (v := .int .i64 ((x1.getD 0 z65).n)) Try.underlying3 rfl (by kernel_rfl) (blk_cell b23 rfl)) ?_
      refine lv (d := 28) rfl rfl (by kernel_rfl) (e_lss (k := .i64) (a := x46) (b := (x1.getD 0 z65).n) (by kernel_rfl) (by kernel_rfl)) ?_
      refine wpList_nil ?_
      refine then_n ?_
      by_cases q64 : x46 < ((x1.getD 0 z65).n)
      · replace M := ifp q64 M
        refine cond_t rfl (bt q64 (by kernel_rfl)) ?_
        refine wp_skip ?_
        refine then_n ?_
        refine wp_seq ?_
        refine wp_block ?_
        refine wp_seq ?_
        refine wp_region_lit ?_
        refine lv (d := 7) rfl rfl (by kernel_rfl) (e_assign (v := .pointer none) rfl) ?_
        refine wpList_nil ?_
        refine then_n ?_
        refine wp_seq ?_
        refine wp_region_lit ?_
        refine lv (d := 32) rfl rfl (by kernel_rfl) (e_move (v := .slice A42 x41.length c43) (by exact e52)) ?_
        obtain ⟨t65, u66, M⟩ := bnd M
        refine lcall (d := 33) rfl rfl (by kernel_rfl) (e_call (l := [.tmp 32]) (vs := [.slice A42 x41.length c43]) Try.func108 (by kernel_rfl) rfl (by kernel_rfl) rfl) (ih k60 (by omega) w37 H39 x41 A42 c43 h44 l45 (St.own' (Fa := []) (Fr := [(is g32), (is g18), F50]) S56) t65 u66) ?_
        rintro _ w67 ⟨g70, A72, c73, H68, rfl, h71, h74, l75, T69⟩
        refine ⟨_, rfl, ?_⟩
        obtain ⟨S76, K77⟩ := St.call (Fa := []) (Fr := [(is g32), (is g18), F50]) S56 T69
        replace b33 := K77.blk 0 rfl b33
        replace b23 := K77.blk 1 rfl b23
        replace h51 := h51.move (K77.at 2 rfl)
        have E78 := T69.ext
        replace h51 := h51.ext E78
        refine lv (d := 31) rfl rfl (by kernel_rfl) (e_move (v := .tuple #[.pointer (some ⟨g70, 0, none⟩), .slice A72 t65.2.length c73]) (by kernel_rfl)) ?_
        refine lv (d := 34) rfl rfl (by kernel_rfl) (e_extract (vs := #[.pointer (some ⟨g70, 0, none⟩), .slice A72 t65.2.length c73]) (v := .pointer (some ⟨g70, 0, none⟩)) (by kernel_rfl) rfl) ?_
        refine lv (d := 35) rfl rfl (by kernel_rfl) (e_extract (vs := #[.pointer (some ⟨g70, 0, none⟩), .slice A72 t65.2.length c73]) (v := .slice A72 t65.2.length c73) (by kernel_rfl) rfl) ?_
        refine lv (d := 7) rfl rfl (by kernel_rfl) (e_assign (v := .pointer (some ⟨g70, 0, none⟩)) (by kernel_rfl)) ?_
        refine lv (d := 0) rfl rfl (by kernel_rfl) (e_assign (v := .slice A72 t65.2.length c73) (by kernel_rfl)) ?_
        refine wpList_nil ?_
        refine then_n ?_
        refine wp_region_lit ?_
        refine lv (d := 36) rfl rfl (by kernel_rfl) (e_move (v := .pointer (some ⟨g32, 0, none⟩)) (by exact e54)) ?_
        refine lv (d := 37) rfl rfl (by kernel_rfl) (e_move (v := .pointer (some ⟨g32, 0, none⟩)) (by exact e54)) ?_
        refine lv (d := 38) rfl rfl (by kernel_rfl) (e_nilCheck (ad := ⟨g32, 0, none⟩) (by kernel_rfl)) ?_
        refine lv (d := 39) rfl rfl (by kernel_rfl) (e_fieldAddr (b := g32) (off := 0) (o := 3) Try.underlying125 rfl rfl (sz := 1) (by kernel_rfl) (by decide) (by kernel_rfl)) ?_
        refine lv (d := 40) rfl rfl (by kernel_rfl) (e_load1 (ad := ⟨g32, 0 + 3, none⟩) (v := .slice A48 x47.length c49) Try.underlying87 rfl (by kernel_rfl) (blk_cell b33 rfl)) ?_
        refine lv (d := 41) rfl rfl (by kernel_rfl) (e_move (v := .pointer (some ⟨g70, 0, none⟩)) (by kernel_rfl)) ?_
        refine lve (d := 42) rfl rfl (by kernel_rfl) (new_blk (v := fun g_ => .slice (some ⟨g_, 0, none⟩) 1 1) (cs := #[.pointer (some ⟨g70, 0, none⟩)]) (t := 74) S76 (by kernel_rfl)) ?_
        rintro _ w79 ⟨g80, rfl, b81, S82, K83⟩
        replace b33 := K83.blk 0 rfl b33
        replace b23 := K83.blk 1 rfl b23
        replace h51 := h51.move (K83.at 2 rfl)
        obtain ⟨q84, M⟩ := chk M
        have S85 := S82.pull (F := F50) (Fr := [(is g80), (is g32), (is g18)]) 3 rfl rfl
        have S86 := S85.unit
        have S87 := S86.pull (F := F50) (Fr := [no, (is g80), (is g32), (is g18)]) 1 rfl rfl
        refine lve (d := 43) rfl rfl (by kernel_rfl) (e_append (d := (node 125)) (n := x47.length) (xs := x47) (cap := c49) (A := A48) (ys := [t65.1]) (A2 := (some ⟨g80, 0, none⟩)) (c2 := 1) (z := .pointer none) (bytes := 8) S87 Try.underlying87 (by kernel_rfl) rfl (by decide) (by kernel_rfl) rfl (by kernel_rfl) h51 (elsO_one1 ⟨_, rfl, h71⟩) (.inr (blk_news b81 rfl)) (show (x47.length + [t65.1].length) * 8 ≤ _ by first | omega | (simp only [List.length_cons, List.length_nil]; omega)) (by decide)) ?_
        rintro _ w88 ⟨A89, c90, F91, rfl, h92, S93, K94⟩
        replace b81 := K94.blk 0 rfl b81
        replace b33 := K94.blk 1 rfl b33
        replace b23 := K94.blk 2 rfl b23
        refine lv (d := 44) rfl rfl (by kernel_rfl) (e_nilCheck (ad := ⟨g32, 0, none⟩) (by kernel_rfl)) ?_
        refine lv (d := 45) rfl rfl (by kernel_rfl) (e_fieldAddr (b := g32) (off := 0) (o := 3) Try.underlying125 rfl rfl (sz := 1) (by kernel_rfl) (by decide) (by kernel_rfl)) ?_
        have S95 := S93.pull (F := (is g32)) (Fr := [F91, (is g80), (is g18)]) 2 rfl rfl
        refine lse rfl rfl (by kernel_rfl) (e_store (g := g32) (o := 0 + 3) (v := .slice A89 ((x47 ++ [t65.1]).length) c90) (cur' := #[.int .i64 ((x1.getD 0 z65).kind), .int .i64 ((x1.getD 0 z65).n), str ((x1.getD 0 z65).text), .slice A89 ((x47 ++ [t65.1]).length) c90]) (vs := [.slice A89 ((x47 ++ [t65.1]).length) c90]) S95 (by kernel_rfl) (by kernel_rfl) rfl (by kernel_rfl) b33 (Nat.le_of_ble_eq_true rfl) (List.forall_mem_cons.2 ⟨rfl, (fun _ h_ => by cases h_)⟩) rfl) ?_
        rintro w96 ⟨b97, S98, K99⟩
        replace h92 := h92.move (K99.at 0 rfl)
        replace b81 := K99.blk 1 rfl b81
        replace b23 := K99.blk 2 rfl b23
        clear b33
        refine wpList_nil ?_
        refine inb_n ?_
        refine then_n ?_
        refine wp_region_lit ?_
        refine lv (d := 29) rfl rfl (by kernel_rfl) (e_move (v := .int .i64 x46) (by exact e55)) ?_
        refine lv (d := 30) rfl rfl (by kernel_rfl) (e_add (k := .i64) (a := x46) (b := 1) (by kernel_rfl) rfl) ?_
        refine lv (d := 6) rfl rfl (by kernel_rfl) (e_assign (v := .int .i64 (IntKind.i64.wrap (x46 + 1))) (by kernel_rfl)) ?_
        refine wpList_nil ?_
        refine then_n ?_
        have S100 := S98.pull (F := F91) (Fr := [(is g32), (is g80), (is g18)]) 1 rfl rfl
        have S101 := S100.pull (F := (is g18)) (Fr := [F91, (is g32), (is g80)]) 3 rfl rfl
        have S102 := S101.pull (F := (is g32)) (Fr := [(is g18), F91, (is g80)]) 2 rfl rfl
        have S103 := St.first (Fa := [(is g32), (is g18), F91]) (Fr := [(is g80)]) S102
        exact ⟨k60, (by omega), _, H68, t65.2, A72, c73, (IntKind.i64.wrap (x46 + 1)), (x47 ++ [t65.1]), A89, c90, F91, (by omega), rfl, (by kernel_rfl), (by exact e53), (by exact e54), (by kernel_rfl), b97, b23, h92, h74, l75, (Y40.trans E78), S103, M⟩
      replace M := ifn q64 M
      refine cond_f rfl (bf q64 (by kernel_rfl)) ?_
      refine wp_exit ?_
      refine then_e ?_
      refine then_e ?_
      refine inb_hit ?_
      refine then_n ?_
      refine wp_seq ?_
      refine wp_region_lit ?_
      refine lv (d := 46) rfl rfl (by kernel_rfl) (e_move (v := .pointer (some ⟨g32, 0, none⟩)) (by exact e54)) ?_
      refine lv (d := 47) rfl rfl (by kernel_rfl) (e_move (v := .slice A42 x41.length c43) (by exact e52)) ?_
      refine lv (d := 2) rfl rfl (by kernel_rfl) (e_assign (v := .pointer (some ⟨g32, 0, none⟩)) (by kernel_rfl)) ?_
      refine lv (d := 3) rfl rfl (by kernel_rfl) (e_assign (v := .slice A42 x41.length c43) (by kernel_rfl)) ?_
      refine wpList_nil ?_
      refine then_n ?_
      refine wp_ret ?_
      have l104 := h51.le
      have S105 := S56.pull (F := F50) (Fr := [(is g32), (is g18)]) 2 rfl rfl
      obtain ⟨H106, S107, E108, h109, z110⟩ := S105.frzRow h51
      obtain ⟨H111, S112, E113, h114, z115⟩ := S107.frzBlk b33
      have h116 : NodeR 125 H111 (Tm.mk ((x1.getD 0 z65).kind) ((x1.getD 0 z65).n) ((x1.getD 0 z65).text) x47) (.pointer (some ⟨g32, 0, none⟩)) := node_mk (A := A48) (c := c49) h114 rfl l104 (h109.ext E113)
      obtain rfl := Option.some.inj M
      have S117 := St.first (Fa := []) (Fr := [(is g18)]) S112
      exact ret2 rfl rfl rfl (show _ = .pointer (some ⟨g32, 0, none⟩) from (by kernel_rfl)) (show _ = .slice A42 x41.length c43 from (by kernel_rfl)) ⟨g32, A42, c43, H111, rfl, h116, (h44.ext (E108.trans E113)), l45, S117⟩
    replace M := ifn q36 M
    refine cond_f rfl (bf q36 (by kernel_rfl)) ?_
    refine wp_skip ?_
    refine then_n ?_
    refine wp_seq ?_
    refine wp_region_lit ?_
    refine lv (d := 46) rfl rfl (by kernel_rfl) (e_move (v := .pointer (some ⟨g32, 0, none⟩)) (by kernel_rfl)) ?_
    refine lv (d := 47) rfl rfl (by kernel_rfl) (e_move (v := .slice A27 (x1.drop ((1 : Int).toNat)).length (c3 - ((1 : Int).toNat))) (by kernel_rfl)) ?_
    refine lv (d := 2) rfl rfl (by kernel_rfl) (e_assign (v := .pointer (some ⟨g32, 0, none⟩)) (by kernel_rfl)) ?_
    refine lv (d := 3) rfl rfl (by kernel_rfl) (e_assign (v := .slice A27 (x1.drop ((1 : Int).toNat)).length (c3 - ((1 : Int).toNat))) (by kernel_rfl)) ?_
    refine wpList_nil ?_
    refine then_n ?_
    refine wp_ret ?_
    obtain ⟨H118, S119, E120, h121, z122⟩ := S34.frzBlk b33
    have h123 : NodeR 125 H118 (Tm.mk ((x1.getD 0 z65).kind) ((x1.getD 0 z65).n) ((x1.getD 0 z65).text) []) (.pointer (some ⟨g32, 0, none⟩)) := node_mk (A := none) (c := 0) h121 rfl (Nat.le_refl _) (Rd.nil _ _ _)
    obtain rfl := Option.some.inj M
    have S124 := St.first (Fa := []) (Fr := [(is g18)]) S119
    exact ret2 rfl rfl rfl (show _ = .pointer (some ⟨g32, 0, none⟩) from (by kernel_rfl)) (show _ = .slice A27 (x1.drop ((1 : Int).toNat)).length (c3 - ((1 : Int).toNat)) from (by kernel_rfl)) ⟨g32, A27, (c3 - ((1 : Int).toNat)), H118, rfl, h123, (h28.ext E120), l29, S124⟩
theorem impl_fromCells.calls (k : Nat) (w : World) (H : Hp) (x1 : List Cell) (A2 : Option Addr) (c3 : Nat) (h4 : Rd st65 H A2 x1) (l5 : x1.length ≤ c3) (S : Own [] H w) (r : Tm × (List Cell)) (M : impl_fromCells.f k x1 = some r) :
    Calls Try.prog 108 #[.slice A2 x1.length c3] w (fun e e_w => ∃ (g_1 : Nat) (A_1 : Option Addr) (c_1 : Nat) (H_ : Hp), e = .returned (.tuple #[.pointer (some ⟨g_1, 0, none⟩), .slice A_1 r.2.length c_1]) ∧ NodeR 125 H_ r.1 (.pointer (some ⟨g_1, 0, none⟩)) ∧ Rd st65 H_ A_1 r.2 ∧ r.2.length ≤ c_1 ∧ St (anyOf []) H w [] H_ e_w) := (impl_fromCells.all (k + 1)) k (Nat.lt_succ_self k) w H x1 A2 c3 h4 l5 S r M

/-! impl_tree -/
def impl_tree.f (k : Nat) (x1 : List Cell) : Option Tm := ((impl_fromCells.f k x1).bind fun t6 => some t6.1)
theorem impl_tree.calls (k : Nat) (w : World) (H : Hp) (x1 : List Cell) (A2 : Option Addr) (c3 : Nat) (h4 : Rd st65 H A2 x1) (l5 : x1.length ≤ c3) (S : Own [] H w) (r : Tm) (M : impl_tree.f k x1 = some r) :
    Calls Try.prog 62 #[.slice A2 x1.length c3] w (fun e e_w => ∃ (g_1 : Nat) (H_ : Hp), e = .returned (.pointer (some ⟨g_1, 0, none⟩)) ∧ NodeR 125 H_ r (.pointer (some ⟨g_1, 0, none⟩)) ∧ St (anyOf []) H w [] H_ e_w) := by
  rw [impl_tree.f] at M
  refine enter (l := [.slice A2 x1.length c3]) 11 Try.func62 rfl rfl rfl ?_
  have S0_ := S.st
  refine wp_seq ?_
  refine wp_region_lit ?_
  refine lv (d := 2) rfl rfl (by kernel_rfl) (e_assign (v := .pointer none) rfl) ?_
  refine wpList_nil ?_
  refine then_n ?_
  refine wp_seq ?_
  refine wp_region_lit ?_
  refine lv (d := 6) rfl rfl (by kernel_rfl) (e_move (v := .slice A2 x1.length c3) (by kernel_rfl)) ?_
  obtain ⟨t6, u7, M⟩ := bnd M
  refine lcall (d := 7) rfl rfl (by kernel_rfl) (e_call (l := [.tmp 6]) (vs := [.slice A2 x1.length c3]) Try.func108 (by kernel_rfl) rfl (by kernel_rfl) rfl) (impl_fromCells.calls k w H x1 A2 c3 h4 l5 (St.own' (Fa := []) (Fr := []) S0_) t6 u7) ?_
  rintro _ w8 ⟨g11, A13, c14, H9, rfl, h12, h15, l16, T10⟩
  refine ⟨_, rfl, ?_⟩
  obtain ⟨S17, K18⟩ := St.call (Fa := []) (Fr := []) S0_ T10
  have E19 := T10.ext
  refine lv (d := 5) rfl rfl (by kernel_rfl) (e_move (v := .tuple #[.pointer (some ⟨g11, 0, none⟩), .slice A13 t6.2.length c14]) (by kernel_rfl)) ?_
  refine lv (d := 8) rfl rfl (by kernel_rfl) (e_extract (vs := #[.pointer (some ⟨g11, 0, none⟩), .slice A13 t6.2.length c14]) (v := .pointer (some ⟨g11, 0, none⟩)) (by kernel_rfl) rfl) ?_
  refine lv (d := 9) rfl rfl (by kernel_rfl) (e_extract (vs := #[.pointer (some ⟨g11, 0, none⟩), .slice A13 t6.2.length c14]) (v := .slice A13 t6.2.length c14) (by kernel_rfl) rfl) ?_
  refine lv (d := 3) rfl rfl (by kernel_rfl) (e_assign (v := .pointer (some ⟨g11, 0, none⟩)) (by kernel_rfl)) ?_
  refine lv (d := 4) rfl rfl (by kernel_rfl) (e_assign (v := .slice A13 t6.2.length c14) (by kernel_rfl)) ?_
  refine wpList_nil ?_
  refine then_n ?_
  refine wp_seq ?_
  refine wp_region_lit ?_
  refine lv (d := 10) rfl rfl (by kernel_rfl) (e_move (v := .pointer (some ⟨g11, 0, none⟩)) (by kernel_rfl)) ?_
  refine lv (d := 2) rfl rfl (by kernel_rfl) (e_assign (v := .pointer (some ⟨g11, 0, none⟩)) (by kernel_rfl)) ?_
  refine wpList_nil ?_
  refine then_n ?_
  refine wp_ret ?_
  obtain rfl := Option.some.inj M
  exact ret1 rfl rfl  (show _ = .pointer (some ⟨g11, 0, none⟩) from (by kernel_rfl)) ⟨g11, H9, rfl, h12, S17⟩

/-! impl_atom -/
def impl_atom.f (x1 : List UInt8) : Option Tm := some (Tm.mk 2 0 x1 [])
theorem impl_atom.calls (w : World) (H : Hp) (x1 : List UInt8) (S : Own [] H w) (r : Tm) (M : impl_atom.f x1 = some r) :
    Calls Try.prog 82 #[str x1] w (fun e e_w => ∃ (g_1 : Nat) (H_ : Hp), e = .returned (.pointer (some ⟨g_1, 0, none⟩)) ∧ NodeR 125 H_ r (.pointer (some ⟨g_1, 0, none⟩)) ∧ St (anyOf []) H w [] H_ e_w) := by
  rw [impl_atom.f] at M
  refine enter (l := [str x1]) 6 Try.func82 rfl rfl rfl ?_
  have S0_ := S.st
  refine wp_seq ?_
  refine wp_region_lit ?_
  refine lv (d := 2) rfl rfl (by kernel_rfl) (e_assign (v := .pointer none) rfl) ?_
  refine wpList_nil ?_
  refine then_n ?_
  refine wp_seq ?_
  refine wp_region_lit ?_
  refine lv (d := 3) rfl rfl (by kernel_rfl) (e_move (v := str x1) (by kernel_rfl)) ?_
  refine lv (d := 4) rfl rfl (by kernel_rfl) (show _ = Result.ok (Next.value (.agg #[.int .i64 2, .int .i64 0, str x1, .slice none 0 0])) w from by kernel_rfl) ?_
  refine lve (d := 5) rfl rfl (by kernel_rfl) (new_blk (v := fun g_ => .pointer (some ⟨g_, 0, none⟩)) (cs := #[.int .i64 2, .int .i64 0, str x1, .slice none 0 0]) (t := 125) S0_ (by kernel_rfl)) ?_
  rintro _ w2 ⟨g3, rfl, b4, S5, K6⟩
  refine lv (d := 2) rfl rfl (by kernel_rfl) (e_assign (v := .pointer (some ⟨g3, 0, none⟩)) (by kernel_rfl)) ?_
  refine wpList_nil ?_
  refine then_n ?_
  refine wp_ret ?_
  obtain ⟨H7, S8, E9, h10, z11⟩ := S5.frzBlk b4
  have h12 : NodeR 125 H7 (Tm.mk 2 0 x1 []) (.pointer (some ⟨g3, 0, none⟩)) := node_mk (A := none) (c := 0) h10 rfl (Nat.le_refl _) (Rd.nil _ _ _)
  obtain rfl := Option.some.inj M
  exact ret1 rfl rfl  (show _ = .pointer (some ⟨g3, 0, none⟩) from (by kernel_rfl)) ⟨g3, H7, rfl, h12, S8⟩

/-! impl_comp -/
def impl_comp.f (x1 : List UInt8) (x2 : List Tm) : Option Tm := some (Tm.mk 3 (x2.length : Int) x1 x2)
theorem impl_comp.calls (w : World) (H : Hp) (x1 : List UInt8) (x2 : List Tm) (A3 : Option Addr) (c4 : Nat) (h5 : Rd (node 125) H A3 x2) (l6 : x2.length ≤ c4) (S : Own [] H w) (r : Tm) (M : impl_comp.f x1 x2 = some r) :
    Calls Try.prog 114 #[str x1, .slice A3 x2.length c4] w (fun e e_w => ∃ (g_1 : Nat) (H_ : Hp), e = .returned (.pointer (some ⟨g_1, 0, none⟩)) ∧ NodeR 125 H_ r (.pointer (some ⟨g_1, 0, none⟩)) ∧ St (anyOf []) H w [] H_ e_w) := by
  rw [impl_comp.f] at M
  refine enter (l := [str x1, .slice A3 x2.length c4]) 11 Try.func114 rfl rfl rfl ?_
  have S0_ := S.st
  refine wp_seq ?_
  refine wp_region_lit ?_
  refine lv (d := 4) rfl rfl (by kernel_rfl) (e_assign (v := .pointer none) rfl) ?_
  refine wpList_nil ?_
  refine then_n ?_
  refine wp_seq ?_
  refine wp_region_lit ?_
  refine lv (d := 5) rfl rfl (by kernel_rfl) (e_move (v := .slice A3 x2.length c4) (by kernel_rfl)) ?_
  refine lv (d := 6) rfl rfl (by kernel_rfl) (e_len (A := A3) (n := x2.length) (c := c4) Try.underlying87 (by kernel_rfl)) ?_
  refine lv (d := 7) rfl rfl (by kernel_rfl) (e_move (v := str x1) (by kernel_rfl)) ?_
  refine lv (d := 8) rfl rfl (by kernel_rfl) (e_move (v := .slice A3 x2.length c4) (by kernel_rfl)) ?_
  refine lv (d := 9) rfl rfl (by kernel_rfl) (show _ = Result.ok (Next.value (.agg #[.int .i64 3, .int .i64 (x2.length : Int), str x1, .slice A3 x2.length c4])) w from by kernel_rfl) ?_
  refine lve (d := 10) rfl rfl (by kernel_rfl) (new_blk (v := fun g_ => .pointer (some ⟨g_, 0, none⟩)) (cs := #[.int .i64 3, .int .i64 (x2.length : Int), str x1, .slice A3 x2.length c4]) (t := 125) S0_ (by kernel_rfl)) ?_
  rintro _ w7 ⟨g8, rfl, b9, S10, K11⟩
  refine lv (d := 4) rfl rfl (by kernel_rfl) (e_assign (v := .pointer (some ⟨g8, 0, none⟩)) (by kernel_rfl)) ?_
  refine wpList_nil ?_
  refine then_n ?_
  refine wp_ret ?_
  obtain ⟨H12, S13, E14, h15, z16⟩ := S10.frzBlk b9
  have h17 : NodeR 125 H12 (Tm.mk 3 (x2.length : Int) x1 x2) (.pointer (some ⟨g8, 0, none⟩)) := node_mk (A := A3) (c := c4) h15 rfl l6 (h5.ext E14)
  obtain rfl := Option.some.inj M
  exact ret1 rfl rfl  (show _ = .pointer (some ⟨g8, 0, none⟩) from (by kernel_rfl)) ⟨g8, H12, rfl, h17, S13⟩

/-! impl_listOf -/
def impl_listOf.l0 : Nat → (List Tm) → Tm → Int → Option Tm
  | 0, _, _, _ => none
  | k24 + 1, x1, x13, x16 => (if x16 ≥ 0 then (if 0 ≤ x16 then (if x16 < (x1.length : Int) then ((impl_comp.f ([46] : List UInt8) [(x1.getD ((x16).toNat) (Tm.mk 0 0 [] [])), x13]).bind fun t52 => (impl_listOf.l0 k24 x1 t52 (IntKind.i64.wrap (x16 - 1)))) else none) else none) else some x13)
def impl_listOf.f (k : Nat) (x1 : List Tm) (x6 : Tm) : Option Tm := (impl_listOf.l0 k x1 x6 (IntKind.i64.wrap ((x1.length : Int) - 1)))
theorem impl_listOf.calls (k : Nat) (w : World) (H : Hp) (x1 : List Tm) (A2 : Option Addr) (c3 : Nat) (x6 : Tm) (g7 : Nat) (h4 : Rd (node 125) H A2 x1) (l5 : x1.length ≤ c3) (h8 : NodeR 125 H x6 (.pointer (some ⟨g7, 0, none⟩))) (S : Own [] H w) (r : Tm) (M : impl_listOf.f k x1 x6 = some r) :
    Calls Try.prog 81 #[.slice A2 x1.length c3, .pointer (some ⟨g7, 0, none⟩)] w (fun e e_w => ∃ (g_1 : Nat) (H_ : Hp), e = .returned (.pointer (some ⟨g_1, 0, none⟩)) ∧ NodeR 125 H_ r (.pointer (some ⟨g_1, 0, none⟩)) ∧ St (anyOf []) H w [] H_ e_w) := by
  rw [impl_listOf.f] at M
  refine enter (l := [.slice A2 x1.length c3, .pointer (some ⟨g7, 0, none⟩)]) 21 Try.func81 rfl rfl rfl ?_
  have S0_ := S.st
  refine wp_seq ?_
  refine wp_region_lit ?_
  refine lv (d := 4) rfl rfl (by kernel_rfl) (e_assign (v := .pointer none) rfl) ?_
  refine wpList_nil ?_
  refine then_n ?_
  refine wp_seq ?_
  refine wp_seq ?_
  refine wp_region_lit ?_
  refine lv (d := 6) rfl rfl (by kernel_rfl) (e_move (v := .slice A2 x1.length c3) (by kernel_rfl)) ?_
  refine lv (d := 7) rfl rfl (by kernel_rfl) (e_len (A := A2) (n := x1.length) (c := c3) Try.underlying87 (by kernel_rfl)) ?_
  refine lv (d := 8) rfl rfl (by kernel_rfl) (e_sub (k := .i64) (a := (x1.length : Int)) (b := 1) (by kernel_rfl) rfl) ?_
  refine lv (d := 5) rfl rfl (by kernel_rfl) (e_assign (v := .int .i64 (IntKind.i64.wrap ((x1.length : Int) - 1))) (by kernel_rfl)) ?_
  refine wpList_nil ?_
  refine then_n ?_
  refine wp_block ?_
  refine wp_loop_g (fun k22 a23 w9 => ∃ (f10 : Nat → Value) (H11 : Hp) (x13 : Tm) (g14 : Nat) (x16 : Int), a23 = mk 21 f10 ∧ f10 0 = .slice A2 x1.length c3 ∧ f10 1 = .pointer (some ⟨g14, 0, none⟩) ∧ f10 5 = .int .i64 x16 ∧ NodeR 125 H11 x13 (.pointer (some ⟨g14, 0, none⟩)) ∧ Ext H H11 ∧ St (anyOf []) H w [] H11 w9 ∧ impl_listOf.l0 k22 x1 x13 x16 = some r) k ⟨_, H, x6, g7, (IntKind.i64.wrap ((x1.length : Int) - 1)), rfl, (by kernel_rfl), (by kernel_rfl), (by kernel_rfl), h8, (Ext.refl _), S0_, M⟩ ?_
  clear M
  rintro k22 a23 w9 ⟨f10, H11, x13, g14, x16, rfl, e17, e18, e19, h15, Y12, S20, M⟩
  rcases k22 with _ | k24
  · rw [impl_listOf.l0] at M
    cases M
  rw [impl_listOf.l0] at M
  refine wp_seq ?_
  refine wp_seq ?_
  refine wp_region_lit ?_
  refine lv (d := 9) rfl rfl (by kernel_rfl) (e_move (v := .int .i64 x16) (by exact e19)) ?_
  refine lv (d := 10) rfl rfl (by kernel_rfl) (e_geq (k := .i64) (a := x16) (b := 0) (by kernel_rfl) rfl) ?_
  refine wpList_nil ?_
  refine then_n ?_
  by_cases q25 : x16 ≥ 0
  · replace M := ifp q25 M
    refine cond_t rfl (bt q25 (by kernel_rfl)) ?_
    refine wp_skip ?_
    refine then_n ?_
    refine wp_seq ?_
    refine wp_block ?_
    refine wp_region_lit ?_
    refine lv (d := 13) rfl rfl (by kernel_rfl) (e_move (v := .slice A2 x1.length c3) (by exact e17)) ?_
    refine lv (d := 14) rfl rfl (by kernel_rfl) (e_move (v := .int .i64 x16) (by exact e19)) ?_
    obtain ⟨q26, M⟩ := chk M
    obtain ⟨q27, M⟩ := chk M
    obtain ⟨b28, o29, e30⟩ := Rd.addr h4 (show (x16).toNat < x1.length by omega)
    obtain ⟨y31, r32, k33⟩ := Rd.at h4 e30 (getD_some (Tm.mk 0 0 [] []) (show (x16).toNat < x1.length by omega))
    obtain ⟨v34, rfl, h35⟩ := r32
    obtain ⟨g36, rfl⟩ := node_ptr h35
    refine lv (d := 15) rfl rfl (by kernel_rfl) (e_indexAddr (b := b28) (off := o29) (n := x1.length) (c := c3) (sz := 1) (i := x16) (k := .i64) Try.underlying87 e30 (by kernel_rfl) (by kernel_rfl) (by kernel_rfl) q26 q27) ?_
    refine lv (d := 16) rfl rfl (by kernel_rfl) (e_load1 (ad := ⟨b28, o29 + (x16 : Int).toNat * 1, none⟩) (v := .pointer (some ⟨g36, 0, none⟩)) Try.underlying74 rfl (by kernel_rfl) (hpx (S20.inv.cell (Y12.cell (k33 0 _ rfl))))) ?_
    refine lv (d := 17) rfl rfl (by kernel_rfl) (e_move (v := .pointer (some ⟨g14, 0, none⟩)) (by exact e18)) ?_
    refine lve (d := 18) rfl rfl (by kernel_rfl) (new_blk (v := fun g_ => .slice (some ⟨g_, 0, none⟩) 2 2) (cs := #[.pointer (some ⟨g36, 0, none⟩), .pointer (some ⟨g14, 0, none⟩)]) (t := 74) S20 (by kernel_rfl)) ?_
    rintro _ w37 ⟨g38, rfl, b39, S40, K41⟩
    have S42 := S40.unit
    have S43 := S42.pull (F := (is g38)) (Fr := [no]) 1 rfl rfl
    obtain ⟨h44, S45⟩ := row_lit (d := (node 125)) (xs := [(x1.getD ((x16).toNat) (Tm.mk 0 0 [] [])), x13]) S43 b39 rfl (elsO_no (d := (node 125)) ⟨_, rfl, (h35.ext' Y12)⟩ (elsO_no (d := (node 125)) ⟨_, rfl, h15⟩ (elsO_nil _ _ _ no))) (Nat.le_of_ble_eq_true rfl)
    have l46 := h44.le
    obtain ⟨H47, S48, E49, h50, z51⟩ := S45.frzRow h44
    obtain ⟨t52, u53, M⟩ := bnd M
    refine lcall (d := 19) rfl rfl (by kernel_rfl) (e_call (l := [.const (str ([46] : List UInt8)), .tmp 18]) (vs := [str ([46] : List UInt8), .slice (some ⟨g38, 0, none⟩) 2 2]) Try.func114 (by kernel_rfl) rfl (by kernel_rfl) rfl) (impl_comp.calls w37 H47 ([46] : List UInt8) [(x1.getD ((x16).toNat) (Tm.mk 0 0 [] [])), x13] (some ⟨g38, 0, none⟩) 2 h50 l46 (St.own' (Fa := []) (Fr := []) S48) t52 u53) ?_
    rintro _ w54 ⟨g57, H55, rfl, h58, T56⟩
    refine ⟨_, rfl, ?_⟩
    obtain ⟨S59, K60⟩ := St.call (Fa := []) (Fr := []) S48 T56
    have E61 := T56.ext
    refine lv (d := 1) rfl rfl (by kernel_rfl) (e_assign (v := .pointer (some ⟨g57, 0, none⟩)) (by kernel_rfl)) ?_
    refine wpList_nil ?_
    refine inb_n ?_
    refine then_n ?_
    refine wp_region_lit ?_
    refine lv (d := 11) rfl rfl (by kernel_rfl) (e_move (v := .int .i64 x16) (by exact e19)) ?_
    refine lv (d := 12) rfl rfl (by kernel_rfl) (e_sub (k := .i64) (a := x16) (b := 1) (by kernel_rfl) rfl) ?_
    refine lv (d := 5) rfl rfl (by kernel_rfl) (e_assign (v := .int .i64 (IntKind.i64.wrap (x16 - 1))) (by kernel_rfl)) ?_
    refine wpList_nil ?_
    refine then_n ?_
    exact ⟨k24, (by omega), _, H55, t52, g57, (IntKind.i64.wrap (x16 - 1)), rfl, (by exact e17), (by kernel_rfl), (by kernel_rfl), h58, ((Y12.trans E49).trans E61), S59, M⟩
  replace M := ifn q25 M
  refine cond_f rfl (bf q25 (by kernel_rfl)) ?_
  refine wp_exit ?_
  refine then_e ?_
  refine then_e ?_
  refine inb_hit ?_
  refine then_n ?_
  refine wp_seq ?_
  refine wp_region_lit ?_
  refine lv (d := 20) rfl rfl (by kernel_rfl) (e_move (v := .pointer (some ⟨g14, 0, none⟩)) (by exact e18)) ?_
  refine lv (d := 4) rfl rfl (by kernel_rfl) (e_assign (v := .pointer (some ⟨g14, 0, none⟩)) (by kernel_rfl)) ?_
  refine wpList_nil ?_
  refine then_n ?_
  refine wp_ret ?_
  obtain rfl := Option.some.inj M
  exact ret1 rfl rfl  (show _ = .pointer (some ⟨g14, 0, none⟩) from (by kernel_rfl)) ⟨g14, H11, rfl, h15, S20⟩

/-! impl_node_put -/
mutual
def impl_node_put_2.l0 : Nat → Tm → (List Cell) → (List UInt8) → Option (List Cell)
  | 0, _, _, _ => none
  | k66 + 1, x1, x4, x55 => (if x4.length + 1 ≤ 3518437208883 then (impl_node_put_2.l1 k66 x1 (x4 ++ [(⟨x1.kind, x1.n, x55⟩ : Cell)]) 0) else none)
def impl_node_put_2.l1 : Nat → Tm → (List Cell) → Int → Option (List Cell)
  | 0, _, _, _ => none
  | k122 + 1, x1, x107, x112 => (if x112 < (x1.args.length : Int) then (if 0 ≤ x112 then ((impl_node_cut_2.f k122 x1 (x1.args.getD ((x112).toNat) (Tm.mk 0 0 [] [])) x107).bind fun t135 => (impl_node_put_2.l1 k122 x1 t135 (IntKind.i64.wrap (x112 + 1)))) else none) else some x107)
def impl_node_put_2.f : Nat → Tm → (List Cell) → Option (List Cell)
  | 0, _, _ => none
  | k1_ + 1, x1, x4 => (if x1.kind ≥ 2 then (if x1.text.length ≤ 9223372036854775807 then (impl_node_put_2.l0 k1_ x1 x4 x1.text) else none) else (impl_node_put_2.l0 k1_ x1 x4 []))
def impl_node_cut_2.f : Nat → Tm → Tm → (List Cell) → Option (List Cell)
  | 0, _, _, _ => none
  | k1_ + 1, _, x4, x7 => ((impl_node_put_2.f k1_ x4 x7).bind fun t12 => some t12)
end
theorem impl_node_put_2.all : ∀ (K : Nat), (∀ (k : Nat), k < K → ∀ (w : World) (H : Hp) (x1 : Tm) (g2 : Nat) (x4 : List Cell) (A5 : Option Addr) (c6 : Nat) (F8 : Foot) (h3 : NodeR 125 H x1 (.pointer (some ⟨g2, 0, none⟩))) (h7 : Row st65 65 H (hp w) F8 A5 c6 x4) (S : Own [F8] H w) (r : List Cell) (M : impl_node_put_2.f k x1 x4 = some r), Calls Try.prog 112 #[.pointer (some ⟨g2, 0, none⟩), .slice A5 x4.length c6] w (fun e e_w => ∃ (A_1 : Option Addr) (c_1 : Nat) (F_1 : Foot) (H_ : Hp), e = .returned (.slice A_1 r.length c_1) ∧ Row st65 65 H_ (hp e_w) F_1 A_1 c_1 r ∧ St (anyOf [F8]) H w [F_1] H_ e_w)) ∧ (∀ (k : Nat), k < K → ∀ (w : World) (H : Hp) (x1 : Tm) (g2 : Nat) (x4 : Tm) (g5 : Nat) (x7 : List Cell) (A8 : Option Addr) (c9 : Nat) (F11 : Foot) (h3 : NodeR 125 H x1 (.pointer (some ⟨g2, 0, none⟩))) (h6 : NodeR 125 H x4 (.pointer (some ⟨g5, 0, none⟩))) (h10 : Row st65 65 H (hp w) F11 A8 c9 x7) (S : Own [F11] H w) (r : List Cell) (M : impl_node_cut_2.f k x1 x4 x7 = some r), Calls Try.prog 128 #[.pointer (some ⟨g2, 0, none⟩), .pointer (some ⟨g5, 0, none⟩), .slice A8 x7.length c9] w (fun e e_w => ∃ (A_1 : Option Addr) (c_1 : Nat) (F_1 : Foot) (H_ : Hp), e = .returned (.slice A_1 r.length c_1) ∧ Row st65 65 H_ (hp e_w) F_1 A_1 c_1 r ∧ St (anyOf [F11]) H w [F_1] H_ e_w)) := by
  intro K
  induction K with
  | zero => exact ⟨fun k hk => by omega, fun k hk => by omega⟩
  | succ K ih =>
    refine ⟨?_, ?_⟩
    · intro k hk w H x1 g2 x4 A5 c6 F8 h3 h7 S r M
      rcases k with _ | k1_
      · rw [impl_node_put_2.f] at M
        cases M
      rw [impl_node_put_2.f] at M
      refine enter (l := [.pointer (some ⟨g2, 0, none⟩), .slice A5 x4.length c6]) 47 Try.func112 rfl rfl rfl ?_
      have S0_ := S.st
      refine wp_seq ?_
      refine wp_region_lit ?_
      refine lv (d := 4) rfl rfl (by kernel_rfl) (e_assign (v := .slice none 0 0) rfl) ?_
      refine wpList_nil ?_
      refine then_n ?_
      refine wp_seq ?_
      refine region_mix (S := (fun (L_ : Array Bool) (w_ : World) => Ext H (hp w_) ∧ True)) (by kernel_rfl) S0_ ?_
      intro w9 S10 K11 hc12
      have hs13 : (fun (L_ : Array Bool) (w_ : World) => Ext H (hp w_) ∧ True) (Array.replicate 11 false) w9 := ⟨S10.inv, trivial⟩
      replace h7 := h7.move (K11.at 0 rfl)
      refine xv (i := 0) (d := 8) rfl rfl rfl (by kernel_rfl) (by kernel_rfl) (fun _ _ => Iff.rfl) hc12 hs13 (fun L_ w_ hc_ hu_ hs_ => e_move (v := .pointer (some ⟨g2, 0, none⟩)) (by kernel_rfl)) ?_; intro hc14 hs15
      refine xv (i := 1) (d := 9) rfl rfl rfl (by kernel_rfl) (by kernel_rfl) (fun _ _ => Iff.rfl) hc14 hs15 (fun L_ w_ hc_ hu_ hs_ => e_nilCheck (ad := ⟨g2, 0, none⟩) (by kernel_rfl)) ?_; intro hc16 hs17
      refine xv (i := 2) (d := 10) rfl rfl rfl (by kernel_rfl) (by kernel_rfl) (fun _ _ => Iff.rfl) hc16 hs17 (fun L_ w_ hc_ hu_ hs_ => e_fieldAddr (b := g2) (off := 0) (o := 0) Try.underlying125 rfl rfl (sz := 1) (by kernel_rfl) (by decide) (by kernel_rfl)) ?_; intro hc18 hs19
      obtain ⟨A20, c21, y22, q23, h24, h25, l26, h27⟩ := node_open h3
      refine xv (i := 3) (d := 11) rfl rfl rfl (by kernel_rfl) (by kernel_rfl) (fun _ _ => Iff.rfl) hc18 hs19 (fun L_ w_ hc_ hu_ hs_ => e_load1 (ad := ⟨g2, 0 + 0, none⟩) (v := .int .i64 x1.kind) Try.underlying3 rfl (by kernel_rfl) (blk_cells (hs_.1 _ _ h24) h25 0 _ rfl)) ?_; intro hc28 hs29
      refine xv (i := 4) (d := 12) rfl rfl rfl (by kernel_rfl) (by kernel_rfl) (fun _ _ => Iff.rfl) hc28 hs29 (fun L_ w_ hc_ hu_ hs_ => e_move (v := .pointer (some ⟨g2, 0, none⟩)) (by kernel_rfl)) ?_; intro hc30 hs31
      refine xv (i := 5) (d := 13) rfl rfl rfl (by kernel_rfl) (by kernel_rfl) (fun _ _ => Iff.rfl) hc30 hs31 (fun L_ w_ hc_ hu_ hs_ => e_nilCheck (ad := ⟨g2, 0, none⟩) (by kernel_rfl)) ?_; intro hc32 hs33
      refine xv (i := 6) (d := 14) rfl rfl rfl (by kernel_rfl) (by kernel_rfl) (fun _ _ => Iff.rfl) hc32 hs33 (fun L_ w_ hc_ hu_ hs_ => e_fieldAddr (b := g2) (off := 0) (o := 1) Try.underlying125 rfl rfl (sz := 1) (by kernel_rfl) (by decide) (by kernel_rfl)) ?_; intro hc34 hs35
      refine xv (i := 7) (d := 15) rfl rfl rfl (by kernel_rfl) (by kernel_rfl) (fun _ _ => Iff.rfl) hc34 hs35 (fun L_ w_ hc_ hu_ hs_ => e_load1 (ad := ⟨g2, 0 + 1, none⟩) (v := .int .i64 x1.n) Try.underlying3 rfl (by kernel_rfl) (blk_cells (hs_.1 _ _ h24) h25 1 _ rfl)) ?_; intro hc36 hs37
      refine xv (i := 8) (d := 16) rfl rfl rfl (by kernel_rfl) (by kernel_rfl) (fun _ _ => Iff.rfl) hc36 hs37 (fun L_ w_ hc_ hu_ hs_ => (show _ = Result.ok (Next.value (.agg #[.int .i64 x1.kind, .int .i64 x1.n, .slice none 0 0])) w_ from by kernel_rfl)) ?_; intro hc38 hs39
      refine xone (i := 9) (by kernel_rfl) hc38 ?_
      refine ye (i := 9) (d := 5) rfl rfl (wanted_none rfl _) (by kernel_rfl) (by kernel_rfl) (new_blk (v := fun g_ => .pointer (some ⟨g_, 0, none⟩)) (cs := #[.int .i64 0, .int .i64 0, .slice none 0 0]) (t := 65) S10 (by kernel_rfl)) ?_
      rintro hc45 _ w40 ⟨g41, rfl, b42, S43, K44⟩
      replace h7 := h7.move (K44.at 0 rfl)
      refine ⟨⟨S43.inv, trivial⟩, fun hs46 => ?_⟩
      refine xone (i := 10) (by kernel_rfl) hc45 ?_
      refine ys (i := 10) rfl rfl (wanted_none rfl _) (by kernel_rfl) (by kernel_rfl) (e_store (g := g41) (o := 0) (v := .agg #[.int .i64 x1.kind, .int .i64 x1.n, .slice none 0 0]) (cur' := #[.int .i64 x1.kind, .int .i64 x1.n, .slice none 0 0]) (vs := [.int .i64 x1.kind, .int .i64 x1.n, .slice none 0 0]) S43 (by kernel_rfl) (by kernel_rfl) rfl (by kernel_rfl) b42 (Nat.le_of_ble_eq_true rfl) (List.forall_mem_cons.2 ⟨rfl, (List.forall_mem_cons.2 ⟨rfl, (List.forall_mem_cons.2 ⟨rfl, (fun _ h_ => by cases h_)⟩)⟩)⟩) rfl) ?_
      rintro hc51 w47 ⟨b48, S49, K50⟩
      replace h7 := h7.move (K50.at 0 rfl)
      refine ⟨⟨S49.inv, trivial⟩, fun hs52 => ?_⟩
      clear b42
      refine xn (by kernel_rfl) ?_ _
      refine then_n ?_
      refine wp_seq_cut (fun a65 w53 => ∃ (k67 : Nat), k67 ≤ k1_ ∧ ∃ (f54 : Nat → Value) (x55 : List UInt8) (A56 : Option Addr) (c57 : Nat) (F58 : Foot), k67 < K ∧ a65 = mk 47 f54 ∧ f54 0 = .pointer (some ⟨g2, 0, none⟩) ∧ f54 1 = .slice A5 x4.length c6 ∧ f54 5 = .pointer (some ⟨g41, 0, none⟩) ∧ w53.heap[g41]? = some (.cells #[.int .i64 x1.kind, .int .i64 x1.n, .slice A56 x55.length c57] 65 (0, 0)) ∧ Row st65 65 H (hp w53) F8 A5 c6 x4 ∧ Row tByte 5 H (hp w53) F58 A56 c57 x55 ∧ St (anyOf [F8]) H w [(is g41), F8, F58] H w53 ∧ impl_node_put_2.l0 k67 x1 x4 x55 = some r) ?_ ?_
      · refine wp_seq ?_
        refine wp_region_lit ?_
        refine lv (d := 17) rfl rfl (by kernel_rfl) (e_move (v := .pointer (some ⟨g2, 0, none⟩)) (by kernel_rfl)) ?_
        refine lv (d := 18) rfl rfl (by kernel_rfl) (e_nilCheck (ad := ⟨g2, 0, none⟩) (by kernel_rfl)) ?_
        refine lv (d := 19) rfl rfl (by kernel_rfl) (e_fieldAddr (b := g2) (off := 0) (o := 0) Try.underlying125 rfl rfl (sz := 1) (by kernel_rfl) (by decide) (by kernel_rfl)) ?_
        refine lv (d := 20) rfl rfl (by kernel_rfl) (e_load1 (ad := ⟨g2, 0 + 0, none⟩) (v := .int .i64 x1.kind) Try.underlying3 rfl (by kernel_rfl) (blk_cells (S49.inv _ _ h24) h25 0 _ rfl)) ?_
        refine lv (d := 21) rfl rfl (by kernel_rfl) (e_geq (k := .i64) (a := x1.kind) (b := 2) (by kernel_rfl) rfl) ?_
        refine wpList_nil ?_
        refine then_n ?_
        by_cases q68 : x1.kind ≥ 2
        · replace M := ifp q68 M
          refine cond_t rfl (bt q68 (by kernel_rfl)) ?_
          refine wp_region_lit ?_
          refine lv (d := 22) rfl rfl (by kernel_rfl) (e_move (v := .pointer (some ⟨g2, 0, none⟩)) (by kernel_rfl)) ?_
          refine lv (d := 23) rfl rfl (by kernel_rfl) (e_nilCheck (ad := ⟨g2, 0, none⟩) (by kernel_rfl)) ?_
          refine lv (d := 24) rfl rfl (by kernel_rfl) (e_fieldAddr (b := g2) (off := 0) (o := 2) Try.underlying125 rfl rfl (sz := 1) (by kernel_rfl) (by decide) (by kernel_rfl)) ?_
          refine lv (d := 25) rfl rfl (by kernel_rfl) (e_load1 (ad := ⟨g2, 0 + 2, none⟩) (v := str x1.text) Try.underlying9 rfl (by kernel_rfl) (blk_cells (S49.inv _ _ h24) h25 2 _ rfl)) ?_
          obtain ⟨q69, M⟩ := chk M
          refine lve (d := 26) rfl rfl (by kernel_rfl) (e_conv_sb (xs := x1.text) S49 Try.underlying9 Try.underlying59 Try.underlying5 (by kernel_rfl) q69) ?_
          rintro _ w70 ⟨A71, c72, F73, rfl, h74, S75, K76⟩
          replace b48 := K76.blk 0 rfl b48
          replace h7 := h7.move (K76.at 1 rfl)
          refine lv (d := 27) rfl rfl (by kernel_rfl) (e_fieldAddr (b := g41) (off := 0) (o := 2) Try.underlying65 rfl rfl (sz := 1) (by kernel_rfl) (by decide) (by kernel_rfl)) ?_
          have S77 := S75.pull (F := (is g41)) (Fr := [F73, F8]) 1 rfl rfl
          refine lse rfl rfl (by kernel_rfl) (e_store (g := g41) (o := 0 + 2) (v := .slice A71 x1.text.length c72) (cur' := #[.int .i64 x1.kind, .int .i64 x1.n, .slice A71 x1.text.length c72]) (vs := [.slice A71 x1.text.length c72]) S77 (by kernel_rfl) (by kernel_rfl) rfl (by kernel_rfl) b48 (Nat.le_of_ble_eq_true rfl) (List.forall_mem_cons.2 ⟨rfl, (fun _ h_ => by cases h_)⟩) rfl) ?_
          rintro w78 ⟨b79, S80, K81⟩
          replace h74 := h74.move (K81.at 0 rfl)
          replace h7 := h7.move (K81.at 1 rfl)
          clear b48
          refine wpList_nil ?_
          refine then_n ?_
          have S82 := S80.pull (F := F73) (Fr := [(is g41), F8]) 1 rfl rfl
          have S83 := S82.pull (F := F8) (Fr := [F73, (is g41)]) 2 rfl rfl
          have S84 := S83.pull (F := (is g41)) (Fr := [F8, F73]) 2 rfl rfl
          exact ⟨k1_, (by omega), _, x1.text, A71, c72, F73, (by omega), rfl, (by kernel_rfl), (by kernel_rfl), (by kernel_rfl), b79, h7, h74, S84, M⟩
        replace M := ifn q68 M
        refine cond_f rfl (bf q68 (by kernel_rfl)) ?_
        refine wp_skip ?_
        refine then_n ?_
        have S85 := S49.unit
        have S86 := S85.pull (F := F8) (Fr := [no, (is g41)]) 2 rfl rfl
        have S87 := S86.pull (F := (is g41)) (Fr := [F8, no]) 2 rfl rfl
        exact ⟨k1_, (by omega), _, [], none, 0, no, (by omega), rfl, (by kernel_rfl), (by kernel_rfl), (by kernel_rfl), b48, h7, (Row.nil _ _ _ _ _), S87, M⟩
      clear M
      rintro a65 w53 ⟨k67, z147, f54, x55, A56, c57, F58, z64, rfl, e60, e61, e62, b48, h7, h59, S63, M⟩
      rcases k67 with _ | k66
      · rw [impl_node_put_2.l0] at M
        cases M
      rw [impl_node_put_2.l0] at M
      refine wp_seq ?_
      refine wp_region_lit ?_
      refine lv (d := 28) rfl rfl (by kernel_rfl) (e_move (v := .slice A5 x4.length c6) (by exact e61)) ?_
      refine lv (d := 29) rfl rfl (by kernel_rfl) (e_loadS (b := g41) (off := 0) (cs := [.int .i64 x1.kind, .int .i64 x1.n, .slice A56 x55.length c57]) Try.underlying65 rfl (by kernel_rfl) (by exact e62) (blk_cells b48 rfl)) ?_
      refine lve (d := 30) rfl rfl (by kernel_rfl) (new_blk (v := fun g_ => .slice (some ⟨g_, 0, none⟩) 1 1) (cs := #[.int .i64 x1.kind, .int .i64 x1.n, .slice A56 x55.length c57]) (t := 65) S63 (by kernel_rfl)) ?_
      rintro _ w88 ⟨g89, rfl, b90, S91, K92⟩
      replace b48 := K92.blk 0 rfl b48
      replace h7 := h7.move (K92.at 1 rfl)
      replace h59 := h59.move (K92.at 2 rfl)
      obtain ⟨q93, M⟩ := chk M
      have S94 := S91.pull (F := F58) (Fr := [(is g89), (is g41), F8]) 3 rfl rfl
      have S95 := S94.pull (F := F8) (Fr := [F58, (is g89), (is g41)]) 3 rfl rfl
      refine lve (d := 31) rfl rfl (by kernel_rfl) (e_append (d := st65) (n := x4.length) (xs := x4) (cap := c6) (A := A5) (ys := [(⟨x1.kind, x1.n, x55⟩ : Cell)]) (A2 := (some ⟨g89, 0, none⟩)) (c2 := 1) (z := .agg #[.int .i64 0, .int .i64 0, .slice none 0 0]) (bytes := 40) S95 Try.underlying25 (by kernel_rfl) rfl (by decide) (by kernel_rfl) rfl (by kernel_rfl) h7 (elsO_one1 (st65_mkO (x := (⟨x1.kind, x1.n, x55⟩ : Cell)) h59)) (.inr (blk_news b90 rfl)) (show (x4.length + [(⟨x1.kind, x1.n, x55⟩ : Cell)].length) * 40 ≤ _ by first | omega | (simp only [List.length_cons, List.length_nil]; omega)) (by decide)) ?_
      rintro _ w96 ⟨A97, c98, F99, rfl, h100, S101, K102⟩
      replace b90 := K102.blk 0 rfl b90
      replace b48 := K102.blk 1 rfl b48
      refine lv (d := 1) rfl rfl (by kernel_rfl) (e_assign (v := .slice A97 ((x4 ++ [(⟨x1.kind, x1.n, x55⟩ : Cell)]).length) c98) (by kernel_rfl)) ?_
      refine wpList_nil ?_
      refine then_n ?_
      refine wp_seq ?_
      refine wp_seq ?_
      refine wp_region_lit ?_
      refine lv (d := 32) rfl rfl (by kernel_rfl) (e_move (v := .pointer (some ⟨g2, 0, none⟩)) (by exact e60)) ?_
      refine lv (d := 33) rfl rfl (by kernel_rfl) (e_nilCheck (ad := ⟨g2, 0, none⟩) (by kernel_rfl)) ?_
      refine lv (d := 34) rfl rfl (by kernel_rfl) (e_fieldAddr (b := g2) (off := 0) (o := 3) Try.underlying125 rfl rfl (sz := 1) (by kernel_rfl) (by decide) (by kernel_rfl)) ?_
      refine lv (d := 35) rfl rfl (by kernel_rfl) (e_load1 (ad := ⟨g2, 0 + 3, none⟩) (v := .slice A20 x1.args.length c21) Try.underlying87 rfl (by kernel_rfl) (blk_cells (S101.inv _ _ h24) h25 3 _ rfl)) ?_
      refine lv (d := 36) rfl rfl (by kernel_rfl) (e_len (A := A20) (n := x1.args.length) (c := c21) Try.underlying87 (by kernel_rfl)) ?_
      refine lv (d := 37) rfl rfl (by kernel_rfl) (e_move (v := .int .i64 0) rfl) ?_
      refine wpList_nil ?_
      refine then_n ?_
      refine wp_block ?_
      have S123 := St.first (Fa := [F99]) (Fr := [(is g89), (is g41)]) S101
      refine wp_loop_g (fun k120 a121 w103 => ∃ (f104 : Nat → Value) (H105 : Hp) (x107 : List Cell) (A108 : Option Addr) (c109 : Nat) (F110 : Foot) (x112 : Int), k120 < K ∧ a121 = mk 47 f104 ∧ f104 0 = .pointer (some ⟨g2, 0, none⟩) ∧ f104 1 = .slice A108 x107.length c109 ∧ f104 35 = .slice A20 x1.args.length c21 ∧ f104 36 = .int .i64 (x1.args.length : Int) ∧ f104 37 = .int .i64 x112 ∧ Row st65 65 H105 (hp w103) F110 A108 c109 x107 ∧ Ext H H105 ∧ St (anyOf [F8]) H w [F110] H105 w103 ∧ impl_node_put_2.l1 k120 x1 x107 x112 = some r) k66 ⟨_, H, (x4 ++ [(⟨x1.kind, x1.n, x55⟩ : Cell)]), A97, c98, F99, 0, (by omega), rfl, (by exact e60), (by kernel_rfl), (by kernel_rfl), (by kernel_rfl), (by kernel_rfl), h100, (Ext.refl _), S123, M⟩ ?_
      clear M
      rintro k120 a121 w103 ⟨f104, H105, x107, A108, c109, F110, x112, z119, rfl, e113, e114, e115, e116, e117, h111, Y106, S118, M⟩
      rcases k120 with _ | k122
      · rw [impl_node_put_2.l1] at M
        cases M
      rw [impl_node_put_2.l1] at M
      refine wp_seq ?_
      refine wp_region_lit ?_
      refine lv (d := 38) rfl rfl (by kernel_rfl) (e_lss (k := .i64) (a := x112) (b := (x1.args.length : Int)) (by exact e117) (by exact e116)) ?_
      refine wpList_nil ?_
      refine then_n ?_
      refine wp_seq ?_
      by_cases q124 : x112 < (x1.args.length : Int)
      · replace M := ifp q124 M
        refine cond_t rfl (bt q124 (by kernel_rfl)) ?_
        refine wp_skip ?_
        refine then_n ?_
        refine wp_seq ?_
        refine wp_block ?_
        refine wp_seq ?_
        refine wp_region_lit ?_
        obtain ⟨q125, M⟩ := chk M
        obtain ⟨b126, o127, e128⟩ := Rd.addr h27 (show (x112).toNat < x1.args.length by omega)
        obtain ⟨y129, r130, k131⟩ := Rd.at h27 e128 (getD_some (Tm.mk 0 0 [] []) (show (x112).toNat < x1.args.length by omega))
        obtain ⟨v132, rfl, h133⟩ := r130
        obtain ⟨g134, rfl⟩ := node_ptr h133
        refine lv (d := 39) rfl rfl (by kernel_rfl) (e_indexAddr (b := b126) (off := o127) (n := x1.args.length) (c := c21) (sz := 1) (i := x112) (k := .i64) Try.underlying87 e128 (by kernel_rfl) (by exact e115) (by exact e117) q125 q124) ?_
        refine lv (d := 40) rfl rfl (by kernel_rfl) (e_load1 (ad := ⟨b126, o127 + (x112 : Int).toNat * 1, none⟩) (v := .pointer (some ⟨g134, 0, none⟩)) Try.underlying74 rfl (by kernel_rfl) (hpx (S118.inv.cell (Y106.cell (k131 0 _ rfl))))) ?_
        refine lv (d := 7) rfl rfl (by kernel_rfl) (e_assign (v := .pointer (some ⟨g134, 0, none⟩)) (by kernel_rfl)) ?_
        refine wpList_nil ?_
        refine then_n ?_
        refine wp_region_lit ?_
        refine lv (d := 41) rfl rfl (by kernel_rfl) (e_move (v := .pointer (some ⟨g2, 0, none⟩)) (by exact e113)) ?_
        refine lv (d := 42) rfl rfl (by kernel_rfl) (e_move (v := .pointer (some ⟨g134, 0, none⟩)) (by kernel_rfl)) ?_
        refine lv (d := 43) rfl rfl (by kernel_rfl) (e_move (v := .slice A108 x107.length c109) (by exact e114)) ?_
        obtain ⟨t135, u136, M⟩ := bnd M
        refine lcall (d := 44) rfl rfl (by kernel_rfl) (e_call (l := [.tmp 41, .tmp 42, .tmp 43]) (vs := [.pointer (some ⟨g2, 0, none⟩), .pointer (some ⟨g134, 0, none⟩), .slice A108 x107.length c109]) Try.func128 (by kernel_rfl) rfl (by kernel_rfl) rfl) (ih.2 k122 (by omega) w103 H105 x1 g2 (x1.args.getD ((x112).toNat) (Tm.mk 0 0 [] [])) g134 x107 A108 c109 F110 (h3.ext' Y106) (h133.ext' Y106) h111 (St.own' (Fa := [F110]) (Fr := []) S118) t135 u136) ?_
        rintro _ w137 ⟨A140, c141, F143, H138, rfl, h142, T139⟩
        refine ⟨_, rfl, ?_⟩
        obtain ⟨S144, K145⟩ := St.call (Fa := [F110]) (Fr := []) S118 T139
        have E146 := T139.ext
        refine lv (d := 1) rfl rfl (by kernel_rfl) (e_assign (v := .slice A140 t135.length c141) (by kernel_rfl)) ?_
        refine wpList_nil ?_
        refine inb_n ?_
        refine then_n ?_
        refine wp_region_lit ?_
        refine lv (d := 45) rfl rfl (by kernel_rfl) (e_add (k := .i64) (a := x112) (b := 1) (by exact e117) rfl) ?_
        refine lv (d := 37) rfl rfl (by kernel_rfl) (e_move (v := .int .i64 (IntKind.i64.wrap (x112 + 1))) (by kernel_rfl)) ?_
        refine wpList_nil ?_
        refine then_n ?_
        exact ⟨k122, (by omega), _, H138, t135, A140, c141, F143, (IntKind.i64.wrap (x112 + 1)), (by omega), rfl, (by exact e113), (by kernel_rfl), (by exact e115), (by exact e116), (by kernel_rfl), h142, (Y106.trans E146), S144, M⟩
      replace M := ifn q124 M
      refine cond_f rfl (bf q124 (by kernel_rfl)) ?_
      refine wp_exit ?_
      refine then_e ?_
      refine then_e ?_
      refine inb_hit ?_
      refine then_n ?_
      refine wp_seq ?_
      refine wp_region_lit ?_
      refine lv (d := 46) rfl rfl (by kernel_rfl) (e_move (v := .slice A108 x107.length c109) (by exact e114)) ?_
      refine lv (d := 4) rfl rfl (by kernel_rfl) (e_assign (v := .slice A108 x107.length c109) (by kernel_rfl)) ?_
      refine wpList_nil ?_
      refine then_n ?_
      refine wp_ret ?_
      obtain rfl := Option.some.inj M
      exact ret1 rfl rfl  (show _ = .slice A108 x107.length c109 from (by kernel_rfl)) ⟨A108, c109, F110, H105, rfl, h111, S118⟩
    · intro k hk w H x1 g2 x4 g5 x7 A8 c9 F11 h3 h6 h10 S r M
      rcases k with _ | k1_
      · rw [impl_node_cut_2.f] at M
        cases M
      rw [impl_node_cut_2.f] at M
      refine enter (l := [.pointer (some ⟨g2, 0, none⟩), .pointer (some ⟨g5, 0, none⟩), .slice A8 x7.length c9]) 10 Try.func128 rfl rfl rfl ?_
      have S0_ := S.st
      refine wp_seq ?_
      refine wp_region_lit ?_
      refine lv (d := 6) rfl rfl (by kernel_rfl) (e_assign (v := .slice none 0 0) rfl) ?_
      refine wpList_nil ?_
      refine then_n ?_
      refine wp_seq ?_
      refine wp_region_lit ?_
      refine lv (d := 7) rfl rfl (by kernel_rfl) (e_move (v := .pointer (some ⟨g5, 0, none⟩)) (by kernel_rfl)) ?_
      refine lv (d := 8) rfl rfl (by kernel_rfl) (e_move (v := .slice A8 x7.length c9) (by kernel_rfl)) ?_
      obtain ⟨t12, u13, M⟩ := bnd M
      refine lcall (d := 9) rfl rfl (by kernel_rfl) (e_call (l := [.tmp 7, .tmp 8]) (vs := [.pointer (some ⟨g5, 0, none⟩), .slice A8 x7.length c9]) Try.func112 (by kernel_rfl) rfl (by kernel_rfl) rfl) (ih.1 k1_ (by omega) w H x4 g5 x7 A8 c9 F11 h6 h10 (St.own' (Fa := [F11]) (Fr := []) S0_) t12 u13) ?_
      rintro _ w14 ⟨A17, c18, F20, H15, rfl, h19, T16⟩
      refine ⟨_, rfl, ?_⟩
      obtain ⟨S21, K22⟩ := St.call (Fa := [F11]) (Fr := []) S0_ T16
      have E23 := T16.ext
      refine lv (d := 6) rfl rfl (by kernel_rfl) (e_assign (v := .slice A17 t12.length c18) (by kernel_rfl)) ?_
      refine wpList_nil ?_
      refine then_n ?_
      refine wp_ret ?_
      obtain rfl := Option.some.inj M
      exact ret1 rfl rfl  (show _ = .slice A17 t12.length c18 from (by kernel_rfl)) ⟨A17, c18, F20, H15, rfl, h19, S21⟩
theorem impl_node_put_2.calls (k : Nat) (w : World) (H : Hp) (x1 : Tm) (g2 : Nat) (x4 : List Cell) (A5 : Option Addr) (c6 : Nat) (F8 : Foot) (h3 : NodeR 125 H x1 (.pointer (some ⟨g2, 0, none⟩))) (h7 : Row st65 65 H (hp w) F8 A5 c6 x4) (S : Own [F8] H w) (r : List Cell) (M : impl_node_put_2.f k x1 x4 = some r) :
    Calls Try.prog 112 #[.pointer (some ⟨g2, 0, none⟩), .slice A5 x4.length c6] w (fun e e_w => ∃ (A_1 : Option Addr) (c_1 : Nat) (F_1 : Foot) (H_ : Hp), e = .returned (.slice A_1 r.length c_1) ∧ Row st65 65 H_ (hp e_w) F_1 A_1 c_1 r ∧ St (anyOf [F8]) H w [F_1] H_ e_w) := (impl_node_put_2.all (k + 1)).1 k (Nat.lt_succ_self k) w H x1 g2 x4 A5 c6 F8 h3 h7 S r M
theorem impl_node_cut_2.calls (k : Nat) (w : World) (H : Hp) (x1 : Tm) (g2 : Nat) (x4 : Tm) (g5 : Nat) (x7 : List Cell) (A8 : Option Addr) (c9 : Nat) (F11 : Foot) (h3 : NodeR 125 H x1 (.pointer (some ⟨g2, 0, none⟩))) (h6 : NodeR 125 H x4 (.pointer (some ⟨g5, 0, none⟩))) (h10 : Row st65 65 H (hp w) F11 A8 c9 x7) (S : Own [F11] H w) (r : List Cell) (M : impl_node_cut_2.f k x1 x4 x7 = some r) :
    Calls Try.prog 128 #[.pointer (some ⟨g2, 0, none⟩), .pointer (some ⟨g5, 0, none⟩), .slice A8 x7.length c9] w (fun e e_w => ∃ (A_1 : Option Addr) (c_1 : Nat) (F_1 : Foot) (H_ : Hp), e = .returned (.slice A_1 r.length c_1) ∧ Row st65 65 H_ (hp e_w) F_1 A_1 c_1 r ∧ St (anyOf [F11]) H w [F_1] H_ e_w) := (impl_node_put_2.all (k + 1)).2 k (Nat.lt_succ_self k) w H x1 g2 x4 g5 x7 A8 c9 F11 h3 h6 h10 S r M

/-! impl_node_cells -/
def impl_node_cells.f (k : Nat) (x1 : Tm) : Option (List Cell) := ((impl_node_put_2.f k x1 []).bind fun t5 => some t5)
theorem impl_node_cells.calls (k : Nat) (w : World) (H : Hp) (x1 : Tm) (g2 : Nat) (h3 : NodeR 125 H x1 (.pointer (some ⟨g2, 0, none⟩))) (S : Own [] H w) (r : List Cell) (M : impl_node_cells.f k x1 = some r) :
    Calls Try.prog 68 #[.pointer (some ⟨g2, 0, none⟩)] w (fun e e_w => ∃ (A_1 : Option Addr) (c_1 : Nat) (F_1 : Foot) (H_ : Hp), e = .returned (.slice A_1 r.length c_1) ∧ Row st65 65 H_ (hp e_w) F_1 A_1 c_1 r ∧ St (anyOf []) H w [F_1] H_ e_w) := by
  rw [impl_node_cells.f] at M
  refine enter (l := [.pointer (some ⟨g2, 0, none⟩)]) 5 Try.func68 rfl rfl rfl ?_
  have S0_ := S.st
  refine wp_seq ?_
  refine wp_region_lit ?_
  refine lv (d := 2) rfl rfl (by kernel_rfl) (e_assign (v := .slice none 0 0) rfl) ?_
  refine wpList_nil ?_
  refine then_n ?_
  refine wp_seq ?_
  refine wp_region_lit ?_
  refine lv (d := 3) rfl rfl (by kernel_rfl) (e_move (v := .pointer (some ⟨g2, 0, none⟩)) (by kernel_rfl)) ?_
  have S4 := S0_.unit
  obtain ⟨t5, u6, M⟩ := bnd M
  refine lcall (d := 4) rfl rfl (by kernel_rfl) (e_call (l := [.tmp 3, .const (.slice none 0 0)]) (vs := [.pointer (some ⟨g2, 0, none⟩), .slice none 0 0]) Try.func112 (by kernel_rfl) rfl (by kernel_rfl) rfl) (impl_node_put_2.calls k w H x1 g2 [] none 0 no h3 (Row.nil _ _ _ _ no) (St.own' (Fa := [no]) (Fr := []) S4) t5 u6) ?_
  rintro _ w7 ⟨A10, c11, F13, H8, rfl, h12, T9⟩
  refine ⟨_, rfl, ?_⟩
  obtain ⟨S14, K15⟩ := St.call (Fa := [no]) (Fr := []) S4 T9
  have E16 := T9.ext
  refine lv (d := 2) rfl rfl (by kernel_rfl) (e_assign (v := .slice A10 t5.length c11) (by kernel_rfl)) ?_
  refine wpList_nil ?_
  refine then_n ?_
  refine wp_ret ?_
  obtain rfl := Option.some.inj M
  exact ret1 rfl rfl  (show _ = .slice A10 t5.length c11 from (by kernel_rfl)) ⟨A10, c11, F13, H8, rfl, h12, S14⟩

/-! impl_MakeList -/
def impl_MakeList.l1 : Nat → (List (List Cell)) → (List Tm) → Int → Option ((List Cell) × Int)
  | 0, _, _, _ => none
  | k62 + 1, x1, x48, x53 => (if x53 < (x1.length : Int) then (if 0 ≤ x53 then ((impl_tree.f k62 (x1.getD ((x53).toNat) ([] : List Cell))).bind fun t76 => (if x48.length + 1 ≤ 17592186044416 then (impl_MakeList.l1 k62 x1 (x48 ++ [t76]) (IntKind.i64.wrap (x53 + 1))) else none)) else none) else ((impl_atom.f ([91, 93] : List UInt8)).bind fun t103 => ((impl_listOf.f k62 x48 t103).bind fun t119 => ((impl_node_cells.f k62 t119).bind fun t129 => some (t129, 0)))))
def impl_MakeList.l0 : Nat → (List (List Cell)) → Int → Int → Option ((List Cell) × Int)
  | 0, _, _, _ => none
  | k29 + 1, x1, x18, x19 => (if x19 < (x1.length : Int) then (if 0 ≤ x19 then (impl_MakeList.l0 k29 x1 (IntKind.i64.wrap (x18 + (IntKind.i64.wrap (1 + ((x1.getD ((x19).toNat) ([] : List Cell)).length : Int))))) (IntKind.i64.wrap (x19 + 1))) else none) else (if x18 > 2000 then some ([], 3) else (impl_MakeList.l1 k29 x1 [] 0)))
def impl_MakeList.f (k : Nat) (x1 : List (List Cell)) : Option ((List Cell) × Int) := ((impl_allValid.f k x1).bind fun t6 => (if ¬ (t6 = true) then some ([], 1) else (if (x1.length : Int) > 2000 then some ([], 1) else (impl_MakeList.l0 k x1 1 0))))
theorem impl_MakeList.calls (k : Nat) (w : World) (H : Hp) (x1 : List (List Cell)) (A2 : Option Addr) (c3 : Nat) (h4 : Rd sl65 H A2 x1) (l5 : x1.length ≤ c3) (S : Own [] H w) (r : (List Cell) × Int) (M : impl_MakeList.f k x1 = some r) :
    Calls Try.prog 42 #[.slice A2 x1.length c3] w (fun e e_w => ∃ (A_1 : Option Addr) (c_1 : Nat) (F_1 : Foot) (H_ : Hp), e = .returned (.tuple #[.slice A_1 r.1.length c_1, .int .i64 r.2]) ∧ Row st65 65 H_ (hp e_w) F_1 A_1 c_1 r.1 ∧ St (anyOf []) H w [F_1] H_ e_w) := by
  rw [impl_MakeList.f] at M
  refine enter (l := [.slice A2 x1.length c3]) 48 Try.func42 rfl rfl rfl ?_
  have S0_ := S.st
  refine wp_seq ?_
  refine wp_region_lit ?_
  refine lv (d := 2) rfl rfl (by kernel_rfl) (e_assign (v := .slice none 0 0) rfl) ?_
  refine lv (d := 3) rfl rfl (by kernel_rfl) (e_assign (v := .int .i64 0) rfl) ?_
  refine wpList_nil ?_
  refine then_n ?_
  refine wp_seq ?_
  refine wp_seq ?_
  refine wp_region_lit ?_
  refine lv (d := 10) rfl rfl (by kernel_rfl) (e_move (v := .slice A2 x1.length c3) (by kernel_rfl)) ?_
  obtain ⟨t6, u7, M⟩ := bnd M
  refine lcall (d := 11) rfl rfl (by kernel_rfl) (e_call (l := [.tmp 10]) (vs := [.slice A2 x1.length c3]) Try.func80 (by kernel_rfl) rfl (by kernel_rfl) rfl) (impl_allValid.calls k w H x1 A2 c3 h4 l5 S0_.own0 t6 u7) ?_
  rintro _ w8 ⟨rfl, C9⟩
  refine ⟨_, rfl, ?_⟩
  obtain ⟨S10, K11⟩ := S0_.still C9
  refine lv (d := 12) rfl rfl (by kernel_rfl) (e_notv (c := t6) (by kernel_rfl)) ?_
  refine lv (d := 13) rfl rfl (by kernel_rfl) (e_move (v := .bool (decide (¬ (t6 = true)))) (by kernel_rfl)) ?_
  by_cases q12 : ¬ (t6 = true)
  · replace M := ifp q12 M
    refine lskip (t := 13) (c := true) rfl (by kernel_rfl) rfl (bt q12 (by kernel_rfl)) rfl rfl ?_
    refine lskip (t := 13) (c := true) rfl (by kernel_rfl) rfl (bt q12 (by kernel_rfl)) rfl rfl ?_
    refine lskip (t := 13) (c := true) rfl (by kernel_rfl) rfl (bt q12 (by kernel_rfl)) rfl rfl ?_
    refine lv (d := 17) rfl rfl (by kernel_rfl) (e_pick_t (v := .bool true) (bt q12 (by kernel_rfl)) rfl) ?_
    refine wpList_nil ?_
    refine then_n ?_
    refine cond_t rfl (by kernel_rfl) ?_
    refine wp_seq ?_
    refine wp_region_lit ?_
    refine lv (d := 2) rfl rfl (by kernel_rfl) (e_assign (v := .slice none 0 0) rfl) ?_
    refine lv (d := 3) rfl rfl (by kernel_rfl) (e_assign (v := .int .i64 1) rfl) ?_
    refine wpList_nil ?_
    refine then_n ?_
    refine wp_ret ?_
    refine then_r ?_
    obtain rfl := Option.some.inj M
    have S13 := S10.unit
    exact ret2 rfl rfl rfl (show _ = .slice none 0 0 from (by kernel_rfl)) (show _ = .int .i64 1 from (by kernel_rfl)) ⟨none, 0, no, H, rfl, (Row.nil _ _ _ _ no), S13⟩
  replace M := ifn q12 M
  refine lvg (d := 14) (t := 13) rfl (by kernel_rfl) rfl (bf q12 (by kernel_rfl)) rfl (by kernel_rfl) (e_move (v := .slice A2 x1.length c3) (by kernel_rfl)) ?_
  refine lvg (d := 15) (t := 13) rfl (by kernel_rfl) rfl (bf q12 (by kernel_rfl)) rfl (by kernel_rfl) (e_len (A := A2) (n := x1.length) (c := c3) Try.underlying38 (by kernel_rfl)) ?_
  refine lvg (d := 16) (t := 13) rfl (by kernel_rfl) rfl (bf q12 (by kernel_rfl)) rfl (by kernel_rfl) (e_gtr (k := .i64) (a := (x1.length : Int)) (b := 2000) (by kernel_rfl) rfl) ?_
  refine lv (d := 17) rfl rfl (by kernel_rfl) (e_pick_f (v := .bool (decide ((x1.length : Int) > 2000))) (bf q12 (by kernel_rfl)) (by kernel_rfl)) ?_
  refine wpList_nil ?_
  refine then_n ?_
  by_cases q14 : (x1.length : Int) > 2000
  · replace M := ifp q14 M
    refine cond_t rfl (bt q14 (by kernel_rfl)) ?_
    refine wp_seq ?_
    refine wp_region_lit ?_
    refine lv (d := 2) rfl rfl (by kernel_rfl) (e_assign (v := .slice none 0 0) rfl) ?_
    refine lv (d := 3) rfl rfl (by kernel_rfl) (e_assign (v := .int .i64 1) rfl) ?_
    refine wpList_nil ?_
    refine then_n ?_
    refine wp_ret ?_
    refine then_r ?_
    obtain rfl := Option.some.inj M
    have S15 := S10.unit
    exact ret2 rfl rfl rfl (show _ = .slice none 0 0 from (by kernel_rfl)) (show _ = .int .i64 1 from (by kernel_rfl)) ⟨none, 0, no, H, rfl, (Row.nil _ _ _ _ no), S15⟩
  replace M := ifn q14 M
  refine cond_f rfl (bf q14 (by kernel_rfl)) ?_
  refine wp_skip ?_
  refine then_n ?_
  refine wp_seq ?_
  refine wp_region_lit ?_
  refine lv (d := 4) rfl rfl (by kernel_rfl) (e_assign (v := .int .i64 1) rfl) ?_
  refine wpList_nil ?_
  refine then_n ?_
  refine wp_seq ?_
  refine wp_seq ?_
  refine wp_region_lit ?_
  refine lv (d := 18) rfl rfl (by kernel_rfl) (e_move (v := .slice A2 x1.length c3) (by kernel_rfl)) ?_
  refine lv (d := 19) rfl rfl (by kernel_rfl) (e_len (A := A2) (n := x1.length) (c := c3) Try.underlying38 (by kernel_rfl)) ?_
  refine lv (d := 20) rfl rfl (by kernel_rfl) (e_move (v := .int .i64 0) rfl) ?_
  refine wpList_nil ?_
  refine then_n ?_
  refine wp_block ?_
  refine wp_loop_g (fun k27 a28 w16 => ∃ (f17 : Nat → Value) (x18 : Int) (x19 : Int), a28 = mk 48 f17 ∧ f17 0 = .slice A2 x1.length c3 ∧ f17 4 = .int .i64 x18 ∧ f17 18 = .slice A2 x1.length c3 ∧ f17 19 = .int .i64 (x1.length : Int) ∧ f17 20 = .int .i64 x19 ∧ St (anyOf []) H w [] H w16 ∧ impl_MakeList.l0 k27 x1 x18 x19 = some r) k ⟨_, 1, 0, rfl, (by kernel_rfl), (by kernel_rfl), (by kernel_rfl), (by kernel_rfl), (by kernel_rfl), S10, M⟩ ?_
  clear M
  rintro k27 a28 w16 ⟨f17, x18, x19, rfl, e20, e21, e22, e23, e24, S25, M⟩
  rcases k27 with _ | k29
  · rw [impl_MakeList.l0] at M
    cases M
  rw [impl_MakeList.l0] at M
  refine wp_seq ?_
  refine wp_region_lit ?_
  refine lv (d := 21) rfl rfl (by kernel_rfl) (e_lss (k := .i64) (a := x19) (b := (x1.length : Int)) (by exact e24) (by exact e23)) ?_
  refine wpList_nil ?_
  refine then_n ?_
  refine wp_seq ?_
  by_cases q30 : x19 < (x1.length : Int)
  · replace M := ifp q30 M
    refine cond_t rfl (bt q30 (by kernel_rfl)) ?_
    refine wp_skip ?_
    refine then_n ?_
    refine wp_seq ?_
    refine wp_block ?_
    refine wp_seq ?_
    refine wp_region_lit ?_
    obtain ⟨q31, M⟩ := chk M
    obtain ⟨b32, o33, e34⟩ := Rd.addr h4 (show (x19).toNat < x1.length by omega)
    obtain ⟨y35, r36, k37⟩ := Rd.at h4 e34 (getD_some ([] : List Cell) (show (x19).toNat < x1.length by omega))
    obtain ⟨A38, c39, rfl, l40, h41⟩ := r36
    refine lv (d := 22) rfl rfl (by kernel_rfl) (e_indexAddr (b := b32) (off := o33) (n := x1.length) (c := c3) (sz := 1) (i := x19) (k := .i64) Try.underlying38 e34 (by kernel_rfl) (by exact e22) (by exact e24) q31 q30) ?_
    refine lv (d := 23) rfl rfl (by kernel_rfl) (e_load1 (ad := ⟨b32, o33 + (x19 : Int).toNat * 1, none⟩) (v := .slice A38 (x1.getD ((x19).toNat) ([] : List Cell)).length c39) Try.underlying25 rfl (by kernel_rfl) (hpx (S25.inv.cell (k37 0 _ rfl)))) ?_
    refine lv (d := 6) rfl rfl (by kernel_rfl) (e_assign (v := .slice A38 (x1.getD ((x19).toNat) ([] : List Cell)).length c39) (by kernel_rfl)) ?_
    refine wpList_nil ?_
    refine then_n ?_
    refine wp_region_lit ?_
    refine lv (d := 24) rfl rfl (by kernel_rfl) (e_move (v := .int .i64 x18) (by exact e21)) ?_
    refine lv (d := 25) rfl rfl (by kernel_rfl) (e_move (v := .slice A38 (x1.getD ((x19).toNat) ([] : List Cell)).length c39) (by kernel_rfl)) ?_
    refine lv (d := 26) rfl rfl (by kernel_rfl) (e_len (A := A38) (n := (x1.getD ((x19).toNat) ([] : List Cell)).length) (c := c39) Try.underlying25 (by kernel_rfl)) ?_
    refine lv (d := 27) rfl rfl (by kernel_rfl) (e_add (k := .i64) (a := 1) (b := ((x1.getD ((x19).toNat) ([] : List Cell)).length : Int)) rfl (by kernel_rfl)) ?_
    refine lv (d := 28) rfl rfl (by kernel_rfl) (e_add (k := .i64) (a := x18) (b := (IntKind.i64.wrap (1 + ((x1.getD ((x19).toNat) ([] : List Cell)).length : Int)))) (by kernel_rfl) (by kernel_rfl)) ?_
    refine lv (d := 4) rfl rfl (by kernel_rfl) (e_assign (v := .int .i64 (IntKind.i64.wrap (x18 + (IntKind.i64.wrap (1 + ((x1.getD ((x19).toNat) ([] : List Cell)).length : Int)))))) (by kernel_rfl)) ?_
    refine wpList_nil ?_
    refine inb_n ?_
    refine then_n ?_
    refine wp_region_lit ?_
    refine lv (d := 29) rfl rfl (by kernel_rfl) (e_add (k := .i64) (a := x19) (b := 1) (by exact e24) rfl) ?_
    refine lv (d := 20) rfl rfl (by kernel_rfl) (e_move (v := .int .i64 (IntKind.i64.wrap (x19 + 1))) (by kernel_rfl)) ?_
    refine wpList_nil ?_
    refine then_n ?_
    exact ⟨k29, (by omega), _, (IntKind.i64.wrap (x18 + (IntKind.i64.wrap (1 + ((x1.getD ((x19).toNat) ([] : List Cell)).length : Int))))), (IntKind.i64.wrap (x19 + 1)), rfl, (by exact e20), (by kernel_rfl), (by exact e22), (by exact e23), (by kernel_rfl), S25, M⟩
  replace M := ifn q30 M
  refine cond_f rfl (bf q30 (by kernel_rfl)) ?_
  refine wp_exit ?_
  refine then_e ?_
  refine then_e ?_
  refine inb_hit ?_
  refine then_n ?_
  refine wp_seq ?_
  refine wp_seq ?_
  refine wp_region_lit ?_
  refine lv (d := 30) rfl rfl (by kernel_rfl) (e_move (v := .int .i64 x18) (by exact e21)) ?_
  refine lv (d := 31) rfl rfl (by kernel_rfl) (e_gtr (k := .i64) (a := x18) (b := 2000) (by kernel_rfl) rfl) ?_
  refine wpList_nil ?_
  refine then_n ?_
  by_cases q42 : x18 > 2000
  · replace M := ifp q42 M
    refine cond_t rfl (bt q42 (by kernel_rfl)) ?_
    refine wp_seq ?_
    refine wp_region_lit ?_
    refine lv (d := 2) rfl rfl (by kernel_rfl) (e_assign (v := .slice none 0 0) rfl) ?_
    refine lv (d := 3) rfl rfl (by kernel_rfl) (e_assign (v := .int .i64 3) rfl) ?_
    refine wpList_nil ?_
    refine then_n ?_
    refine wp_ret ?_
    refine then_r ?_
    obtain rfl := Option.some.inj M
    have S43 := S25.unit
    exact ret2 rfl rfl rfl (show _ = .slice none 0 0 from (by kernel_rfl)) (show _ = .int .i64 3 from (by kernel_rfl)) ⟨none, 0, no, H, rfl, (Row.nil _ _ _ _ no), S43⟩
  replace M := ifn q42 M
  refine cond_f rfl (bf q42 (by kernel_rfl)) ?_
  refine wp_skip ?_
  refine then_n ?_
  refine wp_seq ?_
  refine wp_region_lit ?_
  refine lv (d := 7) rfl rfl (by kernel_rfl) (e_assign (v := .slice none 0 0) rfl) ?_
  refine wpList_nil ?_
  refine then_n ?_
  refine wp_seq ?_
  refine wp_seq ?_
  refine wp_region_lit ?_
  refine lv (d := 32) rfl rfl (by kernel_rfl) (e_move (v := .slice A2 x1.length c3) (by exact e20)) ?_
  refine lv (d := 33) rfl rfl (by kernel_rfl) (e_len (A := A2) (n := x1.length) (c := c3) Try.underlying38 (by kernel_rfl)) ?_
  refine lv (d := 34) rfl rfl (by kernel_rfl) (e_move (v := .int .i64 0) rfl) ?_
  refine wpList_nil ?_
  refine then_n ?_
  refine wp_block ?_
  have S63 := S25.unit
  refine wp_loop_g (fun k60 a61 w44 => ∃ (f45 : Nat → Value) (H46 : Hp) (x48 : List Tm) (A49 : Option Addr) (c50 : Nat) (F51 : Foot) (x53 : Int), a61 = mk 48 f45 ∧ f45 7 = .slice A49 x48.length c50 ∧ f45 32 = .slice A2 x1.length c3 ∧ f45 33 = .int .i64 (x1.length : Int) ∧ f45 34 = .int .i64 x53 ∧ Row (node 125) 74 H46 (hp w44) F51 A49 c50 x48 ∧ Ext H H46 ∧ St (anyOf []) H w [F51] H46 w44 ∧ impl_MakeList.l1 k60 x1 x48 x53 = some r) k29 ⟨_, H, [], none, 0, no, 0, rfl, (by kernel_rfl), (by kernel_rfl), (by kernel_rfl), (by kernel_rfl), (Row.nil _ _ _ _ _), (Ext.refl _), S63, M⟩ ?_
  clear M
  rintro k60 a61 w44 ⟨f45, H46, x48, A49, c50, F51, x53, rfl, e54, e55, e56, e57, h52, Y47, S58, M⟩
  rcases k60 with _ | k62
  · rw [impl_MakeList.l1] at M
    cases M
  rw [impl_MakeList.l1] at M
  refine wp_seq ?_
  refine wp_region_lit ?_
  refine lv (d := 35) rfl rfl (by kernel_rfl) (e_lss (k := .i64) (a := x53) (b := (x1.length : Int)) (by exact e57) (by exact e56)) ?_
  refine wpList_nil ?_
  refine then_n ?_
  refine wp_seq ?_
  by_cases q64 : x53 < (x1.length : Int)
  · replace M := ifp q64 M
    refine cond_t rfl (bt q64 (by kernel_rfl)) ?_
    refine wp_skip ?_
    refine then_n ?_
    refine wp_seq ?_
    refine wp_block ?_
    refine wp_seq ?_
    refine wp_region_lit ?_
    obtain ⟨q65, M⟩ := chk M
    obtain ⟨b66, o67, e68⟩ := Rd.addr h4 (show (x53).toNat < x1.length by omega)
    obtain ⟨y69, r70, k71⟩ := Rd.at h4 e68 (getD_some ([] : List Cell) (show (x53).toNat < x1.length by omega))
    obtain ⟨A72, c73, rfl, l74, h75⟩ := r70
    refine lv (d := 36) rfl rfl (by kernel_rfl) (e_indexAddr (b := b66) (off := o67) (n := x1.length) (c := c3) (sz := 1) (i := x53) (k := .i64) Try.underlying38 e68 (by kernel_rfl) (by exact e55) (by exact e57) q65 q64) ?_
    refine lv (d := 37) rfl rfl (by kernel_rfl) (e_load1 (ad := ⟨b66, o67 + (x53 : Int).toNat * 1, none⟩) (v := .slice A72 (x1.getD ((x53).toNat) ([] : List Cell)).length c73) Try.underlying25 rfl (by kernel_rfl) (hpx (S58.inv.cell (Y47.cell (k71 0 _ rfl))))) ?_
    refine lv (d := 9) rfl rfl (by kernel_rfl) (e_assign (v := .slice A72 (x1.getD ((x53).toNat) ([] : List Cell)).length c73) (by kernel_rfl)) ?_
    refine wpList_nil ?_
    refine then_n ?_
    refine wp_region_lit ?_
    refine lv (d := 38) rfl rfl (by kernel_rfl) (e_move (v := .slice A49 x48.length c50) (by exact e54)) ?_
    refine lv (d := 39) rfl rfl (by kernel_rfl) (e_move (v := .slice A72 (x1.getD ((x53).toNat) ([] : List Cell)).length c73) (by kernel_rfl)) ?_
    obtain ⟨t76, u77, M⟩ := bnd M
    refine lcall (d := 40) rfl rfl (by kernel_rfl) (e_call (l := [.tmp 39]) (vs := [.slice A72 (x1.getD ((x53).toNat) ([] : List Cell)).length c73]) Try.func62 (by kernel_rfl) rfl (by kernel_rfl) rfl) (impl_tree.calls k62 w44 H46 (x1.getD ((x53).toNat) ([] : List Cell)) A72 c73 (h75.ext Y47) l74 (St.own' (Fa := []) (Fr := [F51]) S58) t76 u77) ?_
    rintro _ w78 ⟨g81, H79, rfl, h82, T80⟩
    refine ⟨_, rfl, ?_⟩
    obtain ⟨S83, K84⟩ := St.call (Fa := []) (Fr := [F51]) S58 T80
    replace h52 := h52.move (K84.at 0 rfl)
    have E85 := T80.ext
    replace h52 := h52.ext E85
    refine lve (d := 41) rfl rfl (by kernel_rfl) (new_blk (v := fun g_ => .slice (some ⟨g_, 0, none⟩) 1 1) (cs := #[.pointer (some ⟨g81, 0, none⟩)]) (t := 74) S83 (by kernel_rfl)) ?_
    rintro _ w86 ⟨g87, rfl, b88, S89, K90⟩
    replace h52 := h52.move (K90.at 0 rfl)
    obtain ⟨q91, M⟩ := chk M
    have S92 := S89.pull (F := F51) (Fr := [(is g87)]) 1 rfl rfl
    have S93 := S92.unit
    have S94 := S93.pull (F := F51) (Fr := [no, (is g87)]) 1 rfl rfl
    refine lve (d := 42) rfl rfl (by kernel_rfl) (e_append (d := (node 125)) (n := x48.length) (xs := x48) (cap := c50) (A := A49) (ys := [t76]) (A2 := (some ⟨g87, 0, none⟩)) (c2 := 1) (z := .pointer none) (bytes := 8) S94 Try.underlying87 (by kernel_rfl) rfl (by decide) (by kernel_rfl) rfl (by kernel_rfl) h52 (elsO_one1 ⟨_, rfl, h82⟩) (.inr (blk_news b88 rfl)) (show (x48.length + [t76].length) * 8 ≤ _ by first | omega | (simp only [List.length_cons, List.length_nil]; omega)) (by decide)) ?_
    rintro _ w95 ⟨A96, c97, F98, rfl, h99, S100, K101⟩
    replace b88 := K101.blk 0 rfl b88
    refine lv (d := 7) rfl rfl (by kernel_rfl) (e_assign (v := .slice A96 ((x48 ++ [t76]).length) c97) (by kernel_rfl)) ?_
    refine wpList_nil ?_
    refine inb_n ?_
    refine then_n ?_
    refine wp_region_lit ?_
    refine lv (d := 43) rfl rfl (by kernel_rfl) (e_add (k := .i64) (a := x53) (b := 1) (by exact e57) rfl) ?_
    refine lv (d := 34) rfl rfl (by kernel_rfl) (e_move (v := .int .i64 (IntKind.i64.wrap (x53 + 1))) (by kernel_rfl)) ?_
    refine wpList_nil ?_
    refine then_n ?_
    have S102 := St.first (Fa := [F98]) (Fr := [(is g87)]) S100
    exact ⟨k62, (by omega), _, H79, (x48 ++ [t76]), A96, c97, F98, (IntKind.i64.wrap (x53 + 1)), rfl, (by kernel_rfl), (by exact e55), (by exact e56), (by kernel_rfl), h99, (Y47.trans E85), S102, M⟩
  replace M := ifn q64 M
  refine cond_f rfl (bf q64 (by kernel_rfl)) ?_
  refine wp_exit ?_
  refine then_e ?_
  refine then_e ?_
  refine inb_hit ?_
  refine then_n ?_
  refine wp_seq ?_
  refine wp_region_lit ?_
  refine lv (d := 44) rfl rfl (by kernel_rfl) (e_move (v := .slice A49 x48.length c50) (by exact e54)) ?_
  obtain ⟨t103, u104, M⟩ := bnd M
  refine lcall (d := 45) rfl rfl (by kernel_rfl) (e_call (l := [.const (str ([91, 93] : List UInt8))]) (vs := [str ([91, 93] : List UInt8)]) Try.func82 (by kernel_rfl) rfl (by kernel_rfl) rfl) (impl_atom.calls w44 H46 ([91, 93] : List UInt8)  (St.own' (Fa := []) (Fr := [F51]) S58) t103 u104) ?_
  rintro _ w105 ⟨g108, H106, rfl, h109, T107⟩
  refine ⟨_, rfl, ?_⟩
  obtain ⟨S110, K111⟩ := St.call (Fa := []) (Fr := [F51]) S58 T107
  replace h52 := h52.move (K111.at 0 rfl)
  have E112 := T107.ext
  replace h52 := h52.ext E112
  have l113 := h52.le
  obtain ⟨H114, S115, E116, h117, z118⟩ := S110.frzRow h52
  obtain ⟨t119, u120, M⟩ := bnd M
  refine lcall (d := 46) rfl rfl (by kernel_rfl) (e_call (l := [.tmp 44, .tmp 45]) (vs := [.slice A49 x48.length c50, .pointer (some ⟨g108, 0, none⟩)]) Try.func81 (by kernel_rfl) rfl (by kernel_rfl) rfl) (impl_listOf.calls k62 w105 H114 x48 A49 c50 t103 g108 h117 l113 (h109.ext' E116) (St.own' (Fa := []) (Fr := []) S115) t119 u120) ?_
  rintro _ w121 ⟨g124, H122, rfl, h125, T123⟩
  refine ⟨_, rfl, ?_⟩
  obtain ⟨S126, K127⟩ := St.call (Fa := []) (Fr := []) S115 T123
  have E128 := T123.ext
  obtain ⟨t129, u130, M⟩ := bnd M
  refine lcall (d := 47) rfl rfl (by kernel_rfl) (e_call (l := [.tmp 46]) (vs := [.pointer (some ⟨g124, 0, none⟩)]) Try.func68 (by kernel_rfl) rfl (by kernel_rfl) rfl) (impl_node_cells.calls k62 w121 H122 t119 g124 h125 (St.own' (Fa := []) (Fr := []) S126) t129 u130) ?_
  rintro _ w131 ⟨A134, c135, F137, H132, rfl, h136, T133⟩
  refine ⟨_, rfl, ?_⟩
  obtain ⟨S138, K139⟩ := St.call (Fa := []) (Fr := []) S126 T133
  have E140 := T133.ext
  refine lv (d := 2) rfl rfl (by kernel_rfl) (e_assign (v := .slice A134 t129.length c135) (by kernel_rfl)) ?_
  refine lv (d := 3) rfl rfl (by kernel_rfl) (e_assign (v := .int .i64 0) rfl) ?_
  refine wpList_nil ?_
  refine then_n ?_
  refine wp_ret ?_
  obtain rfl := Option.some.inj M
  exact ret2 rfl rfl rfl (show _ = .slice A134 t129.length c135 from (by kernel_rfl)) (show _ = .int .i64 0 from (by kernel_rfl)) ⟨A134, c135, F137, H132, rfl, h136, S138⟩
end Go.Proofs.Ytognefkopbbdnaa
