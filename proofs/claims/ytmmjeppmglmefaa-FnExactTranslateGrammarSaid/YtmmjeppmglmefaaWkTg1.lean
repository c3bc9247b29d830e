import Derived.Test.YtmmjeppmglmefaaProg
import Derived.Test.YtmmjeppmglmefaaY12
namespace Go.Proofs.Ytmmjeppmglmefaa
open Go.Sx Go.Sy
attribute [local irreducible] Go.wpList Go.wpStill Go.wpQuiet Go.Code.wp
set_option maxRecDepth 100000
set_option maxHeartbeats 1000000
set_option linter.unusedVariables false
set_option linter.unusedSimpArgs false

/-! laws_szByteS -/
def sl5 : Ty (List UInt8) := slice 5 tByte (by decide)
def st34 : Ty Cell := iso (pair tInt (pair tInt sl5)) (fun x => (x.kind, x.n, x.text))
theorem st34_open {H : Hp} {x : Cell} {cs : List Value} (h : st34.R H x cs) : ∃ (A2 : Option Addr) (c2 : Nat), cs = [.int .i64 x.kind, .int .i64 x.n, .slice A2 x.text.length c2] ∧ x.text.length ≤ c2 ∧ Rd tByte H A2 x.text := by
  obtain ⟨_, _, rfl, rfl, ⟨_, _, rfl, rfl, ⟨A2, c2, rfl, l2, h2⟩⟩⟩ := h
  exact ⟨A2, c2, rfl, l2, h2⟩
theorem st34_mkR {H : Hp} {x : Cell} {A2 : Option Addr} {c2 : Nat} (l2 : x.text.length ≤ c2) (h2 : Rd tByte H A2 x.text) : st34.R H x [.int .i64 x.kind, .int .i64 x.n, .slice A2 x.text.length c2] := ⟨[.int .i64 x.kind], [.int .i64 x.n, .slice A2 x.text.length c2], rfl, rfl, ⟨[.int .i64 x.n], [.slice A2 x.text.length c2], rfl, rfl, ⟨A2, c2, rfl, l2, h2⟩⟩⟩
theorem st34_mkO {H X : Hp} {F2 : Foot} {x : Cell} {A2 : Option Addr} {c2 : Nat} (h2 : Row tByte 5 H X F2 A2 c2 x.text) : st34.O H X F2 x [.int .i64 x.kind, .int .i64 x.n, .slice A2 x.text.length c2] := (pairO0 (a := tInt) (b := (pair tInt sl5)) (x := (x.kind, (x.n, x.text))) (c0 := [.int .i64 x.kind]) (c1 := [.int .i64 x.n, .slice A2 x.text.length c2]) rfl (pairO0 (a := tInt) (b := sl5) (x := (x.n, x.text)) (c0 := [.int .i64 x.n]) (c1 := [.slice A2 x.text.length c2]) rfl ⟨A2, c2, rfl, h2⟩))
theorem st34_openO {H X : Hp} {F : Foot} {x : Cell} {cs : List Value} (h : st34.O H X F x cs) : ∃ (A2 : Option Addr) (c2 : Nat) (F2 : Foot), cs = [.int .i64 x.kind, .int .i64 x.n, .slice A2 x.text.length c2] ∧ Row tByte 5 H X F2 A2 c2 x.text ∧ (∀ b, F2 b → F b) := by
  obtain ⟨_, _, K1, L1, rfl, rfl, ⟨_, _, K0, L0, rfl, rfl, ⟨A2, c2, rfl, h2⟩, d0, s0⟩, d1, s1⟩ := h
  exact ⟨A2, c2, _, rfl, h2, fun b hb => s1 b (.inr (s0 b (.inr (hb))))⟩
theorem st34_c0 {H X : Hp} {F : Foot} {x : Cell} {cs : List Value} (h : st34.O H X F x cs) : cs[0]? = some (.int .i64 x.kind) := by obtain ⟨_, _, _, rfl, _, _⟩ := st34_openO h; rfl
theorem st34_r0 {H : Hp} {x : Cell} {cs : List Value} (h : st34.R H x cs) : cs[0]? = some (.int .i64 x.kind) := by obtain ⟨_, _, rfl, _, _⟩ := st34_open h; rfl
theorem st34_c1 {H X : Hp} {F : Foot} {x : Cell} {cs : List Value} (h : st34.O H X F x cs) : cs[1]? = some (.int .i64 x.n) := by obtain ⟨_, _, _, rfl, _, _⟩ := st34_openO h; rfl
theorem st34_r1 {H : Hp} {x : Cell} {cs : List Value} (h : st34.R H x cs) : cs[1]? = some (.int .i64 x.n) := by obtain ⟨_, _, rfl, _, _⟩ := st34_open h; rfl
theorem st34_u0 {H X : Hp} {F1 F2 : Foot} {x : Cell} (y : Int) {cs : List Value} (h : st34.O H X F1 x cs) : st34.O H X (or2 F1 F2) {x with kind := y} (cs.take 0 ++ [.int .i64 y] ++ cs.drop 1) := by
  obtain ⟨_, _, _, rfl, h2, s2⟩ := st34_openO h
  exact st34_mkO (x := {x with kind := y}) (h2.mono fun b hb => .inl (s2 b hb))
theorem st34_u1 {H X : Hp} {F1 F2 : Foot} {x : Cell} (y : Int) {cs : List Value} (h : st34.O H X F1 x cs) : st34.O H X (or2 F1 F2) {x with n := y} (cs.take 1 ++ [.int .i64 y] ++ cs.drop 2) := by
  obtain ⟨_, _, _, rfl, h2, s2⟩ := st34_openO h
  exact st34_mkO (x := {x with n := y}) (h2.mono fun b hb => .inl (s2 b hb))
theorem st34_u2 {H X : Hp} {F1 F2 : Foot} {x : Cell} {y : List UInt8} {A : Option Addr} {c : Nat} {cs : List Value} (hy : Row tByte 5 H X F2 A c y) (h : st34.O H X F1 x cs) : st34.O H X (or2 F1 F2) {x with text := y} (cs.take 2 ++ [.slice A y.length c] ++ cs.drop 3) := by
  obtain ⟨_, _, _, rfl, h2, _⟩ := st34_openO h
  exact st34_mkO (x := {x with text := y}) (hy.mono fun b hb => .inr hb)
def z34 : Cell := ⟨(0 : Int), (0 : Int), ([] : List UInt8)⟩
theorem z34_O (H X : Hp) : st34.O H X no z34 [.int .i64 (0 : Int), .int .i64 (0 : Int), .slice none 0 0] := st34_mkO (x := z34) (Row.nil _ _ _ _ no)
theorem z34_R (H : Hp) : st34.R H z34 [.int .i64 (0 : Int), .int .i64 (0 : Int), .slice none 0 0] := st34_mkR (x := z34) (Nat.le_refl _) (Rd.nil _ _ _)
def laws_szByteS.f (x1 : List UInt8) (x6 : Int) : Option Int := (if (IntKind.i64.wrap (x6 - (x1.length : Int))) < 0 then some (-1) else some (IntKind.i64.wrap (x6 - (x1.length : Int))))
theorem laws_szByteS.calls (w : World) (H : Hp) (x1 : List UInt8) (A2 : Option Addr) (c3 : Nat) (x6 : Int) (h4 : Rd tByte H A2 x1) (l5 : x1.length ≤ c3) (S : Own [] H w) (r : Int) (M : laws_szByteS.f x1 x6 = some r) :
    Calls Try.prog 35 #[.slice A2 x1.length c3, .int .i64 x6] w (fun e e_w => e = .returned (.int .i64 r) ∧ Chg no w e_w) := by
  rw [laws_szByteS.f] at M
  refine enter (l := [.slice A2 x1.length c3, .int .i64 x6]) 12 Try.func35 rfl rfl rfl ?_
  have S0_ := S.st
  refine wp_seq ?_
  refine wp_region_lit ?_
  refine lv (d := 4) rfl rfl (by kernel_rfl) (e_assign (v := .int .i64 0) rfl) ?_
  refine wpList_nil ?_
  refine then_n ?_
  refine wp_seq ?_
  refine wp_region_lit ?_
  refine lv (d := 5) rfl rfl (by kernel_rfl) (e_move (v := .int .i64 x6) (by kernel_rfl)) ?_
  refine lv (d := 6) rfl rfl (by kernel_rfl) (e_move (v := .slice A2 x1.length c3) (by kernel_rfl)) ?_
  refine lv (d := 7) rfl rfl (by kernel_rfl) (e_len (A := A2) (n := x1.length) (c := c3) Try.underlying32 (by kernel_rfl)) ?_
  refine lv (d := 8) rfl rfl (by kernel_rfl) (e_sub (k := .i64) (a := x6) (b := (x1.length : Int)) (by kernel_rfl) (by kernel_rfl)) ?_
  refine lv (d := 1) rfl rfl (by kernel_rfl) (e_assign (v := .int .i64 (IntKind.i64.wrap (x6 - (x1.length : Int)))) (by kernel_rfl)) ?_
  refine wpList_nil ?_
  refine then_n ?_
  refine wp_seq ?_
  refine wp_seq ?_
  refine wp_region_lit ?_
  refine lv (d := 9) rfl rfl (by kernel_rfl) (e_move (v := .int .i64 (IntKind.i64.wrap (x6 - (x1.length : Int)))) (by kernel_rfl)) ?_
  refine lv (d := 10) rfl rfl (by kernel_rfl) (e_lss (k := .i64) (a := (IntKind.i64.wrap (x6 - (x1.length : Int)))) (b := 0) (by kernel_rfl) rfl) ?_
  refine wpList_nil ?_
  refine then_n ?_
  by_cases q7 : (IntKind.i64.wrap (x6 - (x1.length : Int))) < 0
  · replace M := ifp q7 M
    refine cond_t rfl (bt q7 (by kernel_rfl)) ?_
    refine wp_seq ?_
    refine wp_region_lit ?_
    refine lv (d := 4) rfl rfl (by kernel_rfl) (e_assign (v := .int .i64 (-1)) rfl) ?_
    refine wpList_nil ?_
    refine then_n ?_
    refine wp_ret ?_
    refine then_r ?_
    obtain rfl := Option.some.inj M
    exact ret1 rfl rfl  (show _ = .int .i64 (-1) from (by kernel_rfl)) ⟨rfl, S0_.chg⟩
  replace M := ifn q7 M
  refine cond_f rfl (bf q7 (by kernel_rfl)) ?_
  refine wp_skip ?_
  refine then_n ?_
  refine wp_seq ?_
  refine wp_region_lit ?_
  refine lv (d := 11) rfl rfl (by kernel_rfl) (e_move (v := .int .i64 (IntKind.i64.wrap (x6 - (x1.length : Int)))) (by kernel_rfl)) ?_
  refine lv (d := 4) rfl rfl (by kernel_rfl) (e_assign (v := .int .i64 (IntKind.i64.wrap (x6 - (x1.length : Int)))) (by kernel_rfl)) ?_
  refine wpList_nil ?_
  refine then_n ?_
  refine wp_ret ?_
  obtain rfl := Option.some.inj M
  exact ret1 rfl rfl  (show _ = .int .i64 (IntKind.i64.wrap (x6 - (x1.length : Int))) from (by kernel_rfl)) ⟨rfl, S0_.chg⟩

/-! laws_szCell -/
def laws_szCell.f (x1 : Cell) (x6 : Int) : Option Int := ((laws_szByteS.f x1.text x6).bind fun t12 => (if t12 < 0 then some (-1) else some t12))
theorem laws_szCell.calls (w : World) (H : Hp) (x1 : Cell) (A2 : Option Addr) (c3 : Nat) (x6 : Int) (h4 : Rd tByte H A2 x1.text) (l5 : x1.text.length ≤ c3) (S : Own [] H w) (r : Int) (M : laws_szCell.f x1 x6 = some r) :
    Calls Try.prog 14 #[.agg #[.int .i64 x1.kind, .int .i64 x1.n, .slice A2 x1.text.length c3], .int .i64 x6] w (fun e e_w => e = .returned (.int .i64 r) ∧ Chg no w e_w) := by
  rw [laws_szCell.f] at M
  refine enter (l := [.agg #[.int .i64 x1.kind, .int .i64 x1.n, .slice A2 x1.text.length c3], .int .i64 x6]) 12 Try.func14 rfl rfl rfl ?_
  have S0_ := S.st
  refine wp_seq ?_
  refine wp_region_lit ?_
  refine lve (d := 2) rfl rfl (by kernel_rfl) (new_blk (v := fun g_ => .pointer (some ⟨g_, 0, none⟩)) (cs := #[.int .i64 x1.kind, .int .i64 x1.n, .slice A2 x1.text.length c3]) (t := 34) S0_ (by kernel_rfl)) ?_
  rintro _ w7 ⟨g8, rfl, b9, S10, K11⟩
  refine lv (d := 4) rfl rfl (by kernel_rfl) (e_assign (v := .int .i64 0) rfl) ?_
  refine wpList_nil ?_
  refine then_n ?_
  refine wp_seq ?_
  refine wp_region_lit ?_
  refine lv (d := 5) rfl rfl (by kernel_rfl) (e_fieldAddr (b := g8) (off := 0) (o := 2) Try.underlying34 rfl rfl (sz := 1) (by kernel_rfl) (by decide) (by kernel_rfl)) ?_
  refine lv (d := 6) rfl rfl (by kernel_rfl) (e_load1 (ad := ⟨g8, 0 + 2, none⟩) (v := .slice A2 x1.text.length c3) Try.underlying32 rfl (by kernel_rfl) (blk_cell b9 rfl)) ?_
  refine lv (d := 7) rfl rfl (by kernel_rfl) (e_move (v := .int .i64 x6) (by kernel_rfl)) ?_
  obtain ⟨t12, u13, M⟩ := bnd M
  refine lcall (d := 8) rfl rfl (by kernel_rfl) (e_call (l := [.tmp 6, .tmp 7]) (vs := [.slice A2 x1.text.length c3, .int .i64 x6]) Try.func35 (by kernel_rfl) rfl (by kernel_rfl) rfl) (laws_szByteS.calls w7 H x1.text A2 c3 x6 h4 l5 S10.own0 t12 u13) ?_
  rintro _ w14 ⟨rfl, C15⟩
  refine ⟨_, rfl, ?_⟩
  obtain ⟨S16, K17⟩ := S10.still C15
  replace b9 := K17.blk 0 rfl b9
  refine lv (d := 1) rfl rfl (by kernel_rfl) (e_assign (v := .int .i64 t12) (by kernel_rfl)) ?_
  refine wpList_nil ?_
  refine then_n ?_
  refine wp_seq ?_
  refine wp_seq ?_
  refine wp_region_lit ?_
  refine lv (d := 9) rfl rfl (by kernel_rfl) (e_move (v := .int .i64 t12) (by kernel_rfl)) ?_
  refine lv (d := 10) rfl rfl (by kernel_rfl) (e_lss (k := .i64) (a := t12) (b := 0) (by kernel_rfl) rfl) ?_
  refine wpList_nil ?_
  refine then_n ?_
  by_cases q18 : t12 < 0
  · replace M := ifp q18 M
    refine cond_t rfl (bt q18 (by kernel_rfl)) ?_
    refine wp_seq ?_
    refine wp_region_lit ?_
    refine lv (d := 4) rfl rfl (by kernel_rfl) (e_assign (v := .int .i64 (-1)) rfl) ?_
    refine wpList_nil ?_
    refine then_n ?_
    refine wp_ret ?_
    refine then_r ?_
    obtain rfl := Option.some.inj M
    exact ret1 rfl rfl  (show _ = .int .i64 (-1) from (by kernel_rfl)) ⟨rfl, S16.chg⟩
  replace M := ifn q18 M
  refine cond_f rfl (bf q18 (by kernel_rfl)) ?_
  refine wp_skip ?_
  refine then_n ?_
  refine wp_seq ?_
  refine wp_region_lit ?_
  refine lv (d := 11) rfl rfl (by kernel_rfl) (e_move (v := .int .i64 t12) (by kernel_rfl)) ?_
  refine lv (d := 4) rfl rfl (by kernel_rfl) (e_assign (v := .int .i64 t12) (by kernel_rfl)) ?_
  refine wpList_nil ?_
  refine then_n ?_
  refine wp_ret ?_
  obtain rfl := Option.some.inj M
  exact ret1 rfl rfl  (show _ = .int .i64 t12 from (by kernel_rfl)) ⟨rfl, S16.chg⟩

/-! laws_szCellS -/
def laws_szCellS.l0 : Nat → (List Cell) → Int → Int → Option Int
  | 0, _, _, _ => none
  | k20 + 1, x1, x10, x11 => (if x11 < (x1.length : Int) then (if 0 ≤ x11 then ((laws_szCell.f (x1.getD ((x11).toNat) z34) x10).bind fun t33 => (if t33 < 0 then some (-1) else (laws_szCellS.l0 k20 x1 t33 (IntKind.i64.wrap (x11 + 1))))) else none) else some x10)
def laws_szCellS.f (k : Nat) (x1 : List Cell) (x6 : Int) : Option Int := (if (IntKind.i64.wrap (x6 - (x1.length : Int))) < 0 then some (-1) else (laws_szCellS.l0 k x1 (IntKind.i64.wrap (x6 - (x1.length : Int))) 0))
theorem laws_szCellS.calls (k : Nat) (w : World) (H : Hp) (x1 : List Cell) (A2 : Option Addr) (c3 : Nat) (x6 : Int) (h4 : Rd st34 H A2 x1) (l5 : x1.length ≤ c3) (S : Own [] H w) (r : Int) (M : laws_szCellS.f k x1 x6 = some r) :
    Calls Try.prog 5 #[.slice A2 x1.length c3, .int .i64 x6] w (fun e e_w => e = .returned (.int .i64 r) ∧ Chg no w e_w) := by
  rw [laws_szCellS.f] at M
  refine enter (l := [.slice A2 x1.length c3, .int .i64 x6]) 27 Try.func5 rfl rfl rfl ?_
  have S0_ := S.st
  refine wp_seq ?_
  refine wp_region_lit ?_
  refine lv (d := 4) rfl rfl (by kernel_rfl) (e_assign (v := .int .i64 0) rfl) ?_
  refine wpList_nil ?_
  refine then_n ?_
  refine wp_seq ?_
  refine wp_region_lit ?_
  refine lv (d := 6) rfl rfl (by kernel_rfl) (e_move (v := .int .i64 x6) (by kernel_rfl)) ?_
  refine lv (d := 7) rfl rfl (by kernel_rfl) (e_move (v := .slice A2 x1.length c3) (by kernel_rfl)) ?_
  refine lv (d := 8) rfl rfl (by kernel_rfl) (e_len (A := A2) (n := x1.length) (c := c3) Try.underlying22 (by kernel_rfl)) ?_
  refine lv (d := 9) rfl rfl (by kernel_rfl) (e_sub (k := .i64) (a := x6) (b := (x1.length : Int)) (by kernel_rfl) (by kernel_rfl)) ?_
  refine lv (d := 1) rfl rfl (by kernel_rfl) (e_assign (v := .int .i64 (IntKind.i64.wrap (x6 - (x1.length : Int)))) (by kernel_rfl)) ?_
  refine wpList_nil ?_
  refine then_n ?_
  refine wp_seq ?_
  refine wp_seq ?_
  refine wp_region_lit ?_
  refine lv (d := 10) rfl rfl (by kernel_rfl) (e_move (v := .int .i64 (IntKind.i64.wrap (x6 - (x1.length : Int)))) (by kernel_rfl)) ?_
  refine lv (d := 11) rfl rfl (by kernel_rfl) (e_lss (k := .i64) (a := (IntKind.i64.wrap (x6 - (x1.length : Int)))) (b := 0) (by kernel_rfl) rfl) ?_
  refine wpList_nil ?_
  refine then_n ?_
  by_cases q7 : (IntKind.i64.wrap (x6 - (x1.length : Int))) < 0
  · replace M := ifp q7 M
    refine cond_t rfl (bt q7 (by kernel_rfl)) ?_
    refine wp_seq ?_
    refine wp_region_lit ?_
    refine lv (d := 4) rfl rfl (by kernel_rfl) (e_assign (v := .int .i64 (-1)) rfl) ?_
    refine wpList_nil ?_
    refine then_n ?_
    refine wp_ret ?_
    refine then_r ?_
    obtain rfl := Option.some.inj M
    exact ret1 rfl rfl  (show _ = .int .i64 (-1) from (by kernel_rfl)) ⟨rfl, S0_.chg⟩
  replace M := ifn q7 M
  refine cond_f rfl (bf q7 (by kernel_rfl)) ?_
  refine wp_skip ?_
  refine then_n ?_
  refine wp_seq ?_
  refine wp_seq ?_
  refine wp_region_lit ?_
  refine lv (d := 5) rfl rfl (by kernel_rfl) (e_assign (v := .int .i64 0) rfl) ?_
  refine wpList_nil ?_
  refine then_n ?_
  refine wp_block ?_
  refine wp_loop_g (fun k18 a19 w8 => ∃ (f9 : Nat → Value) (x10 : Int) (x11 : Int), a19 = mk 27 f9 ∧ f9 0 = .slice A2 x1.length c3 ∧ f9 1 = .int .i64 x10 ∧ f9 5 = .int .i64 x11 ∧ St (anyOf []) H w [] H w8 ∧ laws_szCellS.l0 k18 x1 x10 x11 = some r) k ⟨_, (IntKind.i64.wrap (x6 - (x1.length : Int))), 0, rfl, (by kernel_rfl), (by kernel_rfl), (by kernel_rfl), S0_, M⟩ ?_
  clear M
  rintro k18 a19 w8 ⟨f9, x10, x11, rfl, e12, e13, e14, S15, M⟩
  rcases k18 with _ | k20
  · rw [laws_szCellS.l0] at M
    cases M
  rw [laws_szCellS.l0] at M
  refine wp_seq ?_
  refine wp_seq ?_
  refine wp_region_lit ?_
  refine lv (d := 12) rfl rfl (by kernel_rfl) (e_move (v := .int .i64 x11) (by exact e14)) ?_
  refine lv (d := 13) rfl rfl (by kernel_rfl) (e_move (v := .slice A2 x1.length c3) (by exact e12)) ?_
  refine lv (d := 14) rfl rfl (by kernel_rfl) (e_len (A := A2) (n := x1.length) (c := c3) Try.underlying22 (by kernel_rfl)) ?_
  refine lv (d := 15) rfl rfl (by kernel_rfl) (e_lss (k := .i64) (a := x11) (b := (x1.length : Int)) (by kernel_rfl) (by kernel_rfl)) ?_
  refine wpList_nil ?_
  refine then_n ?_
  by_cases q21 : x11 < (x1.length : Int)
  · replace M := ifp q21 M
    refine cond_t rfl (bt q21 (by kernel_rfl)) ?_
    refine wp_skip ?_
    refine then_n ?_
    refine wp_seq ?_
    refine wp_block ?_
    refine wp_seq ?_
    refine wp_region_lit ?_
    refine lv (d := 18) rfl rfl (by kernel_rfl) (e_move (v := .slice A2 x1.length c3) (by exact e12)) ?_
    refine lv (d := 19) rfl rfl (by kernel_rfl) (e_move (v := .int .i64 x11) (by exact e14)) ?_
    obtain ⟨q22, M⟩ := chk M
    obtain ⟨b23, o24, e25⟩ := Rd.addr h4 (show (x11).toNat < x1.length by omega)
    obtain ⟨y26, r27, k28⟩ := Rd.at h4 e25 (getD_some z34 (show (x11).toNat < x1.length by omega))
    obtain ⟨A29, c30, rfl, l31, h32⟩ := st34_open r27
    refine lv (d := 20) rfl rfl (by kernel_rfl) (e_indexAddr (b := b23) (off := o24) (n := x1.length) (c := c3) (sz := 3) (i := x11) (k := .i64) Try.underlying22 e25 (by kernel_rfl) (by kernel_rfl) (by kernel_rfl) q22 q21) ?_
    refine lv (d := 21) rfl rfl (by kernel_rfl) (e_loadS (b := b23) (off := o24 + (x11 : Int).toNat * 3) (cs := [.int .i64 ((x1.getD ((x11).toNat) z34).kind), .int .i64 ((x1.getD ((x11).toNat) z34).n), .slice A29 ((x1.getD ((x11).toNat) z34).text).length c30]) Try.underlying34 rfl (by kernel_rfl) (by kernel_rfl) (fun j_ u_ e_ => (hpx (S15.inv.cell (k28 j_ u_ e_))))) ?_
    refine lv (d := 22) rfl rfl (by kernel_rfl) (e_move (v := .int .i64 x10) (by exact e13)) ?_
    obtain ⟨t33, u34, M⟩ := bnd M
    refine lcall (d := 23) rfl rfl (by kernel_rfl) (e_call (l := [.tmp 21, .tmp 22]) (vs := [.agg #[.int .i64 ((x1.getD ((x11).toNat) z34).kind), .int .i64 ((x1.getD ((x11).toNat) z34).n), .slice A29 ((x1.getD ((x11).toNat) z34).text).length c30], .int .i64 x10]) Try.func14 (by kernel_rfl) rfl (by kernel_rfl) rfl) (laws_szCell.calls w8 H (x1.getD ((x11).toNat) z34) A29 c30 x10 h32 l31 S15.own0 t33 u34) ?_
    rintro _ w35 ⟨rfl, C36⟩
    refine ⟨_, rfl, ?_⟩
    obtain ⟨S37, K38⟩ := S15.still C36
    refine lv (d := 1) rfl rfl (by kernel_rfl) (e_assign (v := .int .i64 t33) (by kernel_rfl)) ?_
    refine wpList_nil ?_
    refine then_n ?_
    refine wp_seq ?_
    refine wp_region_lit ?_
    refine lv (d := 24) rfl rfl (by kernel_rfl) (e_move (v := .int .i64 t33) (by kernel_rfl)) ?_
    refine lv (d := 25) rfl rfl (by kernel_rfl) (e_lss (k := .i64) (a := t33) (b := 0) (by kernel_rfl) rfl) ?_
    refine wpList_nil ?_
    refine then_n ?_
    by_cases q39 : t33 < 0
    · replace M := ifp q39 M
      refine cond_t rfl (bt q39 (by kernel_rfl)) ?_
      refine wp_seq ?_
      refine wp_region_lit ?_
      refine lv (d := 4) rfl rfl (by kernel_rfl) (e_assign (v := .int .i64 (-1)) rfl) ?_
      refine wpList_nil ?_
      refine then_n ?_
      refine wp_ret ?_
      refine inb_r ?_
      refine then_r ?_
      refine then_r ?_
      refine inb_r ?_
      refine then_r ?_
      obtain rfl := Option.some.inj M
      exact ret1 rfl rfl  (show _ = .int .i64 (-1) from (by kernel_rfl)) ⟨rfl, S37.chg⟩
    replace M := ifn q39 M
    refine cond_f rfl (bf q39 (by kernel_rfl)) ?_
    refine wp_skip ?_
    refine inb_n ?_
    refine then_n ?_
    refine wp_region_lit ?_
    refine lv (d := 16) rfl rfl (by kernel_rfl) (e_move (v := .int .i64 x11) (by exact e14)) ?_
    refine lv (d := 17) rfl rfl (by kernel_rfl) (e_add (k := .i64) (a := x11) (b := 1) (by kernel_rfl) rfl) ?_
    refine lv (d := 5) rfl rfl (by kernel_rfl) (e_assign (v := .int .i64 (IntKind.i64.wrap (x11 + 1))) (by kernel_rfl)) ?_
    refine wpList_nil ?_
    refine then_n ?_
    exact ⟨k20, (by omega), _, t33, (IntKind.i64.wrap (x11 + 1)), rfl, (by exact e12), (by kernel_rfl), (by kernel_rfl), S37, M⟩
  replace M := ifn q21 M
  refine cond_f rfl (bf q21 (by kernel_rfl)) ?_
  refine wp_exit ?_
  refine then_e ?_
  refine then_e ?_
  refine inb_hit ?_
  refine then_n ?_
  refine wp_seq ?_
  refine wp_region_lit ?_
  refine lv (d := 26) rfl rfl (by kernel_rfl) (e_move (v := .int .i64 x10) (by exact e13)) ?_
  refine lv (d := 4) rfl rfl (by kernel_rfl) (e_assign (v := .int .i64 x10) (by kernel_rfl)) ?_
  refine wpList_nil ?_
  refine then_n ?_
  refine wp_ret ?_
  obtain rfl := Option.some.inj M
  exact ret1 rfl rfl  (show _ = .int .i64 x10 from (by kernel_rfl)) ⟨rfl, S15.chg⟩

/-! laws_toByteS -/
def st36 : Ty Cell := iso (pair tInt (pair tInt sl5)) (fun x => (x.kind, x.n, x.text))
theorem st36_open {H : Hp} {x : Cell} {cs : List Value} (h : st36.R H x cs) : ∃ (A2 : Option Addr) (c2 : Nat), cs = [.int .i64 x.kind, .int .i64 x.n, .slice A2 x.text.length c2] ∧ x.text.length ≤ c2 ∧ Rd tByte H A2 x.text := by
  obtain ⟨_, _, rfl, rfl, ⟨_, _, rfl, rfl, ⟨A2, c2, rfl, l2, h2⟩⟩⟩ := h
  exact ⟨A2, c2, rfl, l2, h2⟩
theorem st36_mkR {H : Hp} {x : Cell} {A2 : Option Addr} {c2 : Nat} (l2 : x.text.length ≤ c2) (h2 : Rd tByte H A2 x.text) : st36.R H x [.int .i64 x.kind, .int .i64 x.n, .slice A2 x.text.length c2] := ⟨[.int .i64 x.kind], [.int .i64 x.n, .slice A2 x.text.length c2], rfl, rfl, ⟨[.int .i64 x.n], [.slice A2 x.text.length c2], rfl, rfl, ⟨A2, c2, rfl, l2, h2⟩⟩⟩
theorem st36_mkO {H X : Hp} {F2 : Foot} {x : Cell} {A2 : Option Addr} {c2 : Nat} (h2 : Row tByte 5 H X F2 A2 c2 x.text) : st36.O H X F2 x [.int .i64 x.kind, .int .i64 x.n, .slice A2 x.text.length c2] := (pairO0 (a := tInt) (b := (pair tInt sl5)) (x := (x.kind, (x.n, x.text))) (c0 := [.int .i64 x.kind]) (c1 := [.int .i64 x.n, .slice A2 x.text.length c2]) rfl (pairO0 (a := tInt) (b := sl5) (x := (x.n, x.text)) (c0 := [.int .i64 x.n]) (c1 := [.slice A2 x.text.length c2]) rfl ⟨A2, c2, rfl, h2⟩))
theorem st36_openO {H X : Hp} {F : Foot} {x : Cell} {cs : List Value} (h : st36.O H X F x cs) : ∃ (A2 : Option Addr) (c2 : Nat) (F2 : Foot), cs = [.int .i64 x.kind, .int .i64 x.n, .slice A2 x.text.length c2] ∧ Row tByte 5 H X F2 A2 c2 x.text ∧ (∀ b, F2 b → F b) := by
  obtain ⟨_, _, K1, L1, rfl, rfl, ⟨_, _, K0, L0, rfl, rfl, ⟨A2, c2, rfl, h2⟩, d0, s0⟩, d1, s1⟩ := h
  exact ⟨A2, c2, _, rfl, h2, fun b hb => s1 b (.inr (s0 b (.inr (hb))))⟩
theorem st36_c0 {H X : Hp} {F : Foot} {x : Cell} {cs : List Value} (h : st36.O H X F x cs) : cs[0]? = some (.int .i64 x.kind) := by obtain ⟨_, _, _, rfl, _, _⟩ := st36_openO h; rfl
theorem st36_r0 {H : Hp} {x : Cell} {cs : List Value} (h : st36.R H x cs) : cs[0]? = some (.int .i64 x.kind) := by obtain ⟨_, _, rfl, _, _⟩ := st36_open h; rfl
theorem st36_c1 {H X : Hp} {F : Foot} {x : Cell} {cs : List Value} (h : st36.O H X F x cs) : cs[1]? = some (.int .i64 x.n) := by obtain ⟨_, _, _, rfl, _, _⟩ := st36_openO h; rfl
theorem st36_r1 {H : Hp} {x : Cell} {cs : List Value} (h : st36.R H x cs) : cs[1]? = some (.int .i64 x.n) := by obtain ⟨_, _, rfl, _, _⟩ := st36_open h; rfl
theorem st36_u0 {H X : Hp} {F1 F2 : Foot} {x : Cell} (y : Int) {cs : List Value} (h : st36.O H X F1 x cs) : st36.O H X (or2 F1 F2) {x with kind := y} (cs.take 0 ++ [.int .i64 y] ++ cs.drop 1) := by
  obtain ⟨_, _, _, rfl, h2, s2⟩ := st36_openO h
  exact st36_mkO (x := {x with kind := y}) (h2.mono fun b hb => .inl (s2 b hb))
theorem st36_u1 {H X : Hp} {F1 F2 : Foot} {x : Cell} (y : Int) {cs : List Value} (h : st36.O H X F1 x cs) : st36.O H X (or2 F1 F2) {x with n := y} (cs.take 1 ++ [.int .i64 y] ++ cs.drop 2) := by
  obtain ⟨_, _, _, rfl, h2, s2⟩ := st36_openO h
  exact st36_mkO (x := {x with n := y}) (h2.mono fun b hb => .inl (s2 b hb))
theorem st36_u2 {H X : Hp} {F1 F2 : Foot} {x : Cell} {y : List UInt8} {A : Option Addr} {c : Nat} {cs : List Value} (hy : Row tByte 5 H X F2 A c y) (h : st36.O H X F1 x cs) : st36.O H X (or2 F1 F2) {x with text := y} (cs.take 2 ++ [.slice A y.length c] ++ cs.drop 3) := by
  obtain ⟨_, _, _, rfl, h2, _⟩ := st36_openO h
  exact st36_mkO (x := {x with text := y}) (hy.mono fun b hb => .inr hb)
def z36 : Cell := ⟨(0 : Int), (0 : Int), ([] : List UInt8)⟩
theorem z36_O (H X : Hp) : st36.O H X no z36 [.int .i64 (0 : Int), .int .i64 (0 : Int), .slice none 0 0] := st36_mkO (x := z36) (Row.nil _ _ _ _ no)
theorem z36_R (H : Hp) : st36.R H z36 [.int .i64 (0 : Int), .int .i64 (0 : Int), .slice none 0 0] := st36_mkR (x := z36) (Nat.le_refl _) (Rd.nil _ _ _)
def laws_toByteS.l0 : Nat → (List UInt8) → Int → (List UInt8) → Option (List UInt8)
  | 0, _, _, _ => none
  | k29 + 1, x1, x17, x19 => (if x17 < (x1.length : Int) then (if 0 ≤ x17 then (if x17 < (((x1.length : Int)).toNat : Int) then (laws_toByteS.l0 k29 x1 (IntKind.i64.wrap (x17 + 1)) (x19.set ((x17).toNat) (x1.getD ((x17).toNat) (0 : UInt8)))) else none) else none) else some x19)
def laws_toByteS.f (k : Nat) (x1 : List UInt8) : Option (List UInt8) := (if 0 ≤ (x1.length : Int) then (if ((x1.length : Int)).toNat ≤ 281474976710656 then (laws_toByteS.l0 k x1 0 (List.replicate ((x1.length : Int)).toNat (0 : UInt8))) else none) else none)
theorem laws_toByteS.calls (k : Nat) (w : World) (H : Hp) (x1 : List UInt8) (A2 : Option Addr) (c3 : Nat) (h4 : Rd tByte H A2 x1) (l5 : x1.length ≤ c3) (S : Own [] H w) (r : List UInt8) (M : laws_toByteS.f k x1 = some r) :
    Calls Try.prog 42 #[.slice A2 x1.length c3] w (fun e e_w => ∃ (A_1 : Option Addr) (c_1 : Nat) (F_1 : Foot) (H_ : Hp), e = .returned (.slice A_1 r.length c_1) ∧ Row tByte 5 H_ (hp e_w) F_1 A_1 c_1 r ∧ St (anyOf []) H w [F_1] H_ e_w) := by
  rw [laws_toByteS.f] at M
  refine enter (l := [.slice A2 x1.length c3]) 22 Try.func42 rfl rfl rfl ?_
  have S0_ := S.st
  refine wp_seq ?_
  refine wp_region_lit ?_
  refine lv (d := 2) rfl rfl (by kernel_rfl) (e_assign (v := .slice none 0 0) rfl) ?_
  refine wpList_nil ?_
  refine then_n ?_
  refine wp_seq ?_
  refine wp_region_lit ?_
  refine lv (d := 5) rfl rfl (by kernel_rfl) (e_move (v := .slice A2 x1.length c3) (by kernel_rfl)) ?_
  refine lv (d := 6) rfl rfl (by kernel_rfl) (e_len (A := A2) (n := x1.length) (c := c3) Try.underlying32 (by kernel_rfl)) ?_
  obtain ⟨q6, M⟩ := chk M
  obtain ⟨q7, M⟩ := chk M
  refine lve (d := 7) rfl rfl (by kernel_rfl) (e_make (d := tByte) (k := .i64) (k2 := .i64) (n := (x1.length : Int)) (z := .int .u8 0) (zx := (0 : UInt8)) (bytes := 1) S0_ Try.underlying32 (by kernel_rfl) rfl (by decide) (fun _ => rfl) (by kernel_rfl) (by kernel_rfl) q6 (by omega) (by omega)) ?_
  rintro _ w8 ⟨A9, c10, F11, rfl, h12, S13, K14⟩
  refine lv (d := 3) rfl rfl (by kernel_rfl) (e_assign (v := .slice A9 (((x1.length : Int)).toNat) c10) (by kernel_rfl)) ?_
  refine wpList_nil ?_
  refine then_n ?_
  refine wp_seq ?_
  refine wp_seq ?_
  refine wp_region_lit ?_
  refine lv (d := 4) rfl rfl (by kernel_rfl) (e_assign (v := .int .i64 0) rfl) ?_
  refine wpList_nil ?_
  refine then_n ?_
  refine wp_block ?_
  refine wp_loop_g (fun k27 a28 w15 => ∃ (f16 : Nat → Value) (x17 : Int) (F18 : Foot) (x19 : List UInt8), a28 = mk 22 f16 ∧ f16 0 = .slice A2 x1.length c3 ∧ f16 3 = .slice A9 (((x1.length : Int)).toNat) c10 ∧ f16 4 = .int .i64 x17 ∧ Row tByte 5 H (hp w15) F18 A9 c10 x19 ∧ x19.length = ((x1.length : Int)).toNat ∧ St (anyOf []) H w [F18] H w15 ∧ laws_toByteS.l0 k27 x1 x17 x19 = some r) k ⟨_, 0, F11, (List.replicate ((x1.length : Int)).toNat (0 : UInt8)), rfl, (by kernel_rfl), (by kernel_rfl), (by kernel_rfl), h12, List.length_replicate, S13, M⟩ ?_
  clear M
  rintro k27 a28 w15 ⟨f16, x17, F18, x19, rfl, e21, e22, e23, h12, n20, S24, M⟩
  rcases k27 with _ | k29
  · rw [laws_toByteS.l0] at M
    cases M
  rw [laws_toByteS.l0] at M
  refine wp_seq ?_
  refine wp_seq ?_
  refine wp_region_lit ?_
  refine lv (d := 8) rfl rfl (by kernel_rfl) (e_move (v := .int .i64 x17) (by exact e23)) ?_
  refine lv (d := 9) rfl rfl (by kernel_rfl) (e_move (v := .slice A2 x1.length c3) (by exact e21)) ?_
  refine lv (d := 10) rfl rfl (by kernel_rfl) (e_len (A := A2) (n := x1.length) (c := c3) Try.underlying32 (by kernel_rfl)) ?_
  refine lv (d := 11) rfl rfl (by kernel_rfl) (e_lss (k := .i64) (a := x17) (b := (x1.length : Int)) (by kernel_rfl) (by kernel_rfl)) ?_
  refine wpList_nil ?_
  refine then_n ?_
  by_cases q30 : x17 < (x1.length : Int)
  · replace M := ifp q30 M
    refine cond_t rfl (bt q30 (by kernel_rfl)) ?_
    refine wp_skip ?_
    refine then_n ?_
    refine wp_seq ?_
    refine wp_block ?_
    refine wp_region_lit ?_
    refine lv (d := 14) rfl rfl (by kernel_rfl) (e_move (v := .slice A9 (((x1.length : Int)).toNat) c10) (by exact e22)) ?_
    refine lv (d := 15) rfl rfl (by kernel_rfl) (e_move (v := .int .i64 x17) (by exact e23)) ?_
    refine lv (d := 16) rfl rfl (by kernel_rfl) (e_move (v := .slice A2 x1.length c3) (by exact e21)) ?_
    refine lv (d := 17) rfl rfl (by kernel_rfl) (e_move (v := .int .i64 x17) (by exact e23)) ?_
    obtain ⟨q31, M⟩ := chk M
    obtain ⟨b32, o33, e34⟩ := Rd.addr h4 (show (x17).toNat < x1.length by omega)
    obtain ⟨y35, r36, k37⟩ := Rd.at h4 e34 (getD_some (0 : UInt8) (show (x17).toNat < x1.length by omega))
    obtain rfl := r36
    refine lv (d := 18) rfl rfl (by kernel_rfl) (e_indexAddr (b := b32) (off := o33) (n := x1.length) (c := c3) (sz := 1) (i := x17) (k := .i64) Try.underlying32 e34 (by kernel_rfl) (by kernel_rfl) (by kernel_rfl) q31 q30) ?_
    refine lv (d := 19) rfl rfl (by kernel_rfl) (e_load1 (ad := ⟨b32, o33 + (x17 : Int).toNat * 1, none⟩) (v := .int .u8 ((x1.getD ((x17).toNat) (0 : UInt8)).toNat : Int)) Try.underlying5 rfl (by kernel_rfl) (hpx (S24.inv.cell (k37 0 _ rfl)))) ?_
    obtain ⟨q38, M⟩ := chk M
    obtain ⟨b39, e41⟩ := Row.addr h12 (show (x17).toNat < x19.length by have : x19.length = ((x1.length : Int)).toNat := n20; omega)
    refine lv (d := 20) rfl rfl (by kernel_rfl) (e_indexAddr (b := b39) (off := 0) (n := ((x1.length : Int)).toNat) (c := c10) (sz := 1) (i := x17) (k := .i64) Try.underlying32 e41 (by kernel_rfl) (by kernel_rfl) (by kernel_rfl) q31 q38) ?_
    have S42 := S24.unit
    have S43 := S42.pull (F := F18) (Fr := [no]) 1 rfl rfl
    refine lse rfl rfl (by kernel_rfl) (e_setel (d := tByte) (b := b39) (i := (x17).toNat) (v := .int .u8 ((x1.getD ((x17).toNat) (0 : UInt8)).toNat : Int)) (vs := [.int .u8 ((x1.getD ((x17).toNat) (0 : UInt8)).toNat : Int)]) (yv := (x1.getD ((x17).toNat) (0 : UInt8))) S43 (by kernel_rfl) e41 (by kernel_rfl) rfl (by kernel_rfl) h12 (show (x17).toNat < x19.length by have : x19.length = ((x1.length : Int)).toNat := n20; omega) rfl) ?_
    rintro w44 ⟨F46, h45, S47, K48⟩
    clear h12
    refine wpList_nil ?_
    refine inb_n ?_
    refine then_n ?_
    refine wp_region_lit ?_
    refine lv (d := 12) rfl rfl (by kernel_rfl) (e_move (v := .int .i64 x17) (by exact e23)) ?_
    refine lv (d := 13) rfl rfl (by kernel_rfl) (e_add (k := .i64) (a := x17) (b := 1) (by kernel_rfl) rfl) ?_
    refine lv (d := 4) rfl rfl (by kernel_rfl) (e_assign (v := .int .i64 (IntKind.i64.wrap (x17 + 1))) (by kernel_rfl)) ?_
    refine wpList_nil ?_
    refine then_n ?_
    exact ⟨k29, (by omega), _, (IntKind.i64.wrap (x17 + 1)), F46, (x19.set ((x17).toNat) (x1.getD ((x17).toNat) (0 : UInt8))), rfl, (by exact e21), (by exact e22), (by kernel_rfl), h45, (List.length_set.trans n20), S47, M⟩
  replace M := ifn q30 M
  refine cond_f rfl (bf q30 (by kernel_rfl)) ?_
  refine wp_exit ?_
  refine then_e ?_
  refine then_e ?_
  refine inb_hit ?_
  refine then_n ?_
  refine wp_seq ?_
  refine wp_region_lit ?_
  refine lv (d := 21) rfl rfl (by kernel_rfl) (e_move (v := .slice A9 (((x1.length : Int)).toNat) c10) (by exact e22)) ?_
  refine lv (d := 2) rfl rfl (by kernel_rfl) (e_assign (v := .slice A9 (((x1.length : Int)).toNat) c10) (by kernel_rfl)) ?_
  refine wpList_nil ?_
  refine then_n ?_
  refine wp_ret ?_
  obtain rfl := Option.some.inj M
  exact ret1 rfl rfl  (show _ = .slice A9 (((x1.length : Int)).toNat) c10 from (by kernel_rfl)) ⟨A9, c10, F18, H, (by rw [(show x19.length = ((x1.length : Int)).toNat from n20)]), h12, S24⟩

/-! laws_toCell -/
def laws_toCell.f (k : Nat) (x1 : Cell) : Option Cell := ((laws_toByteS.f k x1.text).bind fun t29 => some (⟨x1.kind, x1.n, t29⟩ : Cell))
theorem laws_toCell.calls (k : Nat) (w : World) (H : Hp) (x1 : Cell) (A2 : Option Addr) (c3 : Nat) (h4 : Rd tByte H A2 x1.text) (l5 : x1.text.length ≤ c3) (S : Own [] H w) (r : Cell) (M : laws_toCell.f k x1 = some r) :
    Calls Try.prog 17 #[.agg #[.int .i64 x1.kind, .int .i64 x1.n, .slice A2 x1.text.length c3]] w (fun e e_w => ∃ (A_1 : Option Addr) (c_1 : Nat) (F_1 : Foot) (H_ : Hp), e = .returned (.agg #[.int .i64 r.kind, .int .i64 r.n, .slice A_1 r.text.length c_1]) ∧ Row tByte 5 H_ (hp e_w) F_1 A_1 c_1 r.text ∧ St (anyOf []) H w [F_1] H_ e_w) := by
  rw [laws_toCell.f] at M
  refine enter (l := [.agg #[.int .i64 x1.kind, .int .i64 x1.n, .slice A2 x1.text.length c3]]) 15 Try.func17 rfl rfl rfl ?_
  have S0_ := S.st
  refine wp_seq ?_
  refine wp_region_lit ?_
  refine lve (d := 1) rfl rfl (by kernel_rfl) (new_blk (v := fun g_ => .pointer (some ⟨g_, 0, none⟩)) (cs := #[.int .i64 x1.kind, .int .i64 x1.n, .slice A2 x1.text.length c3]) (t := 34) S0_ (by kernel_rfl)) ?_
  rintro _ w6 ⟨g7, rfl, b8, S9, K10⟩
  refine lve (d := 2) rfl rfl (by kernel_rfl) (new_blk (v := fun g_ => .pointer (some ⟨g_, 0, none⟩)) (cs := #[.int .i64 0, .int .i64 0, .slice none 0 0]) (t := 36) S9 (by kernel_rfl)) ?_
  rintro _ w11 ⟨g12, rfl, b13, S14, K15⟩
  replace b8 := K15.blk 0 rfl b8
  refine wpList_nil ?_
  refine then_n ?_
  refine wp_seq ?_
  refine wp_region_lit ?_
  refine lve (d := 3) rfl rfl (by kernel_rfl) (new_blk (v := fun g_ => .pointer (some ⟨g_, 0, none⟩)) (cs := #[.int .i64 0, .int .i64 0, .slice none 0 0]) (t := 36) S14 (by kernel_rfl)) ?_
  rintro _ w16 ⟨g17, rfl, b18, S19, K20⟩
  replace b13 := K20.blk 0 rfl b13
  replace b8 := K20.blk 1 rfl b8
  refine wpList_nil ?_
  refine then_n ?_
  refine wp_seq ?_
  refine wp_region_lit ?_
  refine lv (d := 4) rfl rfl (by kernel_rfl) (e_fieldAddr (b := g7) (off := 0) (o := 0) Try.underlying34 rfl rfl (sz := 1) (by kernel_rfl) (by decide) (by kernel_rfl)) ?_
  refine lv (d := 5) rfl rfl (by kernel_rfl) (e_load1 (ad := ⟨g7, 0 + 0, none⟩) (v := .int .i64 x1.kind) Try.underlying3 rfl (by kernel_rfl) (blk_cell b8 rfl)) ?_
  refine lv (d := 6) rfl rfl (by kernel_rfl) (e_fieldAddr (b := g17) (off := 0) (o := 0) Try.underlying36 rfl rfl (sz := 1) (by kernel_rfl) (by decide) (by kernel_rfl)) ?_
  refine lse rfl rfl (by kernel_rfl) (e_store (g := g17) (o := 0 + 0) (v := .int .i64 x1.kind) (cur' := #[.int .i64 x1.kind, .int .i64 0, .slice none 0 0]) (vs := [.int .i64 x1.kind]) S19 (by kernel_rfl) (by kernel_rfl) rfl (by kernel_rfl) b18 (Nat.le_of_ble_eq_true rfl) (List.forall_mem_cons.2 ⟨rfl, (fun _ h_ => by cases h_)⟩) rfl) ?_
  rintro w21 ⟨b22, S23, K24⟩
  replace b13 := K24.blk 0 rfl b13
  replace b8 := K24.blk 1 rfl b8
  clear b18
  refine wpList_nil ?_
  refine then_n ?_
  refine wp_seq ?_
  refine wp_region_lit ?_
  refine lv (d := 7) rfl rfl (by kernel_rfl) (e_fieldAddr (b := g7) (off := 0) (o := 1) Try.underlying34 rfl rfl (sz := 1) (by kernel_rfl) (by decide) (by kernel_rfl)) ?_
  refine lv (d := 8) rfl rfl (by kernel_rfl) (e_load1 (ad := ⟨g7, 0 + 1, none⟩) (v := .int .i64 x1.n) Try.underlying3 rfl (by kernel_rfl) (blk_cell b8 rfl)) ?_
  refine lv (d := 9) rfl rfl (by kernel_rfl) (e_fieldAddr (b := g17) (off := 0) (o := 1) Try.underlying36 rfl rfl (sz := 1) (by kernel_rfl) (by decide) (by kernel_rfl)) ?_
  refine lse rfl rfl (by kernel_rfl) (e_store (g := g17) (o := 0 + 1) (v := .int .i64 x1.n) (cur' := #[.int .i64 x1.kind, .int .i64 x1.n, .slice none 0 0]) (vs := [.int .i64 x1.n]) S23 (by kernel_rfl) (by kernel_rfl) rfl (by kernel_rfl) b22 (Nat.le_of_ble_eq_true rfl) (List.forall_mem_cons.2 ⟨rfl, (fun _ h_ => by cases h_)⟩) rfl) ?_
  rintro w25 ⟨b26, S27, K28⟩
  replace b13 := K28.blk 0 rfl b13
  replace b8 := K28.blk 1 rfl b8
  clear b22
  refine wpList_nil ?_
  refine then_n ?_
  refine wp_seq ?_
  refine wp_region_lit ?_
  refine lv (d := 10) rfl rfl (by kernel_rfl) (e_fieldAddr (b := g7) (off := 0) (o := 2) Try.underlying34 rfl rfl (sz := 1) (by kernel_rfl) (by decide) (by kernel_rfl)) ?_
  refine lv (d := 11) rfl rfl (by kernel_rfl) (e_load1 (ad := ⟨g7, 0 + 2, none⟩) (v := .slice A2 x1.text.length c3) Try.underlying32 rfl (by kernel_rfl) (blk_cell b8 rfl)) ?_
  obtain ⟨t29, u30, M⟩ := bnd M
  refine lcall (d := 12) rfl rfl (by kernel_rfl) (e_call (l := [.tmp 11]) (vs := [.slice A2 x1.text.length c3]) Try.func42 (by kernel_rfl) rfl (by kernel_rfl) rfl) (laws_toByteS.calls k w25 H x1.text A2 c3 h4 l5 (St.own' (Fa := []) (Fr := [(is g17), (is g12), (is g7)]) S27) t29 u30) ?_
  rintro _ w31 ⟨A34, c35, F37, H32, rfl, h36, T33⟩
  refine ⟨_, rfl, ?_⟩
  obtain ⟨S38, K39⟩ := St.call (Fa := []) (Fr := [(is g17), (is g12), (is g7)]) S27 T33
  replace b26 := K39.blk 0 rfl b26
  replace b13 := K39.blk 1 rfl b13
  replace b8 := K39.blk 2 rfl b8
  have E40 := T33.ext
  refine lv (d := 13) rfl rfl (by kernel_rfl) (e_fieldAddr (b := g17) (off := 0) (o := 2) Try.underlying36 rfl rfl (sz := 1) (by kernel_rfl) (by decide) (by kernel_rfl)) ?_
  have S41 := S38.pull (F := (is g17)) (Fr := [F37, (is g12), (is g7)]) 1 rfl rfl
  refine lse rfl rfl (by kernel_rfl) (e_store (g := g17) (o := 0 + 2) (v := .slice A34 t29.length c35) (cur' := #[.int .i64 x1.kind, .int .i64 x1.n, .slice A34 t29.length c35]) (vs := [.slice A34 t29.length c35]) S41 (by kernel_rfl) (by kernel_rfl) rfl (by kernel_rfl) b26 (Nat.le_of_ble_eq_true rfl) (List.forall_mem_cons.2 ⟨rfl, (fun _ h_ => by cases h_)⟩) rfl) ?_
  rintro w42 ⟨b43, S44, K45⟩
  replace h36 := h36.move (K45.at 0 rfl)
  replace b13 := K45.blk 1 rfl b13
  replace b8 := K45.blk 2 rfl b8
  clear b26
  refine wpList_nil ?_
  refine then_n ?_
  refine wp_seq ?_
  refine wp_region_lit ?_
  refine lv (d := 14) rfl rfl (by kernel_rfl) (e_loadS (b := g17) (off := 0) (cs := [.int .i64 x1.kind, .int .i64 x1.n, .slice A34 t29.length c35]) Try.underlying36 rfl (by kernel_rfl) (by kernel_rfl) (blk_cells b43 rfl)) ?_
  have S46 := S44.pull (F := (is g12)) (Fr := [(is g17), F37, (is g7)]) 2 rfl rfl
  refine lse rfl rfl (by kernel_rfl) (e_store (g := g12) (o := 0) (v := .agg #[.int .i64 x1.kind, .int .i64 x1.n, .slice A34 t29.length c35]) (cur' := #[.int .i64 x1.kind, .int .i64 x1.n, .slice A34 t29.length c35]) (vs := [.int .i64 x1.kind, .int .i64 x1.n, .slice A34 t29.length c35]) S46 (by kernel_rfl) (by kernel_rfl) rfl (by kernel_rfl) b13 (Nat.le_of_ble_eq_true rfl) (List.forall_mem_cons.2 ⟨rfl, (List.forall_mem_cons.2 ⟨rfl, (List.forall_mem_cons.2 ⟨rfl, (fun _ h_ => by cases h_)⟩)⟩)⟩) rfl) ?_
  rintro w47 ⟨b48, S49, K50⟩
  replace b43 := K50.blk 0 rfl b43
  replace h36 := h36.move (K50.at 1 rfl)
  replace b8 := K50.blk 2 rfl b8
  clear b13
  refine wpList_nil ?_
  refine then_n ?_
  refine wp_ret ?_
  obtain rfl := Option.some.inj M
  have S51 := S49.pull (F := F37) (Fr := [(is g12), (is g17), (is g7)]) 2 rfl rfl
  have S52 := St.first (Fa := [F37]) (Fr := [(is g12), (is g17), (is g7)]) S51
  exact retS (ty := 36) (cur := #[.int .i64 x1.kind, .int .i64 x1.n, .slice A34 t29.length c35]) rfl rfl (by kernel_rfl) b48 Try.underlying36 rfl (by kernel_rfl) ⟨A34, c35, F37, H32, rfl, h36, S52⟩

/-! laws_toCellS -/
def laws_toCellS.l0 : Nat → (List Cell) → Int → (List Cell) → Option (List Cell)
  | 0, _, _, _ => none
  | k31 + 1, x1, x19, x21 => (if x19 < (x1.length : Int) then (if 0 ≤ x19 then ((laws_toCell.f k31 (x1.getD ((x19).toNat) z34)).bind fun t44 => (if x19 < (((x1.length : Int)).toNat : Int) then (laws_toCellS.l0 k31 x1 (IntKind.i64.wrap (x19 + 1)) (x21.set ((x19).toNat) t44)) else none)) else none) else some x21)
def laws_toCellS.f (k : Nat) (x1 : List Cell) : Option (List Cell) := (if 0 ≤ (x1.length : Int) then (if ((x1.length : Int)).toNat ≤ 7036874417766 then (laws_toCellS.l0 k x1 0 (List.replicate ((x1.length : Int)).toNat z36)) else none) else none)
theorem laws_toCellS.calls (k : Nat) (w : World) (H : Hp) (x1 : List Cell) (A2 : Option Addr) (c3 : Nat) (h4 : Rd st34 H A2 x1) (l5 : x1.length ≤ c3) (S : Own [] H w) (r : List Cell) (M : laws_toCellS.f k x1 = some r) :
    Calls Try.prog 7 #[.slice A2 x1.length c3] w (fun e e_w => ∃ (A_1 : Option Addr) (c_1 : Nat) (F_1 : Foot) (H_ : Hp), e = .returned (.slice A_1 r.length c_1) ∧ Row st36 36 H_ (hp e_w) F_1 A_1 c_1 r ∧ St (anyOf []) H w [F_1] H_ e_w) := by
  rw [laws_toCellS.f] at M
  refine enter (l := [.slice A2 x1.length c3]) 23 Try.func7 rfl rfl rfl ?_
  have S0_ := S.st
  refine wp_seq ?_
  refine wp_region_lit ?_
  refine lv (d := 2) rfl rfl (by kernel_rfl) (e_assign (v := .slice none 0 0) rfl) ?_
  refine wpList_nil ?_
  refine then_n ?_
  refine wp_seq ?_
  refine wp_region_lit ?_
  refine lv (d := 5) rfl rfl (by kernel_rfl) (e_move (v := .slice A2 x1.length c3) (by kernel_rfl)) ?_
  refine lv (d := 6) rfl rfl (by kernel_rfl) (e_len (A := A2) (n := x1.length) (c := c3) Try.underlying22 (by kernel_rfl)) ?_
  obtain ⟨q6, M⟩ := chk M
  obtain ⟨q7, M⟩ := chk M
  refine lve (d := 7) rfl rfl (by kernel_rfl) (e_make (d := st36) (k := .i64) (k2 := .i64) (n := (x1.length : Int)) (z := .agg #[.int .i64 0, .int .i64 0, .slice none 0 0]) (zx := z36) (bytes := 40) S0_ Try.underlying24 (by kernel_rfl) rfl (by decide) (z36_O _) (by kernel_rfl) (by kernel_rfl) q6 (by omega) (by omega)) ?_
  rintro _ w8 ⟨A9, c10, F11, rfl, h12, S13, K14⟩
  refine lv (d := 3) rfl rfl (by kernel_rfl) (e_assign (v := .slice A9 (((x1.length : Int)).toNat) c10) (by kernel_rfl)) ?_
  refine wpList_nil ?_
  refine then_n ?_
  refine wp_seq ?_
  refine wp_seq ?_
  refine wp_region_lit ?_
  refine lv (d := 4) rfl rfl (by kernel_rfl) (e_assign (v := .int .i64 0) rfl) ?_
  refine wpList_nil ?_
  refine then_n ?_
  refine wp_block ?_
  refine wp_loop_g (fun k29 a30 w15 => ∃ (f16 : Nat → Value) (H17 : Hp) (x19 : Int) (F20 : Foot) (x21 : List Cell), a30 = mk 23 f16 ∧ f16 0 = .slice A2 x1.length c3 ∧ f16 3 = .slice A9 (((x1.length : Int)).toNat) c10 ∧ f16 4 = .int .i64 x19 ∧ Row st36 36 H17 (hp w15) F20 A9 c10 x21 ∧ x21.length = ((x1.length : Int)).toNat ∧ Ext H H17 ∧ St (anyOf []) H w [F20] H17 w15 ∧ laws_toCellS.l0 k29 x1 x19 x21 = some r) k ⟨_, H, 0, F11, (List.replicate ((x1.length : Int)).toNat z36), rfl, (by kernel_rfl), (by kernel_rfl), (by kernel_rfl), h12, List.length_replicate, (Ext.refl _), S13, M⟩ ?_
  clear M
  rintro k29 a30 w15 ⟨f16, H17, x19, F20, x21, rfl, e23, e24, e25, h12, n22, Y18, S26, M⟩
  rcases k29 with _ | k31
  · rw [laws_toCellS.l0] at M
    cases M
  rw [laws_toCellS.l0] at M
  refine wp_seq ?_
  refine wp_seq ?_
  refine wp_region_lit ?_
  refine lv (d := 8) rfl rfl (by kernel_rfl) (e_move (v := .int .i64 x19) (by exact e25)) ?_
  refine lv (d := 9) rfl rfl (by kernel_rfl) (e_move (v := .slice A2 x1.length c3) (by exact e23)) ?_
  refine lv (d := 10) rfl rfl (by kernel_rfl) (e_len (A := A2) (n := x1.length) (c := c3) Try.underlying22 (by kernel_rfl)) ?_
  refine lv (d := 11) rfl rfl (by kernel_rfl) (e_lss (k := .i64) (a := x19) (b := (x1.length : Int)) (by kernel_rfl) (by kernel_rfl)) ?_
  refine wpList_nil ?_
  refine then_n ?_
  by_cases q32 : x19 < (x1.length : Int)
  · replace M := ifp q32 M
    refine cond_t rfl (bt q32 (by kernel_rfl)) ?_
    refine wp_skip ?_
    refine then_n ?_
    refine wp_seq ?_
    refine wp_block ?_
    refine wp_region_lit ?_
    refine lv (d := 14) rfl rfl (by kernel_rfl) (e_move (v := .slice A9 (((x1.length : Int)).toNat) c10) (by exact e24)) ?_
    refine lv (d := 15) rfl rfl (by kernel_rfl) (e_move (v := .int .i64 x19) (by exact e25)) ?_
    refine lv (d := 16) rfl rfl (by kernel_rfl) (e_move (v := .slice A2 x1.length c3) (by exact e23)) ?_
    refine lv (d := 17) rfl rfl (by kernel_rfl) (e_move (v := .int .i64 x19) (by exact e25)) ?_
    obtain ⟨q33, M⟩ := chk M
    obtain ⟨b34, o35, e36⟩ := Rd.addr h4 (show (x19).toNat < x1.length by omega)
    obtain ⟨y37, r38, k39⟩ := Rd.at h4 e36 (getD_some z34 (show (x19).toNat < x1.length by omega))
    obtain ⟨A40, c41, rfl, l42, h43⟩ := st34_open r38
    refine lv (d := 18) rfl rfl (by kernel_rfl) (e_indexAddr (b := b34) (off := o35) (n := x1.length) (c := c3) (sz := 3) (i := x19) (k := .i64) Try.underlying22 e36 (by kernel_rfl) (by kernel_rfl) (by kernel_rfl) q33 q32) ?_
    refine lv (d := 19) rfl rfl (by kernel_rfl) (e_loadS (b := b34) (off := o35 + (x19 : Int).toNat * 3) (cs := [.int .i64 ((x1.getD ((x19).toNat) z34).kind), .int .i64 ((x1.getD ((x19).toNat) z34).n), .slice A40 ((x1.getD ((x19).toNat) z34).text).length c41]) Try.underlying34 rfl (by kernel_rfl) (by kernel_rfl) (fun j_ u_ e_ => (hpx (S26.inv.cell (Y18.cell (k39 j_ u_ e_)))))) ?_
    obtain ⟨t44, u45, M⟩ := bnd M
    refine lcall (d := 20) rfl rfl (by kernel_rfl) (e_call (l := [.tmp 19]) (vs := [.agg #[.int .i64 ((x1.getD ((x19).toNat) z34).kind), .int .i64 ((x1.getD ((x19).toNat) z34).n), .slice A40 ((x1.getD ((x19).toNat) z34).text).length c41]]) Try.func17 (by kernel_rfl) rfl (by kernel_rfl) rfl) (laws_toCell.calls k31 w15 H17 (x1.getD ((x19).toNat) z34) A40 c41 (h43.ext Y18) l42 (St.own' (Fa := []) (Fr := [F20]) S26) t44 u45) ?_
    rintro _ w46 ⟨A49, c50, F52, H47, rfl, h51, T48⟩
    refine ⟨_, rfl, ?_⟩
    obtain ⟨S53, K54⟩ := St.call (Fa := []) (Fr := [F20]) S26 T48
    replace h12 := h12.move (K54.at 0 rfl)
    have E55 := T48.ext
    replace h12 := h12.ext E55
    obtain ⟨q56, M⟩ := chk M
    obtain ⟨b57, e59⟩ := Row.addr h12 (show (x19).toNat < x21.length by have : x21.length = ((x1.length : Int)).toNat := n22; omega)
    refine lv (d := 21) rfl rfl (by kernel_rfl) (e_indexAddr (b := b57) (off := 0) (n := ((x1.length : Int)).toNat) (c := c10) (sz := 3) (i := x19) (k := .i64) Try.underlying24 e59 (by kernel_rfl) (by kernel_rfl) (by kernel_rfl) q33 q56) ?_
    have S60 := S53.pull (F := F20) (Fr := [F52]) 1 rfl rfl
    refine lse rfl rfl (by kernel_rfl) (e_setel (d := st36) (b := b57) (i := (x19).toNat) (v := .agg #[.int .i64 t44.kind, .int .i64 t44.n, .slice A49 t44.text.length c50]) (vs := [.int .i64 t44.kind, .int .i64 t44.n, .slice A49 t44.text.length c50]) (yv := t44) S60 (by kernel_rfl) e59 (by kernel_rfl) rfl (by kernel_rfl) h12 (show (x19).toNat < x21.length by have : x21.length = ((x1.length : Int)).toNat := n22; omega) (st36_mkO (x := t44) h51)) ?_
    rintro w61 ⟨F63, h62, S64, K65⟩
    clear h12
    refine wpList_nil ?_
    refine inb_n ?_
    refine then_n ?_
    refine wp_region_lit ?_
    refine lv (d := 12) rfl rfl (by kernel_rfl) (e_move (v := .int .i64 x19) (by exact e25)) ?_
    refine lv (d := 13) rfl rfl (by kernel_rfl) (e_add (k := .i64) (a := x19) (b := 1) (by kernel_rfl) rfl) ?_
    refine lv (d := 4) rfl rfl (by kernel_rfl) (e_assign (v := .int .i64 (IntKind.i64.wrap (x19 + 1))) (by kernel_rfl)) ?_
    refine wpList_nil ?_
    refine then_n ?_
    exact ⟨k31, (by omega), _, H47, (IntKind.i64.wrap (x19 + 1)), F63, (x21.set ((x19).toNat) t44), rfl, (by exact e23), (by exact e24), (by kernel_rfl), h62, (List.length_set.trans n22), (Y18.trans E55), S64, M⟩
  replace M := ifn q32 M
  refine cond_f rfl (bf q32 (by kernel_rfl)) ?_
  refine wp_exit ?_
  refine then_e ?_
  refine then_e ?_
  refine inb_hit ?_
  refine then_n ?_
  refine wp_seq ?_
  refine wp_region_lit ?_
  refine lv (d := 22) rfl rfl (by kernel_rfl) (e_move (v := .slice A9 (((x1.length : Int)).toNat) c10) (by exact e24)) ?_
  refine lv (d := 2) rfl rfl (by kernel_rfl) (e_assign (v := .slice A9 (((x1.length : Int)).toNat) c10) (by kernel_rfl)) ?_
  refine wpList_nil ?_
  refine then_n ?_
  refine wp_ret ?_
  obtain rfl := Option.some.inj M
  exact ret1 rfl rfl  (show _ = .slice A9 (((x1.length : Int)).toNat) c10 from (by kernel_rfl)) ⟨A9, c10, F20, H17, (by rw [(show x21.length = ((x1.length : Int)).toNat from n22)]), h12, S26⟩

/-! spec_l2cell -/
def spec_l2cell.f (x1 : Cell) : Option Bool := (if x1.kind = 0 then (if x1.n ≥ 0 then (if x1.n ≤ 1000000 then some (decide ((x1.text.length : Int) = 0)) else some false) else some false) else (if x1.kind = 1 then (if x1.n ≥ (-1000000000000000) then (if x1.n ≤ 1000000000000000 then some (decide ((x1.text.length : Int) = 0)) else some false) else some false) else (if (x1.text.length : Int) > 100 then some false else (if x1.kind = 2 then some (decide (x1.n = 0)) else (if x1.kind = 3 then (if x1.n ≥ 1 then some (decide (x1.n ≤ 20)) else some false) else some false)))))
theorem spec_l2cell.calls (w : World) (H : Hp) (x1 : Cell) (A2 : Option Addr) (c3 : Nat) (h4 : Rd tByte H A2 x1.text) (l5 : x1.text.length ≤ c3) (S : Own [] H w) (r : Bool) (M : spec_l2cell.f x1 = some r) :
    Calls Try.prog 36 #[.agg #[.int .i64 x1.kind, .int .i64 x1.n, .slice A2 x1.text.length c3]] w (fun e e_w => e = .returned (.bool r) ∧ Chg no w e_w) := by
  rw [spec_l2cell.f] at M
  refine enter (l := [.agg #[.int .i64 x1.kind, .int .i64 x1.n, .slice A2 x1.text.length c3]]) 60 Try.func36 rfl rfl rfl ?_
  have S0_ := S.st
  refine wp_seq ?_
  refine wp_region_lit ?_
  refine lve (d := 1) rfl rfl (by kernel_rfl) (new_blk (v := fun g_ => .pointer (some ⟨g_, 0, none⟩)) (cs := #[.int .i64 x1.kind, .int .i64 x1.n, .slice A2 x1.text.length c3]) (t := 36) S0_ (by kernel_rfl)) ?_
  rintro _ w6 ⟨g7, rfl, b8, S9, K10⟩
  refine lv (d := 2) rfl rfl (by kernel_rfl) (e_assign (v := .bool false) rfl) ?_
  refine wpList_nil ?_
  refine then_n ?_
  refine wp_seq ?_
  refine wp_seq ?_
  refine wp_region_lit ?_
  refine lv (d := 3) rfl rfl (by kernel_rfl) (e_fieldAddr (b := g7) (off := 0) (o := 0) Try.underlying36 rfl rfl (sz := 1) (by kernel_rfl) (by decide) (by kernel_rfl)) ?_
  refine lv (d := 4) rfl rfl (by kernel_rfl) (e_load1 (ad := ⟨g7, 0 + 0, none⟩) (v := .int .i64 x1.kind) Try.underlying3 rfl (by kernel_rfl) (blk_cell b8 rfl)) ?_
  refine lv (d := 5) rfl rfl (by kernel_rfl) (e_eql (k := .i64) (a := x1.kind) (b := 0) (by kernel_rfl) rfl) ?_
  refine wpList_nil ?_
  refine then_n ?_
  by_cases q11 : x1.kind = 0
  · replace M := ifp q11 M
    refine cond_t rfl (bt q11 (by kernel_rfl)) ?_
    refine wp_seq ?_
    refine wp_region_lit ?_
    refine lv (d := 6) rfl rfl (by kernel_rfl) (e_fieldAddr (b := g7) (off := 0) (o := 1) Try.underlying36 rfl rfl (sz := 1) (by kernel_rfl) (by decide) (by kernel_rfl)) ?_
    refine lv (d := 7) rfl rfl (by kernel_rfl) (e_load1 (ad := ⟨g7, 0 + 1, none⟩) (v := .int .i64 x1.n) Try.underlying3 rfl (by kernel_rfl) (blk_cell b8 rfl)) ?_
    refine lv (d := 8) rfl rfl (by kernel_rfl) (e_geq (k := .i64) (a := x1.n) (b := 0) (by kernel_rfl) rfl) ?_
    refine lv (d := 9) rfl rfl (by kernel_rfl) (e_move (v := .bool (decide (x1.n ≥ 0))) (by kernel_rfl)) ?_
    by_cases q12 : x1.n ≥ 0
    · replace M := ifp q12 M
      refine lvg (d := 10) (t := 9) rfl (by kernel_rfl) rfl (bt q12 (by kernel_rfl)) rfl (by kernel_rfl) (e_fieldAddr (b := g7) (off := 0) (o := 1) Try.underlying36 rfl rfl (sz := 1) (by kernel_rfl) (by decide) (by kernel_rfl)) ?_
      refine lvg (d := 11) (t := 9) rfl (by kernel_rfl) rfl (bt q12 (by kernel_rfl)) rfl (by kernel_rfl) (e_load1 (ad := ⟨g7, 0 + 1, none⟩) (v := .int .i64 x1.n) Try.underlying3 rfl (by kernel_rfl) (blk_cell b8 rfl)) ?_
      refine lvg (d := 12) (t := 9) rfl (by kernel_rfl) rfl (bt q12 (by kernel_rfl)) rfl (by kernel_rfl) (e_leq (k := .i64) (a := x1.n) (b := 1000000) (by kernel_rfl) rfl) ?_
      refine lv (d := 13) rfl rfl (by kernel_rfl) (e_pick_t (v := .bool (decide (x1.n ≤ 1000000))) (bt q12 (by kernel_rfl)) (by kernel_rfl)) ?_
      refine lv (d := 14) rfl rfl (by kernel_rfl) (e_move (v := .bool (decide (x1.n ≤ 1000000))) (by kernel_rfl)) ?_
      by_cases q13 : x1.n ≤ 1000000
      · replace M := ifp q13 M
        refine lvg (d := 15) (t := 14) rfl (by kernel_rfl) rfl (bt q13 (by kernel_rfl)) rfl (by kernel_rfl) (e_fieldAddr (b := g7) (off := 0) (o := 2) Try.underlying36 rfl rfl (sz := 1) (by kernel_rfl) (by decide) (by kernel_rfl)) ?_
        refine lvg (d := 16) (t := 14) rfl (by kernel_rfl) rfl (bt q13 (by kernel_rfl)) rfl (by kernel_rfl) (e_load1 (ad := ⟨g7, 0 + 2, none⟩) (v := .slice A2 x1.text.length c3) Try.underlying32 rfl (by kernel_rfl) (blk_cell b8 rfl)) ?_
        refine lvg (d := 17) (t := 14) rfl (by kernel_rfl) rfl (bt q13 (by kernel_rfl)) rfl (by kernel_rfl) (e_len (A := A2) (n := x1.text.length) (c := c3) Try.underlying32 (by kernel_rfl)) ?_
        refine lvg (d := 18) (t := 14) rfl (by kernel_rfl) rfl (bt q13 (by kernel_rfl)) rfl (by kernel_rfl) (e_eql (k := .i64) (a := (x1.text.length : Int)) (b := 0) (by kernel_rfl) rfl) ?_
        refine lv (d := 19) rfl rfl (by kernel_rfl) (e_pick_t (v := .bool (decide ((x1.text.length : Int) = 0))) (bt q13 (by kernel_rfl)) (by kernel_rfl)) ?_
        refine lv (d := 2) rfl rfl (by kernel_rfl) (e_assign (v := .bool (decide ((x1.text.length : Int) = 0))) (by kernel_rfl)) ?_
        refine wpList_nil ?_
        refine then_n ?_
        refine wp_ret ?_
        refine then_r ?_
        obtain rfl := Option.some.inj M
        exact ret1 rfl rfl  (show _ = .bool (decide ((x1.text.length : Int) = 0)) from (by kernel_rfl)) ⟨rfl, S9.chg⟩
      replace M := ifn q13 M
      refine lskip (t := 14) (c := false) rfl (by kernel_rfl) rfl (bf q13 (by kernel_rfl)) rfl rfl ?_
      refine lskip (t := 14) (c := false) rfl (by kernel_rfl) rfl (bf q13 (by kernel_rfl)) rfl rfl ?_
      refine lskip (t := 14) (c := false) rfl (by kernel_rfl) rfl (bf q13 (by kernel_rfl)) rfl rfl ?_
      refine lskip (t := 14) (c := false) rfl (by kernel_rfl) rfl (bf q13 (by kernel_rfl)) rfl rfl ?_
      refine lv (d := 19) rfl rfl (by kernel_rfl) (e_pick_f (v := .bool false) (bf q13 (by kernel_rfl)) rfl) ?_
      refine lv (d := 2) rfl rfl (by kernel_rfl) (e_assign (v := .bool false) (by kernel_rfl)) ?_
      refine wpList_nil ?_
      refine then_n ?_
      refine wp_ret ?_
      refine then_r ?_
      obtain rfl := Option.some.inj M
      exact ret1 rfl rfl  (show _ = .bool false from (by kernel_rfl)) ⟨rfl, S9.chg⟩
    replace M := ifn q12 M
    refine lskip (t := 9) (c := false) rfl (by kernel_rfl) rfl (bf q12 (by kernel_rfl)) rfl rfl ?_
    refine lskip (t := 9) (c := false) rfl (by kernel_rfl) rfl (bf q12 (by kernel_rfl)) rfl rfl ?_
    refine lskip (t := 9) (c := false) rfl (by kernel_rfl) rfl (bf q12 (by kernel_rfl)) rfl rfl ?_
    refine lv (d := 13) rfl rfl (by kernel_rfl) (e_pick_f (v := .bool false) (bf q12 (by kernel_rfl)) rfl) ?_
    refine lv (d := 14) rfl rfl (by kernel_rfl) (e_move (v := .bool false) (by kernel_rfl)) ?_
    refine lskip (t := 14) (c := false) rfl (by kernel_rfl) rfl (by kernel_rfl) rfl rfl ?_
    refine lskip (t := 14) (c := false) rfl (by kernel_rfl) rfl (by kernel_rfl) rfl rfl ?_
    refine lskip (t := 14) (c := false) rfl (by kernel_rfl) rfl (by kernel_rfl) rfl rfl ?_
    refine lskip (t := 14) (c := false) rfl (by kernel_rfl) rfl (by kernel_rfl) rfl rfl ?_
    refine lv (d := 19) rfl rfl (by kernel_rfl) (e_pick_f (v := .bool false) (by kernel_rfl) rfl) ?_
    refine lv (d := 2) rfl rfl (by kernel_rfl) (e_assign (v := .bool false) (by kernel_rfl)) ?_
    refine wpList_nil ?_
    refine then_n ?_
    refine wp_ret ?_
    refine then_r ?_
    obtain rfl := Option.some.inj M
    exact ret1 rfl rfl  (show _ = .bool false from (by kernel_rfl)) ⟨rfl, S9.chg⟩
  replace M := ifn q11 M
  refine cond_f rfl (bf q11 (by kernel_rfl)) ?_
  refine wp_skip ?_
  refine then_n ?_
  refine wp_seq ?_
  refine wp_seq ?_
  refine wp_region_lit ?_
  refine lv (d := 20) rfl rfl (by kernel_rfl) (e_fieldAddr (b := g7) (off := 0) (o := 0) Try.underlying36 rfl rfl (sz := 1) (by kernel_rfl) (by decide) (by kernel_rfl)) ?_
  refine lv (d := 21) rfl rfl (by kernel_rfl) (e_load1 (ad := ⟨g7, 0 + 0, none⟩) (v := .int .i64 x1.kind) Try.underlying3 rfl (by kernel_rfl) (blk_cell b8 rfl)) ?_
  refine lv (d := 22) rfl rfl (by kernel_rfl) (e_eql (k := .i64) (a := x1.kind) (b := 1) (by kernel_rfl) rfl) ?_
  refine wpList_nil ?_
  refine then_n ?_
  by_cases q14 : x1.kind = 1
  · replace M := ifp q14 M
    refine cond_t rfl (bt q14 (by kernel_rfl)) ?_
    refine wp_seq ?_
    refine wp_region_lit ?_
    refine lv (d := 23) rfl rfl (by kernel_rfl) (e_fieldAddr (b := g7) (off := 0) (o := 1) Try.underlying36 rfl rfl (sz := 1) (by kernel_rfl) (by decide) (by kernel_rfl)) ?_
    refine lv (d := 24) rfl rfl (by kernel_rfl) (e_load1 (ad := ⟨g7, 0 + 1, none⟩) (v := .int .i64 x1.n) Try.underlying3 rfl (by kernel_rfl) (blk_cell b8 rfl)) ?_
    refine lv (d := 25) rfl rfl (by kernel_rfl) (e_geq (k := .i64) (a := x1.n) (b := (-1000000000000000)) (by kernel_rfl) rfl) ?_
    refine lv (d := 26) rfl rfl (by kernel_rfl) (e_move (v := .bool (decide (x1.n ≥ (-1000000000000000)))) (by kernel_rfl)) ?_
    by_cases q15 : x1.n ≥ (-1000000000000000)
    · replace M := ifp q15 M
      refine lvg (d := 27) (t := 26) rfl (by kernel_rfl) rfl (bt q15 (by kernel_rfl)) rfl (by kernel_rfl) (e_fieldAddr (b := g7) (off := 0) (o := 1) Try.underlying36 rfl rfl (sz := 1) (by kernel_rfl) (by decide) (by kernel_rfl)) ?_
      refine lvg (d := 28) (t := 26) rfl (by kernel_rfl) rfl (bt q15 (by kernel_rfl)) rfl (by kernel_rfl) (e_load1 (ad := ⟨g7, 0 + 1, none⟩) (v := .int .i64 x1.n) Try.underlying3 rfl (by kernel_rfl) (blk_cell b8 rfl)) ?_
      refine lvg (d := 29) (t := 26) rfl (by kernel_rfl) rfl (bt q15 (by kernel_rfl)) rfl (by kernel_rfl) (e_leq (k := .i64) (a := x1.n) (b := 1000000000000000) (by kernel_rfl) rfl) ?_
      refine lv (d := 30) rfl rfl (by kernel_rfl) (e_pick_t (v := .bool (decide (x1.n ≤ 1000000000000000))) (bt q15 (by kernel_rfl)) (by kernel_rfl)) ?_
      refine lv (d := 31) rfl rfl (by kernel_rfl) (e_move (v := .bool (decide (x1.n ≤ 1000000000000000))) (by kernel_rfl)) ?_
      by_cases q16 : x1.n ≤ 1000000000000000
      · replace M := ifp q16 M
        refine lvg (d := 32) (t := 31) rfl (by kernel_rfl) rfl (bt q16 (by kernel_rfl)) rfl (by kernel_rfl) (e_fieldAddr (b := g7) (off := 0) (o := 2) Try.underlying36 rfl rfl (sz := 1) (by kernel_rfl) (by decide) (by kernel_rfl)) ?_
        refine lvg (d := 33) (t := 31) rfl (by kernel_rfl) rfl (bt q16 (by kernel_rfl)) rfl (by kernel_rfl) (e_load1 (ad := ⟨g7, 0 + 2, none⟩) (v := .slice A2 x1.text.length c3) Try.underlying32 rfl (by kernel_rfl) (blk_cell b8 rfl)) ?_
        refine lvg (d := 34) (t := 31) rfl (by kernel_rfl) rfl (bt q16 (by kernel_rfl)) rfl (by kernel_rfl) (e_len (A := A2) (n := x1.text.length) (c := c3) Try.underlying32 (by kernel_rfl)) ?_
        refine lvg (d := 35) (t := 31) rfl (by kernel_rfl) rfl (bt q16 (by kernel_rfl)) rfl (by kernel_rfl) (e_eql (k := .i64) (a := (x1.text.length : Int)) (b := 0) (by kernel_rfl) rfl) ?_
        refine lv (d := 36) rfl rfl (by kernel_rfl) (e_pick_t (v := .bool (decide ((x1.text.length : Int) = 0))) (bt q16 (by kernel_rfl)) (by kernel_rfl)) ?_
        refine lv (d := 2) rfl rfl (by kernel_rfl) (e_assign (v := .bool (decide ((x1.text.length : Int) = 0))) (by kernel_rfl)) ?_
        refine wpList_nil ?_
        refine then_n ?_
        refine wp_ret ?_
        refine then_r ?_
        obtain rfl := Option.some.inj M
        exact ret1 rfl rfl  (show _ = .bool (decide ((x1.text.length : Int) = 0)) from (by kernel_rfl)) ⟨rfl, S9.chg⟩
      replace M := ifn q16 M
      refine lskip (t := 31) (c := false) rfl (by kernel_rfl) rfl (bf q16 (by kernel_rfl)) rfl rfl ?_
      refine lskip (t := 31) (c := false) rfl (by kernel_rfl) rfl (bf q16 (by kernel_rfl)) rfl rfl ?_
      refine lskip (t := 31) (c := false) rfl (by kernel_rfl) rfl (bf q16 (by kernel_rfl)) rfl rfl ?_
      refine lskip (t := 31) (c := false) rfl (by kernel_rfl) rfl (bf q16 (by kernel_rfl)) rfl rfl ?_
      refine lv (d := 36) rfl rfl (by kernel_rfl) (e_pick_f (v := .bool false) (bf q16 (by kernel_rfl)) rfl) ?_
      refine lv (d := 2) rfl rfl (by kernel_rfl) (e_assign (v := .bool false) (by kernel_rfl)) ?_
      refine wpList_nil ?_
      refine then_n ?_
      refine wp_ret ?_
      refine then_r ?_
      obtain rfl := Option.some.inj M
      exact ret1 rfl rfl  (show _ = .bool false from (by kernel_rfl)) ⟨rfl, S9.chg⟩
    replace M := ifn q15 M
    refine lskip (t := 26) (c := false) rfl (by kernel_rfl) rfl (bf q15 (by kernel_rfl)) rfl rfl ?_
    refine lskip (t := 26) (c := false) rfl (by kernel_rfl) rfl (bf q15 (by kernel_rfl)) rfl rfl ?_
    refine lskip (t := 26) (c := false) rfl (by kernel_rfl) rfl (bf q15 (by kernel_rfl)) rfl rfl ?_
    refine lv (d := 30) rfl rfl (by kernel_rfl) (e_pick_f (v := .bool false) (bf q15 (by kernel_rfl)) rfl) ?_
    refine lv (d := 31) rfl rfl (by kernel_rfl) (e_move (v := .bool false) (by kernel_rfl)) ?_
    refine lskip (t := 31) (c := false) rfl (by kernel_rfl) rfl (by kernel_rfl) rfl rfl ?_
    refine lskip (t := 31) (c := false) rfl (by kernel_rfl) rfl (by kernel_rfl) rfl rfl ?_
    refine lskip (t := 31) (c := false) rfl (by kernel_rfl) rfl (by kernel_rfl) rfl rfl ?_
    refine lskip (t := 31) (c := false) rfl (by kernel_rfl) rfl (by kernel_rfl) rfl rfl ?_
    refine lv (d := 36) rfl rfl (by kernel_rfl) (e_pick_f (v := .bool false) (by kernel_rfl) rfl) ?_
    refine lv (d := 2) rfl rfl (by kernel_rfl) (e_assign (v := .bool false) (by kernel_rfl)) ?_
    refine wpList_nil ?_
    refine then_n ?_
    refine wp_ret ?_
    refine then_r ?_
    obtain rfl := Option.some.inj M
    exact ret1 rfl rfl  (show _ = .bool false from (by kernel_rfl)) ⟨rfl, S9.chg⟩
  replace M := ifn q14 M
  refine cond_f rfl (bf q14 (by kernel_rfl)) ?_
  refine wp_skip ?_
  refine then_n ?_
  refine wp_seq ?_
  refine wp_seq ?_
  refine wp_region_lit ?_
  refine lv (d := 37) rfl rfl (by kernel_rfl) (e_fieldAddr (b := g7) (off := 0) (o := 2) Try.underlying36 rfl rfl (sz := 1) (by kernel_rfl) (by decide) (by kernel_rfl)) ?_
  refine lv (d := 38) rfl rfl (by kernel_rfl) (e_load1 (ad := ⟨g7, 0 + 2, none⟩) (v := .slice A2 x1.text.length c3) Try.underlying32 rfl (by kernel_rfl) (blk_cell b8 rfl)) ?_
  refine lv (d := 39) rfl rfl (by kernel_rfl) (e_len (A := A2) (n := x1.text.length) (c := c3) Try.underlying32 (by kernel_rfl)) ?_
  refine lv (d := 40) rfl rfl (by kernel_rfl) (e_gtr (k := .i64) (a := (x1.text.length : Int)) (b := 100) (by kernel_rfl) rfl) ?_
  refine wpList_nil ?_
  refine then_n ?_
  by_cases q17 : (x1.text.length : Int) > 100
  · replace M := ifp q17 M
    refine cond_t rfl (bt q17 (by kernel_rfl)) ?_
    refine wp_seq ?_
    refine wp_region_lit ?_
    refine lv (d := 2) rfl rfl (by kernel_rfl) (e_assign (v := .bool false) rfl) ?_
    refine wpList_nil ?_
    refine then_n ?_
    refine wp_ret ?_
    refine then_r ?_
    obtain rfl := Option.some.inj M
    exact ret1 rfl rfl  (show _ = .bool false from (by kernel_rfl)) ⟨rfl, S9.chg⟩
  replace M := ifn q17 M
  refine cond_f rfl (bf q17 (by kernel_rfl)) ?_
  refine wp_skip ?_
  refine then_n ?_
  refine wp_seq ?_
  refine wp_seq ?_
  refine wp_region_lit ?_
  refine lv (d := 41) rfl rfl (by kernel_rfl) (e_fieldAddr (b := g7) (off := 0) (o := 0) Try.underlying36 rfl rfl (sz := 1) (by kernel_rfl) (by decide) (by kernel_rfl)) ?_
  refine lv (d := 42) rfl rfl (by kernel_rfl) (e_load1 (ad := ⟨g7, 0 + 0, none⟩) (v := .int .i64 x1.kind) Try.underlying3 rfl (by kernel_rfl) (blk_cell b8 rfl)) ?_
  refine lv (d := 43) rfl rfl (by kernel_rfl) (e_eql (k := .i64) (a := x1.kind) (b := 2) (by kernel_rfl) rfl) ?_
  refine wpList_nil ?_
  refine then_n ?_
  by_cases q18 : x1.kind = 2
  · replace M := ifp q18 M
    refine cond_t rfl (bt q18 (by kernel_rfl)) ?_
    refine wp_seq ?_
    refine wp_region_lit ?_
    refine lv (d := 44) rfl rfl (by kernel_rfl) (e_fieldAddr (b := g7) (off := 0) (o := 1) Try.underlying36 rfl rfl (sz := 1) (by kernel_rfl) (by decide) (by kernel_rfl)) ?_
    refine lv (d := 45) rfl rfl (by kernel_rfl) (e_load1 (ad := ⟨g7, 0 + 1, none⟩) (v := .int .i64 x1.n) Try.underlying3 rfl (by kernel_rfl) (blk_cell b8 rfl)) ?_
    refine lv (d := 46) rfl rfl (by kernel_rfl) (e_eql (k := .i64) (a := x1.n) (b := 0) (by kernel_rfl) rfl) ?_
    refine lv (d := 2) rfl rfl (by kernel_rfl) (e_assign (v := .bool (decide (x1.n = 0))) (by kernel_rfl)) ?_
    refine wpList_nil ?_
    refine then_n ?_
    refine wp_ret ?_
    refine then_r ?_
    obtain rfl := Option.some.inj M
    exact ret1 rfl rfl  (show _ = .bool (decide (x1.n = 0)) from (by kernel_rfl)) ⟨rfl, S9.chg⟩
  replace M := ifn q18 M
  refine cond_f rfl (bf q18 (by kernel_rfl)) ?_
  refine wp_skip ?_
  refine then_n ?_
  refine wp_seq ?_
  refine wp_region_lit ?_
  refine lv (d := 47) rfl rfl (by kernel_rfl) (e_fieldAddr (b := g7) (off := 0) (o := 0) Try.underlying36 rfl rfl (sz := 1) (by kernel_rfl) (by decide) (by kernel_rfl)) ?_
  refine lv (d := 48) rfl rfl (by kernel_rfl) (e_load1 (ad := ⟨g7, 0 + 0, none⟩) (v := .int .i64 x1.kind) Try.underlying3 rfl (by kernel_rfl) (blk_cell b8 rfl)) ?_
  refine lv (d := 49) rfl rfl (by kernel_rfl) (e_eql (k := .i64) (a := x1.kind) (b := 3) (by kernel_rfl) rfl) ?_
  refine lv (d := 50) rfl rfl (by kernel_rfl) (e_move (v := .bool (decide (x1.kind = 3))) (by kernel_rfl)) ?_
  by_cases q19 : x1.kind = 3
  · replace M := ifp q19 M
    refine lvg (d := 51) (t := 50) rfl (by kernel_rfl) rfl (bt q19 (by kernel_rfl)) rfl (by kernel_rfl) (e_fieldAddr (b := g7) (off := 0) (o := 1) Try.underlying36 rfl rfl (sz := 1) (by kernel_rfl) (by decide) (by kernel_rfl)) ?_
    refine lvg (d := 52) (t := 50) rfl (by kernel_rfl) rfl (bt q19 (by kernel_rfl)) rfl (by kernel_rfl) (e_load1 (ad := ⟨g7, 0 + 1, none⟩) (v := .int .i64 x1.n) Try.underlying3 rfl (by kernel_rfl) (blk_cell b8 rfl)) ?_
    refine lvg (d := 53) (t := 50) rfl (by kernel_rfl) rfl (bt q19 (by kernel_rfl)) rfl (by kernel_rfl) (e_geq (k := .i64) (a := x1.n) (b := 1) (by kernel_rfl) rfl) ?_
    refine lv (d := 54) rfl rfl (by kernel_rfl) (e_pick_t (v := .bool (decide (x1.n ≥ 1))) (bt q19 (by kernel_rfl)) (by kernel_rfl)) ?_
    refine lv (d := 55) rfl rfl (by kernel_rfl) (e_move (v := .bool (decide (x1.n ≥ 1))) (by kernel_rfl)) ?_
    by_cases q20 : x1.n ≥ 1
    · replace M := ifp q20 M
      refine lvg (d := 56) (t := 55) rfl (by kernel_rfl) rfl (bt q20 (by kernel_rfl)) rfl (by kernel_rfl) (e_fieldAddr (b := g7) (off := 0) (o := 1) Try.underlying36 rfl rfl (sz := 1) (by kernel_rfl) (by decide) (by kernel_rfl)) ?_
      refine lvg (d := 57) (t := 55) rfl (by kernel_rfl) rfl (bt q20 (by kernel_rfl)) rfl (by kernel_rfl) (e_load1 (ad := ⟨g7, 0 + 1, none⟩) (v := .int .i64 x1.n) Try.underlying3 rfl (by kernel_rfl) (blk_cell b8 rfl)) ?_
      refine lvg (d := 58) (t := 55) rfl (by kernel_rfl) rfl (bt q20 (by kernel_rfl)) rfl (by kernel_rfl) (e_leq (k := .i64) (a := x1.n) (b := 20) (by kernel_rfl) rfl) ?_
      refine lv (d := 59) rfl rfl (by kernel_rfl) (e_pick_t (v := .bool (decide (x1.n ≤ 20))) (bt q20 (by kernel_rfl)) (by kernel_rfl)) ?_
      refine lv (d := 2) rfl rfl (by kernel_rfl) (e_assign (v := .bool (decide (x1.n ≤ 20))) (by kernel_rfl)) ?_
      refine wpList_nil ?_
      refine then_n ?_
      refine wp_ret ?_
      obtain rfl := Option.some.inj M
      exact ret1 rfl rfl  (show _ = .bool (decide (x1.n ≤ 20)) from (by kernel_rfl)) ⟨rfl, S9.chg⟩
    replace M := ifn q20 M
    refine lskip (t := 55) (c := false) rfl (by kernel_rfl) rfl (bf q20 (by kernel_rfl)) rfl rfl ?_
    refine lskip (t := 55) (c := false) rfl (by kernel_rfl) rfl (bf q20 (by kernel_rfl)) rfl rfl ?_
    refine lskip (t := 55) (c := false) rfl (by kernel_rfl) rfl (bf q20 (by kernel_rfl)) rfl rfl ?_
    refine lv (d := 59) rfl rfl (by kernel_rfl) (e_pick_f (v := .bool false) (bf q20 (by kernel_rfl)) rfl) ?_
    refine lv (d := 2) rfl rfl (by kernel_rfl) (e_assign (v := .bool false) (by kernel_rfl)) ?_
    refine wpList_nil ?_
    refine then_n ?_
    refine wp_ret ?_
    obtain rfl := Option.some.inj M
    exact ret1 rfl rfl  (show _ = .bool false from (by kernel_rfl)) ⟨rfl, S9.chg⟩
  replace M := ifn q19 M
  refine lskip (t := 50) (c := false) rfl (by kernel_rfl) rfl (bf q19 (by kernel_rfl)) rfl rfl ?_
  refine lskip (t := 50) (c := false) rfl (by kernel_rfl) rfl (bf q19 (by kernel_rfl)) rfl rfl ?_
  refine lskip (t := 50) (c := false) rfl (by kernel_rfl) rfl (bf q19 (by kernel_rfl)) rfl rfl ?_
  refine lv (d := 54) rfl rfl (by kernel_rfl) (e_pick_f (v := .bool false) (bf q19 (by kernel_rfl)) rfl) ?_
  refine lv (d := 55) rfl rfl (by kernel_rfl) (e_move (v := .bool false) (by kernel_rfl)) ?_
  refine lskip (t := 55) (c := false) rfl (by kernel_rfl) rfl (by kernel_rfl) rfl rfl ?_
  refine lskip (t := 55) (c := false) rfl (by kernel_rfl) rfl (by kernel_rfl) rfl rfl ?_
  refine lskip (t := 55) (c := false) rfl (by kernel_rfl) rfl (by kernel_rfl) rfl rfl ?_
  refine lv (d := 59) rfl rfl (by kernel_rfl) (e_pick_f (v := .bool false) (by kernel_rfl) rfl) ?_
  refine lv (d := 2) rfl rfl (by kernel_rfl) (e_assign (v := .bool false) (by kernel_rfl)) ?_
  refine wpList_nil ?_
  refine then_n ?_
  refine wp_ret ?_
  obtain rfl := Option.some.inj M
  exact ret1 rfl rfl  (show _ = .bool false from (by kernel_rfl)) ⟨rfl, S9.chg⟩

/-! spec_ValidTerm -/
def spec_ValidTerm.l0 : Nat → (List Cell) → Int → Int → Option Bool
  | 0, _, _, _ => none
  | k19 + 1, x1, x9, x10 => (if x10 < (x1.length : Int) then (if x9 = 0 then some false else (if 0 ≤ x10 then ((spec_l2cell.f (x1.getD ((x10).toNat) z36)).bind fun t33 => (if ¬ (t33 = true) then some false else (if ((x1.getD ((x10).toNat) z36).kind) = 3 then (spec_ValidTerm.l0 k19 x1 (IntKind.i64.wrap ((IntKind.i64.wrap (x9 - 1)) + ((x1.getD ((x10).toNat) z36).n))) (IntKind.i64.wrap (x10 + 1))) else (spec_ValidTerm.l0 k19 x1 (IntKind.i64.wrap (x9 - 1)) (IntKind.i64.wrap (x10 + 1)))))) else none)) else some (decide (x9 = 0)))
def spec_ValidTerm.f (k : Nat) (x1 : List Cell) : Option Bool := (if (x1.length : Int) > 2000 then some false else (spec_ValidTerm.l0 k x1 1 0))
theorem spec_ValidTerm.calls (k : Nat) (w : World) (H : Hp) (x1 : List Cell) (A2 : Option Addr) (c3 : Nat) (h4 : Rd st36 H A2 x1) (l5 : x1.length ≤ c3) (S : Own [] H w) (r : Bool) (M : spec_ValidTerm.f k x1 = some r) :
    Calls Try.prog 15 #[.slice A2 x1.length c3] w (fun e e_w => e = .returned (.bool r) ∧ Chg no w e_w) := by
  rw [spec_ValidTerm.f] at M
  refine enter (l := [.slice A2 x1.length c3]) 41 Try.func15 rfl rfl rfl ?_
  have S0_ := S.st
  refine wp_seq ?_
  refine wp_region_lit ?_
  refine lv (d := 2) rfl rfl (by kernel_rfl) (e_assign (v := .bool false) rfl) ?_
  refine wpList_nil ?_
  refine then_n ?_
  refine wp_seq ?_
  refine wp_seq ?_
  refine wp_region_lit ?_
  refine lv (d := 5) rfl rfl (by kernel_rfl) (e_move (v := .slice A2 x1.length c3) (by kernel_rfl)) ?_
  refine lv (d := 6) rfl rfl (by kernel_rfl) (e_len (A := A2) (n := x1.length) (c := c3) Try.underlying24 (by kernel_rfl)) ?_
  refine lv (d := 7) rfl rfl (by kernel_rfl) (e_gtr (k := .i64) (a := (x1.length : Int)) (b := 2000) (by kernel_rfl) rfl) ?_
  refine wpList_nil ?_
  refine then_n ?_
  by_cases q6 : (x1.length : Int) > 2000
  · replace M := ifp q6 M
    refine cond_t rfl (bt q6 (by kernel_rfl)) ?_
    refine wp_seq ?_
    refine wp_region_lit ?_
    refine lv (d := 2) rfl rfl (by kernel_rfl) (e_assign (v := .bool false) rfl) ?_
    refine wpList_nil ?_
    refine then_n ?_
    refine wp_ret ?_
    refine then_r ?_
    obtain rfl := Option.some.inj M
    exact ret1 rfl rfl  (show _ = .bool false from (by kernel_rfl)) ⟨rfl, S0_.chg⟩
  replace M := ifn q6 M
  refine cond_f rfl (bf q6 (by kernel_rfl)) ?_
  refine wp_skip ?_
  refine then_n ?_
  refine wp_seq ?_
  refine wp_region_lit ?_
  refine lv (d := 3) rfl rfl (by kernel_rfl) (e_assign (v := .int .i64 1) rfl) ?_
  refine wpList_nil ?_
  refine then_n ?_
  refine wp_seq ?_
  refine wp_seq ?_
  refine wp_region_lit ?_
  refine lv (d := 4) rfl rfl (by kernel_rfl) (e_assign (v := .int .i64 0) rfl) ?_
  refine wpList_nil ?_
  refine then_n ?_
  refine wp_block ?_
  refine wp_loop_g (fun k17 a18 w7 => ∃ (f8 : Nat → Value) (x9 : Int) (x10 : Int), a18 = mk 41 f8 ∧ f8 0 = .slice A2 x1.length c3 ∧ f8 3 = .int .i64 x9 ∧ f8 4 = .int .i64 x10 ∧ St (anyOf []) H w [] H w7 ∧ spec_ValidTerm.l0 k17 x1 x9 x10 = some r) k ⟨_, 1, 0, rfl, (by kernel_rfl), (by kernel_rfl), (by kernel_rfl), S0_, M⟩ ?_
  clear M
  rintro k17 a18 w7 ⟨f8, x9, x10, rfl, e11, e12, e13, S14, M⟩
  rcases k17 with _ | k19
  · rw [spec_ValidTerm.l0] at M
    cases M
  rw [spec_ValidTerm.l0] at M
  refine wp_seq ?_
  refine wp_seq ?_
  refine wp_region_lit ?_
  refine lv (d := 8) rfl rfl (by kernel_rfl) (e_move (v := .int .i64 x10) (by exact e13)) ?_
  refine lv (d := 9) rfl rfl (by kernel_rfl) (e_move (v := .slice A2 x1.length c3) (by exact e11)) ?_
  refine lv (d := 10) rfl rfl (by kernel_rfl) (e_len (A := A2) (n := x1.length) (c := c3) Try.underlying24 (by kernel_rfl)) ?_
  refine lv (d := 11) rfl rfl (by kernel_rfl) (e_lss (k := .i64) (a := x10) (b := (x1.length : Int)) (by kernel_rfl) (by kernel_rfl)) ?_
  refine wpList_nil ?_
  refine then_n ?_
  by_cases q20 : x10 < (x1.length : Int)
  · replace M := ifp q20 M
    refine cond_t rfl (bt q20 (by kernel_rfl)) ?_
    refine wp_skip ?_
    refine then_n ?_
    refine wp_seq ?_
    refine wp_block ?_
    refine wp_seq ?_
    refine wp_seq ?_
    refine wp_region_lit ?_
    refine lv (d := 14) rfl rfl (by kernel_rfl) (e_move (v := .int .i64 x9) (by exact e12)) ?_
    refine lv (d := 15) rfl rfl (by kernel_rfl) (e_eql (k := .i64) (a := x9) (b := 0) (by kernel_rfl) rfl) ?_
    refine lv (d := 16) rfl rfl (by kernel_rfl) (e_move (v := .bool (decide (x9 = 0))) (by kernel_rfl)) ?_
    by_cases q21 : x9 = 0
    · replace M := ifp q21 M
      refine lskip (t := 16) (c := true) rfl (by kernel_rfl) rfl (bt q21 (by kernel_rfl)) rfl rfl ?_
      refine lskip (t := 16) (c := true) rfl (by kernel_rfl) rfl (bt q21 (by kernel_rfl)) rfl rfl ?_
      refine lskip (t := 16) (c := true) rfl (by kernel_rfl) rfl (bt q21 (by kernel_rfl)) rfl rfl ?_
      refine lskip (t := 16) (c := true) rfl (by kernel_rfl) rfl (bt q21 (by kernel_rfl)) rfl rfl ?_
      refine lskip (t := 16) (c := true) rfl (by kernel_rfl) rfl (bt q21 (by kernel_rfl)) rfl rfl ?_
      refine lskip (t := 16) (c := true) rfl (by kernel_rfl) rfl (bt q21 (by kernel_rfl)) rfl rfl ?_
      refine lv (d := 23) rfl rfl (by kernel_rfl) (e_pick_t (v := .bool true) (bt q21 (by kernel_rfl)) rfl) ?_
      refine wpList_nil ?_
      refine then_n ?_
      refine cond_t rfl (by kernel_rfl) ?_
      refine wp_seq ?_
      refine wp_region_lit ?_
      refine lv (d := 2) rfl rfl (by kernel_rfl) (e_assign (v := .bool false) rfl) ?_
      refine wpList_nil ?_
      refine then_n ?_
      refine wp_ret ?_
      refine then_r ?_
      refine inb_r ?_
      refine then_r ?_
      refine then_r ?_
      refine inb_r ?_
      refine then_r ?_
      obtain rfl := Option.some.inj M
      exact ret1 rfl rfl  (show _ = .bool false from (by kernel_rfl)) ⟨rfl, S14.chg⟩
    replace M := ifn q21 M
    refine lvg (d := 17) (t := 16) rfl (by kernel_rfl) rfl (bf q21 (by kernel_rfl)) rfl (by kernel_rfl) (e_move (v := .slice A2 x1.length c3) (by exact e11)) ?_
    refine lvg (d := 18) (t := 16) rfl (by kernel_rfl) rfl (bf q21 (by kernel_rfl)) rfl (by kernel_rfl) (e_move (v := .int .i64 x10) (by exact e13)) ?_
    obtain ⟨q22, M⟩ := chk M
    obtain ⟨b23, o24, e25⟩ := Rd.addr h4 (show (x10).toNat < x1.length by omega)
    obtain ⟨y26, r27, k28⟩ := Rd.at h4 e25 (getD_some z36 (show (x10).toNat < x1.length by omega))
    obtain ⟨A29, c30, rfl, l31, h32⟩ := st36_open r27
    refine lvg (d := 19) (t := 16) rfl (by kernel_rfl) rfl (bf q21 (by kernel_rfl)) rfl (by kernel_rfl) (e_indexAddr (b := b23) (off := o24) (n := x1.length) (c := c3) (sz := 3) (i := x10) (k := .i64) Try.underlying24 e25 (by kernel_rfl) (by kernel_rfl) (by kernel_rfl) q22 q20) ?_
    refine lvg (d := 20) (t := 16) rfl (by kernel_rfl) rfl (bf q21 (by kernel_rfl)) rfl (by kernel_rfl) (e_loadS (b := b23) (off := o24 + (x10 : Int).toNat * 3) (cs := [.int .i64 ((x1.getD ((x10).toNat) z36).kind), .int .i64 ((x1.getD ((x10).toNat) z36).n), .slice A29 ((x1.getD ((x10).toNat) z36).text).length c30]) Try.underlying36 rfl (by kernel_rfl) (by kernel_rfl) (fun j_ u_ e_ => (hpx (S14.inv.cell (k28 j_ u_ e_))))) ?_
    obtain ⟨t33, u34, M⟩ := bnd M
    refine lcallg (d := 21) (t := 16) rfl (by kernel_rfl) rfl (bf q21 (by kernel_rfl)) rfl (by kernel_rfl) (e_call (l := [.tmp 20]) (vs := [.agg #[.int .i64 ((x1.getD ((x10).toNat) z36).kind), .int .i64 ((x1.getD ((x10).toNat) z36).n), .slice A29 ((x1.getD ((x10).toNat) z36).text).length c30]]) Try.func36 (by kernel_rfl) rfl (by kernel_rfl) rfl) (spec_l2cell.calls w7 H (x1.getD ((x10).toNat) z36) A29 c30 h32 l31 S14.own0 t33 u34) ?_
    rintro _ w35 ⟨rfl, C36⟩
    refine ⟨_, rfl, ?_⟩
    obtain ⟨S37, K38⟩ := S14.still C36
    refine lvg (d := 22) (t := 16) rfl (by kernel_rfl) rfl (bf q21 (by kernel_rfl)) rfl (by kernel_rfl) (e_notv (c := t33) (by kernel_rfl)) ?_
    refine lv (d := 23) rfl rfl (by kernel_rfl) (e_pick_f (v := .bool (decide (¬ (t33 = true)))) (bf q21 (by kernel_rfl)) (by kernel_rfl)) ?_
    refine wpList_nil ?_
    refine then_n ?_
    by_cases q39 : ¬ (t33 = true)
    · replace M := ifp q39 M
      refine cond_t rfl (bt q39 (by kernel_rfl)) ?_
      refine wp_seq ?_
      refine wp_region_lit ?_
      refine lv (d := 2) rfl rfl (by kernel_rfl) (e_assign (v := .bool false) rfl) ?_
      refine wpList_nil ?_
      refine then_n ?_
      refine wp_ret ?_
      refine then_r ?_
      refine inb_r ?_
      refine then_r ?_
      refine then_r ?_
      refine inb_r ?_
      refine then_r ?_
      obtain rfl := Option.some.inj M
      exact ret1 rfl rfl  (show _ = .bool false from (by kernel_rfl)) ⟨rfl, S37.chg⟩
    replace M := ifn q39 M
    refine cond_f rfl (bf q39 (by kernel_rfl)) ?_
    refine wp_skip ?_
    refine then_n ?_
    refine wp_seq ?_
    refine wp_region_lit ?_
    refine lv (d := 24) rfl rfl (by kernel_rfl) (e_move (v := .int .i64 x9) (by exact e12)) ?_
    refine lv (d := 25) rfl rfl (by kernel_rfl) (e_sub (k := .i64) (a := x9) (b := 1) (by kernel_rfl) rfl) ?_
    refine lv (d := 3) rfl rfl (by kernel_rfl) (e_assign (v := .int .i64 (IntKind.i64.wrap (x9 - 1))) (by kernel_rfl)) ?_
    refine wpList_nil ?_
    refine then_n ?_
    refine wp_seq ?_
    refine wp_region_lit ?_
    refine lv (d := 26) rfl rfl (by kernel_rfl) (e_move (v := .slice A2 x1.length c3) (by exact e11)) ?_
    refine lv (d := 27) rfl rfl (by kernel_rfl) (e_move (v := .int .i64 x10) (by exact e13)) ?_
    obtain ⟨b40, o41, e42⟩ := Rd.addr h4 (show (x10).toNat < x1.length by omega)
    obtain ⟨y43, r44, k45⟩ := Rd.at h4 e42 (getD_some z36 (show (x10).toNat < x1.length by omega))
    obtain ⟨A46, c47, rfl, l48, h49⟩ := st36_open r44
    refine lv (d := 28) rfl rfl (by kernel_rfl) (e_indexAddr (b := b40) (off := o41) (n := x1.length) (c := c3) (sz := 3) (i := x10) (k := .i64) Try.underlying24 e42 (by kernel_rfl) (by kernel_rfl) (by kernel_rfl) q22 q20) ?_
    refine lv (d := 29) rfl rfl (by kernel_rfl) (e_fieldAddr (b := b40) (off := o41 + (x10 : Int).toNat * 3) (o := 0) Try.underlying36 rfl rfl (sz := 1) (by kernel_rfl) (by decide) (by kernel_rfl)) ?_
    refine lv (d := 30) rfl rfl (by kernel_rfl) (e_load1 (ad := ⟨b40, o41 + (x10 : Int).toNat * 3 + 0, none⟩) (v := .int .i64 ((x1.getD ((x10).toNat) z36).kind)) Try.underlying3 rfl (by kernel_rfl) (hpx (S37.inv.cell (k45 0 _ rfl)))) ?_
    refine lv (d := 31) rfl rfl (by kernel_rfl) (e_eql (k := .i64) (a := (x1.getD ((x10).toNat) z36).kind) (b := 3) (by kernel_rfl) rfl) ?_
    refine wpList_nil ?_
    refine then_n ?_
    by_cases q50 : ((x1.getD ((x10).toNat) z36).kind) = 3
    · replace M := ifp q50 M
      refine cond_t rfl (bt q50 (by kernel_rfl)) ?_
      refine wp_region_lit ?_
      refine lv (d := 32) rfl rfl (by kernel_rfl) (e_move (v := .int .i64 (IntKind.i64.wrap (x9 - 1))) (by kernel_rfl)) ?_
      refine lv (d := 33) rfl rfl (by kernel_rfl) (e_move (v := .slice A2 x1.length c3) (by exact e11)) ?_
      refine lv (d := 34) rfl rfl (by kernel_rfl) (e_move (v := .int .i64 x10) (by exact e13)) ?_
      obtain ⟨b51, o52, e53⟩ := Rd.addr h4 (show (x10).toNat < x1.length by omega)
      obtain ⟨y54, r55, k56⟩ := Rd.at h4 e53 (getD_some z36 (show (x10).toNat < x1.length by omega))
      obtain ⟨A57, c58, rfl, l59, h60⟩ := st36_open r55
      refine lv (d := 35) rfl rfl (by kernel_rfl) (e_indexAddr (b := b51) (off := o52) (n := x1.length) (c := c3) (sz := 3) (i := x10) (k := .i64) Try.underlying24 e53 (by kernel_rfl) (by kernel_rfl) (by kernel_rfl) q22 q20) ?_
      refine lv (d := 36) rfl rfl (by kernel_rfl) (e_fieldAddr (b := b51) (off := o52 + (x10 : Int).toNat * 3) (o := 1) Try.underlying36 rfl rfl (sz := 1) (by kernel_rfl) (by decide) (by kernel_rfl)) ?_
      refine lv (d := 37) rfl rfl (by kernel_rfl) (e_load1 (ad := ⟨b51, o52 + (x10 : Int).toNat * 3 + 1, none⟩) (v := .int .i64 ((x1.getD ((x10).toNat) z36).n)) Try.underlying3 rfl (by kernel_rfl) (hpx (S37.inv.cell (k56 1 _ rfl)))) ?_
      refine lv (d := 38) rfl rfl (by kernel_rfl) (e_add (k := .i64) (a := (IntKind.i64.wrap (x9 - 1))) (b := (x1.getD ((x10).toNat) z36).n) (by kernel_rfl) (by kernel_rfl)) ?_
      refine lv (d := 3) rfl rfl (by kernel_rfl) (e_assign (v := .int .i64 (IntKind.i64.wrap ((IntKind.i64.wrap (x9 - 1)) + ((x1.getD ((x10).toNat) z36).n)))) (by kernel_rfl)) ?_
      refine wpList_nil ?_
      refine inb_n ?_
      refine then_n ?_
      refine wp_region_lit ?_
      refine lv (d := 12) rfl rfl (by kernel_rfl) (e_move (v := .int .i64 x10) (by exact e13)) ?_
      refine lv (d := 13) rfl rfl (by kernel_rfl) (e_add (k := .i64) (a := x10) (b := 1) (by kernel_rfl) rfl) ?_
      refine lv (d := 4) rfl rfl (by kernel_rfl) (e_assign (v := .int .i64 (IntKind.i64.wrap (x10 + 1))) (by kernel_rfl)) ?_
      refine wpList_nil ?_
      refine then_n ?_
      exact ⟨k19, (by omega), _, (IntKind.i64.wrap ((IntKind.i64.wrap (x9 - 1)) + ((x1.getD ((x10).toNat) z36).n))), (IntKind.i64.wrap (x10 + 1)), rfl, (by exact e11), (by kernel_rfl), (by kernel_rfl), S37, M⟩
    replace M := ifn q50 M
    refine cond_f rfl (bf q50 (by kernel_rfl)) ?_
    refine wp_skip ?_
    refine inb_n ?_
    refine then_n ?_
    refine wp_region_lit ?_
    refine lv (d := 12) rfl rfl (by kernel_rfl) (e_move (v := .int .i64 x10) (by exact e13)) ?_
    refine lv (d := 13) rfl rfl (by kernel_rfl) (e_add (k := .i64) (a := x10) (b := 1) (by kernel_rfl) rfl) ?_
    refine lv (d := 4) rfl rfl (by kernel_rfl) (e_assign (v := .int .i64 (IntKind.i64.wrap (x10 + 1))) (by kernel_rfl)) ?_
    refine wpList_nil ?_
    refine then_n ?_
    exact ⟨k19, (by omega), _, (IntKind.i64.wrap (x9 - 1)), (IntKind.i64.wrap (x10 + 1)), rfl, (by exact e11), (by kernel_rfl), (by kernel_rfl), S37, M⟩
  replace M := ifn q20 M
  refine cond_f rfl (bf q20 (by kernel_rfl)) ?_
  refine wp_exit ?_
  refine then_e ?_
  refine then_e ?_
  refine inb_hit ?_
  refine then_n ?_
  refine wp_seq ?_
  refine wp_region_lit ?_
  refine lv (d := 39) rfl rfl (by kernel_rfl) (e_move (v := .int .i64 x9) (by exact e12)) ?_
  refine lv (d := 40) rfl rfl (by kernel_rfl) (e_eql (k := .i64) (a := x9) (b := 0) (by kernel_rfl) rfl) ?_
  refine lv (d := 2) rfl rfl (by kernel_rfl) (e_assign (v := .bool (decide (x9 = 0))) (by kernel_rfl)) ?_
  refine wpList_nil ?_
  refine then_n ?_
  refine wp_ret ?_
  obtain rfl := Option.some.inj M
  exact ret1 rfl rfl  (show _ = .bool (decide (x9 = 0)) from (by kernel_rfl)) ⟨rfl, S14.chg⟩

/-! spec_l2is -/
def spec_l2is.f (x1 : List Cell) (x6 : List UInt8) (x7 : Int) : Option Bool := (if 0 < (x1.length : Int) then (if (x1.getD 0 z36).text ≠ x6 then some false else (if x7 = 0 then some (decide (((x1.getD 0 z36).kind) = 2)) else (if ((x1.getD 0 z36).kind) = 3 then some (decide (((x1.getD 0 z36).n) = x7)) else some false))) else none)
theorem spec_l2is.calls (w : World) (H : Hp) (x1 : List Cell) (A2 : Option Addr) (c3 : Nat) (x6 : List UInt8) (x7 : Int) (h4 : Rd st36 H A2 x1) (l5 : x1.length ≤ c3) (S : Own [] H w) (r : Bool) (M : spec_l2is.f x1 x6 x7 = some r) :
    Calls Try.prog 25 #[.slice A2 x1.length c3, str x6, .int .i64 x7] w (fun e e_w => e = .returned (.bool r) ∧ Chg no w e_w) := by
  rw [spec_l2is.f] at M
  refine enter (l := [.slice A2 x1.length c3, str x6, .int .i64 x7]) 34 Try.func25 rfl rfl rfl ?_
  have S0_ := S.st
  refine wp_seq ?_
  refine wp_region_lit ?_
  refine lv (d := 6) rfl rfl (by kernel_rfl) (e_assign (v := .bool false) rfl) ?_
  refine wpList_nil ?_
  refine then_n ?_
  refine wp_seq ?_
  refine wp_seq ?_
  refine wp_region_lit ?_
  refine lv (d := 7) rfl rfl (by kernel_rfl) (e_move (v := .slice A2 x1.length c3) (by kernel_rfl)) ?_
  obtain ⟨q8, M⟩ := chk M
  obtain ⟨b9, o10, e11⟩ := Rd.addr h4 (show 0 < x1.length by omega)
  obtain ⟨y12, r13, k14⟩ := Rd.at h4 e11 (getD_some z36 (show 0 < x1.length by omega))
  obtain ⟨A15, c16, rfl, l17, h18⟩ := st36_open r13
  refine lv (d := 8) rfl rfl (by kernel_rfl) (e_indexAddr (b := b9) (off := o10) (n := x1.length) (c := c3) (sz := 3) (i := 0) (k := .i64) Try.underlying24 e11 (by kernel_rfl) (by kernel_rfl) rfl (by omega) q8) ?_
  refine lv (d := 9) rfl rfl (by kernel_rfl) (e_fieldAddr (b := b9) (off := o10 + (0 : Int).toNat * 3) (o := 2) Try.underlying36 rfl rfl (sz := 1) (by kernel_rfl) (by decide) (by kernel_rfl)) ?_
  refine lv (d := 10) rfl rfl (by kernel_rfl) (e_load1 (ad := ⟨b9, o10 + (0 : Int).toNat * 3 + 2, none⟩) (v := .slice A15 ((x1.getD 0 z36).text).length c16) Try.underlying32 rfl (by kernel_rfl) (hpx (S0_.inv.cell (k14 2 _ rfl)))) ?_
  refine lv (d := 11) rfl rfl (by kernel_rfl) (e_conv_bs (A := A15) (n := ((x1.getD 0 z36).text).length) (c := c16) (xs := (x1.getD 0 z36).text) Try.underlying32 Try.underlying5 Try.underlying9 (by kernel_rfl) rfl (Rd.bytesE S0_.inv h18)) ?_
  refine lv (d := 12) rfl rfl (by kernel_rfl) (e_move (v := str x6) (by kernel_rfl)) ?_
  refine lv (d := 13) rfl rfl (by kernel_rfl) (e_sneq (p := (x1.getD 0 z36).text) (q := x6) (by kernel_rfl) (by kernel_rfl)) ?_
  refine wpList_nil ?_
  refine then_n ?_
  by_cases q19 : (x1.getD 0 z36).text ≠ x6
  · replace M := ifp q19 M
    refine cond_t rfl (bt q19 (by kernel_rfl)) ?_
    refine wp_seq ?_
    refine wp_region_lit ?_
    refine lv (d := 6) rfl rfl (by kernel_rfl) (e_assign (v := .bool false) rfl) ?_
    refine wpList_nil ?_
    refine then_n ?_
    refine wp_ret ?_
    refine then_r ?_
    obtain rfl := Option.some.inj M
    exact ret1 rfl rfl  (show _ = .bool false from (by kernel_rfl)) ⟨rfl, S0_.chg⟩
  replace M := ifn q19 M
  refine cond_f rfl (bf q19 (by kernel_rfl)) ?_
  refine wp_skip ?_
  refine then_n ?_
  refine wp_seq ?_
  refine wp_seq ?_
  refine wp_region_lit ?_
  refine lv (d := 14) rfl rfl (by kernel_rfl) (e_move (v := .int .i64 x7) (by kernel_rfl)) ?_
  refine lv (d := 15) rfl rfl (by kernel_rfl) (e_eql (k := .i64) (a := x7) (b := 0) (by kernel_rfl) rfl) ?_
  refine wpList_nil ?_
  refine then_n ?_
  by_cases q20 : x7 = 0
  · replace M := ifp q20 M
    refine cond_t rfl (bt q20 (by kernel_rfl)) ?_
    refine wp_seq ?_
    refine wp_region_lit ?_
    refine lv (d := 16) rfl rfl (by kernel_rfl) (e_move (v := .slice A2 x1.length c3) (by kernel_rfl)) ?_
    obtain ⟨b21, o22, e23⟩ := Rd.addr h4 (show 0 < x1.length by omega)
    obtain ⟨y24, r25, k26⟩ := Rd.at h4 e23 (getD_some z36 (show 0 < x1.length by omega))
    obtain ⟨A27, c28, rfl, l29, h30⟩ := st36_open r25
    refine lv (d := 17) rfl rfl (by kernel_rfl) (e_indexAddr (b := b21) (off := o22) (n := x1.length) (c := c3) (sz := 3) (i := 0) (k := .i64) Try.underlying24 e23 (by kernel_rfl) (by kernel_rfl) rfl (by omega) q8) ?_
    refine lv (d := 18) rfl rfl (by kernel_rfl) (e_fieldAddr (b := b21) (off := o22 + (0 : Int).toNat * 3) (o := 0) Try.underlying36 rfl rfl (sz := 1) (by kernel_rfl) (by decide) (by kernel_rfl)) ?_
    refine lv (d := 19) rfl rfl (by kernel_rfl) (e_load1 (ad := ⟨b21, o22 + (0 : Int).toNat * 3 + 0, none⟩) (v := .int .i64 ((x1.getD 0 z36).kind)) Try.underlying3 rfl (by kernel_rfl) (hpx (S0_.inv.cell (k26 0 _ rfl)))) ?_
    refine lv (d := 20) rfl rfl (by kernel_rfl) (e_eql (k := .i64) (a := (x1.getD 0 z36).kind) (b := 2) (by kernel_rfl) rfl) ?_
    refine lv (d := 6) rfl rfl (by kernel_rfl) (e_assign (v := .bool (decide (((x1.getD 0 z36).kind) = 2))) (by kernel_rfl)) ?_
    refine wpList_nil ?_
    refine then_n ?_
    refine wp_ret ?_
    refine then_r ?_
    obtain rfl := Option.some.inj M
    exact ret1 rfl rfl  (show _ = .bool (decide (((x1.getD 0 z36).kind) = 2)) from (by kernel_rfl)) ⟨rfl, S0_.chg⟩
  replace M := ifn q20 M
  refine cond_f rfl (bf q20 (by kernel_rfl)) ?_
  refine wp_skip ?_
  refine then_n ?_
  refine wp_seq ?_
  refine wp_region_lit ?_
  refine lv (d := 21) rfl rfl (by kernel_rfl) (e_move (v := .slice A2 x1.length c3) (by kernel_rfl)) ?_
  obtain ⟨b31, o32, e33⟩ := Rd.addr h4 (show 0 < x1.length by omega)
  obtain ⟨y34, r35, k36⟩ := Rd.at h4 e33 (getD_some z36 (show 0 < x1.length by omega))
  obtain ⟨A37, c38, rfl, l39, h40⟩ := st36_open r35
  refine lv (d := 22) rfl rfl (by kernel_rfl) (e_indexAddr (b := b31) (off := o32) (n := x1.length) (c := c3) (sz := 3) (i := 0) (k := .i64) Try.underlying24 e33 (by kernel_rfl) (by kernel_rfl) rfl (by omega) q8) ?_
  refine lv (d := 23) rfl rfl (by kernel_rfl) (e_fieldAddr (b := b31) (off := o32 + (0 : Int).toNat * 3) (o := 0) Try.underlying36 rfl rfl (sz := 1) (by kernel_rfl) (by decide) (by kernel_rfl)) ?_
  refine lv (d := 24) rfl rfl (by kernel_rfl) (e_load1 (ad := ⟨b31, o32 + (0 : Int).toNat * 3 + 0, none⟩) (v := .int .i64 ((x1.getD 0 z36).kind)) Try.underlying3 rfl (by kernel_rfl) (hpx (S0_.inv.cell (k36 0 _ rfl)))) ?_
  refine lv (d := 25) rfl rfl (by kernel_rfl) (e_eql (k := .i64) (a := (x1.getD 0 z36).kind) (b := 3) (by kernel_rfl) rfl) ?_
  refine lv (d := 26) rfl rfl (by kernel_rfl) (e_move (v := .bool (decide (((x1.getD 0 z36).kind) = 3))) (by kernel_rfl)) ?_
  by_cases q41 : ((x1.getD 0 z36).kind) = 3
  · replace M := ifp q41 M
    refine lvg (d := 27) (t := 26) rfl (by kernel_rfl) rfl (bt q41 (by kernel_rfl)) rfl (by kernel_rfl) (e_move (v := .slice A2 x1.length c3) (by kernel_rfl)) ?_
    obtain ⟨b42, o43, e44⟩ := Rd.addr h4 (show 0 < x1.length by omega)
    obtain ⟨y45, r46, k47⟩ := Rd.at h4 e44 (getD_some z36 (show 0 < x1.length by omega))
    obtain ⟨A48, c49, rfl, l50, h51⟩ := st36_open r46
    refine lvg (d := 28) (t := 26) rfl (by kernel_rfl) rfl (bt q41 (by kernel_rfl)) rfl (by kernel_rfl) (e_indexAddr (b := b42) (off := o43) (n := x1.length) (c := c3) (sz := 3) (i := 0) (k := .i64) Try.underlying24 e44 (by kernel_rfl) (by kernel_rfl) rfl (by omega) q8) ?_
    refine lvg (d := 29) (t := 26) rfl (by kernel_rfl) rfl (bt q41 (by kernel_rfl)) rfl (by kernel_rfl) (e_fieldAddr (b := b42) (off := o43 + (0 : Int).toNat * 3) (o := 1) Try.underlying36 rfl rfl (sz := 1) (by kernel_rfl) (by decide) (by kernel_rfl)) ?_
    refine lvg (d := 30) (t := 26) rfl (by kernel_rfl) rfl (bt q41 (by kernel_rfl)) rfl (by kernel_rfl) (e_load1 (ad := ⟨b42, o43 + (0 : Int).toNat * 3 + 1, none⟩) (v := .int .i64 ((x1.getD 0 z36).n)) Try.underlying3 rfl (by kernel_rfl) (hpx (S0_.inv.cell (k47 1 _ rfl)))) ?_
    refine lvg (d := 31) (t := 26) rfl (by kernel_rfl) rfl (bt q41 (by kernel_rfl)) rfl (by kernel_rfl) (e_move (v := .int .i64 x7) (by kernel_rfl)) ?_
    refine lvg (d := 32) (t := 26) rfl (by kernel_rfl) rfl (bt q41 (by kernel_rfl)) rfl (by kernel_rfl) (e_eql (k := .i64) (a := (x1.getD 0 z36).n) (b := x7) (by kernel_rfl) (by kernel_rfl)) ?_
    refine lv (d := 33) rfl rfl (by kernel_rfl) (e_pick_t (v := .bool (decide (((x1.getD 0 z36).n) = x7))) (bt q41 (by kernel_rfl)) (by kernel_rfl)) ?_
    refine lv (d := 6) rfl rfl (by kernel_rfl) (e_assign (v := .bool (decide (((x1.getD 0 z36).n) = x7))) (by kernel_rfl)) ?_
    refine wpList_nil ?_
    refine then_n ?_
    refine wp_ret ?_
    obtain rfl := Option.some.inj M
    exact ret1 rfl rfl  (show _ = .bool (decide (((x1.getD 0 z36).n) = x7)) from (by kernel_rfl)) ⟨rfl, S0_.chg⟩
  replace M := ifn q41 M
  refine lskip (t := 26) (c := false) rfl (by kernel_rfl) rfl (bf q41 (by kernel_rfl)) rfl rfl ?_
  refine lskip (t := 26) (c := false) rfl (by kernel_rfl) rfl (bf q41 (by kernel_rfl)) rfl rfl ?_
  refine lskip (t := 26) (c := false) rfl (by kernel_rfl) rfl (bf q41 (by kernel_rfl)) rfl rfl ?_
  refine lskip (t := 26) (c := false) rfl (by kernel_rfl) rfl (bf q41 (by kernel_rfl)) rfl rfl ?_
  refine lskip (t := 26) (c := false) rfl (by kernel_rfl) rfl (bf q41 (by kernel_rfl)) rfl rfl ?_
  refine lskip (t := 26) (c := false) rfl (by kernel_rfl) rfl (bf q41 (by kernel_rfl)) rfl rfl ?_
  refine lv (d := 33) rfl rfl (by kernel_rfl) (e_pick_f (v := .bool false) (bf q41 (by kernel_rfl)) rfl) ?_
  refine lv (d := 6) rfl rfl (by kernel_rfl) (e_assign (v := .bool false) (by kernel_rfl)) ?_
  refine wpList_nil ?_
  refine then_n ?_
  refine wp_ret ?_
  obtain rfl := Option.some.inj M
  exact ret1 rfl rfl  (show _ = .bool false from (by kernel_rfl)) ⟨rfl, S0_.chg⟩

/-! spec_l8maxVar -/
def spec_l8maxVar.l0 : Nat → (List Cell) → Int → Int → Option Int
  | 0, _, _, _ => none
  | k18 + 1, x1, x8, x9 => (if x9 < (x1.length : Int) then (if 0 ≤ x9 then (if ((x1.getD ((x9).toNat) z36).kind) = 0 then (if ((x1.getD ((x9).toNat) z36).n) > x8 then (spec_l8maxVar.l0 k18 x1 ((x1.getD ((x9).toNat) z36).n) (IntKind.i64.wrap (x9 + 1))) else (spec_l8maxVar.l0 k18 x1 x8 (IntKind.i64.wrap (x9 + 1)))) else (spec_l8maxVar.l0 k18 x1 x8 (IntKind.i64.wrap (x9 + 1)))) else none) else some x8)
def spec_l8maxVar.f (k : Nat) (x1 : List Cell) : Option Int := (spec_l8maxVar.l0 k x1 (-1) 0)
theorem spec_l8maxVar.calls (k : Nat) (w : World) (H : Hp) (x1 : List Cell) (A2 : Option Addr) (c3 : Nat) (h4 : Rd st36 H A2 x1) (l5 : x1.length ≤ c3) (S : Own [] H w) (r : Int) (M : spec_l8maxVar.f k x1 = some r) :
    Calls Try.prog 26 #[.slice A2 x1.length c3] w (fun e e_w => e = .returned (.int .i64 r) ∧ Chg no w e_w) := by
  rw [spec_l8maxVar.f] at M
  refine enter (l := [.slice A2 x1.length c3]) 32 Try.func26 rfl rfl rfl ?_
  have S0_ := S.st
  refine wp_seq ?_
  refine wp_region_lit ?_
  refine lv (d := 2) rfl rfl (by kernel_rfl) (e_assign (v := .int .i64 0) rfl) ?_
  refine wpList_nil ?_
  refine then_n ?_
  refine wp_seq ?_
  refine wp_region_lit ?_
  refine lv (d := 3) rfl rfl (by kernel_rfl) (e_assign (v := .int .i64 (-1)) rfl) ?_
  refine wpList_nil ?_
  refine then_n ?_
  refine wp_seq ?_
  refine wp_seq ?_
  refine wp_region_lit ?_
  refine lv (d := 4) rfl rfl (by kernel_rfl) (e_assign (v := .int .i64 0) rfl) ?_
  refine wpList_nil ?_
  refine then_n ?_
  refine wp_block ?_
  refine wp_loop_g (fun k16 a17 w6 => ∃ (f7 : Nat → Value) (x8 : Int) (x9 : Int), a17 = mk 32 f7 ∧ f7 0 = .slice A2 x1.length c3 ∧ f7 3 = .int .i64 x8 ∧ f7 4 = .int .i64 x9 ∧ St (anyOf []) H w [] H w6 ∧ spec_l8maxVar.l0 k16 x1 x8 x9 = some r) k ⟨_, (-1), 0, rfl, (by kernel_rfl), (by kernel_rfl), (by kernel_rfl), S0_, M⟩ ?_
  clear M
  rintro k16 a17 w6 ⟨f7, x8, x9, rfl, e10, e11, e12, S13, M⟩
  rcases k16 with _ | k18
  · rw [spec_l8maxVar.l0] at M
    cases M
  rw [spec_l8maxVar.l0] at M
  refine wp_seq ?_
  refine wp_seq ?_
  refine wp_region_lit ?_
  refine lv (d := 5) rfl rfl (by kernel_rfl) (e_move (v := .int .i64 x9) (by exact e12)) ?_
  refine lv (d := 6) rfl rfl (by kernel_rfl) (e_move (v := .slice A2 x1.length c3) (by exact e10)) ?_
  refine lv (d := 7) rfl rfl (by kernel_rfl) (e_len (A := A2) (n := x1.length) (c := c3) Try.underlying24 (by kernel_rfl)) ?_
  refine lv (d := 8) rfl rfl (by kernel_rfl) (e_lss (k := .i64) (a := x9) (b := (x1.length : Int)) (by kernel_rfl) (by kernel_rfl)) ?_
  refine wpList_nil ?_
  refine then_n ?_
  by_cases q19 : x9 < (x1.length : Int)
  · replace M := ifp q19 M
    refine cond_t rfl (bt q19 (by kernel_rfl)) ?_
    refine wp_skip ?_
    refine then_n ?_
    refine wp_seq ?_
    refine wp_block ?_
    refine wp_seq ?_
    refine wp_region_lit ?_
    refine lv (d := 11) rfl rfl (by kernel_rfl) (e_move (v := .slice A2 x1.length c3) (by exact e10)) ?_
    refine lv (d := 12) rfl rfl (by kernel_rfl) (e_move (v := .int .i64 x9) (by exact e12)) ?_
    obtain ⟨q20, M⟩ := chk M
    obtain ⟨b21, o22, e23⟩ := Rd.addr h4 (show (x9).toNat < x1.length by omega)
    obtain ⟨y24, r25, k26⟩ := Rd.at h4 e23 (getD_some z36 (show (x9).toNat < x1.length by omega))
    obtain ⟨A27, c28, rfl, l29, h30⟩ := st36_open r25
    refine lv (d := 13) rfl rfl (by kernel_rfl) (e_indexAddr (b := b21) (off := o22) (n := x1.length) (c := c3) (sz := 3) (i := x9) (k := .i64) Try.underlying24 e23 (by kernel_rfl) (by kernel_rfl) (by kernel_rfl) q20 q19) ?_
    refine lv (d := 14) rfl rfl (by kernel_rfl) (e_fieldAddr (b := b21) (off := o22 + (x9 : Int).toNat * 3) (o := 0) Try.underlying36 rfl rfl (sz := 1) (by kernel_rfl) (by decide) (by kernel_rfl)) ?_
    refine lv (d := 15) rfl rfl (by kernel_rfl) (e_load1 (ad := ⟨b21, o22 + (x9 : Int).toNat * 3 + 0, none⟩) (v := .int .i64 ((x1.getD ((x9).toNat) z36).kind)) Try.underlying3 rfl (by kernel_rfl) (hpx (S13.inv.cell (k26 0 _ rfl)))) ?_
    refine lv (d := 16) rfl rfl (by kernel_rfl) (e_eql (k := .i64) (a := (x1.getD ((x9).toNat) z36).kind) (b := 0) (by kernel_rfl) rfl) ?_
    refine lv (d := 17) rfl rfl (by kernel_rfl) (e_move (v := .bool (decide (((x1.getD ((x9).toNat) z36).kind) = 0))) (by kernel_rfl)) ?_
    by_cases q31 : ((x1.getD ((x9).toNat) z36).kind) = 0
    · replace M := ifp q31 M
      refine lvg (d := 18) (t := 17) rfl (by kernel_rfl) rfl (bt q31 (by kernel_rfl)) rfl (by kernel_rfl) (e_move (v := .slice A2 x1.length c3) (by exact e10)) ?_
      refine lvg (d := 19) (t := 17) rfl (by kernel_rfl) rfl (bt q31 (by kernel_rfl)) rfl (by kernel_rfl) (e_move (v := .int .i64 x9) (by exact e12)) ?_
      obtain ⟨b32, o33, e34⟩ := Rd.addr h4 (show (x9).toNat < x1.length by omega)
      obtain ⟨y35, r36, k37⟩ := Rd.at h4 e34 (getD_some z36 (show (x9).toNat < x1.length by omega))
      obtain ⟨A38, c39, rfl, l40, h41⟩ := st36_open r36
      refine lvg (d := 20) (t := 17) rfl (by kernel_rfl) rfl (bt q31 (by kernel_rfl)) rfl (by kernel_rfl) (e_indexAddr (b := b32) (off := o33) (n := x1.length) (c := c3) (sz := 3) (i := x9) (k := .i64) Try.underlying24 e34 (by kernel_rfl) (by kernel_rfl) (by kernel_rfl) q20 q19) ?_
      refine lvg (d := 21) (t := 17) rfl (by kernel_rfl) rfl (bt q31 (by kernel_rfl)) rfl (by kernel_rfl) (e_fieldAddr (b := b32) (off := o33 + (x9 : Int).toNat * 3) (o := 1) Try.underlying36 rfl rfl (sz := 1) (by kernel_rfl) (by decide) (by kernel_rfl)) ?_
      refine lvg (d := 22) (t := 17) rfl (by kernel_rfl) rfl (bt q31 (by kernel_rfl)) rfl (by kernel_rfl) (e_load1 (ad := ⟨b32, o33 + (x9 : Int).toNat * 3 + 1, none⟩) (v := .int .i64 ((x1.getD ((x9).toNat) z36).n)) Try.underlying3 rfl (by kernel_rfl) (hpx (S13.inv.cell (k37 1 _ rfl)))) ?_
      refine lvg (d := 23) (t := 17) rfl (by kernel_rfl) rfl (bt q31 (by kernel_rfl)) rfl (by kernel_rfl) (e_move (v := .int .i64 x8) (by exact e11)) ?_
      refine lvg (d := 24) (t := 17) rfl (by kernel_rfl) rfl (bt q31 (by kernel_rfl)) rfl (by kernel_rfl) (e_gtr (k := .i64) (a := (x1.getD ((x9).toNat) z36).n) (b := x8) (by kernel_rfl) (by kernel_rfl)) ?_
      refine lv (d := 25) rfl rfl (by kernel_rfl) (e_pick_t (v := .bool (decide (((x1.getD ((x9).toNat) z36).n) > x8))) (bt q31 (by kernel_rfl)) (by kernel_rfl)) ?_
      refine wpList_nil ?_
      refine then_n ?_
      by_cases q42 : ((x1.getD ((x9).toNat) z36).n) > x8
      · replace M := ifp q42 M
        refine cond_t rfl (bt q42 (by kernel_rfl)) ?_
        refine wp_region_lit ?_
        refine lv (d := 26) rfl rfl (by kernel_rfl) (e_move (v := .slice A2 x1.length c3) (by exact e10)) ?_
        refine lv (d := 27) rfl rfl (by kernel_rfl) (e_move (v := .int .i64 x9) (by exact e12)) ?_
        obtain ⟨b43, o44, e45⟩ := Rd.addr h4 (show (x9).toNat < x1.length by omega)
        obtain ⟨y46, r47, k48⟩ := Rd.at h4 e45 (getD_some z36 (show (x9).toNat < x1.length by omega))
        obtain ⟨A49, c50, rfl, l51, h52⟩ := st36_open r47
        refine lv (d := 28) rfl rfl (by kernel_rfl) (e_indexAddr (b := b43) (off := o44) (n := x1.length) (c := c3) (sz := 3) (i := x9) (k := .i64) Try.underlying24 e45 (by kernel_rfl) (by kernel_rfl) (by kernel_rfl) q20 q19) ?_
        refine lv (d := 29) rfl rfl (by kernel_rfl) (e_fieldAddr (b := b43) (off := o44 + (x9 : Int).toNat * 3) (o := 1) Try.underlying36 rfl rfl (sz := 1) (by kernel_rfl) (by decide) (by kernel_rfl)) ?_
        refine lv (d := 30) rfl rfl (by kernel_rfl) (e_load1 (ad := ⟨b43, o44 + (x9 : Int).toNat * 3 + 1, none⟩) (v := .int .i64 ((x1.getD ((x9).toNat) z36).n)) Try.underlying3 rfl (by kernel_rfl) (hpx (S13.inv.cell (k48 1 _ rfl)))) ?_
        refine lv (d := 3) rfl rfl (by kernel_rfl) (e_assign (v := .int .i64 ((x1.getD ((x9).toNat) z36).n)) (by kernel_rfl)) ?_
        refine wpList_nil ?_
        refine inb_n ?_
        refine then_n ?_
        refine wp_region_lit ?_
        refine lv (d := 9) rfl rfl (by kernel_rfl) (e_move (v := .int .i64 x9) (by exact e12)) ?_
        refine lv (d := 10) rfl rfl (by kernel_rfl) (e_add (k := .i64) (a := x9) (b := 1) (by kernel_rfl) rfl) ?_
        refine lv (d := 4) rfl rfl (by kernel_rfl) (e_assign (v := .int .i64 (IntKind.i64.wrap (x9 + 1))) (by kernel_rfl)) ?_
        refine wpList_nil ?_
        refine then_n ?_
        exact ⟨k18, (by omega), _, ((x1.getD ((x9).toNat) z36).n), (IntKind.i64.wrap (x9 + 1)), rfl, (by exact e10), (by kernel_rfl), (by kernel_rfl), S13, M⟩
      replace M := ifn q42 M
      refine cond_f rfl (bf q42 (by kernel_rfl)) ?_
      refine wp_skip ?_
      refine inb_n ?_
      refine then_n ?_
      refine wp_region_lit ?_
      refine lv (d := 9) rfl rfl (by kernel_rfl) (e_move (v := .int .i64 x9) (by exact e12)) ?_
      refine lv (d := 10) rfl rfl (by kernel_rfl) (e_add (k := .i64) (a := x9) (b := 1) (by kernel_rfl) rfl) ?_
      refine lv (d := 4) rfl rfl (by kernel_rfl) (e_assign (v := .int .i64 (IntKind.i64.wrap (x9 + 1))) (by kernel_rfl)) ?_
      refine wpList_nil ?_
      refine then_n ?_
      exact ⟨k18, (by omega), _, x8, (IntKind.i64.wrap (x9 + 1)), rfl, (by exact e10), (by exact e11), (by kernel_rfl), S13, M⟩
    replace M := ifn q31 M
    refine lskip (t := 17) (c := false) rfl (by kernel_rfl) rfl (bf q31 (by kernel_rfl)) rfl rfl ?_
    refine lskip (t := 17) (c := false) rfl (by kernel_rfl) rfl (bf q31 (by kernel_rfl)) rfl rfl ?_
    refine lskip (t := 17) (c := false) rfl (by kernel_rfl) rfl (bf q31 (by kernel_rfl)) rfl rfl ?_
    refine lskip (t := 17) (c := false) rfl (by kernel_rfl) rfl (bf q31 (by kernel_rfl)) rfl rfl ?_
    refine lskip (t := 17) (c := false) rfl (by kernel_rfl) rfl (bf q31 (by kernel_rfl)) rfl rfl ?_
    refine lskip (t := 17) (c := false) rfl (by kernel_rfl) rfl (bf q31 (by kernel_rfl)) rfl rfl ?_
    refine lskip (t := 17) (c := false) rfl (by kernel_rfl) rfl (bf q31 (by kernel_rfl)) rfl rfl ?_
    refine lv (d := 25) rfl rfl (by kernel_rfl) (e_pick_f (v := .bool false) (bf q31 (by kernel_rfl)) rfl) ?_
    refine wpList_nil ?_
    refine then_n ?_
    refine cond_f rfl (by kernel_rfl) ?_
    refine wp_skip ?_
    refine inb_n ?_
    refine then_n ?_
    refine wp_region_lit ?_
    refine lv (d := 9) rfl rfl (by kernel_rfl) (e_move (v := .int .i64 x9) (by exact e12)) ?_
    refine lv (d := 10) rfl rfl (by kernel_rfl) (e_add (k := .i64) (a := x9) (b := 1) (by kernel_rfl) rfl) ?_
    refine lv (d := 4) rfl rfl (by kernel_rfl) (e_assign (v := .int .i64 (IntKind.i64.wrap (x9 + 1))) (by kernel_rfl)) ?_
    refine wpList_nil ?_
    refine then_n ?_
    exact ⟨k18, (by omega), _, x8, (IntKind.i64.wrap (x9 + 1)), rfl, (by exact e10), (by exact e11), (by kernel_rfl), S13, M⟩
  replace M := ifn q19 M
  refine cond_f rfl (bf q19 (by kernel_rfl)) ?_
  refine wp_exit ?_
  refine then_e ?_
  refine then_e ?_
  refine inb_hit ?_
  refine then_n ?_
  refine wp_seq ?_
  refine wp_region_lit ?_
  refine lv (d := 31) rfl rfl (by kernel_rfl) (e_move (v := .int .i64 x8) (by exact e11)) ?_
  refine lv (d := 2) rfl rfl (by kernel_rfl) (e_assign (v := .int .i64 x8) (by kernel_rfl)) ?_
  refine wpList_nil ?_
  refine then_n ?_
  refine wp_ret ?_
  obtain rfl := Option.some.inj M
  exact ret1 rfl rfl  (show _ = .int .i64 x8 from (by kernel_rfl)) ⟨rfl, S13.chg⟩

/-! spec_l2next -/
structure GL8gram where
  next_ : Int
  code_ : Int
  deriving Inhabited
def spec_l2next.l0 : Nat → (List Cell) → Int → Int → Option Int
  | 0, _, _, _ => none
  | k19 + 1, x1, x9, x10 => (if x10 > 0 then (if 0 ≤ x9 then (if x9 < (x1.length : Int) then (if ((x1.getD ((x9).toNat) z36).kind) = 3 then (spec_l2next.l0 k19 x1 (IntKind.i64.wrap (x9 + 1)) (IntKind.i64.wrap ((IntKind.i64.wrap (x10 + ((x1.getD ((x9).toNat) z36).n))) - 1))) else (spec_l2next.l0 k19 x1 (IntKind.i64.wrap (x9 + 1)) (IntKind.i64.wrap (x10 - 1)))) else none) else none) else some x9)
def spec_l2next.f (k : Nat) (x1 : List Cell) (x6 : Int) : Option Int := (spec_l2next.l0 k x1 x6 1)
theorem spec_l2next.calls (k : Nat) (w : World) (H : Hp) (x1 : List Cell) (A2 : Option Addr) (c3 : Nat) (x6 : Int) (h4 : Rd st36 H A2 x1) (l5 : x1.length ≤ c3) (S : Own [] H w) (r : Int) (M : spec_l2next.f k x1 x6 = some r) :
    Calls Try.prog 49 #[.slice A2 x1.length c3, .int .i64 x6] w (fun e e_w => e = .returned (.int .i64 r) ∧ Chg no w e_w) := by
  rw [spec_l2next.f] at M
  refine enter (l := [.slice A2 x1.length c3, .int .i64 x6]) 26 Try.func49 rfl rfl rfl ?_
  have S0_ := S.st
  refine wp_seq ?_
  refine wp_region_lit ?_
  refine lv (d := 4) rfl rfl (by kernel_rfl) (e_assign (v := .int .i64 0) rfl) ?_
  refine wpList_nil ?_
  refine then_n ?_
  refine wp_seq ?_
  refine wp_region_lit ?_
  refine lv (d := 5) rfl rfl (by kernel_rfl) (e_assign (v := .int .i64 1) rfl) ?_
  refine wpList_nil ?_
  refine then_n ?_
  refine wp_seq ?_
  refine wp_block ?_
  refine wp_loop_g (fun k17 a18 w7 => ∃ (f8 : Nat → Value) (x9 : Int) (x10 : Int), a18 = mk 26 f8 ∧ f8 0 = .slice A2 x1.length c3 ∧ f8 1 = .int .i64 x9 ∧ f8 5 = .int .i64 x10 ∧ St (anyOf []) H w [] H w7 ∧ spec_l2next.l0 k17 x1 x9 x10 = some r) k ⟨_, x6, 1, rfl, (by kernel_rfl), (by kernel_rfl), (by kernel_rfl), S0_, M⟩ ?_
  clear M
  rintro k17 a18 w7 ⟨f8, x9, x10, rfl, e11, e12, e13, S14, M⟩
  rcases k17 with _ | k19
  · rw [spec_l2next.l0] at M
    cases M
  rw [spec_l2next.l0] at M
  refine wp_seq ?_
  refine wp_seq ?_
  refine wp_region_lit ?_
  refine lv (d := 6) rfl rfl (by kernel_rfl) (e_move (v := .int .i64 x10) (by exact e13)) ?_
  refine lv (d := 7) rfl rfl (by kernel_rfl) (e_gtr (k := .i64) (a := x10) (b := 0) (by kernel_rfl) rfl) ?_
  refine wpList_nil ?_
  refine then_n ?_
  by_cases q20 : x10 > 0
  · replace M := ifp q20 M
    refine cond_t rfl (bt q20 (by kernel_rfl)) ?_
    refine wp_skip ?_
    refine then_n ?_
    refine wp_block ?_
    refine wp_seq ?_
    refine wp_seq ?_
    refine wp_region_lit ?_
    refine lv (d := 8) rfl rfl (by kernel_rfl) (e_move (v := .slice A2 x1.length c3) (by exact e11)) ?_
    refine lv (d := 9) rfl rfl (by kernel_rfl) (e_move (v := .int .i64 x9) (by exact e12)) ?_
    obtain ⟨q21, M⟩ := chk M
    obtain ⟨q22, M⟩ := chk M
    obtain ⟨b23, o24, e25⟩ := Rd.addr h4 (show (x9).toNat < x1.length by omega)
    obtain ⟨y26, r27, k28⟩ := Rd.at h4 e25 (getD_some z36 (show (x9).toNat < x1.length by omega))
    obtain ⟨A29, c30, rfl, l31, h32⟩ := st36_open r27
    refine lv (d := 10) rfl rfl (by kernel_rfl) (e_indexAddr (b := b23) (off := o24) (n := x1.length) (c := c3) (sz := 3) (i := x9) (k := .i64) Try.underlying24 e25 (by kernel_rfl) (by kernel_rfl) (by kernel_rfl) q21 q22) ?_
    refine lv (d := 11) rfl rfl (by kernel_rfl) (e_fieldAddr (b := b23) (off := o24 + (x9 : Int).toNat * 3) (o := 0) Try.underlying36 rfl rfl (sz := 1) (by kernel_rfl) (by decide) (by kernel_rfl)) ?_
    refine lv (d := 12) rfl rfl (by kernel_rfl) (e_load1 (ad := ⟨b23, o24 + (x9 : Int).toNat * 3 + 0, none⟩) (v := .int .i64 ((x1.getD ((x9).toNat) z36).kind)) Try.underlying3 rfl (by kernel_rfl) (hpx (S14.inv.cell (k28 0 _ rfl)))) ?_
    refine lv (d := 13) rfl rfl (by kernel_rfl) (e_eql (k := .i64) (a := (x1.getD ((x9).toNat) z36).kind) (b := 3) (by kernel_rfl) rfl) ?_
    refine wpList_nil ?_
    refine then_n ?_
    by_cases q33 : ((x1.getD ((x9).toNat) z36).kind) = 3
    · replace M := ifp q33 M
      refine cond_t rfl (bt q33 (by kernel_rfl)) ?_
      refine wp_region_lit ?_
      refine lv (d := 14) rfl rfl (by kernel_rfl) (e_move (v := .int .i64 x10) (by exact e13)) ?_
      refine lv (d := 15) rfl rfl (by kernel_rfl) (e_move (v := .slice A2 x1.length c3) (by exact e11)) ?_
      refine lv (d := 16) rfl rfl (by kernel_rfl) (e_move (v := .int .i64 x9) (by exact e12)) ?_
      obtain ⟨b34, o35, e36⟩ := Rd.addr h4 (show (x9).toNat < x1.length by omega)
      obtain ⟨y37, r38, k39⟩ := Rd.at h4 e36 (getD_some z36 (show (x9).toNat < x1.length by omega))
      obtain ⟨A40, c41, rfl, l42, h43⟩ := st36_open r38
      refine lv (d := 17) rfl rfl (by kernel_rfl) (e_indexAddr (b := b34) (off := o35) (n := x1.length) (c := c3) (sz := 3) (i := x9) (k := .i64) Try.underlying24 e36 (by kernel_rfl) (by kernel_rfl) (by kernel_rfl) q21 q22) ?_
      refine lv (d := 18) rfl rfl (by kernel_rfl) (e_fieldAddr (b := b34) (off := o35 + (x9 : Int).toNat * 3) (o := 1) Try.underlying36 rfl rfl (sz := 1) (by kernel_rfl) (by decide) (by kernel_rfl)) ?_
      refine lv (d := 19) rfl rfl (by kernel_rfl) (e_load1 (ad := ⟨b34, o35 + (x9 : Int).toNat * 3 + 1, none⟩) (v := .int .i64 ((x1.getD ((x9).toNat) z36).n)) Try.underlying3 rfl (by kernel_rfl) (hpx (S14.inv.cell (k39 1 _ rfl)))) ?_
      refine lv (d := 20) rfl rfl (by kernel_rfl) (e_add (k := .i64) (a := x10) (b := (x1.getD ((x9).toNat) z36).n) (by kernel_rfl) (by kernel_rfl)) ?_
      refine lv (d := 5) rfl rfl (by kernel_rfl) (e_assign (v := .int .i64 (IntKind.i64.wrap (x10 + ((x1.getD ((x9).toNat) z36).n)))) (by kernel_rfl)) ?_
      refine wpList_nil ?_
      refine then_n ?_
      refine wp_seq ?_
      refine wp_region_lit ?_
      refine lv (d := 21) rfl rfl (by kernel_rfl) (e_move (v := .int .i64 (IntKind.i64.wrap (x10 + ((x1.getD ((x9).toNat) z36).n)))) (by kernel_rfl)) ?_
      refine lv (d := 22) rfl rfl (by kernel_rfl) (e_sub (k := .i64) (a := (IntKind.i64.wrap (x10 + ((x1.getD ((x9).toNat) z36).n)))) (b := 1) (by kernel_rfl) rfl) ?_
      refine lv (d := 5) rfl rfl (by kernel_rfl) (e_assign (v := .int .i64 (IntKind.i64.wrap ((IntKind.i64.wrap (x10 + ((x1.getD ((x9).toNat) z36).n))) - 1))) (by kernel_rfl)) ?_
      refine wpList_nil ?_
      refine then_n ?_
      refine wp_region_lit ?_
      refine lv (d := 23) rfl rfl (by kernel_rfl) (e_move (v := .int .i64 x9) (by exact e12)) ?_
      refine lv (d := 24) rfl rfl (by kernel_rfl) (e_add (k := .i64) (a := x9) (b := 1) (by kernel_rfl) rfl) ?_
      refine lv (d := 1) rfl rfl (by kernel_rfl) (e_assign (v := .int .i64 (IntKind.i64.wrap (x9 + 1))) (by kernel_rfl)) ?_
      refine wpList_nil ?_
      refine inb_n ?_
      refine then_n ?_
      exact ⟨k19, (by omega), _, (IntKind.i64.wrap (x9 + 1)), (IntKind.i64.wrap ((IntKind.i64.wrap (x10 + ((x1.getD ((x9).toNat) z36).n))) - 1)), rfl, (by exact e11), (by kernel_rfl), (by kernel_rfl), S14, M⟩
    replace M := ifn q33 M
    refine cond_f rfl (bf q33 (by kernel_rfl)) ?_
    refine wp_skip ?_
    refine then_n ?_
    refine wp_seq ?_
    refine wp_region_lit ?_
    refine lv (d := 21) rfl rfl (by kernel_rfl) (e_move (v := .int .i64 x10) (by exact e13)) ?_
    refine lv (d := 22) rfl rfl (by kernel_rfl) (e_sub (k := .i64) (a := x10) (b := 1) (by kernel_rfl) rfl) ?_
    refine lv (d := 5) rfl rfl (by kernel_rfl) (e_assign (v := .int .i64 (IntKind.i64.wrap (x10 - 1))) (by kernel_rfl)) ?_
    refine wpList_nil ?_
    refine then_n ?_
    refine wp_region_lit ?_
    refine lv (d := 23) rfl rfl (by kernel_rfl) (e_move (v := .int .i64 x9) (by exact e12)) ?_
    refine lv (d := 24) rfl rfl (by kernel_rfl) (e_add (k := .i64) (a := x9) (b := 1) (by kernel_rfl) rfl) ?_
    refine lv (d := 1) rfl rfl (by kernel_rfl) (e_assign (v := .int .i64 (IntKind.i64.wrap (x9 + 1))) (by kernel_rfl)) ?_
    refine wpList_nil ?_
    refine inb_n ?_
    refine then_n ?_
    exact ⟨k19, (by omega), _, (IntKind.i64.wrap (x9 + 1)), (IntKind.i64.wrap (x10 - 1)), rfl, (by exact e11), (by kernel_rfl), (by kernel_rfl), S14, M⟩
  replace M := ifn q20 M
  refine cond_f rfl (bf q20 (by kernel_rfl)) ?_
  refine wp_exit ?_
  refine then_e ?_
  refine then_e ?_
  refine inb_hit ?_
  refine then_n ?_
  refine wp_seq ?_
  refine wp_region_lit ?_
  refine lv (d := 25) rfl rfl (by kernel_rfl) (e_move (v := .int .i64 x9) (by exact e12)) ?_
  refine lv (d := 4) rfl rfl (by kernel_rfl) (e_assign (v := .int .i64 x9) (by kernel_rfl)) ?_
  refine wpList_nil ?_
  refine then_n ?_
  refine wp_ret ?_
  obtain rfl := Option.some.inj M
  exact ret1 rfl rfl  (show _ = .int .i64 x9 from (by kernel_rfl)) ⟨rfl, S14.chg⟩

/-! spec_l2args -/
def sl36 : Ty (List Cell) := slice 36 st36 (by decide)
def spec_l2args.l0 : Nat → (List Cell) → (List (List Cell)) → Int → Int → Option (List (List Cell))
  | 0, _, _, _, _ => none
  | k39 + 1, x1, x23, x28, x29 => (if x29 < ((x1.getD 0 z36).n) then ((spec_l2next.f k39 x1 x28).bind fun t52 => (if 0 ≤ x28 then (if x28 ≤ t52 then (if t52 ≤ (x1.length : Int) then (if x23.length + 1 ≤ 5864062014805 then (spec_l2args.l0 k39 x1 (x23 ++ [((x1.drop ((x28 : Int).toNat)).take ((t52 : Int).toNat - (x28 : Int).toNat))]) t52 (IntKind.i64.wrap (x29 + 1))) else none) else none) else none) else none)) else some x23)
def spec_l2args.f (k : Nat) (x1 : List Cell) : Option (List (List Cell)) := (if (x1.length : Int) = 0 then some [] else (if 0 < (x1.length : Int) then (if ((x1.getD 0 z36).kind) ≠ 3 then some [] else (spec_l2args.l0 k x1 [] 1 0)) else none))
theorem spec_l2args.calls (k : Nat) (w : World) (H : Hp) (x1 : List Cell) (A2 : Option Addr) (c3 : Nat) (h4 : Rd st36 H A2 x1) (l5 : x1.length ≤ c3) (S : Own [] H w) (r : List (List Cell)) (M : spec_l2args.f k x1 = some r) :
    Calls Try.prog 27 #[.slice A2 x1.length c3] w (fun e e_w => ∃ (A_1 : Option Addr) (c_1 : Nat) (F_1 : Foot) (H_ : Hp), e = .returned (.slice A_1 r.length c_1) ∧ Row (ro sl36) 24 H_ (hp e_w) F_1 A_1 c_1 r ∧ St (anyOf []) H w [F_1] H_ e_w) := by
  rw [spec_l2args.f] at M
  refine enter (l := [.slice A2 x1.length c3]) 38 Try.func27 rfl rfl rfl ?_
  have S0_ := S.st
  refine wp_seq ?_
  refine wp_region_lit ?_
  refine lv (d := 2) rfl rfl (by kernel_rfl) (e_assign (v := .slice none 0 0) rfl) ?_
  refine wpList_nil ?_
  refine then_n ?_
  refine wp_seq ?_
  refine wp_region_lit ?_
  refine lv (d := 3) rfl rfl (by kernel_rfl) (e_assign (v := .slice none 0 0) rfl) ?_
  refine wpList_nil ?_
  refine then_n ?_
  refine wp_seq ?_
  refine wp_seq ?_
  refine wp_region_lit ?_
  refine lv (d := 7) rfl rfl (by kernel_rfl) (e_move (v := .slice A2 x1.length c3) (by kernel_rfl)) ?_
  refine lv (d := 8) rfl rfl (by kernel_rfl) (e_len (A := A2) (n := x1.length) (c := c3) Try.underlying24 (by kernel_rfl)) ?_
  refine lv (d := 9) rfl rfl (by kernel_rfl) (e_eql (k := .i64) (a := (x1.length : Int)) (b := 0) (by kernel_rfl) rfl) ?_
  refine lv (d := 10) rfl rfl (by kernel_rfl) (e_move (v := .bool (decide ((x1.length : Int) = 0))) (by kernel_rfl)) ?_
  by_cases q6 : (x1.length : Int) = 0
  · replace M := ifp q6 M
    refine lskip (t := 10) (c := true) rfl (by kernel_rfl) rfl (bt q6 (by kernel_rfl)) rfl rfl ?_
    refine lskip (t := 10) (c := true) rfl (by kernel_rfl) rfl (bt q6 (by kernel_rfl)) rfl rfl ?_
    refine lskip (t := 10) (c := true) rfl (by kernel_rfl) rfl (bt q6 (by kernel_rfl)) rfl rfl ?_
    refine lskip (t := 10) (c := true) rfl (by kernel_rfl) rfl (bt q6 (by kernel_rfl)) rfl rfl ?_
    refine lskip (t := 10) (c := true) rfl (by kernel_rfl) rfl (bt q6 (by kernel_rfl)) rfl rfl ?_
    refine lv (d := 16) rfl rfl (by kernel_rfl) (e_pick_t (v := .bool true) (bt q6 (by kernel_rfl)) rfl) ?_
    refine wpList_nil ?_
    refine then_n ?_
    refine cond_t rfl (by kernel_rfl) ?_
    refine wp_seq ?_
    refine wp_region_lit ?_
    refine lv (d := 17) rfl rfl (by kernel_rfl) (e_move (v := .slice none 0 0) (by kernel_rfl)) ?_
    refine lv (d := 2) rfl rfl (by kernel_rfl) (e_assign (v := .slice none 0 0) (by kernel_rfl)) ?_
    refine wpList_nil ?_
    refine then_n ?_
    refine wp_ret ?_
    refine then_r ?_
    obtain rfl := Option.some.inj M
    have S7 := S0_.unit
    exact ret1 rfl rfl  (show _ = .slice none 0 0 from (by kernel_rfl)) ⟨none, 0, no, H, rfl, (Row.nil _ _ _ _ no), S7⟩
  replace M := ifn q6 M
  refine lvg (d := 11) (t := 10) rfl (by kernel_rfl) rfl (bf q6 (by kernel_rfl)) rfl (by kernel_rfl) (e_move (v := .slice A2 x1.length c3) (by kernel_rfl)) ?_
  obtain ⟨q8, M⟩ := chk M
  obtain ⟨b9, o10, e11⟩ := Rd.addr h4 (show 0 < x1.length by omega)
  obtain ⟨y12, r13, k14⟩ := Rd.at h4 e11 (getD_some z36 (show 0 < x1.length by omega))
  obtain ⟨A15, c16, rfl, l17, h18⟩ := st36_open r13
  refine lvg (d := 12) (t := 10) rfl (by kernel_rfl) rfl (bf q6 (by kernel_rfl)) rfl (by kernel_rfl) (e_indexAddr (b := b9) (off := o10) (n := x1.length) (c := c3) (sz := 3) (i := 0) (k := .i64) Try.underlying24 e11 (by kernel_rfl) (by kernel_rfl) rfl (by omega) q8) ?_
  refine lvg (d := 13) (t := 10) rfl (by kernel_rfl) rfl (bf q6 (by kernel_rfl)) rfl (by kernel_rfl) (e_fieldAddr (b := b9) (off := o10 + (0 : Int).toNat * 3) (o := 0) Try.underlying36 rfl rfl (sz := 1) (by kernel_rfl) (by decide) (by kernel_rfl)) ?_
  refine lvg (d := 14) (t := 10) rfl (by kernel_rfl) rfl (bf q6 (by kernel_rfl)) rfl (by kernel_rfl) (e_load1 (ad := ⟨b9, o10 + (0 : Int).toNat * 3 + 0, none⟩) (v := .int .i64 ((x1.getD 0 z36).kind)) Try.underlying3 rfl (by kernel_rfl) (hpx (S0_.inv.cell (k14 0 _ rfl)))) ?_
  refine lvg (d := 15) (t := 10) rfl (by kernel_rfl) rfl (bf q6 (by kernel_rfl)) rfl (by kernel_rfl) (e_neq (k := .i64) (a := (x1.getD 0 z36).kind) (b := 3) (by kernel_rfl) rfl) ?_
  refine lv (d := 16) rfl rfl (by kernel_rfl) (e_pick_f (v := .bool (decide (((x1.getD 0 z36).kind) ≠ 3))) (bf q6 (by kernel_rfl)) (by kernel_rfl)) ?_
  refine wpList_nil ?_
  refine then_n ?_
  by_cases q19 : ((x1.getD 0 z36).kind) ≠ 3
  · replace M := ifp q19 M
    refine cond_t rfl (bt q19 (by kernel_rfl)) ?_
    refine wp_seq ?_
    refine wp_region_lit ?_
    refine lv (d := 17) rfl rfl (by kernel_rfl) (e_move (v := .slice none 0 0) (by kernel_rfl)) ?_
    refine lv (d := 2) rfl rfl (by kernel_rfl) (e_assign (v := .slice none 0 0) (by kernel_rfl)) ?_
    refine wpList_nil ?_
    refine then_n ?_
    refine wp_ret ?_
    refine then_r ?_
    obtain rfl := Option.some.inj M
    have S20 := S0_.unit
    exact ret1 rfl rfl  (show _ = .slice none 0 0 from (by kernel_rfl)) ⟨none, 0, no, H, rfl, (Row.nil _ _ _ _ no), S20⟩
  replace M := ifn q19 M
  refine cond_f rfl (bf q19 (by kernel_rfl)) ?_
  refine wp_skip ?_
  refine then_n ?_
  refine wp_seq ?_
  refine wp_region_lit ?_
  refine lv (d := 4) rfl rfl (by kernel_rfl) (e_assign (v := .int .i64 1) rfl) ?_
  refine wpList_nil ?_
  refine then_n ?_
  refine wp_seq ?_
  refine wp_seq ?_
  refine wp_region_lit ?_
  refine lv (d := 5) rfl rfl (by kernel_rfl) (e_assign (v := .int .i64 0) rfl) ?_
  refine wpList_nil ?_
  refine then_n ?_
  refine wp_block ?_
  have S40 := S0_.unit
  refine wp_loop_g (fun k37 a38 w21 => ∃ (f22 : Nat → Value) (x23 : List (List Cell)) (A24 : Option Addr) (c25 : Nat) (F26 : Foot) (x28 : Int) (x29 : Int), a38 = mk 38 f22 ∧ f22 0 = .slice A2 x1.length c3 ∧ f22 3 = .slice A24 x23.length c25 ∧ f22 4 = .int .i64 x28 ∧ f22 5 = .int .i64 x29 ∧ Row (ro sl36) 24 H (hp w21) F26 A24 c25 x23 ∧ St (anyOf []) H w [F26] H w21 ∧ spec_l2args.l0 k37 x1 x23 x28 x29 = some r) k ⟨_, [], none, 0, no, 1, 0, rfl, (by kernel_rfl), (by kernel_rfl), (by kernel_rfl), (by kernel_rfl), (Row.nil _ _ _ _ _), S40, M⟩ ?_
  clear M
  rintro k37 a38 w21 ⟨f22, x23, A24, c25, F26, x28, x29, rfl, e30, e31, e32, e33, h27, S34, M⟩
  rcases k37 with _ | k39
  · rw [spec_l2args.l0] at M
    cases M
  rw [spec_l2args.l0] at M
  refine wp_seq ?_
  refine wp_seq ?_
  refine wp_region_lit ?_
  refine lv (d := 18) rfl rfl (by kernel_rfl) (e_move (v := .int .i64 x29) (by exact e33)) ?_
  refine lv (d := 19) rfl rfl (by kernel_rfl) (e_move (v := .slice A2 x1.length c3) (by exact e30)) ?_
  obtain ⟨b41, o42, e43⟩ := Rd.addr h4 (show 0 < x1.length by omega)
  obtain ⟨y44, r45, k46⟩ := Rd.at h4 e43 (getD_some z36 (show 0 < x1.length by omega))
  obtain ⟨A47, c48, rfl, l49, h50⟩ := st36_open r45
  refine lv (d := 20) rfl rfl (by kernel_rfl) (e_indexAddr (b := b41) (off := o42) (n := x1.length) (c := c3) (sz := 3) (i := 0) (k := .i64) Try.underlying24 e43 (by kernel_rfl) (by kernel_rfl) rfl (by omega) q8) ?_
  refine lv (d := 21) rfl rfl (by kernel_rfl) (e_fieldAddr (b := b41) (off := o42 + (0 : Int).toNat * 3) (o := 1) Try.underlying36 rfl rfl (sz := 1) (by kernel_rfl) (by decide) (by kernel_rfl)) ?_
  refine lv (d := 22) rfl rfl (by kernel_rfl) (e_load1 (ad := ⟨b41, o42 + (0 : Int).toNat * 3 + 1, none⟩) (v := .int .i64 ((x1.getD 0 z36).n)) Try.underlying3 rfl (by kernel_rfl) (hpx (S34.inv.cell (k46 1 _ rfl)))) ?_
  refine lv (d := 23) rfl rfl (by kernel_rfl) (e_lss (k := .i64) (a := x29) (b := (x1.getD 0 z36).n) (by kernel_rfl) (by kernel_rfl)) ?_
  refine wpList_nil ?_
  refine then_n ?_
  by_cases q51 : x29 < ((x1.getD 0 z36).n)
  · replace M := ifp q51 M
    refine cond_t rfl (bt q51 (by kernel_rfl)) ?_
    refine wp_skip ?_
    refine then_n ?_
    refine wp_seq ?_
    refine wp_block ?_
    refine wp_seq ?_
    refine wp_region_lit ?_
    refine lv (d := 26) rfl rfl (by kernel_rfl) (e_move (v := .slice A2 x1.length c3) (by exact e30)) ?_
    refine lv (d := 27) rfl rfl (by kernel_rfl) (e_move (v := .int .i64 x28) (by exact e32)) ?_
    obtain ⟨t52, u53, M⟩ := bnd M
    refine lcall (d := 28) rfl rfl (by kernel_rfl) (e_call (l := [.tmp 26, .tmp 27]) (vs := [.slice A2 x1.length c3, .int .i64 x28]) Try.func49 (by kernel_rfl) rfl (by kernel_rfl) rfl) (spec_l2next.calls k39 w21 H x1 A2 c3 x28 h4 l5 S34.own0 t52 u53) ?_
    rintro _ w54 ⟨rfl, C55⟩
    refine ⟨_, rfl, ?_⟩
    obtain ⟨S56, K57⟩ := S34.still C55
    replace h27 := h27.move (K57.at 0 rfl)
    refine lv (d := 6) rfl rfl (by kernel_rfl) (e_assign (v := .int .i64 t52) (by kernel_rfl)) ?_
    refine wpList_nil ?_
    refine then_n ?_
    refine wp_seq ?_
    refine wp_region_lit ?_
    refine lv (d := 29) rfl rfl (by kernel_rfl) (e_move (v := .slice A24 x23.length c25) (by exact e31)) ?_
    refine lv (d := 30) rfl rfl (by kernel_rfl) (e_move (v := .slice A2 x1.length c3) (by exact e30)) ?_
    refine lv (d := 31) rfl rfl (by kernel_rfl) (e_move (v := .int .i64 x28) (by exact e32)) ?_
    refine lv (d := 32) rfl rfl (by kernel_rfl) (e_move (v := .int .i64 t52) (by kernel_rfl)) ?_
    obtain ⟨q58, M⟩ := chk M
    obtain ⟨q59, M⟩ := chk M
    obtain ⟨q60, M⟩ := chk M
    obtain ⟨A61, h64, l63, h62⟩ := Rd.sub2 (d := st36) (n := x1.length) (m := 3) (cap := c3) (a := x28) (b := t52) rfl h4 q58 q59 q60 rfl l5
    refine lv (d := 33) rfl rfl (by kernel_rfl) (e_slice_lh (n := x1.length) (m := 3) (cap := c3) (A := A2) (a := x28) (b := t52) (k := .i64) (k2 := .i64) Try.underlying24 (by kernel_rfl) (by kernel_rfl) (by kernel_rfl) (by kernel_rfl) q58 q59 q60 l5 h64) ?_
    refine lve (d := 34) rfl rfl (by kernel_rfl) (new_blk (v := fun g_ => .slice (some ⟨g_, 0, none⟩) 1 1) (cs := #[.slice A61 ((x1.drop ((x28 : Int).toNat)).take ((t52 : Int).toNat - (x28 : Int).toNat)).length (c3 - ((x28 : Int).toNat))]) (t := 24) S56 (by kernel_rfl)) ?_
    rintro _ w65 ⟨g66, rfl, b67, S68, K69⟩
    replace h27 := h27.move (K69.at 0 rfl)
    obtain ⟨q70, M⟩ := chk M
    have S71 := S68.pull (F := F26) (Fr := [(is g66)]) 1 rfl rfl
    have S72 := S71.unit
    have S73 := S72.pull (F := F26) (Fr := [no, (is g66)]) 1 rfl rfl
    refine lve (d := 35) rfl rfl (by kernel_rfl) (e_append (d := (ro sl36)) (n := x23.length) (xs := x23) (cap := c25) (A := A24) (ys := [((x1.drop ((x28 : Int).toNat)).take ((t52 : Int).toNat - (x28 : Int).toNat))]) (A2 := (some ⟨g66, 0, none⟩)) (c2 := 1) (z := .slice none 0 0) (bytes := 24) S73 Try.underlying50 (by kernel_rfl) rfl (by decide) (by kernel_rfl) rfl (by kernel_rfl) h27 (elsO_one1 ⟨A61, (c3 - ((x28 : Int).toNat)), rfl, l63, h62⟩) (.inr (blk_news b67 rfl)) (show (x23.length + [((x1.drop ((x28 : Int).toNat)).take ((t52 : Int).toNat - (x28 : Int).toNat))].length) * 24 ≤ _ by first | omega | (simp only [List.length_cons, List.length_nil]; omega)) (by decide)) ?_
    rintro _ w74 ⟨A75, c76, F77, rfl, h78, S79, K80⟩
    replace b67 := K80.blk 0 rfl b67
    refine lv (d := 3) rfl rfl (by kernel_rfl) (e_assign (v := .slice A75 ((x23 ++ [((x1.drop ((x28 : Int).toNat)).take ((t52 : Int).toNat - (x28 : Int).toNat))]).length) c76) (by kernel_rfl)) ?_
    refine wpList_nil ?_
    refine then_n ?_
    refine wp_region_lit ?_
    refine lv (d := 36) rfl rfl (by kernel_rfl) (e_move (v := .int .i64 t52) (by kernel_rfl)) ?_
    refine lv (d := 4) rfl rfl (by kernel_rfl) (e_assign (v := .int .i64 t52) (by kernel_rfl)) ?_
    refine wpList_nil ?_
    refine inb_n ?_
    refine then_n ?_
    refine wp_region_lit ?_
    refine lv (d := 24) rfl rfl (by kernel_rfl) (e_move (v := .int .i64 x29) (by exact e33)) ?_
    refine lv (d := 25) rfl rfl (by kernel_rfl) (e_add (k := .i64) (a := x29) (b := 1) (by kernel_rfl) rfl) ?_
    refine lv (d := 5) rfl rfl (by kernel_rfl) (e_assign (v := .int .i64 (IntKind.i64.wrap (x29 + 1))) (by kernel_rfl)) ?_
    refine wpList_nil ?_
    refine then_n ?_
    have S81 := St.first (Fa := [F77]) (Fr := [(is g66)]) S79
    exact ⟨k39, (by omega), _, (x23 ++ [((x1.drop ((x28 : Int).toNat)).take ((t52 : Int).toNat - (x28 : Int).toNat))]), A75, c76, F77, t52, (IntKind.i64.wrap (x29 + 1)), rfl, (by exact e30), (by kernel_rfl), (by kernel_rfl), (by kernel_rfl), h78, S81, M⟩
  replace M := ifn q51 M
  refine cond_f rfl (bf q51 (by kernel_rfl)) ?_
  refine wp_exit ?_
  refine then_e ?_
  refine then_e ?_
  refine inb_hit ?_
  refine then_n ?_
  refine wp_seq ?_
  refine wp_region_lit ?_
  refine lv (d := 37) rfl rfl (by kernel_rfl) (e_move (v := .slice A24 x23.length c25) (by exact e31)) ?_
  refine lv (d := 2) rfl rfl (by kernel_rfl) (e_assign (v := .slice A24 x23.length c25) (by kernel_rfl)) ?_
  refine wpList_nil ?_
  refine then_n ?_
  refine wp_ret ?_
  obtain rfl := Option.some.inj M
  exact ret1 rfl rfl  (show _ = .slice A24 x23.length c25 from (by kernel_rfl)) ⟨A24, c25, F26, H, rfl, h27, S34⟩

/-! spec_l2var -/
def spec_l2var.f (x1 : Int) : Option (List Cell) := some [(⟨0, x1, []⟩ : Cell)]
theorem spec_l2var.calls (w : World) (H : Hp) (x1 : Int) (S : Own [] H w) (r : List Cell) (M : spec_l2var.f x1 = some r) :
    Calls Try.prog 50 #[.int .i64 x1] w (fun e e_w => ∃ (A_1 : Option Addr) (c_1 : Nat) (F_1 : Foot) (H_ : Hp), e = .returned (.slice A_1 r.length c_1) ∧ Row st36 36 H_ (hp e_w) F_1 A_1 c_1 r ∧ St (anyOf []) H w [F_1] H_ e_w) := by
  rw [spec_l2var.f] at M
  refine enter (l := [.int .i64 x1]) 6 Try.func50 rfl rfl rfl ?_
  have S0_ := S.st
  refine wp_seq ?_
  refine wp_region_lit ?_
  refine lv (d := 2) rfl rfl (by kernel_rfl) (e_assign (v := .slice none 0 0) rfl) ?_
  refine wpList_nil ?_
  refine then_n ?_
  refine wp_seq ?_
  refine wp_region_lit ?_
  refine lv (d := 3) rfl rfl (by kernel_rfl) (e_move (v := .int .i64 x1) (by kernel_rfl)) ?_
  refine lv (d := 4) rfl rfl (by kernel_rfl) (show _ = Result.ok (Next.value (.agg #[.int .i64 0, .int .i64 x1, .slice none 0 0])) w from by kernel_rfl) ?_
  refine lve (d := 5) rfl rfl (by kernel_rfl) (new_blk (v := fun g_ => .slice (some ⟨g_, 0, none⟩) 1 1) (cs := #[.int .i64 0, .int .i64 x1, .slice none 0 0]) (t := 36) S0_ (by kernel_rfl)) ?_
  rintro _ w2 ⟨g3, rfl, b4, S5, K6⟩
  have S7 := S5.unit
  have S8 := S7.pull (F := (is g3)) (Fr := [no]) 1 rfl rfl
  obtain ⟨h9, S10⟩ := row_lit (d := st36) (xs := [(⟨0, x1, []⟩ : Cell)]) S8 b4 rfl (elsO_one1 (st36_mkO (x := (⟨0, x1, []⟩ : Cell)) (Row.nil _ _ _ _ no))) (Nat.le_of_ble_eq_true rfl)
  refine lv (d := 2) rfl rfl (by kernel_rfl) (e_assign (v := .slice (some ⟨g3, 0, none⟩) 1 1) (by kernel_rfl)) ?_
  refine wpList_nil ?_
  refine then_n ?_
  refine wp_ret ?_
  obtain rfl := Option.some.inj M
  exact ret1 rfl rfl  (show _ = .slice (some ⟨g3, 0, none⟩) 1 1 from (by kernel_rfl)) ⟨(some ⟨g3, 0, none⟩), 1, (or2 (is g3) no), H, rfl, h9, S10⟩

/-! spec_l8new -/
def spec_l8new.f (x1 : GL8gram) : Option ((List Cell) × GL8gram) := ((spec_l2var.f (IntKind.i64.wrap ((IntKind.i64.wrap (x1.next_ + 1)) - 1))).bind fun t8 => some (t8, (⟨(IntKind.i64.wrap (x1.next_ + 1)), x1.code_⟩ : GL8gram)))
theorem spec_l8new.calls (w : World) (H : Hp) (x1 : GL8gram) (g2 : Nat) (b3 : w.heap[g2]? = some (.cells #[.int .i64 x1.next_, .int .i64 x1.code_] 49 (0, 0))) (S : Own [(is g2)] H w) (r : (List Cell) × GL8gram) (M : spec_l8new.f x1 = some r) :
    Calls Try.prog 28 #[.pointer (some ⟨g2, 0, none⟩)] w (fun e e_w => ∃ (A_1 : Option Addr) (c_1 : Nat) (F_1 : Foot) (H_ : Hp), e = .returned (.slice A_1 r.1.length c_1) ∧ e_w.heap[g2]? = some (.cells #[.int .i64 r.2.next_, .int .i64 r.2.code_] 49 (0, 0)) ∧ Row st36 36 H_ (hp e_w) F_1 A_1 c_1 r.1 ∧ St (anyOf [(is g2)]) H w [(is g2), F_1] H_ e_w) := by
  rw [spec_l8new.f] at M
  refine enter (l := [.pointer (some ⟨g2, 0, none⟩)]) 16 Try.func28 rfl rfl rfl ?_
  have S0_ := S.st
  refine wp_seq ?_
  refine wp_region_lit ?_
  refine lv (d := 2) rfl rfl (by kernel_rfl) (e_assign (v := .slice none 0 0) rfl) ?_
  refine wpList_nil ?_
  refine then_n ?_
  refine wp_seq ?_
  refine wp_region_lit ?_
  refine lv (d := 3) rfl rfl (by kernel_rfl) (e_move (v := .pointer (some ⟨g2, 0, none⟩)) (by kernel_rfl)) ?_
  refine lv (d := 4) rfl rfl (by kernel_rfl) (e_nilCheck (ad := ⟨g2, 0, none⟩) (by kernel_rfl)) ?_
  refine lv (d := 5) rfl rfl (by kernel_rfl) (e_fieldAddr (b := g2) (off := 0) (o := 0) Try.underlying49 rfl rfl (sz := 1) (by kernel_rfl) (by decide) (by kernel_rfl)) ?_
  refine lv (d := 6) rfl rfl (by kernel_rfl) (e_load1 (ad := ⟨g2, 0 + 0, none⟩) (v := .int .i64 x1.next_) Try.underlying3 rfl (by kernel_rfl) (blk_cell b3 rfl)) ?_
  refine lv (d := 7) rfl rfl (by kernel_rfl) (e_add (k := .i64) (a := x1.next_) (b := 1) (by kernel_rfl) rfl) ?_
  refine lv (d := 8) rfl rfl (by kernel_rfl) (e_nilCheck (ad := ⟨g2, 0, none⟩) (by kernel_rfl)) ?_
  refine lv (d := 9) rfl rfl (by kernel_rfl) (e_fieldAddr (b := g2) (off := 0) (o := 0) Try.underlying49 rfl rfl (sz := 1) (by kernel_rfl) (by decide) (by kernel_rfl)) ?_
  refine lse rfl rfl (by kernel_rfl) (e_store (g := g2) (o := 0 + 0) (v := .int .i64 (IntKind.i64.wrap (x1.next_ + 1))) (cur' := #[.int .i64 (IntKind.i64.wrap (x1.next_ + 1)), .int .i64 x1.code_]) (vs := [.int .i64 (IntKind.i64.wrap (x1.next_ + 1))]) S0_ (by kernel_rfl) (by kernel_rfl) rfl (by kernel_rfl) b3 (Nat.le_of_ble_eq_true rfl) (List.forall_mem_cons.2 ⟨rfl, (fun _ h_ => by cases h_)⟩) rfl) ?_
  rintro w4 ⟨b5, S6, K7⟩
  clear b3
  refine wpList_nil ?_
  refine then_n ?_
  refine wp_seq ?_
  refine wp_region_lit ?_
  refine lv (d := 10) rfl rfl (by kernel_rfl) (e_move (v := .pointer (some ⟨g2, 0, none⟩)) (by kernel_rfl)) ?_
  refine lv (d := 11) rfl rfl (by kernel_rfl) (e_nilCheck (ad := ⟨g2, 0, none⟩) (by kernel_rfl)) ?_
  refine lv (d := 12) rfl rfl (by kernel_rfl) (e_fieldAddr (b := g2) (off := 0) (o := 0) Try.underlying49 rfl rfl (sz := 1) (by kernel_rfl) (by decide) (by kernel_rfl)) ?_
  refine lv (d := 13) rfl rfl (by kernel_rfl) (e_load1 (ad := ⟨g2, 0 + 0, none⟩) (v := .int .i64 (IntKind.i64.wrap (x1.next_ + 1))) Try.underlying3 rfl (by kernel_rfl) (blk_cell b5 rfl)) ?_
  refine lv (d := 14) rfl rfl (by kernel_rfl) (e_sub (k := .i64) (a := (IntKind.i64.wrap (x1.next_ + 1))) (b := 1) (by kernel_rfl) rfl) ?_
  obtain ⟨t8, u9, M⟩ := bnd M
  refine lcall (d := 15) rfl rfl (by kernel_rfl) (e_call (l := [.tmp 14]) (vs := [.int .i64 (IntKind.i64.wrap ((IntKind.i64.wrap (x1.next_ + 1)) - 1))]) Try.func50 (by kernel_rfl) rfl (by kernel_rfl) rfl) (spec_l2var.calls w4 H (IntKind.i64.wrap ((IntKind.i64.wrap (x1.next_ + 1)) - 1))  (St.own' (Fa := []) (Fr := [(is g2)]) S6) t8 u9) ?_
  rintro _ w10 ⟨A13, c14, F16, H11, rfl, h15, T12⟩
  refine ⟨_, rfl, ?_⟩
  obtain ⟨S17, K18⟩ := St.call (Fa := []) (Fr := [(is g2)]) S6 T12
  replace b5 := K18.blk 0 rfl b5
  have E19 := T12.ext
  refine lv (d := 2) rfl rfl (by kernel_rfl) (e_assign (v := .slice A13 t8.length c14) (by kernel_rfl)) ?_
  refine wpList_nil ?_
  refine then_n ?_
  refine wp_ret ?_
  obtain rfl := Option.some.inj M
  have S20 := S17.pull (F := (is g2)) (Fr := [F16]) 1 rfl rfl
  exact ret1 rfl rfl  (show _ = .slice A13 t8.length c14 from (by kernel_rfl)) ⟨A13, c14, F16, H11, rfl, b5, h15, S20⟩

/-! spec_l2atom -/
def spec_l2atom.f (x1 : List UInt8) : Option (List Cell) := (if x1.length ≤ 9223372036854775807 then some [(⟨2, 0, x1⟩ : Cell)] else none)
theorem spec_l2atom.calls (w : World) (H : Hp) (x1 : List UInt8) (S : Own [] H w) (r : List Cell) (M : spec_l2atom.f x1 = some r) :
    Calls Try.prog 41 #[str x1] w (fun e e_w => ∃ (A_1 : Option Addr) (c_1 : Nat) (F_1 : Foot) (H_ : Hp), e = .returned (.slice A_1 r.length c_1) ∧ Row st36 36 H_ (hp e_w) F_1 A_1 c_1 r ∧ St (anyOf []) H w [F_1] H_ e_w) := by
  rw [spec_l2atom.f] at M
  refine enter (l := [str x1]) 7 Try.func41 rfl rfl rfl ?_
  have S0_ := S.st
  refine wp_seq ?_
  refine wp_region_lit ?_
  refine lv (d := 2) rfl rfl (by kernel_rfl) (e_assign (v := .slice none 0 0) rfl) ?_
  refine wpList_nil ?_
  refine then_n ?_
  refine wp_seq ?_
  refine wp_region_lit ?_
  refine lv (d := 3) rfl rfl (by kernel_rfl) (e_move (v := str x1) (by kernel_rfl)) ?_
  obtain ⟨q2, M⟩ := chk M
  refine lve (d := 4) rfl rfl (by kernel_rfl) (e_conv_sb (xs := x1) S0_ Try.underlying9 Try.underlying32 Try.underlying5 (by kernel_rfl) q2) ?_
  rintro _ w3 ⟨A4, c5, F6, rfl, h7, S8, K9⟩
  refine lv (d := 5) rfl rfl (by kernel_rfl) (show _ = Result.ok (Next.value (.agg #[.int .i64 2, .int .i64 0, .slice A4 x1.length c5])) w3 from by kernel_rfl) ?_
  refine lve (d := 6) rfl rfl (by kernel_rfl) (new_blk (v := fun g_ => .slice (some ⟨g_, 0, none⟩) 1 1) (cs := #[.int .i64 2, .int .i64 0, .slice A4 x1.length c5]) (t := 36) S8 (by kernel_rfl)) ?_
  rintro _ w10 ⟨g11, rfl, b12, S13, K14⟩
  replace h7 := h7.move (K14.at 0 rfl)
  have S15 := S13.pull (F := F6) (Fr := [(is g11)]) 1 rfl rfl
  have S16 := S15.pull (F := (is g11)) (Fr := [F6]) 1 rfl rfl
  obtain ⟨h17, S18⟩ := row_lit (d := st36) (xs := [(⟨2, 0, x1⟩ : Cell)]) S16 b12 rfl (elsO_one1 (st36_mkO (x := (⟨2, 0, x1⟩ : Cell)) h7)) (Nat.le_of_ble_eq_true rfl)
  refine lv (d := 2) rfl rfl (by kernel_rfl) (e_assign (v := .slice (some ⟨g11, 0, none⟩) 1 1) (by kernel_rfl)) ?_
  refine wpList_nil ?_
  refine then_n ?_
  refine wp_ret ?_
  obtain rfl := Option.some.inj M
  exact ret1 rfl rfl  (show _ = .slice (some ⟨g11, 0, none⟩) 1 1 from (by kernel_rfl)) ⟨(some ⟨g11, 0, none⟩), 1, (or2 (is g11) F6), H, rfl, h17, S18⟩

/-! spec_l8fault -/
def spec_l8fault.f (x1 : GL8gram) (x4 : Int) : Option ((List Cell) × GL8gram) := (if x1.code_ = 0 then ((spec_l2atom.f ([91, 93] : List UInt8)).bind fun t10 => some (t10, (⟨x1.next_, x4⟩ : GL8gram))) else ((spec_l2atom.f ([91, 93] : List UInt8)).bind fun t23 => some (t23, x1)))
theorem spec_l8fault.calls (w : World) (H : Hp) (x1 : GL8gram) (g2 : Nat) (x4 : Int) (b3 : w.heap[g2]? = some (.cells #[.int .i64 x1.next_, .int .i64 x1.code_] 49 (0, 0))) (S : Own [(is g2)] H w) (r : (List Cell) × GL8gram) (M : spec_l8fault.f x1 x4 = some r) :
    Calls Try.prog 51 #[.pointer (some ⟨g2, 0, none⟩), .int .i64 x4] w (fun e e_w => ∃ (A_1 : Option Addr) (c_1 : Nat) (F_1 : Foot) (H_ : Hp), e = .returned (.slice A_1 r.1.length c_1) ∧ e_w.heap[g2]? = some (.cells #[.int .i64 r.2.next_, .int .i64 r.2.code_] 49 (0, 0)) ∧ Row st36 36 H_ (hp e_w) F_1 A_1 c_1 r.1 ∧ St (anyOf [(is g2)]) H w [(is g2), F_1] H_ e_w) := by
  rw [spec_l8fault.f] at M
  refine enter (l := [.pointer (some ⟨g2, 0, none⟩), .int .i64 x4]) 15 Try.func51 rfl rfl rfl ?_
  have S0_ := S.st
  refine wp_seq ?_
  refine wp_region_lit ?_
  refine lv (d := 4) rfl rfl (by kernel_rfl) (e_assign (v := .slice none 0 0) rfl) ?_
  refine wpList_nil ?_
  refine then_n ?_
  refine wp_seq ?_
  refine wp_seq ?_
  refine wp_region_lit ?_
  refine lv (d := 5) rfl rfl (by kernel_rfl) (e_move (v := .pointer (some ⟨g2, 0, none⟩)) (by kernel_rfl)) ?_
  refine lv (d := 6) rfl rfl (by kernel_rfl) (e_nilCheck (ad := ⟨g2, 0, none⟩) (by kernel_rfl)) ?_
  refine lv (d := 7) rfl rfl (by kernel_rfl) (e_fieldAddr (b := g2) (off := 0) (o := 1) Try.underlying49 rfl rfl (sz := 1) (by kernel_rfl) (by decide) (by kernel_rfl)) ?_
  refine lv (d := 8) rfl rfl (by kernel_rfl) (e_load1 (ad := ⟨g2, 0 + 1, none⟩) (v := .int .i64 x1.code_) Try.underlying3 rfl (by kernel_rfl) (blk_cell b3 rfl)) ?_
  refine lv (d := 9) rfl rfl (by kernel_rfl) (e_eql (k := .i64) (a := x1.code_) (b := 0) (by kernel_rfl) rfl) ?_
  refine wpList_nil ?_
  refine then_n ?_
  by_cases q5 : x1.code_ = 0
  · replace M := ifp q5 M
    refine cond_t rfl (bt q5 (by kernel_rfl)) ?_
    refine wp_region_lit ?_
    refine lv (d := 10) rfl rfl (by kernel_rfl) (e_move (v := .pointer (some ⟨g2, 0, none⟩)) (by kernel_rfl)) ?_
    refine lv (d := 11) rfl rfl (by kernel_rfl) (e_move (v := .int .i64 x4) (by kernel_rfl)) ?_
    refine lv (d := 12) rfl rfl (by kernel_rfl) (e_nilCheck (ad := ⟨g2, 0, none⟩) (by kernel_rfl)) ?_
    refine lv (d := 13) rfl rfl (by kernel_rfl) (e_fieldAddr (b := g2) (off := 0) (o := 1) Try.underlying49 rfl rfl (sz := 1) (by kernel_rfl) (by decide) (by kernel_rfl)) ?_
    refine lse rfl rfl (by kernel_rfl) (e_store (g := g2) (o := 0 + 1) (v := .int .i64 x4) (cur' := #[.int .i64 x1.next_, .int .i64 x4]) (vs := [.int .i64 x4]) S0_ (by kernel_rfl) (by kernel_rfl) rfl (by kernel_rfl) b3 (Nat.le_of_ble_eq_true rfl) (List.forall_mem_cons.2 ⟨rfl, (fun _ h_ => by cases h_)⟩) rfl) ?_
    rintro w6 ⟨b7, S8, K9⟩
    clear b3
    refine wpList_nil ?_
    refine then_n ?_
    refine wp_seq ?_
    refine wp_region_lit ?_
    obtain ⟨t10, u11, M⟩ := bnd M
    refine lcall (d := 14) rfl rfl (by kernel_rfl) (e_call (l := [.const (str ([91, 93] : List UInt8))]) (vs := [str ([91, 93] : List UInt8)]) Try.func41 (by kernel_rfl) rfl (by kernel_rfl) rfl) (spec_l2atom.calls w6 H ([91, 93] : List UInt8)  (St.own' (Fa := []) (Fr := [(is g2)]) S8) t10 u11) ?_
    rintro _ w12 ⟨A15, c16, F18, H13, rfl, h17, T14⟩
    refine ⟨_, rfl, ?_⟩
    obtain ⟨S19, K20⟩ := St.call (Fa := []) (Fr := [(is g2)]) S8 T14
    replace b7 := K20.blk 0 rfl b7
    have E21 := T14.ext
    refine lv (d := 4) rfl rfl (by kernel_rfl) (e_assign (v := .slice A15 t10.length c16) (by kernel_rfl)) ?_
    refine wpList_nil ?_
    refine then_n ?_
    refine wp_ret ?_
    obtain rfl := Option.some.inj M
    have S22 := S19.pull (F := (is g2)) (Fr := [F18]) 1 rfl rfl
    exact ret1 rfl rfl  (show _ = .slice A15 t10.length c16 from (by kernel_rfl)) ⟨A15, c16, F18, H13, rfl, b7, h17, S22⟩
  replace M := ifn q5 M
  refine cond_f rfl (bf q5 (by kernel_rfl)) ?_
  refine wp_skip ?_
  refine then_n ?_
  refine wp_seq ?_
  refine wp_region_lit ?_
  obtain ⟨t23, u24, M⟩ := bnd M
  refine lcall (d := 14) rfl rfl (by kernel_rfl) (e_call (l := [.const (str ([91, 93] : List UInt8))]) (vs := [str ([91, 93] : List UInt8)]) Try.func41 (by kernel_rfl) rfl (by kernel_rfl) rfl) (spec_l2atom.calls w H ([91, 93] : List UInt8)  (St.own' (Fa := []) (Fr := [(is g2)]) S0_) t23 u24) ?_
  rintro _ w25 ⟨A28, c29, F31, H26, rfl, h30, T27⟩
  refine ⟨_, rfl, ?_⟩
  obtain ⟨S32, K33⟩ := St.call (Fa := []) (Fr := [(is g2)]) S0_ T27
  replace b3 := K33.blk 0 rfl b3
  have E34 := T27.ext
  refine lv (d := 4) rfl rfl (by kernel_rfl) (e_assign (v := .slice A28 t23.length c29) (by kernel_rfl)) ?_
  refine wpList_nil ?_
  refine then_n ?_
  refine wp_ret ?_
  obtain rfl := Option.some.inj M
  have S35 := S32.pull (F := (is g2)) (Fr := [F31]) 1 rfl rfl
  exact ret1 rfl rfl  (show _ = .slice A28 t23.length c29 from (by kernel_rfl)) ⟨A28, c29, F31, H26, rfl, b3, h30, S35⟩

/-! spec_l1copy -/
def spec_l1copy.f (x1 : List UInt8) : Option (List UInt8) := (if 0 + x1.length ≤ 140737488355328 then some x1 else none)
theorem spec_l1copy.calls (w : World) (H : Hp) (x1 : List UInt8) (A2 : Option Addr) (c3 : Nat) (h4 : Rd tByte H A2 x1) (l5 : x1.length ≤ c3) (S : Own [] H w) (r : List UInt8) (M : spec_l1copy.f x1 = some r) :
    Calls Try.prog 62 #[.slice A2 x1.length c3] w (fun e e_w => ∃ (A_1 : Option Addr) (c_1 : Nat) (F_1 : Foot) (H_ : Hp), e = .returned (.slice A_1 r.length c_1) ∧ Row tByte 5 H_ (hp e_w) F_1 A_1 c_1 r ∧ St (anyOf []) H w [F_1] H_ e_w) := by
  rw [spec_l1copy.f] at M
  refine enter (l := [.slice A2 x1.length c3]) 7 Try.func62 rfl rfl rfl ?_
  have S0_ := S.st
  refine wp_seq ?_
  refine wp_region_lit ?_
  refine lv (d := 2) rfl rfl (by kernel_rfl) (e_assign (v := .slice none 0 0) rfl) ?_
  refine wpList_nil ?_
  refine then_n ?_
  refine wp_seq ?_
  refine wp_region_lit ?_
  refine lv (d := 3) rfl rfl (by kernel_rfl) (e_assign (v := .slice none 0 0) rfl) ?_
  refine wpList_nil ?_
  refine then_n ?_
  refine wp_seq ?_
  refine wp_region_lit ?_
  refine lv (d := 4) rfl rfl (by kernel_rfl) (e_move (v := .slice none 0 0) (by kernel_rfl)) ?_
  refine lv (d := 5) rfl rfl (by kernel_rfl) (e_move (v := .slice A2 x1.length c3) (by kernel_rfl)) ?_
  obtain ⟨y6, h7, h8⟩ := Rd.news (d := tByte) (ro_scal _ _) S0_ h4
  obtain ⟨q9, M⟩ := chk M
  have S10 := S0_.unit
  have S11 := S10.unit
  have S12 := S11.pull (F := no) (Fr := [no]) 1 rfl rfl
  refine lve (d := 6) rfl rfl (by kernel_rfl) (e_append (d := tByte) (n := 0) (xs := []) (cap := 0) (A := none) (ys := x1) (A2 := A2) (c2 := c3) (z := .int .u8 0) (bytes := 1) S12 Try.underlying32 (by kernel_rfl) rfl (by decide) (by kernel_rfl) rfl (by kernel_rfl) (Row.nil _ _ _ _ no) h7 h8 (show (0 + x1.length) * 1 ≤ _ by first | omega | (simp only [List.length_cons, List.length_nil]; omega)) (by decide)) ?_
  rintro _ w13 ⟨A14, c15, F16, rfl, h17, S18, K19⟩
  replace h17 : Row tByte 5 H (hp w13) F16 A14 c15 x1 := h17
  refine lv (d := 2) rfl rfl (by kernel_rfl) (e_assign (v := .slice A14 x1.length c15) (by kernel_rfl)) ?_
  refine wpList_nil ?_
  refine then_n ?_
  refine wp_ret ?_
  obtain rfl := Option.some.inj M
  exact ret1 rfl rfl  (show _ = .slice A14 x1.length c15 from (by kernel_rfl)) ⟨A14, c15, F16, H, rfl, h17, S18⟩

/-! spec_l2copy -/
def spec_l2copy.l0 : Nat → (List Cell) → (List Cell) → Int → Option (List Cell)
  | 0, _, _, _ => none
  | k24 + 1, x1, x10, x15 => (if x15 < (x1.length : Int) then (if 0 ≤ x15 then ((spec_l1copy.f ((x1.getD ((x15).toNat) z36).text)).bind fun t95 => (if x10.length + 1 ≤ 3518437208883 then (spec_l2copy.l0 k24 x1 (x10 ++ [(⟨(x1.getD ((x15).toNat) z36).kind, (x1.getD ((x15).toNat) z36).n, t95⟩ : Cell)]) (IntKind.i64.wrap (x15 + 1))) else none)) else none) else some x10)
def spec_l2copy.f (k : Nat) (x1 : List Cell) : Option (List Cell) := (spec_l2copy.l0 k x1 [] 0)
theorem spec_l2copy.calls (k : Nat) (w : World) (H : Hp) (x1 : List Cell) (A2 : Option Addr) (c3 : Nat) (h4 : Rd st36 H A2 x1) (l5 : x1.length ≤ c3) (S : Own [] H w) (r : List Cell) (M : spec_l2copy.f k x1 = some r) :
    Calls Try.prog 40 #[.slice A2 x1.length c3] w (fun e e_w => ∃ (A_1 : Option Addr) (c_1 : Nat) (F_1 : Foot) (H_ : Hp), e = .returned (.slice A_1 r.length c_1) ∧ Row st36 36 H_ (hp e_w) F_1 A_1 c_1 r ∧ St (anyOf []) H w [F_1] H_ e_w) := by
  rw [spec_l2copy.f] at M
  refine enter (l := [.slice A2 x1.length c3]) 32 Try.func40 rfl rfl rfl ?_
  have S0_ := S.st
  refine wp_seq ?_
  refine wp_region_lit ?_
  refine lv (d := 2) rfl rfl (by kernel_rfl) (e_assign (v := .slice none 0 0) rfl) ?_
  refine wpList_nil ?_
  refine then_n ?_
  refine wp_seq ?_
  refine wp_region_lit ?_
  refine lv (d := 3) rfl rfl (by kernel_rfl) (e_assign (v := .slice none 0 0) rfl) ?_
  refine wpList_nil ?_
  refine then_n ?_
  refine wp_seq ?_
  refine wp_seq ?_
  refine wp_region_lit ?_
  refine lv (d := 4) rfl rfl (by kernel_rfl) (e_assign (v := .int .i64 0) rfl) ?_
  refine wpList_nil ?_
  refine then_n ?_
  refine wp_block ?_
  have S25 := S0_.unit
  refine wp_loop_g (fun k22 a23 w6 => ∃ (f7 : Nat → Value) (H8 : Hp) (x10 : List Cell) (A11 : Option Addr) (c12 : Nat) (F13 : Foot) (x15 : Int), a23 = mk 32 f7 ∧ f7 0 = .slice A2 x1.length c3 ∧ f7 3 = .slice A11 x10.length c12 ∧ f7 4 = .int .i64 x15 ∧ Row st36 36 H8 (hp w6) F13 A11 c12 x10 ∧ Ext H H8 ∧ St (anyOf []) H w [F13] H8 w6 ∧ spec_l2copy.l0 k22 x1 x10 x15 = some r) k ⟨_, H, [], none, 0, no, 0, rfl, (by kernel_rfl), (by kernel_rfl), (by kernel_rfl), (Row.nil _ _ _ _ _), (Ext.refl _), S25, M⟩ ?_
  clear M
  rintro k22 a23 w6 ⟨f7, H8, x10, A11, c12, F13, x15, rfl, e16, e17, e18, h14, Y9, S19, M⟩
  rcases k22 with _ | k24
  · rw [spec_l2copy.l0] at M
    cases M
  rw [spec_l2copy.l0] at M
  refine wp_seq ?_
  refine wp_seq ?_
  refine wp_region_lit ?_
  refine lv (d := 5) rfl rfl (by kernel_rfl) (e_move (v := .int .i64 x15) (by exact e18)) ?_
  refine lv (d := 6) rfl rfl (by kernel_rfl) (e_move (v := .slice A2 x1.length c3) (by exact e16)) ?_
  refine lv (d := 7) rfl rfl (by kernel_rfl) (e_len (A := A2) (n := x1.length) (c := c3) Try.underlying24 (by kernel_rfl)) ?_
  refine lv (d := 8) rfl rfl (by kernel_rfl) (e_lss (k := .i64) (a := x15) (b := (x1.length : Int)) (by kernel_rfl) (by kernel_rfl)) ?_
  refine wpList_nil ?_
  refine then_n ?_
  by_cases q26 : x15 < (x1.length : Int)
  · replace M := ifp q26 M
    refine cond_t rfl (bt q26 (by kernel_rfl)) ?_
    refine wp_skip ?_
    refine then_n ?_
    refine wp_seq ?_
    refine wp_block ?_
    refine region_mix (S := (fun (L_ : Array Bool) (w_ : World) => Ext H8 (hp w_) ∧ True)) (by kernel_rfl) S19 ?_
    intro w27 S28 K29 hc30
    have hs31 : (fun (L_ : Array Bool) (w_ : World) => Ext H8 (hp w_) ∧ True) (Array.replicate 21 false) w27 := ⟨S28.inv, trivial⟩
    replace h14 := h14.move (K29.at 0 rfl)
    refine xv (i := 0) (d := 11) rfl rfl rfl (by kernel_rfl) (by kernel_rfl) (fun _ _ => Iff.rfl) hc30 hs31 (fun L_ w_ hc_ hu_ hs_ => e_move (v := .slice A11 x10.length c12) (by exact e17)) ?_; intro hc32 hs33
    refine xv (i := 1) (d := 12) rfl rfl rfl (by kernel_rfl) (by kernel_rfl) (fun _ _ => Iff.rfl) hc32 hs33 (fun L_ w_ hc_ hu_ hs_ => e_move (v := .slice A2 x1.length c3) (by exact e16)) ?_; intro hc34 hs35
    refine xv (i := 2) (d := 13) rfl rfl rfl (by kernel_rfl) (by kernel_rfl) (fun _ _ => Iff.rfl) hc34 hs35 (fun L_ w_ hc_ hu_ hs_ => e_move (v := .int .i64 x15) (by exact e18)) ?_; intro hc36 hs37
    obtain ⟨q38, M⟩ := chk M
    obtain ⟨b39, o40, e41⟩ := Rd.addr h4 (show (x15).toNat < x1.length by omega)
    obtain ⟨y42, r43, k44⟩ := Rd.at h4 e41 (getD_some z36 (show (x15).toNat < x1.length by omega))
    obtain ⟨A45, c46, rfl, l47, h48⟩ := st36_open r43
    refine xv (i := 3) (d := 14) rfl rfl rfl (by kernel_rfl) (by kernel_rfl) (fun _ _ => Iff.rfl) hc36 hs37 (fun L_ w_ hc_ hu_ hs_ => e_indexAddr (b := b39) (off := o40) (n := x1.length) (c := c3) (sz := 3) (i := x15) (k := .i64) Try.underlying24 e41 (by kernel_rfl) (by kernel_rfl) (by kernel_rfl) q38 q26) ?_; intro hc49 hs50
    refine xv (i := 4) (d := 15) rfl rfl rfl (by kernel_rfl) (by kernel_rfl) (fun _ _ => Iff.rfl) hc49 hs50 (fun L_ w_ hc_ hu_ hs_ => e_fieldAddr (b := b39) (off := o40 + (x15 : Int).toNat * 3) (o := 0) Try.underlying36 rfl rfl (sz := 1) (by kernel_rfl) (by decide) (by kernel_rfl)) ?_; intro hc51 hs52
    refine xv (i := 5) (d := 16) rfl rfl rfl (by kernel_rfl) (by kernel_rfl) (fun _ _ => Iff.rfl) hc51 hs52 (fun L_ w_ hc_ hu_ hs_ => e_load1 (ad := ⟨b39, o40 + (x15 : Int).toNat * 3 + 0, none⟩) (v := .int .i64 ((x1.getD ((x15).toNat) z36).kind)) Try.underlying3 rfl (by kernel_rfl) (hpx (hs_.1.cell (Y9.cell (k44 0 _ rfl))))) ?_; intro hc53 hs54
    refine xv (i := 6) (d := 17) rfl rfl rfl (by kernel_rfl) (by kernel_rfl) (fun _ _ => Iff.rfl) hc53 hs54 (fun L_ w_ hc_ hu_ hs_ => e_move (v := .slice A2 x1.length c3) (by exact e16)) ?_; intro hc55 hs56
    refine xv (i := 7) (d := 18) rfl rfl rfl (by kernel_rfl) (by kernel_rfl) (fun _ _ => Iff.rfl) hc55 hs56 (fun L_ w_ hc_ hu_ hs_ => e_move (v := .int .i64 x15) (by exact e18)) ?_; intro hc57 hs58
    obtain ⟨b59, o60, e61⟩ := Rd.addr h4 (show (x15).toNat < x1.length by omega)
    obtain ⟨y62, r63, k64⟩ := Rd.at h4 e61 (getD_some z36 (show (x15).toNat < x1.length by omega))
    obtain ⟨A65, c66, rfl, l67, h68⟩ := st36_open r63
    refine xv (i := 8) (d := 19) rfl rfl rfl (by kernel_rfl) (by kernel_rfl) (fun _ _ => Iff.rfl) hc57 hs58 (fun L_ w_ hc_ hu_ hs_ => e_indexAddr (b := b59) (off := o60) (n := x1.length) (c := c3) (sz := 3) (i := x15) (k := .i64) Try.underlying24 e61 (by kernel_rfl) (by kernel_rfl) (by kernel_rfl) q38 q26) ?_; intro hc69 hs70
    refine xv (i := 9) (d := 20) rfl rfl rfl (by kernel_rfl) (by kernel_rfl) (fun _ _ => Iff.rfl) hc69 hs70 (fun L_ w_ hc_ hu_ hs_ => e_fieldAddr (b := b59) (off := o60 + (x15 : Int).toNat * 3) (o := 1) Try.underlying36 rfl rfl (sz := 1) (by kernel_rfl) (by decide) (by kernel_rfl)) ?_; intro hc71 hs72
    refine xv (i := 10) (d := 21) rfl rfl rfl (by kernel_rfl) (by kernel_rfl) (fun _ _ => Iff.rfl) hc71 hs72 (fun L_ w_ hc_ hu_ hs_ => e_load1 (ad := ⟨b59, o60 + (x15 : Int).toNat * 3 + 1, none⟩) (v := .int .i64 ((x1.getD ((x15).toNat) z36).n)) Try.underlying3 rfl (by kernel_rfl) (hpx (hs_.1.cell (Y9.cell (k64 1 _ rfl))))) ?_; intro hc73 hs74
    refine xv (i := 11) (d := 22) rfl rfl rfl (by kernel_rfl) (by kernel_rfl) (fun _ _ => Iff.rfl) hc73 hs74 (fun L_ w_ hc_ hu_ hs_ => e_move (v := .slice A2 x1.length c3) (by exact e16)) ?_; intro hc75 hs76
    refine xone (i := 12) (by kernel_rfl) hc75 ?_
    refine yo (i := 12) (d := 23) rfl rfl (wanted_none rfl _) (by kernel_rfl) (by kernel_rfl) (fun _ _ => Iff.rfl) hs76 (e_move (v := .int .i64 x15) (by exact e18)) ?_; intro hc77 hs78
    obtain ⟨b79, o80, e81⟩ := Rd.addr h4 (show (x15).toNat < x1.length by omega)
    obtain ⟨y82, r83, k84⟩ := Rd.at h4 e81 (getD_some z36 (show (x15).toNat < x1.length by omega))
    obtain ⟨A85, c86, rfl, l87, h88⟩ := st36_open r83
    refine xone (i := 13) (by kernel_rfl) hc77 ?_
    refine yo (i := 13) (d := 24) rfl rfl (wanted_none rfl _) (by kernel_rfl) (by kernel_rfl) (fun _ _ => Iff.rfl) hs78 (e_indexAddr (b := b79) (off := o80) (n := x1.length) (c := c3) (sz := 3) (i := x15) (k := .i64) Try.underlying24 e81 (by kernel_rfl) (by kernel_rfl) (by kernel_rfl) q38 q26) ?_; intro hc89 hs90
    refine xone (i := 14) (by kernel_rfl) hc89 ?_
    refine yo (i := 14) (d := 25) rfl rfl (wanted_none rfl _) (by kernel_rfl) (by kernel_rfl) (fun _ _ => Iff.rfl) hs90 (e_fieldAddr (b := b79) (off := o80 + (x15 : Int).toNat * 3) (o := 2) Try.underlying36 rfl rfl (sz := 1) (by kernel_rfl) (by decide) (by kernel_rfl)) ?_; intro hc91 hs92
    refine xone (i := 15) (by kernel_rfl) hc91 ?_
    refine yo (i := 15) (d := 26) rfl rfl (wanted_none rfl _) (by kernel_rfl) (by kernel_rfl) (fun _ _ => Iff.rfl) hs92 (e_load1 (ad := ⟨b79, o80 + (x15 : Int).toNat * 3 + 2, none⟩) (v := .slice A85 ((x1.getD ((x15).toNat) z36).text).length c86) Try.underlying32 rfl (by kernel_rfl) (hpx (S28.inv.cell (Y9.cell (k84 2 _ rfl))))) ?_; intro hc93 hs94
    obtain ⟨t95, u96, M⟩ := bnd M
    refine xone (i := 16) (by kernel_rfl) hc93 ?_
    refine yc (i := 16) rfl (wanted_none rfl _) (by kernel_rfl) (by kernel_rfl) (e_call (l := [.tmp 26]) (vs := [.slice A85 ((x1.getD ((x15).toNat) z36).text).length c86]) Try.func62 (by kernel_rfl) rfl (by kernel_rfl) rfl) (spec_l1copy.calls w27 H8 ((x1.getD ((x15).toNat) z36).text) A85 c86 (h88.ext Y9) l87 (St.own' (Fa := []) (Fr := [F13]) S28) t95 u96) ?_
    rintro hc104 _ w97 ⟨A100, c101, F103, H98, rfl, h102, T99⟩
    refine ⟨_, rfl, ?_⟩
    obtain ⟨S105, K106⟩ := St.call (Fa := []) (Fr := [F13]) S28 T99
    replace h14 := h14.move (K106.at 0 rfl)
    have E107 := T99.ext
    replace h14 := h14.ext E107
    refine ⟨⟨(Ext.trans E107 S105.inv), trivial⟩, fun hs108 => ?_⟩
    refine xone (i := 17) (by kernel_rfl) hc104 ?_
    refine yo (i := 17) (d := 28) rfl rfl (wanted_none rfl _) (by kernel_rfl) (by kernel_rfl) (fun _ _ => Iff.rfl) hs108 (show _ = Result.ok (Next.value (.agg #[.int .i64 ((x1.getD ((x15).toNat) z36).kind), .int .i64 ((x1.getD ((x15).toNat) z36).n), .slice A100 t95.length c101])) w97 from by kernel_rfl) ?_; intro hc109 hs110
    refine xone (i := 18) (by kernel_rfl) hc109 ?_
    refine ye (i := 18) (d := 29) rfl rfl (wanted_none rfl _) (by kernel_rfl) (by kernel_rfl) (new_blk (v := fun g_ => .slice (some ⟨g_, 0, none⟩) 1 1) (cs := #[.int .i64 ((x1.getD ((x15).toNat) z36).kind), .int .i64 ((x1.getD ((x15).toNat) z36).n), .slice A100 t95.length c101]) (t := 36) S105 (by kernel_rfl)) ?_
    rintro hc116 _ w111 ⟨g112, rfl, b113, S114, K115⟩
    replace h102 := h102.move (K115.at 0 rfl)
    replace h14 := h14.move (K115.at 1 rfl)
    refine ⟨⟨(Ext.trans E107 S114.inv), trivial⟩, fun hs117 => ?_⟩
    obtain ⟨q118, M⟩ := chk M
    have S119 := S114.pull (F := F103) (Fr := [(is g112), F13]) 1 rfl rfl
    have S120 := S119.pull (F := F13) (Fr := [F103, (is g112)]) 2 rfl rfl
    refine xone (i := 19) (by kernel_rfl) hc116 ?_
    refine ye (i := 19) (d := 30) rfl rfl (wanted_none rfl _) (by kernel_rfl) (by kernel_rfl) (e_append (d := st36) (n := x10.length) (xs := x10) (cap := c12) (A := A11) (ys := [(⟨(x1.getD ((x15).toNat) z36).kind, (x1.getD ((x15).toNat) z36).n, t95⟩ : Cell)]) (A2 := (some ⟨g112, 0, none⟩)) (c2 := 1) (z := .agg #[.int .i64 0, .int .i64 0, .slice none 0 0]) (bytes := 40) S120 Try.underlying24 (by kernel_rfl) rfl (by decide) (by kernel_rfl) rfl (by kernel_rfl) h14 (elsO_one1 (st36_mkO (x := (⟨(x1.getD ((x15).toNat) z36).kind, (x1.getD ((x15).toNat) z36).n, t95⟩ : Cell)) h102)) (.inr (blk_news b113 rfl)) (show (x10.length + [(⟨(x1.getD ((x15).toNat) z36).kind, (x1.getD ((x15).toNat) z36).n, t95⟩ : Cell)].length) * 40 ≤ _ by first | omega | (simp only [List.length_cons, List.length_nil]; omega)) (by decide)) ?_
    rintro hc128 _ w121 ⟨A122, c123, F124, rfl, h125, S126, K127⟩
    replace b113 := K127.blk 0 rfl b113
    refine ⟨⟨(Ext.trans E107 S126.inv), trivial⟩, fun hs129 => ?_⟩
    refine xone (i := 20) (by kernel_rfl) hc128 ?_
    refine yo (i := 20) (d := 3) rfl rfl (wanted_none rfl _) (by kernel_rfl) (by kernel_rfl) (fun _ _ => Iff.rfl) hs129 (e_assign (v := .slice A122 ((x10 ++ [(⟨(x1.getD ((x15).toNat) z36).kind, (x1.getD ((x15).toNat) z36).n, t95⟩ : Cell)]).length) c123) (by kernel_rfl)) ?_; intro hc130 hs131
    refine xn (by kernel_rfl) ?_ _
    refine inb_n ?_
    refine then_n ?_
    refine wp_region_lit ?_
    refine lv (d := 9) rfl rfl (by kernel_rfl) (e_move (v := .int .i64 x15) (by exact e18)) ?_
    refine lv (d := 10) rfl rfl (by kernel_rfl) (e_add (k := .i64) (a := x15) (b := 1) (by kernel_rfl) rfl) ?_
    refine lv (d := 4) rfl rfl (by kernel_rfl) (e_assign (v := .int .i64 (IntKind.i64.wrap (x15 + 1))) (by kernel_rfl)) ?_
    refine wpList_nil ?_
    refine then_n ?_
    have S132 := St.first (Fa := [F124]) (Fr := [(is g112)]) S126
    exact ⟨k24, (by omega), _, H98, (x10 ++ [(⟨(x1.getD ((x15).toNat) z36).kind, (x1.getD ((x15).toNat) z36).n, t95⟩ : Cell)]), A122, c123, F124, (IntKind.i64.wrap (x15 + 1)), rfl, (by exact e16), (by kernel_rfl), (by kernel_rfl), h125, (Y9.trans E107), S132, M⟩
  replace M := ifn q26 M
  refine cond_f rfl (bf q26 (by kernel_rfl)) ?_
  refine wp_exit ?_
  refine then_e ?_
  refine then_e ?_
  refine inb_hit ?_
  refine then_n ?_
  refine wp_seq ?_
  refine wp_region_lit ?_
  refine lv (d := 31) rfl rfl (by kernel_rfl) (e_move (v := .slice A11 x10.length c12) (by exact e17)) ?_
  refine lv (d := 2) rfl rfl (by kernel_rfl) (e_assign (v := .slice A11 x10.length c12) (by kernel_rfl)) ?_
  refine wpList_nil ?_
  refine then_n ?_
  refine wp_ret ?_
  obtain rfl := Option.some.inj M
  exact ret1 rfl rfl  (show _ = .slice A11 x10.length c12 from (by kernel_rfl)) ⟨A11, c12, F13, H8, rfl, h14, S19⟩

/-! spec_l2comp -/
def spec_l2comp.l0 : Nat → (List (List Cell)) → (List Cell) → Int → Option (List Cell)
  | 0, _, _, _ => none
  | k42 + 1, x2, x28, x33 => (if x33 < (x2.length : Int) then (if 0 ≤ x33 then ((spec_l2copy.f k42 (x2.getD ((x33).toNat) ([] : List Cell))).bind fun t55 => (if x28.length + t55.length ≤ 3518437208883 then (spec_l2comp.l0 k42 x2 (x28 ++ t55) (IntKind.i64.wrap (x33 + 1))) else none)) else none) else some x28)
def spec_l2comp.f (k : Nat) (x1 : List UInt8) (x2 : List (List Cell)) : Option (List Cell) := (if x1.length ≤ 9223372036854775807 then (spec_l2comp.l0 k x2 [(⟨3, (x2.length : Int), x1⟩ : Cell)] 0) else none)
theorem spec_l2comp.calls (k : Nat) (w : World) (H : Hp) (x1 : List UInt8) (x2 : List (List Cell)) (A3 : Option Addr) (c4 : Nat) (h5 : Rd sl36 H A3 x2) (l6 : x2.length ≤ c4) (S : Own [] H w) (r : List Cell) (M : spec_l2comp.f k x1 x2 = some r) :
    Calls Try.prog 37 #[str x1, .slice A3 x2.length c4] w (fun e e_w => ∃ (A_1 : Option Addr) (c_1 : Nat) (F_1 : Foot) (H_ : Hp), e = .returned (.slice A_1 r.length c_1) ∧ Row st36 36 H_ (hp e_w) F_1 A_1 c_1 r ∧ St (anyOf []) H w [F_1] H_ e_w) := by
  rw [spec_l2comp.f] at M
  refine enter (l := [str x1, .slice A3 x2.length c4]) 27 Try.func37 rfl rfl rfl ?_
  have S0_ := S.st
  refine wp_seq ?_
  refine wp_region_lit ?_
  refine lv (d := 4) rfl rfl (by kernel_rfl) (e_assign (v := .slice none 0 0) rfl) ?_
  refine wpList_nil ?_
  refine then_n ?_
  refine wp_seq ?_
  refine wp_region_lit ?_
  refine lv (d := 7) rfl rfl (by kernel_rfl) (e_move (v := .slice A3 x2.length c4) (by kernel_rfl)) ?_
  refine lv (d := 8) rfl rfl (by kernel_rfl) (e_len (A := A3) (n := x2.length) (c := c4) Try.underlying50 (by kernel_rfl)) ?_
  refine lv (d := 9) rfl rfl (by kernel_rfl) (e_move (v := str x1) (by kernel_rfl)) ?_
  obtain ⟨q7, M⟩ := chk M
  refine lve (d := 10) rfl rfl (by kernel_rfl) (e_conv_sb (xs := x1) S0_ Try.underlying9 Try.underlying32 Try.underlying5 (by kernel_rfl) q7) ?_
  rintro _ w8 ⟨A9, c10, F11, rfl, h12, S13, K14⟩
  refine lv (d := 11) rfl rfl (by kernel_rfl) (show _ = Result.ok (Next.value (.agg #[.int .i64 3, .int .i64 (x2.length : Int), .slice A9 x1.length c10])) w8 from by kernel_rfl) ?_
  refine lve (d := 12) rfl rfl (by kernel_rfl) (new_blk (v := fun g_ => .slice (some ⟨g_, 0, none⟩) 1 1) (cs := #[.int .i64 3, .int .i64 (x2.length : Int), .slice A9 x1.length c10]) (t := 36) S13 (by kernel_rfl)) ?_
  rintro _ w15 ⟨g16, rfl, b17, S18, K19⟩
  replace h12 := h12.move (K19.at 0 rfl)
  have S20 := S18.pull (F := F11) (Fr := [(is g16)]) 1 rfl rfl
  have S21 := S20.pull (F := (is g16)) (Fr := [F11]) 1 rfl rfl
  obtain ⟨h22, S23⟩ := row_lit (d := st36) (xs := [(⟨3, (x2.length : Int), x1⟩ : Cell)]) S21 b17 rfl (elsO_one1 (st36_mkO (x := (⟨3, (x2.length : Int), x1⟩ : Cell)) h12)) (Nat.le_of_ble_eq_true rfl)
  refine lv (d := 5) rfl rfl (by kernel_rfl) (e_assign (v := .slice (some ⟨g16, 0, none⟩) 1 1) (by kernel_rfl)) ?_
  refine wpList_nil ?_
  refine then_n ?_
  refine wp_seq ?_
  refine wp_seq ?_
  refine wp_region_lit ?_
  refine lv (d := 6) rfl rfl (by kernel_rfl) (e_assign (v := .int .i64 0) rfl) ?_
  refine wpList_nil ?_
  refine then_n ?_
  refine wp_block ?_
  refine wp_loop_g (fun k40 a41 w24 => ∃ (f25 : Nat → Value) (H26 : Hp) (x28 : List Cell) (A29 : Option Addr) (c30 : Nat) (F31 : Foot) (x33 : Int), a41 = mk 27 f25 ∧ f25 1 = .slice A3 x2.length c4 ∧ f25 5 = .slice A29 x28.length c30 ∧ f25 6 = .int .i64 x33 ∧ Row st36 36 H26 (hp w24) F31 A29 c30 x28 ∧ Ext H H26 ∧ St (anyOf []) H w [F31] H26 w24 ∧ spec_l2comp.l0 k40 x2 x28 x33 = some r) k ⟨_, H, [(⟨3, (x2.length : Int), x1⟩ : Cell)], (some ⟨g16, 0, none⟩), 1, (or2 (is g16) F11), 0, rfl, (by kernel_rfl), (by kernel_rfl), (by kernel_rfl), h22, (Ext.refl _), S23, M⟩ ?_
  clear M
  rintro k40 a41 w24 ⟨f25, H26, x28, A29, c30, F31, x33, rfl, e34, e35, e36, h32, Y27, S37, M⟩
  rcases k40 with _ | k42
  · rw [spec_l2comp.l0] at M
    cases M
  rw [spec_l2comp.l0] at M
  refine wp_seq ?_
  refine wp_seq ?_
  refine wp_region_lit ?_
  refine lv (d := 13) rfl rfl (by kernel_rfl) (e_move (v := .int .i64 x33) (by exact e36)) ?_
  refine lv (d := 14) rfl rfl (by kernel_rfl) (e_move (v := .slice A3 x2.length c4) (by exact e34)) ?_
  refine lv (d := 15) rfl rfl (by kernel_rfl) (e_len (A := A3) (n := x2.length) (c := c4) Try.underlying50 (by kernel_rfl)) ?_
  refine lv (d := 16) rfl rfl (by kernel_rfl) (e_lss (k := .i64) (a := x33) (b := (x2.length : Int)) (by kernel_rfl) (by kernel_rfl)) ?_
  refine wpList_nil ?_
  refine then_n ?_
  by_cases q43 : x33 < (x2.length : Int)
  · replace M := ifp q43 M
    refine cond_t rfl (bt q43 (by kernel_rfl)) ?_
    refine wp_skip ?_
    refine then_n ?_
    refine wp_seq ?_
    refine wp_block ?_
    refine wp_region_lit ?_
    refine lv (d := 19) rfl rfl (by kernel_rfl) (e_move (v := .slice A29 x28.length c30) (by exact e35)) ?_
    refine lv (d := 20) rfl rfl (by kernel_rfl) (e_move (v := .slice A3 x2.length c4) (by exact e34)) ?_
    refine lv (d := 21) rfl rfl (by kernel_rfl) (e_move (v := .int .i64 x33) (by exact e36)) ?_
    obtain ⟨q44, M⟩ := chk M
    obtain ⟨b45, o46, e47⟩ := Rd.addr h5 (show (x33).toNat < x2.length by omega)
    obtain ⟨y48, r49, k50⟩ := Rd.at h5 e47 (getD_some ([] : List Cell) (show (x33).toNat < x2.length by omega))
    obtain ⟨A51, c52, rfl, l53, h54⟩ := r49
    refine lv (d := 22) rfl rfl (by kernel_rfl) (e_indexAddr (b := b45) (off := o46) (n := x2.length) (c := c4) (sz := 1) (i := x33) (k := .i64) Try.underlying50 e47 (by kernel_rfl) (by kernel_rfl) (by kernel_rfl) q44 q43) ?_
    refine lv (d := 23) rfl rfl (by kernel_rfl) (e_load1 (ad := ⟨b45, o46 + (x33 : Int).toNat * 1, none⟩) (v := .slice A51 (x2.getD ((x33).toNat) ([] : List Cell)).length c52) Try.underlying24 rfl (by kernel_rfl) (hpx (S37.inv.cell (Y27.cell (k50 0 _ rfl))))) ?_
    obtain ⟨t55, u56, M⟩ := bnd M
    refine lcall (d := 24) rfl rfl (by kernel_rfl) (e_call (l := [.tmp 23]) (vs := [.slice A51 (x2.getD ((x33).toNat) ([] : List Cell)).length c52]) Try.func40 (by kernel_rfl) rfl (by kernel_rfl) rfl) (spec_l2copy.calls k42 w24 H26 (x2.getD ((x33).toNat) ([] : List Cell)) A51 c52 (h54.ext Y27) l53 (St.own' (Fa := []) (Fr := [F31]) S37) t55 u56) ?_
    rintro _ w57 ⟨A60, c61, F63, H58, rfl, h62, T59⟩
    refine ⟨_, rfl, ?_⟩
    obtain ⟨S64, K65⟩ := St.call (Fa := []) (Fr := [F31]) S37 T59
    replace h32 := h32.move (K65.at 0 rfl)
    have E66 := T59.ext
    replace h32 := h32.ext E66
    obtain ⟨y67, h68, h69⟩ := Row.news h62
    obtain ⟨q70, M⟩ := chk M
    have S71 := S64.pull (F := F31) (Fr := [F63]) 1 rfl rfl
    refine lve (d := 25) rfl rfl (by kernel_rfl) (e_append (d := st36) (n := x28.length) (xs := x28) (cap := c30) (A := A29) (ys := t55) (A2 := A60) (c2 := c61) (z := .agg #[.int .i64 0, .int .i64 0, .slice none 0 0]) (bytes := 40) S71 Try.underlying24 (by kernel_rfl) rfl (by decide) (by kernel_rfl) rfl (by kernel_rfl) h32 h68 h69 (show (x28.length + t55.length) * 40 ≤ _ by first | omega | (simp only [List.length_cons, List.length_nil]; omega)) (by decide)) ?_
    rintro _ w72 ⟨A73, c74, F75, rfl, h76, S77, K78⟩
    refine lv (d := 5) rfl rfl (by kernel_rfl) (e_assign (v := .slice A73 ((x28 ++ t55).length) c74) (by kernel_rfl)) ?_
    refine wpList_nil ?_
    refine inb_n ?_
    refine then_n ?_
    refine wp_region_lit ?_
    refine lv (d := 17) rfl rfl (by kernel_rfl) (e_move (v := .int .i64 x33) (by exact e36)) ?_
    refine lv (d := 18) rfl rfl (by kernel_rfl) (e_add (k := .i64) (a := x33) (b := 1) (by kernel_rfl) rfl) ?_
    refine lv (d := 6) rfl rfl (by kernel_rfl) (e_assign (v := .int .i64 (IntKind.i64.wrap (x33 + 1))) (by kernel_rfl)) ?_
    refine wpList_nil ?_
    refine then_n ?_
    exact ⟨k42, (by omega), _, H58, (x28 ++ t55), A73, c74, F75, (IntKind.i64.wrap (x33 + 1)), rfl, (by exact e34), (by kernel_rfl), (by kernel_rfl), h76, (Y27.trans E66), S77, M⟩
  replace M := ifn q43 M
  refine cond_f rfl (bf q43 (by kernel_rfl)) ?_
  refine wp_exit ?_
  refine then_e ?_
  refine then_e ?_
  refine inb_hit ?_
  refine then_n ?_
  refine wp_seq ?_
  refine wp_region_lit ?_
  refine lv (d := 26) rfl rfl (by kernel_rfl) (e_move (v := .slice A29 x28.length c30) (by exact e35)) ?_
  refine lv (d := 4) rfl rfl (by kernel_rfl) (e_assign (v := .slice A29 x28.length c30) (by kernel_rfl)) ?_
  refine wpList_nil ?_
  refine then_n ?_
  refine wp_ret ?_
  obtain rfl := Option.some.inj M
  exact ret1 rfl rfl  (show _ = .slice A29 x28.length c30 from (by kernel_rfl)) ⟨A29, c30, F31, H26, rfl, h32, S37⟩

/-! spec_l8more -/
def spec_l8more.f (k : Nat) (x1 : GL8gram) (x4 : List Cell) (x9 : List Cell) (x14 : List Cell) : Option ((List Cell) × GL8gram) := ((spec_l2args.f k x4).bind fun t19 => (if t19.length + 2 ≤ 5864062014805 then (if ((t19 ++ [x9, x14]).length : Int) > 20 then ((spec_l8fault.f x1 3).bind fun t49 => some (t49.1, t49.2)) else (if 0 < (x4.length : Int) then ((spec_l2comp.f k ((x4.getD 0 z36).text) (t19 ++ [x9, x14])).bind fun t82 => some (t82, x1)) else none)) else none))
theorem spec_l8more.calls (k : Nat) (w : World) (H : Hp) (x1 : GL8gram) (g2 : Nat) (x4 : List Cell) (A5 : Option Addr) (c6 : Nat) (x9 : List Cell) (A10 : Option Addr) (c11 : Nat) (x14 : List Cell) (A15 : Option Addr) (c16 : Nat) (b3 : w.heap[g2]? = some (.cells #[.int .i64 x1.next_, .int .i64 x1.code_] 49 (0, 0))) (h7 : Rd st36 H A5 x4) (l8 : x4.length ≤ c6) (h12 : Rd st36 H A10 x9) (l13 : x9.length ≤ c11) (h17 : Rd st36 H A15 x14) (l18 : x14.length ≤ c16) (S : Own [(is g2)] H w) (r : (List Cell) × GL8gram) (M : spec_l8more.f k x1 x4 x9 x14 = some r) :
    Calls Try.prog 29 #[.pointer (some ⟨g2, 0, none⟩), .slice A5 x4.length c6, .slice A10 x9.length c11, .slice A15 x14.length c16] w (fun e e_w => ∃ (A_1 : Option Addr) (c_1 : Nat) (F_1 : Foot) (H_ : Hp), e = .returned (.slice A_1 r.1.length c_1) ∧ e_w.heap[g2]? = some (.cells #[.int .i64 r.2.next_, .int .i64 r.2.code_] 49 (0, 0)) ∧ Row st36 36 H_ (hp e_w) F_1 A_1 c_1 r.1 ∧ St (anyOf [(is g2)]) H w [(is g2), F_1] H_ e_w) := by
  rw [spec_l8more.f] at M
  refine enter (l := [.pointer (some ⟨g2, 0, none⟩), .slice A5 x4.length c6, .slice A10 x9.length c11, .slice A15 x14.length c16]) 28 Try.func29 rfl rfl rfl ?_
  have S0_ := S.st
  refine wp_seq ?_
  refine wp_region_lit ?_
  refine lv (d := 8) rfl rfl (by kernel_rfl) (e_assign (v := .slice none 0 0) rfl) ?_
  refine wpList_nil ?_
  refine then_n ?_
  refine wp_seq ?_
  refine wp_region_lit ?_
  refine lv (d := 10) rfl rfl (by kernel_rfl) (e_move (v := .slice A5 x4.length c6) (by kernel_rfl)) ?_
  obtain ⟨t19, u20, M⟩ := bnd M
  refine lcall (d := 11) rfl rfl (by kernel_rfl) (e_call (l := [.tmp 10]) (vs := [.slice A5 x4.length c6]) Try.func27 (by kernel_rfl) rfl (by kernel_rfl) rfl) (spec_l2args.calls k w H x4 A5 c6 h7 l8 (St.own' (Fa := []) (Fr := [(is g2)]) S0_) t19 u20) ?_
  rintro _ w21 ⟨A24, c25, F27, H22, rfl, h26, T23⟩
  refine ⟨_, rfl, ?_⟩
  obtain ⟨S28, K29⟩ := St.call (Fa := []) (Fr := [(is g2)]) S0_ T23
  replace b3 := K29.blk 0 rfl b3
  have E30 := T23.ext
  refine lv (d := 12) rfl rfl (by kernel_rfl) (e_move (v := .slice A10 x9.length c11) (by kernel_rfl)) ?_
  refine lv (d := 13) rfl rfl (by kernel_rfl) (e_move (v := .slice A15 x14.length c16) (by kernel_rfl)) ?_
  refine lve (d := 14) rfl rfl (by kernel_rfl) (new_blk (v := fun g_ => .slice (some ⟨g_, 0, none⟩) 2 2) (cs := #[.slice A10 x9.length c11, .slice A15 x14.length c16]) (t := 24) S28 (by kernel_rfl)) ?_
  rintro _ w31 ⟨g32, rfl, b33, S34, K35⟩
  replace h26 := h26.move (K35.at 0 rfl)
  replace b3 := K35.blk 1 rfl b3
  obtain ⟨q36, M⟩ := chk M
  have S37 := S34.pull (F := F27) (Fr := [(is g32), (is g2)]) 1 rfl rfl
  have S38 := S37.unit
  have S39 := S38.pull (F := F27) (Fr := [no, (is g32), (is g2)]) 1 rfl rfl
  refine lve (d := 15) rfl rfl (by kernel_rfl) (e_append (d := (ro sl36)) (n := t19.length) (xs := t19) (cap := c25) (A := A24) (ys := [x9, x14]) (A2 := (some ⟨g32, 0, none⟩)) (c2 := 2) (z := .slice none 0 0) (bytes := 24) S39 Try.underlying50 (by kernel_rfl) rfl (by decide) (by kernel_rfl) rfl (by kernel_rfl) h26 (elsO_no (d := (ro sl36)) ⟨A10, c11, rfl, l13, (h12.ext E30)⟩ (elsO_no (d := (ro sl36)) ⟨A15, c16, rfl, l18, (h17.ext E30)⟩ (elsO_nil _ _ _ no))) (.inr (blk_news b33 rfl)) (show (t19.length + [x9, x14].length) * 24 ≤ _ by first | omega | (simp only [List.length_cons, List.length_nil]; omega)) (by decide)) ?_
  rintro _ w40 ⟨A41, c42, F43, rfl, h44, S45, K46⟩
  replace b33 := K46.blk 0 rfl b33
  replace b3 := K46.blk 1 rfl b3
  refine lv (d := 9) rfl rfl (by kernel_rfl) (e_assign (v := .slice A41 ((t19 ++ [x9, x14]).length) c42) (by kernel_rfl)) ?_
  refine wpList_nil ?_
  refine then_n ?_
  refine wp_seq ?_
  refine wp_seq ?_
  refine wp_region_lit ?_
  refine lv (d := 16) rfl rfl (by kernel_rfl) (e_move (v := .slice A41 ((t19 ++ [x9, x14]).length) c42) (by kernel_rfl)) ?_
  refine lv (d := 17) rfl rfl (by kernel_rfl) (e_len (A := A41) (n := (t19 ++ [x9, x14]).length) (c := c42) Try.underlying50 (by kernel_rfl)) ?_
  refine lv (d := 18) rfl rfl (by kernel_rfl) (e_gtr (k := .i64) (a := ((t19 ++ [x9, x14]).length : Int)) (b := 20) (by kernel_rfl) rfl) ?_
  refine wpList_nil ?_
  refine then_n ?_
  by_cases q47 : ((t19 ++ [x9, x14]).length : Int) > 20
  · replace M := ifp q47 M
    refine cond_t rfl (bt q47 (by kernel_rfl)) ?_
    refine wp_seq ?_
    refine wp_region_lit ?_
    refine lv (d := 19) rfl rfl (by kernel_rfl) (e_move (v := .pointer (some ⟨g2, 0, none⟩)) (by kernel_rfl)) ?_
    have S48 := S45.pull (F := (is g2)) (Fr := [F43, (is g32)]) 2 rfl rfl
    obtain ⟨t49, u50, M⟩ := bnd M
    refine lcall (d := 20) rfl rfl (by kernel_rfl) (e_call (l := [.tmp 19, .const (.int .i64 3)]) (vs := [.pointer (some ⟨g2, 0, none⟩), .int .i64 3]) Try.func51 (by kernel_rfl) rfl (by kernel_rfl) rfl) (spec_l8fault.calls w40 H22 x1 g2 3 b3 (St.own' (Fa := [(is g2)]) (Fr := [F43, (is g32)]) S48) t49 u50) ?_
    rintro _ w51 ⟨A55, c56, F58, H52, rfl, b54, h57, T53⟩
    refine ⟨_, rfl, ?_⟩
    obtain ⟨S59, K60⟩ := St.call (Fa := [(is g2)]) (Fr := [F43, (is g32)]) S48 T53
    replace h44 := h44.move (K60.at 0 rfl)
    replace b33 := K60.blk 1 rfl b33
    have E61 := T53.ext
    replace h44 := h44.ext E61
    refine lv (d := 8) rfl rfl (by kernel_rfl) (e_assign (v := .slice A55 t49.1.length c56) (by kernel_rfl)) ?_
    refine wpList_nil ?_
    refine then_n ?_
    refine wp_ret ?_
    refine then_r ?_
    obtain rfl := Option.some.inj M
    have S62 := S59.pull (F := F58) (Fr := [(is g2), F43, (is g32)]) 1 rfl rfl
    have S63 := S62.pull (F := (is g2)) (Fr := [F58, F43, (is g32)]) 1 rfl rfl
    have S64 := St.first (Fa := [(is g2), F58]) (Fr := [F43, (is g32)]) S63
    exact ret1 rfl rfl  (show _ = .slice A55 t49.1.length c56 from (by kernel_rfl)) ⟨A55, c56, F58, H52, rfl, b54, h57, S64⟩
  replace M := ifn q47 M
  refine cond_f rfl (bf q47 (by kernel_rfl)) ?_
  refine wp_skip ?_
  refine then_n ?_
  refine wp_seq ?_
  refine wp_region_lit ?_
  refine lv (d := 21) rfl rfl (by kernel_rfl) (e_move (v := .slice A5 x4.length c6) (by kernel_rfl)) ?_
  obtain ⟨q65, M⟩ := chk M
  obtain ⟨b66, o67, e68⟩ := Rd.addr h7 (show 0 < x4.length by omega)
  obtain ⟨y69, r70, k71⟩ := Rd.at h7 e68 (getD_some z36 (show 0 < x4.length by omega))
  obtain ⟨A72, c73, rfl, l74, h75⟩ := st36_open r70
  refine lv (d := 22) rfl rfl (by kernel_rfl) (e_indexAddr (b := b66) (off := o67) (n := x4.length) (c := c6) (sz := 3) (i := 0) (k := .i64) Try.underlying24 e68 (by kernel_rfl) (by kernel_rfl) rfl (by omega) q65) ?_
  refine lv (d := 23) rfl rfl (by kernel_rfl) (e_fieldAddr (b := b66) (off := o67 + (0 : Int).toNat * 3) (o := 2) Try.underlying36 rfl rfl (sz := 1) (by kernel_rfl) (by decide) (by kernel_rfl)) ?_
  refine lv (d := 24) rfl rfl (by kernel_rfl) (e_load1 (ad := ⟨b66, o67 + (0 : Int).toNat * 3 + 2, none⟩) (v := .slice A72 ((x4.getD 0 z36).text).length c73) Try.underlying32 rfl (by kernel_rfl) (hpx (S45.inv.cell (E30.cell (k71 2 _ rfl))))) ?_
  refine lv (d := 25) rfl rfl (by kernel_rfl) (e_conv_bs (A := A72) (n := ((x4.getD 0 z36).text).length) (c := c73) (xs := (x4.getD 0 z36).text) Try.underlying32 Try.underlying5 Try.underlying9 (by kernel_rfl) rfl (Rd.bytesE S45.inv (h75.ext E30))) ?_
  refine lv (d := 26) rfl rfl (by kernel_rfl) (e_move (v := .slice A41 ((t19 ++ [x9, x14]).length) c42) (by kernel_rfl)) ?_
  have l76 := h44.le
  obtain ⟨H77, S78, E79, h80, z81⟩ := S45.frzRow h44
  replace h80 := h80.unro
  obtain ⟨t82, u83, M⟩ := bnd M
  refine lcall (d := 27) rfl rfl (by kernel_rfl) (e_call (l := [.tmp 25, .tmp 26]) (vs := [str ((x4.getD 0 z36).text), .slice A41 (t19 ++ [x9, x14]).length c42]) Try.func37 (by kernel_rfl) rfl (by kernel_rfl) rfl) (spec_l2comp.calls k w40 H77 ((x4.getD 0 z36).text) (t19 ++ [x9, x14]) A41 c42 h80 l76 (St.own' (Fa := []) (Fr := [(is g32), (is g2)]) S78) t82 u83) ?_
  rintro _ w84 ⟨A87, c88, F90, H85, rfl, h89, T86⟩
  refine ⟨_, rfl, ?_⟩
  obtain ⟨S91, K92⟩ := St.call (Fa := []) (Fr := [(is g32), (is g2)]) S78 T86
  replace b33 := K92.blk 0 rfl b33
  replace b3 := K92.blk 1 rfl b3
  have E93 := T86.ext
  refine lv (d := 8) rfl rfl (by kernel_rfl) (e_assign (v := .slice A87 t82.length c88) (by kernel_rfl)) ?_
  refine wpList_nil ?_
  refine then_n ?_
  refine wp_ret ?_
  obtain rfl := Option.some.inj M
  have S94 := S91.pull (F := (is g2)) (Fr := [F90, (is g32)]) 2 rfl rfl
  have S95 := St.first (Fa := [(is g2), F90]) (Fr := [(is g32)]) S94
  exact ret1 rfl rfl  (show _ = .slice A87 t82.length c88 from (by kernel_rfl)) ⟨A87, c88, F90, H85, rfl, b3, h89, S95⟩

/-! spec_l2pair -/
def spec_l2pair.f (k : Nat) (x1 : List UInt8) (x2 : List Cell) (x7 : List Cell) : Option (List Cell) := ((spec_l2comp.f k x1 [x2, x7]).bind fun t27 => some t27)
theorem spec_l2pair.calls (k : Nat) (w : World) (H : Hp) (x1 : List UInt8) (x2 : List Cell) (A3 : Option Addr) (c4 : Nat) (x7 : List Cell) (A8 : Option Addr) (c9 : Nat) (h5 : Rd st36 H A3 x2) (l6 : x2.length ≤ c4) (h10 : Rd st36 H A8 x7) (l11 : x7.length ≤ c9) (S : Own [] H w) (r : List Cell) (M : spec_l2pair.f k x1 x2 x7 = some r) :
    Calls Try.prog 31 #[str x1, .slice A3 x2.length c4, .slice A8 x7.length c9] w (fun e e_w => ∃ (A_1 : Option Addr) (c_1 : Nat) (F_1 : Foot) (H_ : Hp), e = .returned (.slice A_1 r.length c_1) ∧ Row st36 36 H_ (hp e_w) F_1 A_1 c_1 r ∧ St (anyOf []) H w [F_1] H_ e_w) := by
  rw [spec_l2pair.f] at M
  refine enter (l := [str x1, .slice A3 x2.length c4, .slice A8 x7.length c9]) 12 Try.func31 rfl rfl rfl ?_
  have S0_ := S.st
  refine wp_seq ?_
  refine wp_region_lit ?_
  refine lv (d := 6) rfl rfl (by kernel_rfl) (e_assign (v := .slice none 0 0) rfl) ?_
  refine wpList_nil ?_
  refine then_n ?_
  refine wp_seq ?_
  refine wp_region_lit ?_
  refine lv (d := 7) rfl rfl (by kernel_rfl) (e_move (v := str x1) (by kernel_rfl)) ?_
  refine lv (d := 8) rfl rfl (by kernel_rfl) (e_move (v := .slice A3 x2.length c4) (by kernel_rfl)) ?_
  refine lv (d := 9) rfl rfl (by kernel_rfl) (e_move (v := .slice A8 x7.length c9) (by kernel_rfl)) ?_
  refine lve (d := 10) rfl rfl (by kernel_rfl) (new_blk (v := fun g_ => .slice (some ⟨g_, 0, none⟩) 2 2) (cs := #[.slice A3 x2.length c4, .slice A8 x7.length c9]) (t := 24) S0_ (by kernel_rfl)) ?_
  rintro _ w12 ⟨g13, rfl, b14, S15, K16⟩
  have S17 := S15.unit
  have S18 := S17.pull (F := (is g13)) (Fr := [no]) 1 rfl rfl
  obtain ⟨h19, S20⟩ := row_lit (d := (ro sl36)) (xs := [x2, x7]) S18 b14 rfl (elsO_no (d := (ro sl36)) ⟨A3, c4, rfl, l6, h5⟩ (elsO_no (d := (ro sl36)) ⟨A8, c9, rfl, l11, h10⟩ (elsO_nil _ _ _ no))) (Nat.le_of_ble_eq_true rfl)
  have l21 := h19.le
  obtain ⟨H22, S23, E24, h25, z26⟩ := S20.frzRow h19
  replace h25 := h25.unro
  obtain ⟨t27, u28, M⟩ := bnd M
  refine lcall (d := 11) rfl rfl (by kernel_rfl) (e_call (l := [.tmp 7, .tmp 10]) (vs := [str x1, .slice (some ⟨g13, 0, none⟩) 2 2]) Try.func37 (by kernel_rfl) rfl (by kernel_rfl) rfl) (spec_l2comp.calls k w12 H22 x1 [x2, x7] (some ⟨g13, 0, none⟩) 2 h25 l21 (St.own' (Fa := []) (Fr := []) S23) t27 u28) ?_
  rintro _ w29 ⟨A32, c33, F35, H30, rfl, h34, T31⟩
  refine ⟨_, rfl, ?_⟩
  obtain ⟨S36, K37⟩ := St.call (Fa := []) (Fr := []) S23 T31
  have E38 := T31.ext
  refine lv (d := 6) rfl rfl (by kernel_rfl) (e_assign (v := .slice A32 t27.length c33) (by kernel_rfl)) ?_
  refine wpList_nil ?_
  refine then_n ?_
  refine wp_ret ?_
  obtain rfl := Option.some.inj M
  exact ret1 rfl rfl  (show _ = .slice A32 t27.length c33 from (by kernel_rfl)) ⟨A32, c33, F35, H30, rfl, h34, S36⟩

/-! spec_l2items -/
def spec_l2items.l0 : Nat → (List Cell) → (List (List Cell)) → Option ((List (List Cell)) × (List Cell))
  | 0, _, _ => none
  | k25 + 1, x8, x13 => ((spec_l2is.f x8 ([46] : List UInt8) 2).bind fun t27 => (if t27 = true then ((spec_l2next.f k25 x8 1).bind fun t34 => (if 1 ≤ t34 then (if t34 ≤ (x8.length : Int) then (if x13.length + 1 ≤ 5864062014805 then (if 0 ≤ t34 then (spec_l2items.l0 k25 (x8.drop ((t34 : Int).toNat)) (x13 ++ [((x8.drop ((1 : Int).toNat)).take ((t34 : Int).toNat - (1 : Int).toNat))])) else none) else none) else none) else none)) else some (x13, x8)))
def spec_l2items.f (k : Nat) (x1 : List Cell) : Option ((List (List Cell)) × (List Cell)) := (spec_l2items.l0 k x1 [])
theorem spec_l2items.calls (k : Nat) (w : World) (H : Hp) (x1 : List Cell) (A2 : Option Addr) (c3 : Nat) (h4 : Rd st36 H A2 x1) (l5 : x1.length ≤ c3) (S : Own [] H w) (r : (List (List Cell)) × (List Cell)) (M : spec_l2items.f k x1 = some r) :
    Calls Try.prog 52 #[.slice A2 x1.length c3] w (fun e e_w => ∃ (A_1 : Option Addr) (c_1 : Nat) (F_1 : Foot) (A_2 : Option Addr) (c_2 : Nat) (H_ : Hp), e = .returned (.tuple #[.slice A_1 r.1.length c_1, .slice A_2 r.2.length c_2]) ∧ Row (ro sl36) 24 H_ (hp e_w) F_1 A_1 c_1 r.1 ∧ Rd st36 H_ A_2 r.2 ∧ r.2.length ≤ c_2 ∧ St (anyOf []) H w [F_1] H_ e_w) := by
  rw [spec_l2items.f] at M
  refine enter (l := [.slice A2 x1.length c3]) 21 Try.func52 rfl rfl rfl ?_
  have S0_ := S.st
  refine wp_seq ?_
  refine wp_region_lit ?_
  refine lv (d := 2) rfl rfl (by kernel_rfl) (e_assign (v := .slice none 0 0) rfl) ?_
  refine lv (d := 3) rfl rfl (by kernel_rfl) (e_assign (v := .slice none 0 0) rfl) ?_
  refine wpList_nil ?_
  refine then_n ?_
  refine wp_seq ?_
  refine wp_region_lit ?_
  refine lv (d := 4) rfl rfl (by kernel_rfl) (e_assign (v := .slice none 0 0) rfl) ?_
  refine wpList_nil ?_
  refine then_n ?_
  refine wp_seq ?_
  refine wp_block ?_
  have S26 := S0_.unit
  refine wp_loop_g (fun k23 a24 w6 => ∃ (f7 : Nat → Value) (x8 : List Cell) (A9 : Option Addr) (c10 : Nat) (x13 : List (List Cell)) (A14 : Option Addr) (c15 : Nat) (F16 : Foot), a24 = mk 21 f7 ∧ f7 0 = .slice A9 x8.length c10 ∧ f7 4 = .slice A14 x13.length c15 ∧ Row (ro sl36) 24 H (hp w6) F16 A14 c15 x13 ∧ Rd st36 H A9 x8 ∧ x8.length ≤ c10 ∧ St (anyOf []) H w [F16] H w6 ∧ spec_l2items.l0 k23 x8 x13 = some r) k ⟨_, x1, A2, c3, [], none, 0, no, rfl, (by kernel_rfl), (by kernel_rfl), (Row.nil _ _ _ _ _), h4, l5, S26, M⟩ ?_
  clear M
  rintro k23 a24 w6 ⟨f7, x8, A9, c10, x13, A14, c15, F16, rfl, e18, e19, h17, h11, l12, S20, M⟩
  rcases k23 with _ | k25
  · rw [spec_l2items.l0] at M
    cases M
  rw [spec_l2items.l0] at M
  refine wp_seq ?_
  refine wp_seq ?_
  refine wp_region_lit ?_
  refine lv (d := 6) rfl rfl (by kernel_rfl) (e_move (v := .slice A9 x8.length c10) (by exact e18)) ?_
  obtain ⟨t27, u28, M⟩ := bnd M
  refine lcall (d := 7) rfl rfl (by kernel_rfl) (e_call (l := [.tmp 6, .const (str ([46] : List UInt8)), .const (.int .i64 2)]) (vs := [.slice A9 x8.length c10, str ([46] : List UInt8), .int .i64 2]) Try.func25 (by kernel_rfl) rfl (by kernel_rfl) rfl) (spec_l2is.calls w6 H x8 A9 c10 ([46] : List UInt8) 2 h11 l12 S20.own0 t27 u28) ?_
  rintro _ w29 ⟨rfl, C30⟩
  refine ⟨_, rfl, ?_⟩
  obtain ⟨S31, K32⟩ := S20.still C30
  replace h17 := h17.move (K32.at 0 rfl)
  refine wpList_nil ?_
  refine then_n ?_
  by_cases q33 : t27 = true
  · replace M := ifp q33 M
    refine cond_t rfl (bvt q33 (by kernel_rfl)) ?_
    refine wp_skip ?_
    refine then_n ?_
    refine wp_block ?_
    refine wp_seq ?_
    refine wp_region_lit ?_
    refine lv (d := 8) rfl rfl (by kernel_rfl) (e_move (v := .slice A9 x8.length c10) (by exact e18)) ?_
    obtain ⟨t34, u35, M⟩ := bnd M
    refine lcall (d := 9) rfl rfl (by kernel_rfl) (e_call (l := [.tmp 8, .const (.int .i64 1)]) (vs := [.slice A9 x8.length c10, .int .i64 1]) Try.func49 (by kernel_rfl) rfl (by kernel_rfl) rfl) (spec_l2next.calls k25 w29 H x8 A9 c10 1 h11 l12 S31.own0 t34 u35) ?_
    rintro _ w36 ⟨rfl, C37⟩
    refine ⟨_, rfl, ?_⟩
    obtain ⟨S38, K39⟩ := S31.still C37
    replace h17 := h17.move (K39.at 0 rfl)
    refine lv (d := 5) rfl rfl (by kernel_rfl) (e_assign (v := .int .i64 t34) (by kernel_rfl)) ?_
    refine wpList_nil ?_
    refine then_n ?_
    refine wp_seq ?_
    refine wp_region_lit ?_
    refine lv (d := 10) rfl rfl (by kernel_rfl) (e_move (v := .slice A14 x13.length c15) (by exact e19)) ?_
    refine lv (d := 11) rfl rfl (by kernel_rfl) (e_move (v := .slice A9 x8.length c10) (by exact e18)) ?_
    refine lv (d := 12) rfl rfl (by kernel_rfl) (e_move (v := .int .i64 t34) (by kernel_rfl)) ?_
    obtain ⟨q40, M⟩ := chk M
    obtain ⟨q41, M⟩ := chk M
    obtain ⟨A42, h45, l44, h43⟩ := Rd.sub2 (d := st36) (n := x8.length) (m := 3) (cap := c10) (a := 1) (b := t34) rfl h11 (by decide) q40 q41 rfl l12
    refine lv (d := 13) rfl rfl (by kernel_rfl) (e_slice_lh (n := x8.length) (m := 3) (cap := c10) (A := A9) (a := 1) (b := t34) (k := .i64) (k2 := .i64) Try.underlying24 (by kernel_rfl) (by kernel_rfl) rfl (by kernel_rfl) (by decide) q40 q41 l12 h45) ?_
    refine lve (d := 14) rfl rfl (by kernel_rfl) (new_blk (v := fun g_ => .slice (some ⟨g_, 0, none⟩) 1 1) (cs := #[.slice A42 ((x8.drop ((1 : Int).toNat)).take ((t34 : Int).toNat - (1 : Int).toNat)).length (c10 - ((1 : Int).toNat))]) (t := 24) S38 (by kernel_rfl)) ?_
    rintro _ w46 ⟨g47, rfl, b48, S49, K50⟩
    replace h17 := h17.move (K50.at 0 rfl)
    obtain ⟨q51, M⟩ := chk M
    have S52 := S49.pull (F := F16) (Fr := [(is g47)]) 1 rfl rfl
    have S53 := S52.unit
    have S54 := S53.pull (F := F16) (Fr := [no, (is g47)]) 1 rfl rfl
    refine lve (d := 15) rfl rfl (by kernel_rfl) (e_append (d := (ro sl36)) (n := x13.length) (xs := x13) (cap := c15) (A := A14) (ys := [((x8.drop ((1 : Int).toNat)).take ((t34 : Int).toNat - (1 : Int).toNat))]) (A2 := (some ⟨g47, 0, none⟩)) (c2 := 1) (z := .slice none 0 0) (bytes := 24) S54 Try.underlying50 (by kernel_rfl) rfl (by decide) (by kernel_rfl) rfl (by kernel_rfl) h17 (elsO_one1 ⟨A42, (c10 - ((1 : Int).toNat)), rfl, l44, h43⟩) (.inr (blk_news b48 rfl)) (show (x13.length + [((x8.drop ((1 : Int).toNat)).take ((t34 : Int).toNat - (1 : Int).toNat))].length) * 24 ≤ _ by first | omega | (simp only [List.length_cons, List.length_nil]; omega)) (by decide)) ?_
    rintro _ w55 ⟨A56, c57, F58, rfl, h59, S60, K61⟩
    replace b48 := K61.blk 0 rfl b48
    refine lv (d := 4) rfl rfl (by kernel_rfl) (e_assign (v := .slice A56 ((x13 ++ [((x8.drop ((1 : Int).toNat)).take ((t34 : Int).toNat - (1 : Int).toNat))]).length) c57) (by kernel_rfl)) ?_
    refine wpList_nil ?_
    refine then_n ?_
    refine wp_region_lit ?_
    refine lv (d := 16) rfl rfl (by kernel_rfl) (e_move (v := .slice A9 x8.length c10) (by exact e18)) ?_
    refine lv (d := 17) rfl rfl (by kernel_rfl) (e_move (v := .int .i64 t34) (by kernel_rfl)) ?_
    obtain ⟨q62, M⟩ := chk M
    obtain ⟨A63, h66, l65, h64⟩ := Rd.sub1 (d := st36) (n := x8.length) (m := 3) (cap := c10) (a := t34) rfl h11 q62 q41 rfl l12
    refine lv (d := 18) rfl rfl (by kernel_rfl) (e_slice_l (n := x8.length) (m := 3) (cap := c10) (A := A9) (a := t34) (k := .i64) Try.underlying24 (by kernel_rfl) (by kernel_rfl) (by kernel_rfl) q62 q41 l12 h66) ?_
    refine lv (d := 0) rfl rfl (by kernel_rfl) (e_assign (v := .slice A63 (x8.drop ((t34 : Int).toNat)).length (c10 - ((t34 : Int).toNat))) (by kernel_rfl)) ?_
    refine wpList_nil ?_
    refine inb_n ?_
    refine then_n ?_
    have S67 := St.first (Fa := [F58]) (Fr := [(is g47)]) S60
    exact ⟨k25, (by omega), _, (x8.drop ((t34 : Int).toNat)), A63, (c10 - ((t34 : Int).toNat)), (x13 ++ [((x8.drop ((1 : Int).toNat)).take ((t34 : Int).toNat - (1 : Int).toNat))]), A56, c57, F58, rfl, (by kernel_rfl), (by kernel_rfl), h59, h64, l65, S67, M⟩
  replace M := ifn q33 M
  refine cond_f rfl (bvf q33 (by kernel_rfl)) ?_
  refine wp_exit ?_
  refine then_e ?_
  refine then_e ?_
  refine inb_hit ?_
  refine then_n ?_
  refine wp_seq ?_
  refine wp_region_lit ?_
  refine lv (d := 19) rfl rfl (by kernel_rfl) (e_move (v := .slice A14 x13.length c15) (by exact e19)) ?_
  refine lv (d := 20) rfl rfl (by kernel_rfl) (e_move (v := .slice A9 x8.length c10) (by exact e18)) ?_
  refine lv (d := 2) rfl rfl (by kernel_rfl) (e_assign (v := .slice A14 x13.length c15) (by kernel_rfl)) ?_
  refine lv (d := 3) rfl rfl (by kernel_rfl) (e_assign (v := .slice A9 x8.length c10) (by kernel_rfl)) ?_
  refine wpList_nil ?_
  refine then_n ?_
  refine wp_ret ?_
  obtain rfl := Option.some.inj M
  exact ret2 rfl rfl rfl (show _ = .slice A14 x13.length c15 from (by kernel_rfl)) (show _ = .slice A9 x8.length c10 from (by kernel_rfl)) ⟨A14, c15, F16, A9, c10, H, rfl, h17, h11, l12, S31⟩

/-! spec_l2list -/
def spec_l2list.l0 : Nat → (List (List Cell)) → (List Cell) → (List Cell) → Int → Option (List Cell)
  | 0, _, _, _, _ => none
  | k30 + 1, x1, x6, x15, x20 => (if x20 < (x1.length : Int) then (if x15.length + 1 ≤ 3518437208883 then (if 0 ≤ x20 then ((spec_l2copy.f k30 (x1.getD ((x20).toNat) ([] : List Cell))).bind fun t68 => (if (x15 ++ [(⟨3, 2, [(46 : UInt8)]⟩ : Cell)]).length + t68.length ≤ 3518437208883 then (spec_l2list.l0 k30 x1 x6 ((x15 ++ [(⟨3, 2, [(46 : UInt8)]⟩ : Cell)]) ++ t68) (IntKind.i64.wrap (x20 + 1))) else none)) else none) else none) else ((spec_l2copy.f k30 x6).bind fun t93 => (if x15.length + t93.length ≤ 3518437208883 then some (x15 ++ t93) else none)))
def spec_l2list.f (k : Nat) (x1 : List (List Cell)) (x6 : List Cell) : Option (List Cell) := (spec_l2list.l0 k x1 x6 [] 0)
theorem spec_l2list.calls (k : Nat) (w : World) (H : Hp) (x1 : List (List Cell)) (A2 : Option Addr) (c3 : Nat) (x6 : List Cell) (A7 : Option Addr) (c8 : Nat) (h4 : Rd sl36 H A2 x1) (l5 : x1.length ≤ c3) (h9 : Rd st36 H A7 x6) (l10 : x6.length ≤ c8) (S : Own [] H w) (r : List Cell) (M : spec_l2list.f k x1 x6 = some r) :
    Calls Try.prog 53 #[.slice A2 x1.length c3, .slice A7 x6.length c8] w (fun e e_w => ∃ (A_1 : Option Addr) (c_1 : Nat) (F_1 : Foot) (H_ : Hp), e = .returned (.slice A_1 r.length c_1) ∧ Row st36 36 H_ (hp e_w) F_1 A_1 c_1 r ∧ St (anyOf []) H w [F_1] H_ e_w) := by
  rw [spec_l2list.f] at M
  refine enter (l := [.slice A2 x1.length c3, .slice A7 x6.length c8]) 30 Try.func53 rfl rfl rfl ?_
  have S0_ := S.st
  refine wp_seq ?_
  refine wp_region_lit ?_
  refine lv (d := 4) rfl rfl (by kernel_rfl) (e_assign (v := .slice none 0 0) rfl) ?_
  refine wpList_nil ?_
  refine then_n ?_
  refine wp_seq ?_
  refine wp_region_lit ?_
  refine lv (d := 5) rfl rfl (by kernel_rfl) (e_assign (v := .slice none 0 0) rfl) ?_
  refine wpList_nil ?_
  refine then_n ?_
  refine wp_seq ?_
  refine wp_seq ?_
  refine wp_region_lit ?_
  refine lv (d := 6) rfl rfl (by kernel_rfl) (e_assign (v := .int .i64 0) rfl) ?_
  refine wpList_nil ?_
  refine then_n ?_
  refine wp_block ?_
  have S31 := S0_.unit
  refine wp_loop_g (fun k28 a29 w11 => ∃ (f12 : Nat → Value) (H13 : Hp) (x15 : List Cell) (A16 : Option Addr) (c17 : Nat) (F18 : Foot) (x20 : Int), a29 = mk 30 f12 ∧ f12 0 = .slice A2 x1.length c3 ∧ f12 1 = .slice A7 x6.length c8 ∧ f12 5 = .slice A16 x15.length c17 ∧ f12 6 = .int .i64 x20 ∧ Row st36 36 H13 (hp w11) F18 A16 c17 x15 ∧ Ext H H13 ∧ St (anyOf []) H w [F18] H13 w11 ∧ spec_l2list.l0 k28 x1 x6 x15 x20 = some r) k ⟨_, H, [], none, 0, no, 0, rfl, (by kernel_rfl), (by kernel_rfl), (by kernel_rfl), (by kernel_rfl), (Row.nil _ _ _ _ _), (Ext.refl _), S31, M⟩ ?_
  clear M
  rintro k28 a29 w11 ⟨f12, H13, x15, A16, c17, F18, x20, rfl, e21, e22, e23, e24, h19, Y14, S25, M⟩
  rcases k28 with _ | k30
  · rw [spec_l2list.l0] at M
    cases M
  rw [spec_l2list.l0] at M
  refine wp_seq ?_
  refine wp_seq ?_
  refine wp_region_lit ?_
  refine lv (d := 7) rfl rfl (by kernel_rfl) (e_move (v := .int .i64 x20) (by exact e24)) ?_
  refine lv (d := 8) rfl rfl (by kernel_rfl) (e_move (v := .slice A2 x1.length c3) (by exact e21)) ?_
  refine lv (d := 9) rfl rfl (by kernel_rfl) (e_len (A := A2) (n := x1.length) (c := c3) Try.underlying50 (by kernel_rfl)) ?_
  refine lv (d := 10) rfl rfl (by kernel_rfl) (e_lss (k := .i64) (a := x20) (b := (x1.length : Int)) (by kernel_rfl) (by kernel_rfl)) ?_
  refine wpList_nil ?_
  refine then_n ?_
  by_cases q32 : x20 < (x1.length : Int)
  · replace M := ifp q32 M
    refine cond_t rfl (bt q32 (by kernel_rfl)) ?_
    refine wp_skip ?_
    refine then_n ?_
    refine wp_seq ?_
    refine wp_block ?_
    refine wp_seq ?_
    refine wp_region_lit ?_
    refine lv (d := 13) rfl rfl (by kernel_rfl) (e_move (v := .slice A16 x15.length c17) (by exact e23)) ?_
    refine lve (d := 14) rfl rfl (by kernel_rfl) (new_blk (v := fun g_ => .slice (some ⟨g_, 0, none⟩) 1 1) (cs := #[.int .u8 46]) (t := 5) S25 (by kernel_rfl)) ?_
    rintro _ w33 ⟨g34, rfl, b35, S36, K37⟩
    replace h19 := h19.move (K37.at 0 rfl)
    refine lve (d := 15) rfl rfl (by kernel_rfl) (e_conv_lit (g := g34) (n := 1) (cur := #[.int .u8 46]) (xs := [(46 : UInt8)]) S36 b35 Try.underlying32 Try.underlying5 (by kernel_rfl) rfl rfl (by decide)) ?_
    rintro _ w38 ⟨rfl, h39, S40, K41⟩
    replace h19 := h19.move (K41.at 0 rfl)
    clear b35
    refine lv (d := 16) rfl rfl (by kernel_rfl) (show _ = Result.ok (Next.value (.agg #[.int .i64 3, .int .i64 2, .slice (some ⟨g34, 0, none⟩) 1 1])) w38 from by kernel_rfl) ?_
    refine lve (d := 17) rfl rfl (by kernel_rfl) (new_blk (v := fun g_ => .slice (some ⟨g_, 0, none⟩) 1 1) (cs := #[.int .i64 3, .int .i64 2, .slice (some ⟨g34, 0, none⟩) 1 1]) (t := 36) S40 (by kernel_rfl)) ?_
    rintro _ w42 ⟨g43, rfl, b44, S45, K46⟩
    replace h39 := h39.move (K46.at 0 rfl)
    replace h19 := h19.move (K46.at 1 rfl)
    obtain ⟨q47, M⟩ := chk M
    have S48 := S45.pull (F := (is g34)) (Fr := [(is g43), F18]) 1 rfl rfl
    have S49 := S48.pull (F := F18) (Fr := [(is g34), (is g43)]) 2 rfl rfl
    refine lve (d := 18) rfl rfl (by kernel_rfl) (e_append (d := st36) (n := x15.length) (xs := x15) (cap := c17) (A := A16) (ys := [(⟨3, 2, [(46 : UInt8)]⟩ : Cell)]) (A2 := (some ⟨g43, 0, none⟩)) (c2 := 1) (z := .agg #[.int .i64 0, .int .i64 0, .slice none 0 0]) (bytes := 40) S49 Try.underlying24 (by kernel_rfl) rfl (by decide) (by kernel_rfl) rfl (by kernel_rfl) h19 (elsO_one1 (st36_mkO (x := (⟨3, 2, [(46 : UInt8)]⟩ : Cell)) h39)) (.inr (blk_news b44 rfl)) (show (x15.length + [(⟨3, 2, [(46 : UInt8)]⟩ : Cell)].length) * 40 ≤ _ by first | omega | (simp only [List.length_cons, List.length_nil]; omega)) (by decide)) ?_
    rintro _ w50 ⟨A51, c52, F53, rfl, h54, S55, K56⟩
    replace b44 := K56.blk 0 rfl b44
    refine lv (d := 5) rfl rfl (by kernel_rfl) (e_assign (v := .slice A51 ((x15 ++ [(⟨3, 2, [(46 : UInt8)]⟩ : Cell)]).length) c52) (by kernel_rfl)) ?_
    refine wpList_nil ?_
    refine then_n ?_
    refine wp_region_lit ?_
    refine lv (d := 19) rfl rfl (by kernel_rfl) (e_move (v := .slice A51 ((x15 ++ [(⟨3, 2, [(46 : UInt8)]⟩ : Cell)]).length) c52) (by kernel_rfl)) ?_
    refine lv (d := 20) rfl rfl (by kernel_rfl) (e_move (v := .slice A2 x1.length c3) (by exact e21)) ?_
    refine lv (d := 21) rfl rfl (by kernel_rfl) (e_move (v := .int .i64 x20) (by exact e24)) ?_
    obtain ⟨q57, M⟩ := chk M
    obtain ⟨b58, o59, e60⟩ := Rd.addr h4 (show (x20).toNat < x1.length by omega)
    obtain ⟨y61, r62, k63⟩ := Rd.at h4 e60 (getD_some ([] : List Cell) (show (x20).toNat < x1.length by omega))
    obtain ⟨A64, c65, rfl, l66, h67⟩ := r62
    refine lv (d := 22) rfl rfl (by kernel_rfl) (e_indexAddr (b := b58) (off := o59) (n := x1.length) (c := c3) (sz := 1) (i := x20) (k := .i64) Try.underlying50 e60 (by kernel_rfl) (by kernel_rfl) (by kernel_rfl) q57 q32) ?_
    refine lv (d := 23) rfl rfl (by kernel_rfl) (e_load1 (ad := ⟨b58, o59 + (x20 : Int).toNat * 1, none⟩) (v := .slice A64 (x1.getD ((x20).toNat) ([] : List Cell)).length c65) Try.underlying24 rfl (by kernel_rfl) (hpx (S55.inv.cell (Y14.cell (k63 0 _ rfl))))) ?_
    obtain ⟨t68, u69, M⟩ := bnd M
    refine lcall (d := 24) rfl rfl (by kernel_rfl) (e_call (l := [.tmp 23]) (vs := [.slice A64 (x1.getD ((x20).toNat) ([] : List Cell)).length c65]) Try.func40 (by kernel_rfl) rfl (by kernel_rfl) rfl) (spec_l2copy.calls k30 w50 H13 (x1.getD ((x20).toNat) ([] : List Cell)) A64 c65 (h67.ext Y14) l66 (St.own' (Fa := []) (Fr := [F53, (is g43)]) S55) t68 u69) ?_
    rintro _ w70 ⟨A73, c74, F76, H71, rfl, h75, T72⟩
    refine ⟨_, rfl, ?_⟩
    obtain ⟨S77, K78⟩ := St.call (Fa := []) (Fr := [F53, (is g43)]) S55 T72
    replace h54 := h54.move (K78.at 0 rfl)
    replace b44 := K78.blk 1 rfl b44
    have E79 := T72.ext
    replace h54 := h54.ext E79
    obtain ⟨y80, h81, h82⟩ := Row.news h75
    obtain ⟨q83, M⟩ := chk M
    have S84 := S77.pull (F := F53) (Fr := [F76, (is g43)]) 1 rfl rfl
    refine lve (d := 25) rfl rfl (by kernel_rfl) (e_append (d := st36) (n := (x15 ++ [(⟨3, 2, [(46 : UInt8)]⟩ : Cell)]).length) (xs := (x15 ++ [(⟨3, 2, [(46 : UInt8)]⟩ : Cell)])) (cap := c52) (A := A51) (ys := t68) (A2 := A73) (c2 := c74) (z := .agg #[.int .i64 0, .int .i64 0, .slice none 0 0]) (bytes := 40) S84 Try.underlying24 (by kernel_rfl) rfl (by decide) (by kernel_rfl) rfl (by kernel_rfl) h54 h81 h82 (show ((x15 ++ [(⟨3, 2, [(46 : UInt8)]⟩ : Cell)]).length + t68.length) * 40 ≤ _ by first | omega | (simp only [List.length_cons, List.length_nil]; omega)) (by decide)) ?_
    rintro _ w85 ⟨A86, c87, F88, rfl, h89, S90, K91⟩
    replace b44 := K91.blk 0 rfl b44
    refine lv (d := 5) rfl rfl (by kernel_rfl) (e_assign (v := .slice A86 (((x15 ++ [(⟨3, 2, [(46 : UInt8)]⟩ : Cell)]) ++ t68).length) c87) (by kernel_rfl)) ?_
    refine wpList_nil ?_
    refine inb_n ?_
    refine then_n ?_
    refine wp_region_lit ?_
    refine lv (d := 11) rfl rfl (by kernel_rfl) (e_move (v := .int .i64 x20) (by exact e24)) ?_
    refine lv (d := 12) rfl rfl (by kernel_rfl) (e_add (k := .i64) (a := x20) (b := 1) (by kernel_rfl) rfl) ?_
    refine lv (d := 6) rfl rfl (by kernel_rfl) (e_assign (v := .int .i64 (IntKind.i64.wrap (x20 + 1))) (by kernel_rfl)) ?_
    refine wpList_nil ?_
    refine then_n ?_
    have S92 := St.first (Fa := [F88]) (Fr := [(is g43)]) S90
    exact ⟨k30, (by omega), _, H71, ((x15 ++ [(⟨3, 2, [(46 : UInt8)]⟩ : Cell)]) ++ t68), A86, c87, F88, (IntKind.i64.wrap (x20 + 1)), rfl, (by exact e21), (by exact e22), (by kernel_rfl), (by kernel_rfl), h89, (Y14.trans E79), S92, M⟩
  replace M := ifn q32 M
  refine cond_f rfl (bf q32 (by kernel_rfl)) ?_
  refine wp_exit ?_
  refine then_e ?_
  refine then_e ?_
  refine inb_hit ?_
  refine then_n ?_
  refine wp_seq ?_
  refine wp_region_lit ?_
  refine lv (d := 26) rfl rfl (by kernel_rfl) (e_move (v := .slice A16 x15.length c17) (by exact e23)) ?_
  refine lv (d := 27) rfl rfl (by kernel_rfl) (e_move (v := .slice A7 x6.length c8) (by exact e22)) ?_
  obtain ⟨t93, u94, M⟩ := bnd M
  refine lcall (d := 28) rfl rfl (by kernel_rfl) (e_call (l := [.tmp 27]) (vs := [.slice A7 x6.length c8]) Try.func40 (by kernel_rfl) rfl (by kernel_rfl) rfl) (spec_l2copy.calls k30 w11 H13 x6 A7 c8 (h9.ext Y14) l10 (St.own' (Fa := []) (Fr := [F18]) S25) t93 u94) ?_
  rintro _ w95 ⟨A98, c99, F101, H96, rfl, h100, T97⟩
  refine ⟨_, rfl, ?_⟩
  obtain ⟨S102, K103⟩ := St.call (Fa := []) (Fr := [F18]) S25 T97
  replace h19 := h19.move (K103.at 0 rfl)
  have E104 := T97.ext
  replace h19 := h19.ext E104
  obtain ⟨y105, h106, h107⟩ := Row.news h100
  obtain ⟨q108, M⟩ := chk M
  have S109 := S102.pull (F := F18) (Fr := [F101]) 1 rfl rfl
  refine lve (d := 29) rfl rfl (by kernel_rfl) (e_append (d := st36) (n := x15.length) (xs := x15) (cap := c17) (A := A16) (ys := t93) (A2 := A98) (c2 := c99) (z := .agg #[.int .i64 0, .int .i64 0, .slice none 0 0]) (bytes := 40) S109 Try.underlying24 (by kernel_rfl) rfl (by decide) (by kernel_rfl) rfl (by kernel_rfl) h19 h106 h107 (show (x15.length + t93.length) * 40 ≤ _ by first | omega | (simp only [List.length_cons, List.length_nil]; omega)) (by decide)) ?_
  rintro _ w110 ⟨A111, c112, F113, rfl, h114, S115, K116⟩
  refine lv (d := 4) rfl rfl (by kernel_rfl) (e_assign (v := .slice A111 ((x15 ++ t93).length) c112) (by kernel_rfl)) ?_
  refine wpList_nil ?_
  refine then_n ?_
  refine wp_ret ?_
  obtain rfl := Option.some.inj M
  exact ret1 rfl rfl  (show _ = .slice A111 ((x15 ++ t93).length) c112 from (by kernel_rfl)) ⟨A111, c112, F113, H96, rfl, h114, S115⟩

/-! spec_l8terminals -/
def spec_l8terminals.f (k : Nat) (x1 : GL8gram) (x4 : List Cell) (x9 : List Cell) (x14 : List Cell) : Option ((List Cell) × GL8gram) := ((spec_l2items.f k x4).bind fun t19 => ((spec_l2is.f t19.2 ([91, 93] : List UInt8) 0).bind fun t35 => (if ¬ (t35 = true) then ((spec_l8fault.f x1 4).bind fun t43 => some (t43.1, t43.2)) else ((spec_l2list.f k t19.1 x14).bind fun t65 => ((spec_l2pair.f k ([61] : List UInt8) x9 t65).bind fun t83 => some (t83, x1))))))
theorem spec_l8terminals.calls (k : Nat) (w : World) (H : Hp) (x1 : GL8gram) (g2 : Nat) (x4 : List Cell) (A5 : Option Addr) (c6 : Nat) (x9 : List Cell) (A10 : Option Addr) (c11 : Nat) (x14 : List Cell) (A15 : Option Addr) (c16 : Nat) (b3 : w.heap[g2]? = some (.cells #[.int .i64 x1.next_, .int .i64 x1.code_] 49 (0, 0))) (h7 : Rd st36 H A5 x4) (l8 : x4.length ≤ c6) (h12 : Rd st36 H A10 x9) (l13 : x9.length ≤ c11) (h17 : Rd st36 H A15 x14) (l18 : x14.length ≤ c16) (S : Own [(is g2)] H w) (r : (List Cell) × GL8gram) (M : spec_l8terminals.f k x1 x4 x9 x14 = some r) :
    Calls Try.prog 32 #[.pointer (some ⟨g2, 0, none⟩), .slice A5 x4.length c6, .slice A10 x9.length c11, .slice A15 x14.length c16] w (fun e e_w => ∃ (A_1 : Option Addr) (c_1 : Nat) (F_1 : Foot) (H_ : Hp), e = .returned (.slice A_1 r.1.length c_1) ∧ e_w.heap[g2]? = some (.cells #[.int .i64 r.2.next_, .int .i64 r.2.code_] 49 (0, 0)) ∧ Row st36 36 H_ (hp e_w) F_1 A_1 c_1 r.1 ∧ St (anyOf [(is g2)]) H w [(is g2), F_1] H_ e_w) := by
  rw [spec_l8terminals.f] at M
  refine enter (l := [.pointer (some ⟨g2, 0, none⟩), .slice A5 x4.length c6, .slice A10 x9.length c11, .slice A15 x14.length c16]) 26 Try.func32 rfl rfl rfl ?_
  have S0_ := S.st
  refine wp_seq ?_
  refine wp_region_lit ?_
  refine lv (d := 8) rfl rfl (by kernel_rfl) (e_assign (v := .slice none 0 0) rfl) ?_
  refine wpList_nil ?_
  refine then_n ?_
  refine wp_seq ?_
  refine wp_region_lit ?_
  refine lv (d := 12) rfl rfl (by kernel_rfl) (e_move (v := .slice A5 x4.length c6) (by kernel_rfl)) ?_
  obtain ⟨t19, u20, M⟩ := bnd M
  refine lcall (d := 13) rfl rfl (by kernel_rfl) (e_call (l := [.tmp 12]) (vs := [.slice A5 x4.length c6]) Try.func52 (by kernel_rfl) rfl (by kernel_rfl) rfl) (spec_l2items.calls k w H x4 A5 c6 h7 l8 (St.own' (Fa := []) (Fr := [(is g2)]) S0_) t19 u20) ?_
  rintro _ w21 ⟨A24, c25, F27, A28, c29, H22, rfl, h26, h30, l31, T23⟩
  refine ⟨_, rfl, ?_⟩
  obtain ⟨S32, K33⟩ := St.call (Fa := []) (Fr := [(is g2)]) S0_ T23
  replace b3 := K33.blk 0 rfl b3
  have E34 := T23.ext
  refine lv (d := 11) rfl rfl (by kernel_rfl) (e_move (v := .tuple #[.slice A24 t19.1.length c25, .slice A28 t19.2.length c29]) (by kernel_rfl)) ?_
  refine lv (d := 14) rfl rfl (by kernel_rfl) (e_extract (vs := #[.slice A24 t19.1.length c25, .slice A28 t19.2.length c29]) (v := .slice A24 t19.1.length c25) (by kernel_rfl) rfl) ?_
  refine lv (d := 15) rfl rfl (by kernel_rfl) (e_extract (vs := #[.slice A24 t19.1.length c25, .slice A28 t19.2.length c29]) (v := .slice A28 t19.2.length c29) (by kernel_rfl) rfl) ?_
  refine lv (d := 9) rfl rfl (by kernel_rfl) (e_assign (v := .slice A24 t19.1.length c25) (by kernel_rfl)) ?_
  refine lv (d := 10) rfl rfl (by kernel_rfl) (e_assign (v := .slice A28 t19.2.length c29) (by kernel_rfl)) ?_
  refine wpList_nil ?_
  refine then_n ?_
  refine wp_seq ?_
  refine wp_seq ?_
  refine wp_region_lit ?_
  refine lv (d := 16) rfl rfl (by kernel_rfl) (e_move (v := .slice A28 t19.2.length c29) (by kernel_rfl)) ?_
  obtain ⟨t35, u36, M⟩ := bnd M
  refine lcall (d := 17) rfl rfl (by kernel_rfl) (e_call (l := [.tmp 16, .const (str ([91, 93] : List UInt8)), .const (.int .i64 0)]) (vs := [.slice A28 t19.2.length c29, str ([91, 93] : List UInt8), .int .i64 0]) Try.func25 (by kernel_rfl) rfl (by kernel_rfl) rfl) (spec_l2is.calls w21 H22 t19.2 A28 c29 ([91, 93] : List UInt8) 0 h30 l31 S32.own0 t35 u36) ?_
  rintro _ w37 ⟨rfl, C38⟩
  refine ⟨_, rfl, ?_⟩
  obtain ⟨S39, K40⟩ := S32.still C38
  replace h26 := h26.move (K40.at 0 rfl)
  replace b3 := K40.blk 1 rfl b3
  refine lv (d := 18) rfl rfl (by kernel_rfl) (e_notv (c := t35) (by kernel_rfl)) ?_
  refine wpList_nil ?_
  refine then_n ?_
  by_cases q41 : ¬ (t35 = true)
  · replace M := ifp q41 M
    refine cond_t rfl (bt q41 (by kernel_rfl)) ?_
    refine wp_seq ?_
    refine wp_region_lit ?_
    refine lv (d := 19) rfl rfl (by kernel_rfl) (e_move (v := .pointer (some ⟨g2, 0, none⟩)) (by kernel_rfl)) ?_
    have S42 := S39.pull (F := (is g2)) (Fr := [F27]) 1 rfl rfl
    obtain ⟨t43, u44, M⟩ := bnd M
    refine lcall (d := 20) rfl rfl (by kernel_rfl) (e_call (l := [.tmp 19, .const (.int .i64 4)]) (vs := [.pointer (some ⟨g2, 0, none⟩), .int .i64 4]) Try.func51 (by kernel_rfl) rfl (by kernel_rfl) rfl) (spec_l8fault.calls w37 H22 x1 g2 4 b3 (St.own' (Fa := [(is g2)]) (Fr := [F27]) S42) t43 u44) ?_
    rintro _ w45 ⟨A49, c50, F52, H46, rfl, b48, h51, T47⟩
    refine ⟨_, rfl, ?_⟩
    obtain ⟨S53, K54⟩ := St.call (Fa := [(is g2)]) (Fr := [F27]) S42 T47
    replace h26 := h26.move (K54.at 0 rfl)
    have E55 := T47.ext
    replace h26 := h26.ext E55
    refine lv (d := 8) rfl rfl (by kernel_rfl) (e_assign (v := .slice A49 t43.1.length c50) (by kernel_rfl)) ?_
    refine wpList_nil ?_
    refine then_n ?_
    refine wp_ret ?_
    refine then_r ?_
    obtain rfl := Option.some.inj M
    have S56 := S53.pull (F := F52) (Fr := [(is g2), F27]) 1 rfl rfl
    have S57 := S56.pull (F := (is g2)) (Fr := [F52, F27]) 1 rfl rfl
    have S58 := St.first (Fa := [(is g2), F52]) (Fr := [F27]) S57
    exact ret1 rfl rfl  (show _ = .slice A49 t43.1.length c50 from (by kernel_rfl)) ⟨A49, c50, F52, H46, rfl, b48, h51, S58⟩
  replace M := ifn q41 M
  refine cond_f rfl (bf q41 (by kernel_rfl)) ?_
  refine wp_skip ?_
  refine then_n ?_
  refine wp_seq ?_
  refine wp_region_lit ?_
  refine lv (d := 21) rfl rfl (by kernel_rfl) (e_move (v := .slice A10 x9.length c11) (by kernel_rfl)) ?_
  refine lv (d := 22) rfl rfl (by kernel_rfl) (e_move (v := .slice A24 t19.1.length c25) (by kernel_rfl)) ?_
  refine lv (d := 23) rfl rfl (by kernel_rfl) (e_move (v := .slice A15 x14.length c16) (by kernel_rfl)) ?_
  have l59 := h26.le
  obtain ⟨H60, S61, E62, h63, z64⟩ := S39.frzRow h26
  replace h63 := h63.unro
  obtain ⟨t65, u66, M⟩ := bnd M
  refine lcall (d := 24) rfl rfl (by kernel_rfl) (e_call (l := [.tmp 22, .tmp 23]) (vs := [.slice A24 t19.1.length c25, .slice A15 x14.length c16]) Try.func53 (by kernel_rfl) rfl (by kernel_rfl) rfl) (spec_l2list.calls k w37 H60 t19.1 A24 c25 x14 A15 c16 h63 l59 (h17.ext (E34.trans E62)) l18 (St.own' (Fa := []) (Fr := [(is g2)]) S61) t65 u66) ?_
  rintro _ w67 ⟨A70, c71, F73, H68, rfl, h72, T69⟩
  refine ⟨_, rfl, ?_⟩
  obtain ⟨S74, K75⟩ := St.call (Fa := []) (Fr := [(is g2)]) S61 T69
  replace b3 := K75.blk 0 rfl b3
  have E76 := T69.ext
  have l77 := h72.le
  obtain ⟨H78, S79, E80, h81, z82⟩ := S74.frzRow h72
  obtain ⟨t83, u84, M⟩ := bnd M
  refine lcall (d := 25) rfl rfl (by kernel_rfl) (e_call (l := [.const (str ([61] : List UInt8)), .tmp 21, .tmp 24]) (vs := [str ([61] : List UInt8), .slice A10 x9.length c11, .slice A70 t65.length c71]) Try.func31 (by kernel_rfl) rfl (by kernel_rfl) rfl) (spec_l2pair.calls k w67 H78 ([61] : List UInt8) x9 A10 c11 t65 A70 c71 (h12.ext (((E34.trans E62).trans E76).trans E80)) l13 h81 l77 (St.own' (Fa := []) (Fr := [(is g2)]) S79) t83 u84) ?_
  rintro _ w85 ⟨A88, c89, F91, H86, rfl, h90, T87⟩
  refine ⟨_, rfl, ?_⟩
  obtain ⟨S92, K93⟩ := St.call (Fa := []) (Fr := [(is g2)]) S79 T87
  replace b3 := K93.blk 0 rfl b3
  have E94 := T87.ext
  refine lv (d := 8) rfl rfl (by kernel_rfl) (e_assign (v := .slice A88 t83.length c89) (by kernel_rfl)) ?_
  refine wpList_nil ?_
  refine then_n ?_
  refine wp_ret ?_
  obtain rfl := Option.some.inj M
  have S95 := S92.pull (F := (is g2)) (Fr := [F91]) 1 rfl rfl
  exact ret1 rfl rfl  (show _ = .slice A88 t83.length c89 from (by kernel_rfl)) ⟨A88, c89, F91, H86, rfl, b3, h90, S95⟩
end Go.Proofs.Ytmmjeppmglmefaa
