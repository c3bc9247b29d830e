import Derived.Test.YtognefkopbbdnaaProg
import Derived.Test.YtognefkopbbdnaaY20
namespace Go.Proofs.Ytognefkopbbdnaa
open Go.Sx Go.Sy
attribute [local irreducible] Go.wpList Go.wpStill Go.wpQuiet Go.Code.wp
set_option maxRecDepth 100000
set_option maxHeartbeats 1000000
set_option linter.unusedVariables false
set_option linter.unusedSimpArgs false

/-! laws_szByteS -/
def sl5 : Ty (List UInt8) := slice 5 tByte (by decide)
def st68 : Ty Cell := iso (pair tInt (pair tInt sl5)) (fun x => (x.kind, x.n, x.text))
theorem st68_open {H : Hp} {x : Cell} {cs : List Value} (h : st68.R H x cs) : ∃ (A2 : Option Addr) (c2 : Nat), cs = [.int .i64 x.kind, .int .i64 x.n, .slice A2 x.text.length c2] ∧ x.text.length ≤ c2 ∧ Rd tByte H A2 x.text := by
  obtain ⟨_, _, rfl, rfl, ⟨_, _, rfl, rfl, ⟨A2, c2, rfl, l2, h2⟩⟩⟩ := h
  exact ⟨A2, c2, rfl, l2, h2⟩
theorem st68_mkR {H : Hp} {x : Cell} {A2 : Option Addr} {c2 : Nat} (l2 : x.text.length ≤ c2) (h2 : Rd tByte H A2 x.text) : st68.R H x [.int .i64 x.kind, .int .i64 x.n, .slice A2 x.text.length c2] := ⟨[.int .i64 x.kind], [.int .i64 x.n, .slice A2 x.text.length c2], rfl, rfl, ⟨[.int .i64 x.n], [.slice A2 x.text.length c2], rfl, rfl, ⟨A2, c2, rfl, l2, h2⟩⟩⟩
theorem st68_mkO {H X : Hp} {F2 : Foot} {x : Cell} {A2 : Option Addr} {c2 : Nat} (h2 : Row tByte 5 H X F2 A2 c2 x.text) : st68.O H X F2 x [.int .i64 x.kind, .int .i64 x.n, .slice A2 x.text.length c2] := (pairO0 (a := tInt) (b := (pair tInt sl5)) (x := (x.kind, (x.n, x.text))) (c0 := [.int .i64 x.kind]) (c1 := [.int .i64 x.n, .slice A2 x.text.length c2]) rfl (pairO0 (a := tInt) (b := sl5) (x := (x.n, x.text)) (c0 := [.int .i64 x.n]) (c1 := [.slice A2 x.text.length c2]) rfl ⟨A2, c2, rfl, h2⟩))
theorem st68_openO {H X : Hp} {F : Foot} {x : Cell} {cs : List Value} (h : st68.O H X F x cs) : ∃ (A2 : Option Addr) (c2 : Nat) (F2 : Foot), cs = [.int .i64 x.kind, .int .i64 x.n, .slice A2 x.text.length c2] ∧ Row tByte 5 H X F2 A2 c2 x.text ∧ (∀ b, F2 b → F b) := by
  obtain ⟨_, _, K1, L1, rfl, rfl, ⟨_, _, K0, L0, rfl, rfl, ⟨A2, c2, rfl, h2⟩, d0, s0⟩, d1, s1⟩ := h
  exact ⟨A2, c2, _, rfl, h2, fun b hb => s1 b (.inr (s0 b (.inr (hb))))⟩
theorem st68_c0 {H X : Hp} {F : Foot} {x : Cell} {cs : List Value} (h : st68.O H X F x cs) : cs[0]? = some (.int .i64 x.kind) := by obtain ⟨_, _, _, rfl, _, _⟩ := st68_openO h; rfl
theorem st68_r0 {H : Hp} {x : Cell} {cs : List Value} (h : st68.R H x cs) : cs[0]? = some (.int .i64 x.kind) := by obtain ⟨_, _, rfl, _, _⟩ := st68_open h; rfl
theorem st68_c1 {H X : Hp} {F : Foot} {x : Cell} {cs : List Value} (h : st68.O H X F x cs) : cs[1]? = some (.int .i64 x.n) := by obtain ⟨_, _, _, rfl, _, _⟩ := st68_openO h; rfl
theorem st68_r1 {H : Hp} {x : Cell} {cs : List Value} (h : st68.R H x cs) : cs[1]? = some (.int .i64 x.n) := by obtain ⟨_, _, rfl, _, _⟩ := st68_open h; rfl
theorem st68_u0 {H X : Hp} {F1 F2 : Foot} {x : Cell} (y : Int) {cs : List Value} (h : st68.O H X F1 x cs) : st68.O H X (or2 F1 F2) {x with kind := y} (cs.take 0 ++ [.int .i64 y] ++ cs.drop 1) := by
  obtain ⟨_, _, _, rfl, h2, s2⟩ := st68_openO h
  exact st68_mkO (x := {x with kind := y}) (h2.mono fun b hb => .inl (s2 b hb))
theorem st68_u1 {H X : Hp} {F1 F2 : Foot} {x : Cell} (y : Int) {cs : List Value} (h : st68.O H X F1 x cs) : st68.O H X (or2 F1 F2) {x with n := y} (cs.take 1 ++ [.int .i64 y] ++ cs.drop 2) := by
  obtain ⟨_, _, _, rfl, h2, s2⟩ := st68_openO h
  exact st68_mkO (x := {x with n := y}) (h2.mono fun b hb => .inl (s2 b hb))
theorem st68_u2 {H X : Hp} {F1 F2 : Foot} {x : Cell} {y : List UInt8} {A : Option Addr} {c : Nat} {cs : List Value} (hy : Row tByte 5 H X F2 A c y) (h : st68.O H X F1 x cs) : st68.O H X (or2 F1 F2) {x with text := y} (cs.take 2 ++ [.slice A y.length c] ++ cs.drop 3) := by
  obtain ⟨_, _, _, rfl, h2, _⟩ := st68_openO h
  exact st68_mkO (x := {x with text := y}) (hy.mono fun b hb => .inr hb)
def z68 : Cell := ⟨(0 : Int), (0 : Int), ([] : List UInt8)⟩
theorem z68_O (H X : Hp) : st68.O H X no z68 [.int .i64 (0 : Int), .int .i64 (0 : Int), .slice none 0 0] := st68_mkO (x := z68) (Row.nil _ _ _ _ no)
theorem z68_R (H : Hp) : st68.R H z68 [.int .i64 (0 : Int), .int .i64 (0 : Int), .slice none 0 0] := st68_mkR (x := z68) (Nat.le_refl _) (Rd.nil _ _ _)
def laws_szByteS.f (x1 : List UInt8) (x6 : Int) : Option Int := (if (IntKind.i64.wrap (x6 - (x1.length : Int))) < 0 then some (-1) else some (IntKind.i64.wrap (x6 - (x1.length : Int))))
theorem laws_szByteS.calls (w : World) (H : Hp) (x1 : List UInt8) (A2 : Option Addr) (c3 : Nat) (x6 : Int) (h4 : Rd tByte H A2 x1) (l5 : x1.length ≤ c3) (S : Own [] H w) (r : Int) (M : laws_szByteS.f x1 x6 = some r) :
    Calls Try.prog 102 #[.slice A2 x1.length c3, .int .i64 x6] w (fun e e_w => e = .returned (.int .i64 r) ∧ Chg no w e_w) := by
  rw [laws_szByteS.f] at M
  refine enter (l := [.slice A2 x1.length c3, .int .i64 x6]) 12 Try.func102 rfl rfl rfl ?_
  have S0_ := S.st
  refine wp_seq ?_
  refine wp_region_lit ?_
  refine lv (d := 4) rfl rfl (by kernel_rfl) (e_assign (v := .int .i64 0) rfl) ?_
  refine wpList_nil ?_
  refine then_n ?_
  refine wp_seq ?_
  refine wp_region_lit ?_
  refine lv (d := 5) rfl rfl (by kernel_rfl) (e_move (v := .int .i64 x6) (by kernel_rfl)) ?_
  refine lv (d := 6) rfl rfl (by kernel_rfl) (e_move (v := .slice A2 x1.length c3) (by kernel_rfl)) ?_
  refine lv (d := 7) rfl rfl (by kernel_rfl) (e_len (A := A2) (n := x1.length) (c := c3) Try.underlying59 (by kernel_rfl)) ?_
  refine lv (d := 8) rfl rfl (by kernel_rfl) (e_sub (k := .i64) (a := x6) (b := (x1.length : Int)) (by kernel_rfl) (by kernel_rfl)) ?_
  refine lv (d := 1) rfl rfl (by kernel_rfl) (e_assign (v := .int .i64 (IntKind.i64.wrap (x6 - (x1.length : Int)))) (by kernel_rfl)) ?_
  refine wpList_nil ?_
  refine then_n ?_
  refine wp_seq ?_
  refine wp_seq ?_
  refine wp_region_lit ?_
  refine lv (d := 9) rfl rfl (by kernel_rfl) (e_move (v := .int .i64 (IntKind.i64.wrap (x6 - (x1.length : Int)))) (by kernel_rfl)) ?_
  refine lv (d := 10) rfl rfl (by kernel_rfl) (e_lss (k := .i64) (a := (IntKind.i64.wrap (x6 - (x1.length : Int)))) (b := 0) (by kernel_rfl) rfl) ?_
  refine wpList_nil ?_
  refine then_n ?_
  by_cases q7 : (IntKind.i64.wrap (x6 - (x1.length : Int))) < 0
  · replace M := ifp q7 M
    refine cond_t rfl (bt q7 (by kernel_rfl)) ?_
    refine wp_seq ?_
    refine wp_region_lit ?_
    refine lv (d := 4) rfl rfl (by kernel_rfl) (e_assign (v := .int .i64 (-1)) rfl) ?_
    refine wpList_nil ?_
    refine then_n ?_
    refine wp_ret ?_
    refine then_r ?_
    obtain rfl := Option.some.inj M
    exact ret1 rfl rfl  (show _ = .int .i64 (-1) from (by kernel_rfl)) ⟨rfl, S0_.chg⟩
  replace M := ifn q7 M
  refine cond_f rfl (bf q7 (by kernel_rfl)) ?_
  refine wp_skip ?_
  refine then_n ?_
  refine wp_seq ?_
  refine wp_region_lit ?_
  refine lv (d := 11) rfl rfl (by kernel_rfl) (e_move (v := .int .i64 (IntKind.i64.wrap (x6 - (x1.length : Int)))) (by kernel_rfl)) ?_
  refine lv (d := 4) rfl rfl (by kernel_rfl) (e_assign (v := .int .i64 (IntKind.i64.wrap (x6 - (x1.length : Int)))) (by kernel_rfl)) ?_
  refine wpList_nil ?_
  refine then_n ?_
  refine wp_ret ?_
  obtain rfl := Option.some.inj M
  exact ret1 rfl rfl  (show _ = .int .i64 (IntKind.i64.wrap (x6 - (x1.length : Int))) from (by kernel_rfl)) ⟨rfl, S0_.chg⟩

/-! laws_szCell -/
def laws_szCell.f (x1 : Cell) (x6 : Int) : Option Int := ((laws_szByteS.f x1.text x6).bind fun t12 => (if t12 < 0 then some (-1) else some t12))
theorem laws_szCell.calls (w : World) (H : Hp) (x1 : Cell) (A2 : Option Addr) (c3 : Nat) (x6 : Int) (h4 : Rd tByte H A2 x1.text) (l5 : x1.text.length ≤ c3) (S : Own [] H w) (r : Int) (M : laws_szCell.f x1 x6 = some r) :
    Calls Try.prog 55 #[.agg #[.int .i64 x1.kind, .int .i64 x1.n, .slice A2 x1.text.length c3], .int .i64 x6] w (fun e e_w => e = .returned (.int .i64 r) ∧ Chg no w e_w) := by
  rw [laws_szCell.f] at M
  refine enter (l := [.agg #[.int .i64 x1.kind, .int .i64 x1.n, .slice A2 x1.text.length c3], .int .i64 x6]) 12 Try.func55 rfl rfl rfl ?_
  have S0_ := S.st
  refine wp_seq ?_
  refine wp_region_lit ?_
  refine lve (d := 2) rfl rfl (by kernel_rfl) (new_blk (v := fun g_ => .pointer (some ⟨g_, 0, none⟩)) (cs := #[.int .i64 x1.kind, .int .i64 x1.n, .slice A2 x1.text.length c3]) (t := 68) S0_ (by kernel_rfl)) ?_
  rintro _ w7 ⟨g8, rfl, b9, S10, K11⟩
  refine lv (d := 4) rfl rfl (by kernel_rfl) (e_assign (v := .int .i64 0) rfl) ?_
  refine wpList_nil ?_
  refine then_n ?_
  refine wp_seq ?_
  refine wp_region_lit ?_
  refine lv (d := 5) rfl rfl (by kernel_rfl) (e_fieldAddr (b := g8) (off := 0) (o := 2) Try.underlying68 rfl rfl (sz := 1) (by kernel_rfl) (by decide) (by kernel_rfl)) ?_
  refine lv (d := 6) rfl rfl (by kernel_rfl) (e_load1 (ad := ⟨g8, 0 + 2, none⟩) (v := .slice A2 x1.text.length c3) Try.underlying59 rfl (by kernel_rfl) (blk_cell b9 rfl)) ?_
  refine lv (d := 7) rfl rfl (by kernel_rfl) (e_move (v := .int .i64 x6) (by kernel_rfl)) ?_
  obtain ⟨t12, u13, M⟩ := bnd M
  refine lcall (d := 8) rfl rfl (by kernel_rfl) (e_call (l := [.tmp 6, .tmp 7]) (vs := [.slice A2 x1.text.length c3, .int .i64 x6]) Try.func102 (by kernel_rfl) rfl (by kernel_rfl) rfl) (laws_szByteS.calls w7 H x1.text A2 c3 x6 h4 l5 S10.own0 t12 u13) ?_
  rintro _ w14 ⟨rfl, C15⟩
  refine ⟨_, rfl, ?_⟩
  obtain ⟨S16, K17⟩ := S10.still C15
  replace b9 := K17.blk 0 rfl b9
  refine lv (d := 1) rfl rfl (by kernel_rfl) (e_assign (v := .int .i64 t12) (by kernel_rfl)) ?_
  refine wpList_nil ?_
  refine then_n ?_
  refine wp_seq ?_
  refine wp_seq ?_
  refine wp_region_lit ?_
  refine lv (d := 9) rfl rfl (by kernel_rfl) (e_move (v := .int .i64 t12) (by kernel_rfl)) ?_
  refine lv (d := 10) rfl rfl (by kernel_rfl) (e_lss (k := .i64) (a := t12) (b := 0) (by kernel_rfl) rfl) ?_
  refine wpList_nil ?_
  refine then_n ?_
  by_cases q18 : t12 < 0
  · replace M := ifp q18 M
    refine cond_t rfl (bt q18 (by kernel_rfl)) ?_
    refine wp_seq ?_
    refine wp_region_lit ?_
    refine lv (d := 4) rfl rfl (by kernel_rfl) (e_assign (v := .int .i64 (-1)) rfl) ?_
    refine wpList_nil ?_
    refine then_n ?_
    refine wp_ret ?_
    refine then_r ?_
    obtain rfl := Option.some.inj M
    exact ret1 rfl rfl  (show _ = .int .i64 (-1) from (by kernel_rfl)) ⟨rfl, S16.chg⟩
  replace M := ifn q18 M
  refine cond_f rfl (bf q18 (by kernel_rfl)) ?_
  refine wp_skip ?_
  refine then_n ?_
  refine wp_seq ?_
  refine wp_region_lit ?_
  refine lv (d := 11) rfl rfl (by kernel_rfl) (e_move (v := .int .i64 t12) (by kernel_rfl)) ?_
  refine lv (d := 4) rfl rfl (by kernel_rfl) (e_assign (v := .int .i64 t12) (by kernel_rfl)) ?_
  refine wpList_nil ?_
  refine then_n ?_
  refine wp_ret ?_
  obtain rfl := Option.some.inj M
  exact ret1 rfl rfl  (show _ = .int .i64 t12 from (by kernel_rfl)) ⟨rfl, S16.chg⟩

/-! laws_szCellS -/
def laws_szCellS.l0 : Nat → (List Cell) → Int → Int → Option Int
  | 0, _, _, _ => none
  | k20 + 1, x1, x10, x11 => (if x11 < (x1.length : Int) then (if 0 ≤ x11 then ((laws_szCell.f (x1.getD ((x11).toNat) z68) x10).bind fun t33 => (if t33 < 0 then some (-1) else (laws_szCellS.l0 k20 x1 t33 (IntKind.i64.wrap (x11 + 1))))) else none) else some x10)
def laws_szCellS.f (k : Nat) (x1 : List Cell) (x6 : Int) : Option Int := (if (IntKind.i64.wrap (x6 - (x1.length : Int))) < 0 then some (-1) else (laws_szCellS.l0 k x1 (IntKind.i64.wrap (x6 - (x1.length : Int))) 0))
theorem laws_szCellS.calls (k : Nat) (w : World) (H : Hp) (x1 : List Cell) (A2 : Option Addr) (c3 : Nat) (x6 : Int) (h4 : Rd st68 H A2 x1) (l5 : x1.length ≤ c3) (S : Own [] H w) (r : Int) (M : laws_szCellS.f k x1 x6 = some r) :
    Calls Try.prog 14 #[.slice A2 x1.length c3, .int .i64 x6] w (fun e e_w => e = .returned (.int .i64 r) ∧ Chg no w e_w) := by
  rw [laws_szCellS.f] at M
  refine enter (l := [.slice A2 x1.length c3, .int .i64 x6]) 27 Try.func14 rfl rfl rfl ?_
  have S0_ := S.st
  refine wp_seq ?_
  refine wp_region_lit ?_
  refine lv (d := 4) rfl rfl (by kernel_rfl) (e_assign (v := .int .i64 0) rfl) ?_
  refine wpList_nil ?_
  refine then_n ?_
  refine wp_seq ?_
  refine wp_region_lit ?_
  refine lv (d := 6) rfl rfl (by kernel_rfl) (e_move (v := .int .i64 x6) (by kernel_rfl)) ?_
  refine lv (d := 7) rfl rfl (by kernel_rfl) (e_move (v := .slice A2 x1.length c3) (by kernel_rfl)) ?_
  refine lv (d := 8) rfl rfl (by kernel_rfl) (e_len (A := A2) (n := x1.length) (c := c3) Try.underlying22 (by kernel_rfl)) ?_
  refine lv (d := 9) rfl rfl (by kernel_rfl) (e_sub (k := .i64) (a := x6) (b := (x1.length : Int)) (by kernel_rfl) (by kernel_rfl)) ?_
  refine lv (d := 1) rfl rfl (by kernel_rfl) (e_assign (v := .int .i64 (IntKind.i64.wrap (x6 - (x1.length : Int)))) (by kernel_rfl)) ?_
  refine wpList_nil ?_
  refine then_n ?_
  refine wp_seq ?_
  refine wp_seq ?_
  refine wp_region_lit ?_
  refine lv (d := 10) rfl rfl (by kernel_rfl) (e_move (v := .int .i64 (IntKind.i64.wrap (x6 - (x1.length : Int)))) (by kernel_rfl)) ?_
  refine lv (d := 11) rfl rfl (by kernel_rfl) (e_lss (k := .i64) (a := (IntKind.i64.wrap (x6 - (x1.length : Int)))) (b := 0) (by kernel_rfl) rfl) ?_
  refine wpList_nil ?_
  refine then_n ?_
  by_cases q7 : (IntKind.i64.wrap (x6 - (x1.length : Int))) < 0
  · replace M := ifp q7 M
    refine cond_t rfl (bt q7 (by kernel_rfl)) ?_
    refine wp_seq ?_
    refine wp_region_lit ?_
    refine lv (d := 4) rfl rfl (by kernel_rfl) (e_assign (v := .int .i64 (-1)) rfl) ?_
    refine wpList_nil ?_
    refine then_n ?_
    refine wp_ret ?_
    refine then_r ?_
    obtain rfl := Option.some.inj M
    exact ret1 rfl rfl  (show _ = .int .i64 (-1) from (by kernel_rfl)) ⟨rfl, S0_.chg⟩
  replace M := ifn q7 M
  refine cond_f rfl (bf q7 (by kernel_rfl)) ?_
  refine wp_skip ?_
  refine then_n ?_
  refine wp_seq ?_
  refine wp_seq ?_
  refine wp_region_lit ?_
  refine lv (d := 5) rfl rfl (by kernel_rfl) (e_assign (v := .int .i64 0) rfl) ?_
  refine wpList_nil ?_
  refine then_n ?_
  refine wp_block ?_
  refine wp_loop_g (fun k18 a19 w8 => ∃ (f9 : Nat → Value) (x10 : Int) (x11 : Int), a19 = mk 27 f9 ∧ f9 0 = .slice A2 x1.length c3 ∧ f9 1 = .int .i64 x10 ∧ f9 5 = .int .i64 x11 ∧ St (anyOf []) H w [] H w8 ∧ laws_szCellS.l0 k18 x1 x10 x11 = some r) k ⟨_, (IntKind.i64.wrap (x6 - (x1.length : Int))), 0, rfl, (by kernel_rfl), (by kernel_rfl), (by kernel_rfl), S0_, M⟩ ?_
  clear M
  rintro k18 a19 w8 ⟨f9, x10, x11, rfl, e12, e13, e14, S15, M⟩
  rcases k18 with _ | k20
  · rw [laws_szCellS.l0] at M
    cases M
  rw [laws_szCellS.l0] at M
  refine wp_seq ?_
  refine wp_seq ?_
  refine wp_region_lit ?_
  refine lv (d := 12) rfl rfl (by kernel_rfl) (e_move (v := .int .i64 x11) (by exact e14)) ?_
  refine lv (d := 13) rfl rfl (by kernel_rfl) (e_move (v := .slice A2 x1.length c3) (by exact e12)) ?_
  refine lv (d := 14) rfl rfl (by kernel_rfl) (e_len (A := A2) (n := x1.length) (c := c3) Try.underlying22 (by kernel_rfl)) ?_
  refine lv (d := 15) rfl rfl (by kernel_rfl) (e_lss (k := .i64) (a := x11) (b := (x1.length : Int)) (by kernel_rfl) (by kernel_rfl)) ?_
  refine wpList_nil ?_
  refine then_n ?_
  by_cases q21 : x11 < (x1.length : Int)
  · replace M := ifp q21 M
    refine cond_t rfl (bt q21 (by kernel_rfl)) ?_
    refine wp_skip ?_
    refine then_n ?_
    refine wp_seq ?_
    refine wp_block ?_
    refine wp_seq ?_
    refine wp_region_lit ?_
    refine lv (d := 18) rfl rfl (by kernel_rfl) (e_move (v := .slice A2 x1.length c3) (by exact e12)) ?_
    refine lv (d := 19) rfl rfl (by kernel_rfl) (e_move (v := .int .i64 x11) (by exact e14)) ?_
    obtain ⟨q22, M⟩ := chk M
    obtain ⟨b23, o24, e25⟩ := Rd.addr h4 (show (x11).toNat < x1.length by omega)
    obtain ⟨y26, r27, k28⟩ := Rd.at h4 e25 (getD_some z68 (show (x11).toNat < x1.length by omega))
    obtain ⟨A29, c30, rfl, l31, h32⟩ := st68_open r27
    refine lv (d := 20) rfl rfl (by kernel_rfl) (e_indexAddr (b := b23) (off := o24) (n := x1.length) (c := c3) (sz := 3) (i := x11) (k := .i64) Try.underlying22 e25 (by kernel_rfl) (by kernel_rfl) (by kernel_rfl) q22 q21) ?_
    refine lv (d := 21) rfl rfl (by kernel_rfl) (e_loadS (b := b23) (off := o24 + (x11 : Int).toNat * 3) (cs := [.int .i64 ((x1.getD ((x11).toNat) z68).kind), .int .i64 ((x1.getD ((x11).toNat) z68).n), .slice A29 ((x1.getD ((x11).toNat) z68).text).length c30]) Try.underlying68 rfl (by kernel_rfl) (by kernel_rfl) (fun j_ u_ e_ => (hpx (S15.inv.cell (k28 j_ u_ e_))))) ?_
    refine lv (d := 22) rfl rfl (by kernel_rfl) (e_move (v := .int .i64 x10) (by exact e13)) ?_
    obtain ⟨t33, u34, M⟩ := bnd M
    refine lcall (d := 23) rfl rfl (by kernel_rfl) (e_call (l := [.tmp 21, .tmp 22]) (vs := [.agg #[.int .i64 ((x1.getD ((x11).toNat) z68).kind), .int .i64 ((x1.getD ((x11).toNat) z68).n), .slice A29 ((x1.getD ((x11).toNat) z68).text).length c30], .int .i64 x10]) Try.func55 (by kernel_rfl) rfl (by kernel_rfl) rfl) (laws_szCell.calls w8 H (x1.getD ((x11).toNat) z68) A29 c30 x10 h32 l31 S15.own0 t33 u34) ?_
    rintro _ w35 ⟨rfl, C36⟩
    refine ⟨_, rfl, ?_⟩
    obtain ⟨S37, K38⟩ := S15.still C36
    refine lv (d := 1) rfl rfl (by kernel_rfl) (e_assign (v := .int .i64 t33) (by kernel_rfl)) ?_
    refine wpList_nil ?_
    refine then_n ?_
    refine wp_seq ?_
    refine wp_region_lit ?_
    refine lv (d := 24) rfl rfl (by kernel_rfl) (e_move (v := .int .i64 t33) (by kernel_rfl)) ?_
    refine lv (d := 25) rfl rfl (by kernel_rfl) (e_lss (k := .i64) (a := t33) (b := 0) (by kernel_rfl) rfl) ?_
    refine wpList_nil ?_
    refine then_n ?_
    by_cases q39 : t33 < 0
    · replace M := ifp q39 M
      refine cond_t rfl (bt q39 (by kernel_rfl)) ?_
      refine wp_seq ?_
      refine wp_region_lit ?_
      refine lv (d := 4) rfl rfl (by kernel_rfl) (e_assign (v := .int .i64 (-1)) rfl) ?_
      refine wpList_nil ?_
      refine then_n ?_
      refine wp_ret ?_
      refine inb_r ?_
      refine then_r ?_
      refine then_r ?_
      refine inb_r ?_
      refine then_r ?_
      obtain rfl := Option.some.inj M
      exact ret1 rfl rfl  (show _ = .int .i64 (-1) from (by kernel_rfl)) ⟨rfl, S37.chg⟩
    replace M := ifn q39 M
    refine cond_f rfl (bf q39 (by kernel_rfl)) ?_
    refine wp_skip ?_
    refine inb_n ?_
    refine then_n ?_
    refine wp_region_lit ?_
    refine lv (d := 16) rfl rfl (by kernel_rfl) (e_move (v := .int .i64 x11) (by exact e14)) ?_
    refine lv (d := 17) rfl rfl (by kernel_rfl) (e_add (k := .i64) (a := x11) (b := 1) (by kernel_rfl) rfl) ?_
    refine lv (d := 5) rfl rfl (by kernel_rfl) (e_assign (v := .int .i64 (IntKind.i64.wrap (x11 + 1))) (by kernel_rfl)) ?_
    refine wpList_nil ?_
    refine then_n ?_
    exact ⟨k20, (by omega), _, t33, (IntKind.i64.wrap (x11 + 1)), rfl, (by exact e12), (by kernel_rfl), (by kernel_rfl), S37, M⟩
  replace M := ifn q21 M
  refine cond_f rfl (bf q21 (by kernel_rfl)) ?_
  refine wp_exit ?_
  refine then_e ?_
  refine then_e ?_
  refine inb_hit ?_
  refine then_n ?_
  refine wp_seq ?_
  refine wp_region_lit ?_
  refine lv (d := 26) rfl rfl (by kernel_rfl) (e_move (v := .int .i64 x10) (by exact e13)) ?_
  refine lv (d := 4) rfl rfl (by kernel_rfl) (e_assign (v := .int .i64 x10) (by kernel_rfl)) ?_
  refine wpList_nil ?_
  refine then_n ?_
  refine wp_ret ?_
  obtain rfl := Option.some.inj M
  exact ret1 rfl rfl  (show _ = .int .i64 x10 from (by kernel_rfl)) ⟨rfl, S15.chg⟩

/-! laws_toByteS -/
def st65 : Ty Cell := iso (pair tInt (pair tInt sl5)) (fun x => (x.kind, x.n, x.text))
theorem st65_open {H : Hp} {x : Cell} {cs : List Value} (h : st65.R H x cs) : ∃ (A2 : Option Addr) (c2 : Nat), cs = [.int .i64 x.kind, .int .i64 x.n, .slice A2 x.text.length c2] ∧ x.text.length ≤ c2 ∧ Rd tByte H A2 x.text := by
  obtain ⟨_, _, rfl, rfl, ⟨_, _, rfl, rfl, ⟨A2, c2, rfl, l2, h2⟩⟩⟩ := h
  exact ⟨A2, c2, rfl, l2, h2⟩
theorem st65_mkR {H : Hp} {x : Cell} {A2 : Option Addr} {c2 : Nat} (l2 : x.text.length ≤ c2) (h2 : Rd tByte H A2 x.text) : st65.R H x [.int .i64 x.kind, .int .i64 x.n, .slice A2 x.text.length c2] := ⟨[.int .i64 x.kind], [.int .i64 x.n, .slice A2 x.text.length c2], rfl, rfl, ⟨[.int .i64 x.n], [.slice A2 x.text.length c2], rfl, rfl, ⟨A2, c2, rfl, l2, h2⟩⟩⟩
theorem st65_mkO {H X : Hp} {F2 : Foot} {x : Cell} {A2 : Option Addr} {c2 : Nat} (h2 : Row tByte 5 H X F2 A2 c2 x.text) : st65.O H X F2 x [.int .i64 x.kind, .int .i64 x.n, .slice A2 x.text.length c2] := (pairO0 (a := tInt) (b := (pair tInt sl5)) (x := (x.kind, (x.n, x.text))) (c0 := [.int .i64 x.kind]) (c1 := [.int .i64 x.n, .slice A2 x.text.length c2]) rfl (pairO0 (a := tInt) (b := sl5) (x := (x.n, x.text)) (c0 := [.int .i64 x.n]) (c1 := [.slice A2 x.text.length c2]) rfl ⟨A2, c2, rfl, h2⟩))
theorem st65_openO {H X : Hp} {F : Foot} {x : Cell} {cs : List Value} (h : st65.O H X F x cs) : ∃ (A2 : Option Addr) (c2 : Nat) (F2 : Foot), cs = [.int .i64 x.kind, .int .i64 x.n, .slice A2 x.text.length c2] ∧ Row tByte 5 H X F2 A2 c2 x.text ∧ (∀ b, F2 b → F b) := by
  obtain ⟨_, _, K1, L1, rfl, rfl, ⟨_, _, K0, L0, rfl, rfl, ⟨A2, c2, rfl, h2⟩, d0, s0⟩, d1, s1⟩ := h
  exact ⟨A2, c2, _, rfl, h2, fun b hb => s1 b (.inr (s0 b (.inr (hb))))⟩
theorem st65_c0 {H X : Hp} {F : Foot} {x : Cell} {cs : List Value} (h : st65.O H X F x cs) : cs[0]? = some (.int .i64 x.kind) := by obtain ⟨_, _, _, rfl, _, _⟩ := st65_openO h; rfl
theorem st65_r0 {H : Hp} {x : Cell} {cs : List Value} (h : st65.R H x cs) : cs[0]? = some (.int .i64 x.kind) := by obtain ⟨_, _, rfl, _, _⟩ := st65_open h; rfl
theorem st65_c1 {H X : Hp} {F : Foot} {x : Cell} {cs : List Value} (h : st65.O H X F x cs) : cs[1]? = some (.int .i64 x.n) := by obtain ⟨_, _, _, rfl, _, _⟩ := st65_openO h; rfl
theorem st65_r1 {H : Hp} {x : Cell} {cs : List Value} (h : st65.R H x cs) : cs[1]? = some (.int .i64 x.n) := by obtain ⟨_, _, rfl, _, _⟩ := st65_open h; rfl
theorem st65_u0 {H X : Hp} {F1 F2 : Foot} {x : Cell} (y : Int) {cs : List Value} (h : st65.O H X F1 x cs) : st65.O H X (or2 F1 F2) {x with kind := y} (cs.take 0 ++ [.int .i64 y] ++ cs.drop 1) := by
  obtain ⟨_, _, _, rfl, h2, s2⟩ := st65_openO h
  exact st65_mkO (x := {x with kind := y}) (h2.mono fun b hb => .inl (s2 b hb))
theorem st65_u1 {H X : Hp} {F1 F2 : Foot} {x : Cell} (y : Int) {cs : List Value} (h : st65.O H X F1 x cs) : st65.O H X (or2 F1 F2) {x with n := y} (cs.take 1 ++ [.int .i64 y] ++ cs.drop 2) := by
  obtain ⟨_, _, _, rfl, h2, s2⟩ := st65_openO h
  exact st65_mkO (x := {x with n := y}) (h2.mono fun b hb => .inl (s2 b hb))
theorem st65_u2 {H X : Hp} {F1 F2 : Foot} {x : Cell} {y : List UInt8} {A : Option Addr} {c : Nat} {cs : List Value} (hy : Row tByte 5 H X F2 A c y) (h : st65.O H X F1 x cs) : st65.O H X (or2 F1 F2) {x with text := y} (cs.take 2 ++ [.slice A y.length c] ++ cs.drop 3) := by
  obtain ⟨_, _, _, rfl, h2, _⟩ := st65_openO h
  exact st65_mkO (x := {x with text := y}) (hy.mono fun b hb => .inr hb)
def z65 : Cell := ⟨(0 : Int), (0 : Int), ([] : List UInt8)⟩
theorem z65_O (H X : Hp) : st65.O H X no z65 [.int .i64 (0 : Int), .int .i64 (0 : Int), .slice none 0 0] := st65_mkO (x := z65) (Row.nil _ _ _ _ no)
theorem z65_R (H : Hp) : st65.R H z65 [.int .i64 (0 : Int), .int .i64 (0 : Int), .slice none 0 0] := st65_mkR (x := z65) (Nat.le_refl _) (Rd.nil _ _ _)
def laws_toByteS.l0 : Nat → (List UInt8) → Int → (List UInt8) → Option (List UInt8)
  | 0, _, _, _ => none
  | k29 + 1, x1, x17, x19 => (if x17 < (x1.length : Int) then (if 0 ≤ x17 then (if x17 < (((x1.length : Int)).toNat : Int) then (laws_toByteS.l0 k29 x1 (IntKind.i64.wrap (x17 + 1)) (x19.set ((x17).toNat) (x1.getD ((x17).toNat) (0 : UInt8)))) else none) else none) else some x19)
def laws_toByteS.f (k : Nat) (x1 : List UInt8) : Option (List UInt8) := (if 0 ≤ (x1.length : Int) then (if ((x1.length : Int)).toNat ≤ 281474976710656 then (laws_toByteS.l0 k x1 0 (List.replicate ((x1.length : Int)).toNat (0 : UInt8))) else none) else none)
theorem laws_toByteS.calls (k : Nat) (w : World) (H : Hp) (x1 : List UInt8) (A2 : Option Addr) (c3 : Nat) (h4 : Rd tByte H A2 x1) (l5 : x1.length ≤ c3) (S : Own [] H w) (r : List UInt8) (M : laws_toByteS.f k x1 = some r) :
    Calls Try.prog 103 #[.slice A2 x1.length c3] w (fun e e_w => ∃ (A_1 : Option Addr) (c_1 : Nat) (F_1 : Foot) (H_ : Hp), e = .returned (.slice A_1 r.length c_1) ∧ Row tByte 5 H_ (hp e_w) F_1 A_1 c_1 r ∧ St (anyOf []) H w [F_1] H_ e_w) := by
  rw [laws_toByteS.f] at M
  refine enter (l := [.slice A2 x1.length c3]) 22 Try.func103 rfl rfl rfl ?_
  have S0_ := S.st
  refine wp_seq ?_
  refine wp_region_lit ?_
  refine lv (d := 2) rfl rfl (by kernel_rfl) (e_assign (v := .slice none 0 0) rfl) ?_
  refine wpList_nil ?_
  refine then_n ?_
  refine wp_seq ?_
  refine wp_region_lit ?_
  refine lv (d := 5) rfl rfl (by kernel_rfl) (e_move (v := .slice A2 x1.length c3) (by kernel_rfl)) ?_
  refine lv (d := 6) rfl rfl (by kernel_rfl) (e_len (A := A2) (n := x1.length) (c := c3) Try.underlying59 (by kernel_rfl)) ?_
  obtain ⟨q6, M⟩ := chk M
  obtain ⟨q7, M⟩ := chk M
  refine lve (d := 7) rfl rfl (by kernel_rfl) (e_make (d := tByte) (k := .i64) (k2 := .i64) (n := (x1.length : Int)) (z := .int .u8 0) (zx := (0 : UInt8)) (bytes := 1) S0_ Try.underlying59 (by kernel_rfl) rfl (by decide) (fun _ => rfl) (by kernel_rfl) (by kernel_rfl) q6 (by omega) (by omega)) ?_
  rintro _ w8 ⟨A9, c10, F11, rfl, h12, S13, K14⟩
  refine lv (d := 3) rfl rfl (by kernel_rfl) (e_assign (v := .slice A9 (((x1.length : Int)).toNat) c10) (by kernel_rfl)) ?_
  refine wpList_nil ?_
  refine then_n ?_
  refine wp_seq ?_
  refine wp_seq ?_
  refine wp_region_lit ?_
  refine lv (d := 4) rfl rfl (by kernel_rfl) (e_assign (v := .int .i64 0) rfl) ?_
  refine wpList_nil ?_
  refine then_n ?_
  refine wp_block ?_
  refine wp_loop_g (fun k27 a28 w15 => ∃ (f16 : Nat → Value) (x17 : Int) (F18 : Foot) (x19 : List UInt8), a28 = mk 22 f16 ∧ f16 0 = .slice A2 x1.length c3 ∧ f16 3 = .slice A9 (((x1.length : Int)).toNat) c10 ∧ f16 4 = .int .i64 x17 ∧ Row tByte 5 H (hp w15) F18 A9 c10 x19 ∧ x19.length = ((x1.length : Int)).toNat ∧ St (anyOf []) H w [F18] H w15 ∧ laws_toByteS.l0 k27 x1 x17 x19 = some r) k ⟨_, 0, F11, (List.replicate ((x1.length : Int)).toNat (0 : UInt8)), rfl, (by kernel_rfl), (by kernel_rfl), (by kernel_rfl), h12, List.length_replicate, S13, M⟩ ?_
  clear M
  rintro k27 a28 w15 ⟨f16, x17, F18, x19, rfl, e21, e22, e23, h12, n20, S24, M⟩
  rcases k27 with _ | k29
  · rw [laws_toByteS.l0] at M
    cases M
  rw [laws_toByteS.l0] at M
  refine wp_seq ?_
  refine wp_seq ?_
  refine wp_region_lit ?_
  refine lv (d := 8) rfl rfl (by kernel_rfl) (e_move (v := .int .i64 x17) (by exact e23)) ?_
  refine lv (d := 9) rfl rfl (by kernel_rfl) (e_move (v := .slice A2 x1.length c3) (by exact e21)) ?_
  refine lv (d := 10) rfl rfl (by kernel_rfl) (e_len (A := A2) (n := x1.length) (c := c3) Try.underlying59 (by kernel_rfl)) ?_
  refine lv (d := 11) rfl rfl (by kernel_rfl) (e_lss (k := .i64) (a := x17) (b := (x1.length : Int)) (by kernel_rfl) (by kernel_rfl)) ?_
  refine wpList_nil ?_
  refine then_n ?_
  by_cases q30 : x17 < (x1.length : Int)
  · replace M := ifp q30 M
    refine cond_t rfl (bt q30 (by kernel_rfl)) ?_
    refine wp_skip ?_
    refine then_n ?_
    refine wp_seq ?_
    refine wp_block ?_
    refine wp_region_lit ?_
    refine lv (d := 14) rfl rfl (by kernel_rfl) (e_move (v := .slice A9 (((x1.length : Int)).toNat) c10) (by exact e22)) ?_
    refine lv (d := 15) rfl rfl (by kernel_rfl) (e_move (v := .int .i64 x17) (by exact e23)) ?_
    refine lv (d := 16) rfl rfl (by kernel_rfl) (e_move (v := .slice A2 x1.length c3) (by exact e21)) ?_
    refine lv (d := 17) rfl rfl (by kernel_rfl) (e_move (v := .int .i64 x17) (by exact e23)) ?_
    obtain ⟨q31, M⟩ := chk M
    obtain ⟨b32, o33, e34⟩ := Rd.addr h4 (show (x17).toNat < x1.length by omega)
    obtain ⟨y35, r36, k37⟩ := Rd.at h4 e34 (getD_some (0 : UInt8) (show (x17).toNat < x1.length by omega))
    obtain rfl := r36
    refine lv (d := 18) rfl rfl (by kernel_rfl) (e_indexAddr (b := b32) (off := o33) (n := x1.length) (c := c3) (sz := 1) (i := x17) (k := .i64) Try.underlying59 e34 (by kernel_rfl) (by kernel_rfl) (by kernel_rfl) q31 q30) ?_
    refine lv (d := 19) rfl rfl (by kernel_rfl) (e_load1 (ad := ⟨b32, o33 + (x17 : Int).toNat * 1, none⟩) (v := .int .u8 ((x1.getD ((x17).toNat) (0 : UInt8)).toNat : Int)) Try.underlying5 rfl (by kernel_rfl) (hpx (S24.inv.cell (k37 0 _ rfl)))) ?_
    obtain ⟨q38, M⟩ := chk M
    obtain ⟨b39, e41⟩ := Row.addr h12 (show (x17).toNat < x19.length by have : x19.length = ((x1.length : Int)).toNat := n20; omega)
    refine lv (d := 20) rfl rfl (by kernel_rfl) (e_indexAddr (b := b39) (off := 0) (n := ((x1.length : Int)).toNat) (c := c10) (sz := 1) (i := x17) (k := .i64) Try.underlying59 e41 (by kernel_rfl) (by kernel_rfl) (by kernel_rfl) q31 q38) ?_
    have S42 := S24.unit
    have S43 := S42.pull (F := F18) (Fr := [no]) 1 rfl rfl
    refine lse rfl rfl (by kernel_rfl) (e_setel (d := tByte) (b := b39) (i := (x17).toNat) (v := .int .u8 ((x1.getD ((x17).toNat) (0 : UInt8)).toNat : Int)) (vs := [.int .u8 ((x1.getD ((x17).toNat) (0 : UInt8)).toNat : Int)]) (yv := (x1.getD ((x17).toNat) (0 : UInt8))) S43 (by kernel_rfl) e41 (by kernel_rfl) rfl (by kernel_rfl) h12 (show (x17).toNat < x19.length by have : x19.length = ((x1.length : Int)).toNat := n20; omega) rfl) ?_
    rintro w44 ⟨F46, h45, S47, K48⟩
    clear h12
    refine wpList_nil ?_
    refine inb_n ?_
    refine then_n ?_
    refine wp_region_lit ?_
    refine lv (d := 12) rfl rfl (by kernel_rfl) (e_move (v := .int .i64 x17) (by exact e23)) ?_
    refine lv (d := 13) rfl rfl (by kernel_rfl) (e_add (k := .i64) (a := x17) (b := 1) (by kernel_rfl) rfl) ?_
    refine lv (d := 4) rfl rfl (by kernel_rfl) (e_assign (v := .int .i64 (IntKind.i64.wrap (x17 + 1))) (by kernel_rfl)) ?_
    refine wpList_nil ?_
    refine then_n ?_
    exact ⟨k29, (by omega), _, (IntKind.i64.wrap (x17 + 1)), F46, (x19.set ((x17).toNat) (x1.getD ((x17).toNat) (0 : UInt8))), rfl, (by exact e21), (by exact e22), (by kernel_rfl), h45, (List.length_set.trans n20), S47, M⟩
  replace M := ifn q30 M
  refine cond_f rfl (bf q30 (by kernel_rfl)) ?_
  refine wp_exit ?_
  refine then_e ?_
  refine then_e ?_
  refine inb_hit ?_
  refine then_n ?_
  refine wp_seq ?_
  refine wp_region_lit ?_
  refine lv (d := 21) rfl rfl (by kernel_rfl) (e_move (v := .slice A9 (((x1.length : Int)).toNat) c10) (by exact e22)) ?_
  refine lv (d := 2) rfl rfl (by kernel_rfl) (e_assign (v := .slice A9 (((x1.length : Int)).toNat) c10) (by kernel_rfl)) ?_
  refine wpList_nil ?_
  refine then_n ?_
  refine wp_ret ?_
  obtain rfl := Option.some.inj M
  exact ret1 rfl rfl  (show _ = .slice A9 (((x1.length : Int)).toNat) c10 from (by kernel_rfl)) ⟨A9, c10, F18, H, (by rw [(show x19.length = ((x1.length : Int)).toNat from n20)]), h12, S24⟩

/-! laws_toCell -/
def laws_toCell.f (k : Nat) (x1 : Cell) : Option Cell := ((laws_toByteS.f k x1.text).bind fun t30 => some (⟨x1.kind, x1.n, t30⟩ : Cell))
theorem laws_toCell.calls (k : Nat) (w : World) (H : Hp) (x1 : Cell) (A2 : Option Addr) (c3 : Nat) (h4 : Rd tByte H A2 x1.text) (l5 : x1.text.length ≤ c3) (S : Own [] H w) (r : Cell) (M : laws_toCell.f k x1 = some r) :
    Calls Try.prog 57 #[.agg #[.int .i64 x1.kind, .int .i64 x1.n, .slice A2 x1.text.length c3]] w (fun e e_w => ∃ (A_1 : Option Addr) (c_1 : Nat) (F_1 : Foot) (H_ : Hp), e = .returned (.agg #[.int .i64 r.kind, .int .i64 r.n, .slice A_1 r.text.length c_1]) ∧ Row tByte 5 H_ (hp e_w) F_1 A_1 c_1 r.text ∧ St (anyOf []) H w [F_1] H_ e_w) := by
  rw [laws_toCell.f] at M
  refine enter (l := [.agg #[.int .i64 x1.kind, .int .i64 x1.n, .slice A2 x1.text.length c3]]) 15 Try.func57 rfl rfl rfl ?_
  have S0_ := S.st
  refine wp_seq ?_
  refine wp_region_lit ?_
  refine lve (d := 1) rfl rfl (by kernel_rfl) (new_blk (v := fun g_ => .pointer (some ⟨g_, 0, none⟩)) (cs := #[.int .i64 x1.kind, .int .i64 x1.n, .slice A2 x1.text.length c3]) (t := 68) S0_ (by kernel_rfl)) ?_
  rintro _ w6 ⟨g7, rfl, b9, S10, K11⟩
  refine lve (d := 2) rfl rfl (by kernel_rfl) (new_blk (v := fun g_ => .pointer (some ⟨g_, 0, none⟩)) (cs := #[.int .i64 0, .int .i64 0, .slice none 0 0]) (t := 65) S10 (by kernel_rfl)) ?_
  rintro _ w12 ⟨g13, rfl, b14, S15, K16⟩
  replace b9 := K16.blk 0 rfl b9
  refine wpList_nil ?_
  refine then_n ?_
  refine wp_seq ?_
  refine wp_region_lit ?_
  refine lve (d := 3) rfl rfl (by kernel_rfl) (new_blk (v := fun g_ => .pointer (some ⟨g_, 0, none⟩)) (cs := #[.int .i64 0, .int .i64 0, .slice none 0 0]) (t := 65) S15 (by kernel_rfl)) ?_
  rintro _ w17 ⟨g18, rfl, b19, S20, K21⟩
  replace b14 := K21.blk 0 rfl b14
  replace b9 := K21.blk 1 rfl b9
  refine wpList_nil ?_
  refine then_n ?_
  refine wp_seq ?_
  refine wp_region_lit ?_
  refine lv (d := 4) rfl rfl (by kernel_rfl) (e_fieldAddr (b := g7) (off := 0) (o := 0) Try.underlying68 rfl rfl (sz := 1) (by kernel_rfl) (by decide) (by kernel_rfl)) ?_
  refine lv (d := 5) rfl rfl (by kernel_rfl) (e_load1 (ad := ⟨g7, 0 + 0, none⟩) (v := .int .i64 x1.kind) Try.underlying3 rfl (by kernel_rfl) (blk_cell b9 rfl)) ?_
  refine lv (d := 6) rfl rfl (by kernel_rfl) (e_fieldAddr (b := g18) (off := 0) (o := 0) Try.underlying65 rfl rfl (sz := 1) (by kernel_rfl) (by decide) (by kernel_rfl)) ?_
  refine lse rfl rfl (by kernel_rfl) (e_store (g := g18) (o := 0 + 0) (v := .int .i64 x1.kind) (cur' := #[.int .i64 x1.kind, .int .i64 0, .slice none 0 0]) (vs := [.int .i64 x1.kind]) S20 (by kernel_rfl) (by kernel_rfl) rfl (by kernel_rfl) b19 (Nat.le_of_ble_eq_true rfl) (List.forall_mem_cons.2 ⟨rfl, (fun _ h_ => by cases h_)⟩) rfl) ?_
  rintro w22 ⟨b23, S24, K25⟩
  replace b14 := K25.blk 0 rfl b14
  replace b9 := K25.blk 1 rfl b9
  clear b19
  refine wpList_nil ?_
  refine then_n ?_
  refine wp_seq ?_
  refine wp_region_lit ?_
  refine lv (d := 7) rfl rfl (by kernel_rfl) (e_fieldAddr (b := g7) (off := 0) (o := 1) Try.underlying68 rfl rfl (sz := 1) (by kernel_rfl) (by decide) (by kernel_rfl)) ?_
  refine lv (d := 8) rfl rfl (by kernel_rfl) (e_load1 (ad := ⟨g7, 0 + 1, none⟩) (v := .int .i64 x1.n) Try.underlying3 rfl (by kernel_rfl) (blk_cell b9 rfl)) ?_
  refine lv (d := 9) rfl rfl (by kernel_rfl) (e_fieldAddr (b := g18) (off := 0) (o := 1) Try.underlying65 rfl rfl (sz := 1) (by kernel_rfl) (by decide) (by kernel_rfl)) ?_
  refine lse rfl rfl (by kernel_rfl) (e_store (g := g18) (o := 0 + 1) (v := .int .i64 x1.n) (cur' := #[.int .i64 x1.kind, .int .i64 x1.n, .slice none 0 0]) (vs := [.int .i64 x1.n]) S24 (by kernel_rfl) (by kernel_rfl) rfl (by kernel_rfl) b23 (Nat.le_of_ble_eq_true rfl) (List.forall_mem_cons.2 ⟨rfl, (fun _ h_ => by cases h_)⟩) rfl) ?_
  rintro w26 ⟨b27, S28, K29⟩
  replace b14 := K29.blk 0 rfl b14
  replace b9 := K29.blk 1 rfl b9
  clear b23
  refine wpList_nil ?_
  refine then_n ?_
  refine wp_seq ?_
  refine wp_region_lit ?_
  refine lv (d := 10) rfl rfl (by kernel_rfl) (e_fieldAddr (b := g7) (off := 0) (o := 2) Try.underlying68 rfl rfl (sz := 1) (by kernel_rfl) (by decide) (by kernel_rfl)) ?_
  refine lv (d := 11) rfl rfl (by kernel_rfl) (e_load1 (ad := ⟨g7, 0 + 2, none⟩) (v := .slice A2 x1.text.length c3) Try.underlying59 rfl (by kernel_rfl) (blk_cell b9 rfl)) ?_
  obtain ⟨t30, u31, M⟩ := bnd M
  refine lcall (d := 12) rfl rfl (by kernel_rfl) (e_call (l := [.tmp 11]) (vs := [.slice A2 x1.text.length c3]) Try.func103 (by kernel_rfl) rfl (by kernel_rfl) rfl) (laws_toByteS.calls k w26 H x1.text A2 c3 h4 l5 (St.own' (Fa := []) (Fr := [(is g18), (is g13), (is g7)]) S28) t30 u31) ?_
  rintro _ w32 ⟨A35, c36, F38, H33, rfl, h37, T34⟩
  refine ⟨_, rfl, ?_⟩
  obtain ⟨S39, K40⟩ := St.call (Fa := []) (Fr := [(is g18), (is g13), (is g7)]) S28 T34
  replace b27 := K40.blk 0 rfl b27
  replace b14 := K40.blk 1 rfl b14
  replace b9 := K40.blk 2 rfl b9
  have E41 := T34.ext
  refine lv (d := 13) rfl rfl (by kernel_rfl) (e_fieldAddr (b := g18) (off := 0) (o := 2) Try.underlying65 rfl rfl (sz := 1) (by kernel_rfl) (by decide) (by kernel_rfl)) ?_
  have S42 := S39.pull (F := (is g18)) (Fr := [F38, (is g13), (is g7)]) 1 rfl rfl
  refine lse rfl rfl (by kernel_rfl) (e_store (g := g18) (o := 0 + 2) (v := .slice A35 t30.length c36) (cur' := #[.int .i64 x1.kind, .int .i64 x1.n, .slice A35 t30.length c36]) (vs := [.slice A35 t30.length c36]) S42 (by kernel_rfl) (by kernel_rfl) rfl (by kernel_rfl) b27 (Nat.le_of_ble_eq_true rfl) (List.forall_mem_cons.2 ⟨rfl, (fun _ h_ => by cases h_)⟩) rfl) ?_
  rintro w43 ⟨b44, S45, K46⟩
  replace h37 := h37.move (K46.at 0 rfl)
  replace b14 := K46.blk 1 rfl b14
  replace b9 := K46.blk 2 rfl b9
  clear b27
  refine wpList_nil ?_
  refine then_n ?_
  refine wp_seq ?_
  refine wp_region_lit ?_
  refine lv (d := 14) rfl rfl (by kernel_rfl) (e_loadS (b := g18) (off := 0) (cs := [.int .i64 x1.kind, .int .i64 x1.n, .slice A35 t30.length c36]) Try.underlying65 rfl (by kernel_rfl) (by kernel_rfl) (blk_cells b44 rfl)) ?_
  have S47 := S45.pull (F := (is g13)) (Fr := [(is g18), F38, (is g7)]) 2 rfl rfl
  refine lse rfl rfl (by kernel_rfl) (e_store (g := g13) (o := 0) (v := .agg #[.int .i64 x1.kind, .int .i64 x1.n, .slice A35 t30.length c36]) (cur' := #[.int .i64 x1.kind, .int .i64 x1.n, .slice A35 t30.length c36]) (vs := [.int .i64 x1.kind, .int .i64 x1.n, .slice A35 t30.length c36]) S47 (by kernel_rfl) (by kernel_rfl) rfl (by kernel_rfl) b14 (Nat.le_of_ble_eq_true rfl) (List.forall_mem_cons.2 ⟨rfl, (List.forall_mem_cons.2 ⟨rfl, (List.forall_mem_cons.2 ⟨rfl, (fun _ h_ => by cases h_)⟩)⟩)⟩) rfl) ?_
  rintro w48 ⟨b49, S50, K51⟩
  replace b44 := K51.blk 0 rfl b44
  replace h37 := h37.move (K51.at 1 rfl)
  replace b9 := K51.blk 2 rfl b9
  clear b14
  refine wpList_nil ?_
  refine then_n ?_
  refine wp_ret ?_
  obtain rfl := Option.some.inj M
  have S52 := S50.pull (F := F38) (Fr := [(is g13), (is g18), (is g7)]) 2 rfl rfl
  have S53 := St.first (Fa := [F38]) (Fr := [(is g13), (is g18), (is g7)]) S52
  exact retS (ty := 65) (cur := #[.int .i64 x1.kind, .int .i64 x1.n, .slice A35 t30.length c36]) rfl rfl (by kernel_rfl) b49 Try.underlying65 rfl (by kernel_rfl) ⟨A35, c36, F38, H33, rfl, h37, S53⟩

/-! laws_toCellS -/
def laws_toCellS.l0 : Nat → (List Cell) → Int → (List Cell) → Option (List Cell)
  | 0, _, _, _ => none
  | k31 + 1, x1, x19, x21 => (if x19 < (x1.length : Int) then (if 0 ≤ x19 then ((laws_toCell.f k31 (x1.getD ((x19).toNat) z68)).bind fun t44 => (if x19 < (((x1.length : Int)).toNat : Int) then (laws_toCellS.l0 k31 x1 (IntKind.i64.wrap (x19 + 1)) (x21.set ((x19).toNat) t44)) else none)) else none) else some x21)
def laws_toCellS.f (k : Nat) (x1 : List Cell) : Option (List Cell) := (if 0 ≤ (x1.length : Int) then (if ((x1.length : Int)).toNat ≤ 7036874417766 then (laws_toCellS.l0 k x1 0 (List.replicate ((x1.length : Int)).toNat z65)) else none) else none)
theorem laws_toCellS.calls (k : Nat) (w : World) (H : Hp) (x1 : List Cell) (A2 : Option Addr) (c3 : Nat) (h4 : Rd st68 H A2 x1) (l5 : x1.length ≤ c3) (S : Own [] H w) (r : List Cell) (M : laws_toCellS.f k x1 = some r) :
    Calls Try.prog 16 #[.slice A2 x1.length c3] w (fun e e_w => ∃ (A_1 : Option Addr) (c_1 : Nat) (F_1 : Foot) (H_ : Hp), e = .returned (.slice A_1 r.length c_1) ∧ Row st65 65 H_ (hp e_w) F_1 A_1 c_1 r ∧ St (anyOf []) H w [F_1] H_ e_w) := by
  rw [laws_toCellS.f] at M
  refine enter (l := [.slice A2 x1.length c3]) 23 Try.func16 rfl rfl rfl ?_
  have S0_ := S.st
  refine wp_seq ?_
  refine wp_region_lit ?_
  refine lv (d := 2) rfl rfl (by kernel_rfl) (e_assign (v := .slice none 0 0) rfl) ?_
  refine wpList_nil ?_
  refine then_n ?_
  refine wp_seq ?_
  refine wp_region_lit ?_
  refine lv (d := 5) rfl rfl (by kernel_rfl) (e_move (v := .slice A2 x1.length c3) (by kernel_rfl)) ?_
  refine lv (d := 6) rfl rfl (by kernel_rfl) (e_len (A := A2) (n := x1.length) (c := c3) Try.underlying22 (by kernel_rfl)) ?_
  obtain ⟨q6, M⟩ := chk M
  obtain ⟨q7, M⟩ := chk M
  refine lve (d := 7) rfl rfl (by kernel_rfl) (e_make (d := st65) (k := .i64) (k2 := .i64) (n := (x1.length : Int)) (z := .agg #[.int .i64 0, .int .i64 0, .slice none 0 0]) (zx := z65) (bytes := 40) S0_ Try.underlying25 (by kernel_rfl) rfl (by decide) (z65_O _) (by kernel_rfl) (by kernel_rfl) q6 (by omega) (by omega)) ?_
  rintro _ w8 ⟨A9, c10, F11, rfl, h12, S13, K14⟩
  refine lv (d := 3) rfl rfl (by kernel_rfl) (e_assign (v := .slice A9 (((x1.length : Int)).toNat) c10) (by kernel_rfl)) ?_
  refine wpList_nil ?_
  refine then_n ?_
  refine wp_seq ?_
  refine wp_seq ?_
  refine wp_region_lit ?_
  refine lv (d := 4) rfl rfl (by kernel_rfl) (e_assign (v := .int .i64 0) rfl) ?_
  refine wpList_nil ?_
  refine then_n ?_
  refine wp_block ?_
  refine wp_loop_g (fun k29 a30 w15 => ∃ (f16 : Nat → Value) (H17 : Hp) (x19 : Int) (F20 : Foot) (x21 : List Cell), a30 = mk 23 f16 ∧ f16 0 = .slice A2 x1.length c3 ∧ f16 3 = .slice A9 (((x1.length : Int)).toNat) c10 ∧ f16 4 = .int .i64 x19 ∧ Row st65 65 H17 (hp w15) F20 A9 c10 x21 ∧ x21.length = ((x1.length : Int)).toNat ∧ Ext H H17 ∧ St (anyOf []) H w [F20] H17 w15 ∧ laws_toCellS.l0 k29 x1 x19 x21 = some r) k ⟨_, H, 0, F11, (List.replicate ((x1.length : Int)).toNat z65), rfl, (by kernel_rfl), (by kernel_rfl), (by kernel_rfl), h12, List.length_replicate, (Ext.refl _), S13, M⟩ ?_
  clear M
  rintro k29 a30 w15 ⟨f16, H17, x19, F20, x21, rfl, e23, e24, e25, h12, n22, Y18, S26, M⟩
  rcases k29 with _ | k31
  · rw [laws_toCellS.l0] at M
    cases M
  rw [laws_toCellS.l0] at M
  refine wp_seq ?_
  refine wp_seq ?_
  refine wp_region_lit ?_
  refine lv (d := 8) rfl rfl (by kernel_rfl) (e_move (v := .int .i64 x19) (by exact e25)) ?_
  refine lv (d := 9) rfl rfl (by kernel_rfl) (e_move (v := .slice A2 x1.length c3) (by exact e23)) ?_
  refine lv (d := 10) rfl rfl (by kernel_rfl) (e_len (A := A2) (n := x1.length) (c := c3) Try.underlying22 (by kernel_rfl)) ?_
  refine lv (d := 11) rfl rfl (by kernel_rfl) (e_lss (k := .i64) (a := x19) (b := (x1.length : Int)) (by kernel_rfl) (by kernel_rfl)) ?_
  refine wpList_nil ?_
  refine then_n ?_
  by_cases q32 : x19 < (x1.length : Int)
  · replace M := ifp q32 M
    refine cond_t rfl (bt q32 (by kernel_rfl)) ?_
    refine wp_skip ?_
    refine then_n ?_
    refine wp_seq ?_
    refine wp_block ?_
    refine wp_region_lit ?_
    refine lv (d := 14) rfl rfl (by kernel_rfl) (e_move (v := .slice A9 (((x1.length : Int)).toNat) c10) (by exact e24)) ?_
    refine lv (d := 15) rfl rfl (by kernel_rfl) (e_move (v := .int .i64 x19) (by exact e25)) ?_
    refine lv (d := 16) rfl rfl (by kernel_rfl) (e_move (v := .slice A2 x1.length c3) (by exact e23)) ?_
    refine lv (d := 17) rfl rfl (by kernel_rfl) (e_move (v := .int .i64 x19) (by exact e25)) ?_
    obtain ⟨q33, M⟩ := chk M
    obtain ⟨b34, o35, e36⟩ := Rd.addr h4 (show (x19).toNat < x1.length by omega)
    obtain ⟨y37, r38, k39⟩ := Rd.at h4 e36 (getD_some z68 (show (x19).toNat < x1.length by omega))
    obtain ⟨A40, c41, rfl, l42, h43⟩ := st68_open r38
    refine lv (d := 18) rfl rfl (by kernel_rfl) (e_indexAddr (b := b34) (off := o35) (n := x1.length) (c := c3) (sz := 3) (i := x19) (k := .i64) Try.underlying22 e36 (by kernel_rfl) (by kernel_rfl) (by kernel_rfl) q33 q32) ?_
    refine lv (d := 19) rfl rfl (by kernel_rfl) (e_loadS (b := b34) (off := o35 + (x19 : Int).toNat * 3) (cs := [.int .i64 ((x1.getD ((x19).toNat) z68).kind), .int .i64 ((x1.getD ((x19).toNat) z68).n), .slice A40 ((x1.getD ((x19).toNat) z68).text).length c41]) Try.underlying68 rfl (by kernel_rfl) (by kernel_rfl) (fun j_ u_ e_ => (hpx (S26.inv.cell (Y18.cell (k39 j_ u_ e_)))))) ?_
    obtain ⟨t44, u45, M⟩ := bnd M
    refine lcall (d := 20) rfl rfl (by kernel_rfl) (e_call (l := [.tmp 19]) (vs := [.agg #[.int .i64 ((x1.getD ((x19).toNat) z68).kind), .int .i64 ((x1.getD ((x19).toNat) z68).n), .slice A40 ((x1.getD ((x19).toNat) z68).text).length c41]]) Try.func57 (by kernel_rfl) rfl (by kernel_rfl) rfl) (laws_toCell.calls k31 w15 H17 (x1.getD ((x19).toNat) z68) A40 c41 (h43.ext Y18) l42 (St.own' (Fa := []) (Fr := [F20]) S26) t44 u45) ?_
    rintro _ w46 ⟨A49, c50, F52, H47, rfl, h51, T48⟩
    refine ⟨_, rfl, ?_⟩
    obtain ⟨S53, K54⟩ := St.call (Fa := []) (Fr := [F20]) S26 T48
    replace h12 := h12.move (K54.at 0 rfl)
    have E55 := T48.ext
    replace h12 := h12.ext E55
    obtain ⟨q56, M⟩ := chk M
    obtain ⟨b57, e59⟩ := Row.addr h12 (show (x19).toNat < x21.length by have : x21.length = ((x1.length : Int)).toNat := n22; omega)
    refine lv (d := 21) rfl rfl (by kernel_rfl) (e_indexAddr (b := b57) (off := 0) (n := ((x1.length : Int)).toNat) (c := c10) (sz := 3) (i := x19) (k := .i64) Try.underlying25 e59 (by kernel_rfl) (by kernel_rfl) (by kernel_rfl) q33 q56) ?_
    have S60 := S53.pull (F := F20) (Fr := [F52]) 1 rfl rfl
    refine lse rfl rfl (by kernel_rfl) (e_setel (d := st65) (b := b57) (i := (x19).toNat) (v := .agg #[.int .i64 t44.kind, .int .i64 t44.n, .slice A49 t44.text.length c50]) (vs := [.int .i64 t44.kind, .int .i64 t44.n, .slice A49 t44.text.length c50]) (yv := t44) S60 (by kernel_rfl) e59 (by kernel_rfl) rfl (by kernel_rfl) h12 (show (x19).toNat < x21.length by have : x21.length = ((x1.length : Int)).toNat := n22; omega) (st65_mkO (x := t44) h51)) ?_
    rintro w61 ⟨F63, h62, S64, K65⟩
    clear h12
    refine wpList_nil ?_
    refine inb_n ?_
    refine then_n ?_
    refine wp_region_lit ?_
    refine lv (d := 12) rfl rfl (by kernel_rfl) (e_move (v := .int .i64 x19) (by exact e25)) ?_
    refine lv (d := 13) rfl rfl (by kernel_rfl) (e_add (k := .i64) (a := x19) (b := 1) (by kernel_rfl) rfl) ?_
    refine lv (d := 4) rfl rfl (by kernel_rfl) (e_assign (v := .int .i64 (IntKind.i64.wrap (x19 + 1))) (by kernel_rfl)) ?_
    refine wpList_nil ?_
    refine then_n ?_
    exact ⟨k31, (by omega), _, H47, (IntKind.i64.wrap (x19 + 1)), F63, (x21.set ((x19).toNat) t44), rfl, (by exact e23), (by exact e24), (by kernel_rfl), h62, (List.length_set.trans n22), (Y18.trans E55), S64, M⟩
  replace M := ifn q32 M
  refine cond_f rfl (bf q32 (by kernel_rfl)) ?_
  refine wp_exit ?_
  refine then_e ?_
  refine then_e ?_
  refine inb_hit ?_
  refine then_n ?_
  refine wp_seq ?_
  refine wp_region_lit ?_
  refine lv (d := 22) rfl rfl (by kernel_rfl) (e_move (v := .slice A9 (((x1.length : Int)).toNat) c10) (by exact e24)) ?_
  refine lv (d := 2) rfl rfl (by kernel_rfl) (e_assign (v := .slice A9 (((x1.length : Int)).toNat) c10) (by kernel_rfl)) ?_
  refine wpList_nil ?_
  refine then_n ?_
  refine wp_ret ?_
  obtain rfl := Option.some.inj M
  exact ret1 rfl rfl  (show _ = .slice A9 (((x1.length : Int)).toNat) c10 from (by kernel_rfl)) ⟨A9, c10, F20, H17, (by rw [(show x21.length = ((x1.length : Int)).toNat from n22)]), h12, S26⟩

/-! spec_l2cell -/
def spec_l2cell.f (x1 : Cell) : Option Bool := (if x1.kind = 0 then (if x1.n ≥ 0 then (if x1.n ≤ 1000000 then some (decide ((x1.text.length : Int) = 0)) else some false) else some false) else (if x1.kind = 1 then (if x1.n ≥ (-1000000000000000) then (if x1.n ≤ 1000000000000000 then some (decide ((x1.text.length : Int) = 0)) else some false) else some false) else (if (x1.text.length : Int) > 100 then some false else (if x1.kind = 2 then some (decide (x1.n = 0)) else (if x1.kind = 3 then (if x1.n ≥ 1 then some (decide (x1.n ≤ 20)) else some false) else some false)))))
theorem spec_l2cell.calls (w : World) (H : Hp) (x1 : Cell) (A2 : Option Addr) (c3 : Nat) (h4 : Rd tByte H A2 x1.text) (l5 : x1.text.length ≤ c3) (S : Own [] H w) (r : Bool) (M : spec_l2cell.f x1 = some r) :
    Calls Try.prog 56 #[.agg #[.int .i64 x1.kind, .int .i64 x1.n, .slice A2 x1.text.length c3]] w (fun e e_w => e = .returned (.bool r) ∧ Chg no w e_w) := by
  rw [spec_l2cell.f] at M
  refine enter (l := [.agg #[.int .i64 x1.kind, .int .i64 x1.n, .slice A2 x1.text.length c3]]) 60 Try.func56 rfl rfl rfl ?_
  have S0_ := S.st
  refine wp_seq ?_
  refine wp_region_lit ?_
  refine lve (d := 1) rfl rfl (by kernel_rfl) (new_blk (v := fun g_ => .pointer (some ⟨g_, 0, none⟩)) (cs := #[.int .i64 x1.kind, .int .i64 x1.n, .slice A2 x1.text.length c3]) (t := 65) S0_ (by kernel_rfl)) ?_
  rintro _ w6 ⟨g7, rfl, b9, S10, K11⟩
  refine lv (d := 2) rfl rfl (by kernel_rfl) (e_assign (v := .bool false) rfl) ?_
  refine wpList_nil ?_
  refine then_n ?_
  refine wp_seq ?_
  refine wp_seq ?_
  refine wp_region_lit ?_
  refine lv (d := 3) rfl rfl (by kernel_rfl) (e_fieldAddr (b := g7) (off := 0) (o := 0) Try.underlying65 rfl rfl (sz := 1) (by kernel_rfl) (by decide) (by kernel_rfl)) ?_
  refine lv (d := 4) rfl rfl (by kernel_rfl) (e_load1 (ad := ⟨g7, 0 + 0, none⟩) (v := .int .i64 x1.kind) Try.underlying3 rfl (by kernel_rfl) (blk_cell b9 rfl)) ?_
  refine lv (d := 5) rfl rfl (by kernel_rfl) (e_eql (k := .i64) (a := x1.kind) (b := 0) (by kernel_rfl) rfl) ?_
  refine wpList_nil ?_
  refine then_n ?_
  by_cases q12 : x1.kind = 0
  · replace M := ifp q12 M
    refine cond_t rfl (bt q12 (by kernel_rfl)) ?_
    refine wp_seq ?_
    refine wp_region_lit ?_
    refine lv (d := 6) rfl rfl (by kernel_rfl) (e_fieldAddr (b := g7) (off := 0) (o := 1) Try.underlying65 rfl rfl (sz := 1) (by kernel_rfl) (by decide) (by kernel_rfl)) ?_
    refine lv (d := 7) rfl rfl (by kernel_rfl) (e_load1 (ad := ⟨g7, 0 + 1, none⟩) (v := .int .i64 x1.n) Try.underlying3 rfl (by kernel_rfl) (blk_cell b9 rfl)) ?_
    refine lv (d := 8) rfl rfl (by kernel_rfl) (e_geq (k := .i64) (a := x1.n) (b := 0) (by kernel_rfl) rfl) ?_
    refine lv (d := 9) rfl rfl (by kernel_rfl) (e_move (v := .bool (decide (x1.n ≥ 0))) (by kernel_rfl)) ?_
    by_cases q13 : x1.n ≥ 0
    · replace M := ifp q13 M
      refine lvg (d := 10) (t := 9) rfl (by kernel_rfl) rfl (bt q13 (by kernel_rfl)) rfl (by kernel_rfl) (e_fieldAddr (b := g7) (off := 0) (o := 1) Try.underlying65 rfl rfl (sz := 1) (by kernel_rfl) (by decide) (by kernel_rfl)) ?_
      refine lvg (d := 11) (t := 9) rfl (by kernel_rfl) rfl (bt q13 (by kernel_rfl)) rfl (by kernel_rfl) (e_load1 (ad := ⟨g7, 0 + 1, none⟩) (v := .int .i64 x1.n) Try.underlying3 rfl (by kernel_rfl) (blk_cell b9 rfl)) ?_
      refine lvg (d := 12) (t := 9) rfl (by kernel_rfl) rfl (bt q13 (by kernel_rfl)) rfl (by kernel_rfl) (e_leq (k := .i64) (a := x1.n) (b := 1000000) (by kernel_rfl) rfl) ?_
      refine lv (d := 13) rfl rfl (by kernel_rfl) (e_pick_t (v := .bool (decide (x1.n ≤ 1000000))) (bt q13 (by kernel_rfl)) (by kernel_rfl)) ?_
      refine lv (d := 14) rfl rfl (by kernel_rfl) (e_move (v := .bool (decide (x1.n ≤ 1000000))) (by kernel_rfl)) ?_
      by_cases q14 : x1.n ≤ 1000000
      · replace M := ifp q14 M
        refine lvg (d := 15) (t := 14) rfl (by kernel_rfl) rfl (bt q14 (by kernel_rfl)) rfl (by kernel_rfl) (e_fieldAddr (b := g7) (off := 0) (o := 2) Try.underlying65 rfl rfl (sz := 1) (by kernel_rfl) (by decide) (by kernel_rfl)) ?_
        refine lvg (d := 16) (t := 14) rfl (by kernel_rfl) rfl (bt q14 (by kernel_rfl)) rfl (by kernel_rfl) (e_load1 (ad := ⟨g7, 0 + 2, none⟩) (v := .slice A2 x1.text.length c3) Try.underlying59 rfl (by kernel_rfl) (blk_cell b9 rfl)) ?_
        refine lvg (d := 17) (t := 14) rfl (by kernel_rfl) rfl (bt q14 (by kernel_rfl)) rfl (by kernel_rfl) (e_len (A := A2) (n := x1.text.length) (c := c3) Try.underlying59 (by kernel_rfl)) ?_
        refine lvg (d := 18) (t := 14) rfl (by kernel_rfl) rfl (bt q14 (by kernel_rfl)) rfl (by kernel_rfl) (e_eql (k := .i64) (a := (x1.text.length : Int)) (b := 0) (by kernel_rfl) rfl) ?_
        refine lv (d := 19) rfl rfl (by kernel_rfl) (e_pick_t (v := .bool (decide ((x1.text.length : Int) = 0))) (bt q14 (by kernel_rfl)) (by kernel_rfl)) ?_
        refine lv (d := 2) rfl rfl (by kernel_rfl) (e_assign (v := .bool (decide ((x1.text.length : Int) = 0))) (by kernel_rfl)) ?_
        refine wpList_nil ?_
        refine then_n ?_
        refine wp_ret ?_
        refine then_r ?_
        obtain rfl := Option.some.inj M
        exact ret1 rfl rfl  (show _ = .bool (decide ((x1.text.length : Int) = 0)) from (by kernel_rfl)) ⟨rfl, S10.chg⟩
      replace M := ifn q14 M
      refine lskip (t := 14) (c := false) rfl (by kernel_rfl) rfl (bf q14 (by kernel_rfl)) rfl rfl ?_
      refine lskip (t := 14) (c := false) rfl (by kernel_rfl) rfl (bf q14 (by kernel_rfl)) rfl rfl ?_
      refine lskip (t := 14) (c := false) rfl (by kernel_rfl) rfl (bf q14 (by kernel_rfl)) rfl rfl ?_
      refine lskip (t := 14) (c := false) rfl (by kernel_rfl) rfl (bf q14 (by kernel_rfl)) rfl rfl ?_
      refine lv (d := 19) rfl rfl (by kernel_rfl) (e_pick_f (v := .bool false) (bf q14 (by kernel_rfl)) rfl) ?_
      refine lv (d := 2) rfl rfl (by kernel_rfl) (e_assign (v := .bool false) (by kernel_rfl)) ?_
      refine wpList_nil ?_
      refine then_n ?_
      refine wp_ret ?_
      refine then_r ?_
      obtain rfl := Option.some.inj M
      exact ret1 rfl rfl  (show _ = .bool false from (by kernel_rfl)) ⟨rfl, S10.chg⟩
    replace M := ifn q13 M
    refine lskip (t := 9) (c := false) rfl (by kernel_rfl) rfl (bf q13 (by kernel_rfl)) rfl rfl ?_
    refine lskip (t := 9) (c := false) rfl (by kernel_rfl) rfl (bf q13 (by kernel_rfl)) rfl rfl ?_
    refine lskip (t := 9) (c := false) rfl (by kernel_rfl) rfl (bf q13 (by kernel_rfl)) rfl rfl ?_
    refine lv (d := 13) rfl rfl (by kernel_rfl) (e_pick_f (v := .bool false) (bf q13 (by kernel_rfl)) rfl) ?_
    refine lv (d := 14) rfl rfl (by kernel_rfl) (e_move (v := .bool false) (by kernel_rfl)) ?_
    refine lskip (t := 14) (c := false) rfl (by kernel_rfl) rfl (by kernel_rfl) rfl rfl ?_
    refine lskip (t := 14) (c := false) rfl (by kernel_rfl) rfl (by kernel_rfl) rfl rfl ?_
    refine lskip (t := 14) (c := false) rfl (by kernel_rfl) rfl (by kernel_rfl) rfl rfl ?_
    refine lskip (t := 14) (c := false) rfl (by kernel_rfl) rfl (by kernel_rfl) rfl rfl ?_
    refine lv (d := 19) rfl rfl (by kernel_rfl) (e_pick_f (v := .bool false) (by kernel_rfl) rfl) ?_
    refine lv (d := 2) rfl rfl (by kernel_rfl) (e_assign (v := .bool false) (by kernel_rfl)) ?_
    refine wpList_nil ?_
    refine then_n ?_
    refine wp_ret ?_
    refine then_r ?_
    obtain rfl := Option.some.inj M
    exact ret1 rfl rfl  (show _ = .bool false from (by kernel_rfl)) ⟨rfl, S10.chg⟩
  replace M := ifn q12 M
  refine cond_f rfl (bf q12 (by kernel_rfl)) ?_
  refine wp_skip ?_
  refine then_n ?_
  refine wp_seq ?_
  refine wp_seq ?_
  refine wp_region_lit ?_
  refine lv (d := 20) rfl rfl (by kernel_rfl) (e_fieldAddr (b := g7) (off := 0) (o := 0) Try.underlying65 rfl rfl (sz := 1) (by kernel_rfl) (by decide) (by kernel_rfl)) ?_
  refine lv (d := 21) rfl rfl (by kernel_rfl) (e_load1 (ad := ⟨g7, 0 + 0, none⟩) (v := .int .i64 x1.kind) Try.underlying3 rfl (by kernel_rfl) (blk_cell b9 rfl)) ?_
  refine lv (d := 22) rfl rfl (by kernel_rfl) (e_eql (k := .i64) (a := x1.kind) (b := 1) (by kernel_rfl) rfl) ?_
  refine wpList_nil ?_
  refine then_n ?_
  by_cases q15 : x1.kind = 1
  · replace M := ifp q15 M
    refine cond_t rfl (bt q15 (by kernel_rfl)) ?_
    refine wp_seq ?_
    refine wp_region_lit ?_
    refine lv (d := 23) rfl rfl (by kernel_rfl) (e_fieldAddr (b := g7) (off := 0) (o := 1) Try.underlying65 rfl rfl (sz := 1) (by kernel_rfl) (by decide) (by kernel_rfl)) ?_
    refine lv (d := 24) rfl rfl (by kernel_rfl) (e_load1 (ad := ⟨g7, 0 + 1, none⟩) (v := .int .i64 x1.n) Try.underlying3 rfl (by kernel_rfl) (blk_cell b9 rfl)) ?_
    refine lv (d := 25) rfl rfl (by kernel_rfl) (e_geq (k := .i64) (a := x1.n) (b := (-1000000000000000)) (by kernel_rfl) rfl) ?_
    refine lv (d := 26) rfl rfl (by kernel_rfl) (e_move (v := .bool (decide (x1.n ≥ (-1000000000000000)))) (by kernel_rfl)) ?_
    by_cases q16 : x1.n ≥ (-1000000000000000)
    · replace M := ifp q16 M
      refine lvg (d := 27) (t := 26) rfl (by kernel_rfl) rfl (bt q16 (by kernel_rfl)) rfl (by kernel_rfl) (e_fieldAddr (b := g7) (off := 0) (o := 1) Try.underlying65 rfl rfl (sz := 1) (by kernel_rfl) (by decide) (by kernel_rfl)) ?_
      refine lvg (d := 28) (t := 26) rfl (by kernel_rfl) rfl (bt q16 (by kernel_rfl)) rfl (by kernel_rfl) (e_load1 (ad := ⟨g7, 0 + 1, none⟩) (v := .int .i64 x1.n) Try.underlying3 rfl (by kernel_rfl) (blk_cell b9 rfl)) ?_
      refine lvg (d := 29) (t := 26) rfl (by kernel_rfl) rfl (bt q16 (by kernel_rfl)) rfl (by kernel_rfl) (e_leq (k := .i64) (a := x1.n) (b := 1000000000000000) (by kernel_rfl) rfl) ?_
      refine lv (d := 30) rfl rfl (by kernel_rfl) (e_pick_t (v := .bool (decide (x1.n ≤ 1000000000000000))) (bt q16 (by kernel_rfl)) (by kernel_rfl)) ?_
      refine lv (d := 31) rfl rfl (by kernel_rfl) (e_move (v := .bool (decide (x1.n ≤ 1000000000000000))) (by kernel_rfl)) ?_
      by_cases q17 : x1.n ≤ 1000000000000000
      · replace M := ifp q17 M
        refine lvg (d := 32) (t := 31) rfl (by kernel_rfl) rfl (bt q17 (by kernel_rfl)) rfl (by kernel_rfl) (e_fieldAddr (b := g7) (off := 0) (o := 2) Try.underlying65 rfl rfl (sz := 1) (by kernel_rfl) (by decide) (by kernel_rfl)) ?_
        refine lvg (d := 33) (t := 31) rfl (by kernel_rfl) rfl (bt q17 (by kernel_rfl)) rfl (by kernel_rfl) (e_load1 (ad := ⟨g7, 0 + 2, none⟩) (v := .slice A2 x1.text.length c3) Try.underlying59 rfl (by kernel_rfl) (blk_cell b9 rfl)) ?_
        refine lvg (d := 34) (t := 31) rfl (by kernel_rfl) rfl (bt q17 (by kernel_rfl)) rfl (by kernel_rfl) (e_len (A := A2) (n := x1.text.length) (c := c3) Try.underlying59 (by kernel_rfl)) ?_
        refine lvg (d := 35) (t := 31) rfl (by kernel_rfl) rfl (bt q17 (by kernel_rfl)) rfl (by kernel_rfl) (e_eql (k := .i64) (a := (x1.text.length : Int)) (b := 0) (by kernel_rfl) rfl) ?_
        refine lv (d := 36) rfl rfl (by kernel_rfl) (e_pick_t (v := .bool (decide ((x1.text.length : Int) = 0))) (bt q17 (by kernel_rfl)) (by kernel_rfl)) ?_
        refine lv (d := 2) rfl rfl (by kernel_rfl) (e_assign (v := .bool (decide ((x1.text.length : Int) = 0))) (by kernel_rfl)) ?_
        refine wpList_nil ?_
        refine then_n ?_
        refine wp_ret ?_
        refine then_r ?_
        obtain rfl := Option.some.inj M
        exact ret1 rfl rfl  (show _ = .bool (decide ((x1.text.length : Int) = 0)) from (by kernel_rfl)) ⟨rfl, S10.chg⟩
      replace M := ifn q17 M
      refine lskip (t := 31) (c := false) rfl (by kernel_rfl) rfl (bf q17 (by kernel_rfl)) rfl rfl ?_
      refine lskip (t := 31) (c := false) rfl (by kernel_rfl) rfl (bf q17 (by kernel_rfl)) rfl rfl ?_
      refine lskip (t := 31) (c := false) rfl (by kernel_rfl) rfl (bf q17 (by kernel_rfl)) rfl rfl ?_
      refine lskip (t := 31) (c := false) rfl (by kernel_rfl) rfl (bf q17 (by kernel_rfl)) rfl rfl ?_
      refine lv (d := 36) rfl rfl (by kernel_rfl) (e_pick_f (v := .bool false) (bf q17 (by kernel_rfl)) rfl) ?_
      refine lv (d := 2) rfl rfl (by kernel_rfl) (e_assign (v := .bool false) (by kernel_rfl)) ?_
      refine wpList_nil ?_
      refine then_n ?_
      refine wp_ret ?_
      refine then_r ?_
      obtain rfl := Option.some.inj M
      exact ret1 rfl rfl  (show _ = .bool false from (by kernel_rfl)) ⟨rfl, S10.chg⟩
    replace M := ifn q16 M
    refine lskip (t := 26) (c := false) rfl (by kernel_rfl) rfl (bf q16 (by kernel_rfl)) rfl rfl ?_
    refine lskip (t := 26) (c := false) rfl (by kernel_rfl) rfl (bf q16 (by kernel_rfl)) rfl rfl ?_
    refine lskip (t := 26) (c := false) rfl (by kernel_rfl) rfl (bf q16 (by kernel_rfl)) rfl rfl ?_
    refine lv (d := 30) rfl rfl (by kernel_rfl) (e_pick_f (v := .bool false) (bf q16 (by kernel_rfl)) rfl) ?_
    refine lv (d := 31) rfl rfl (by kernel_rfl) (e_move (v := .bool false) (by kernel_rfl)) ?_
    refine lskip (t := 31) (c := false) rfl (by kernel_rfl) rfl (by kernel_rfl) rfl rfl ?_
    refine lskip (t := 31) (c := false) rfl (by kernel_rfl) rfl (by kernel_rfl) rfl rfl ?_
    refine lskip (t := 31) (c := false) rfl (by kernel_rfl) rfl (by kernel_rfl) rfl rfl ?_
    refine lskip (t := 31) (c := false) rfl (by kernel_rfl) rfl (by kernel_rfl) rfl rfl ?_
    refine lv (d := 36) rfl rfl (by kernel_rfl) (e_pick_f (v := .bool false) (by kernel_rfl) rfl) ?_
    refine lv (d := 2) rfl rfl (by kernel_rfl) (e_assign (v := .bool false) (by kernel_rfl)) ?_
    refine wpList_nil ?_
    refine then_n ?_
    refine wp_ret ?_
    refine then_r ?_
    obtain rfl := Option.some.inj M
    exact ret1 rfl rfl  (show _ = .bool false from (by kernel_rfl)) ⟨rfl, S10.chg⟩
  replace M := ifn q15 M
  refine cond_f rfl (bf q15 (by kernel_rfl)) ?_
  refine wp_skip ?_
  refine then_n ?_
  refine wp_seq ?_
  refine wp_seq ?_
  refine wp_region_lit ?_
  refine lv (d := 37) rfl rfl (by kernel_rfl) (e_fieldAddr (b := g7) (off := 0) (o := 2) Try.underlying65 rfl rfl (sz := 1) (by kernel_rfl) (by decide) (by kernel_rfl)) ?_
  refine lv (d := 38) rfl rfl (by kernel_rfl) (e_load1 (ad := ⟨g7, 0 + 2, none⟩) (v := .slice A2 x1.text.length c3) Try.underlying59 rfl (by kernel_rfl) (blk_cell b9 rfl)) ?_
  refine lv (d := 39) rfl rfl (by kernel_rfl) (e_len (A := A2) (n := x1.text.length) (c := c3) Try.underlying59 (by kernel_rfl)) ?_
  refine lv (d := 40) rfl rfl (by kernel_rfl) (e_gtr (k := .i64) (a := (x1.text.length : Int)) (b := 100) (by kernel_rfl) rfl) ?_
  refine wpList_nil ?_
  refine then_n ?_
  by_cases q18 : (x1.text.length : Int) > 100
  · replace M := ifp q18 M
    refine cond_t rfl (bt q18 (by kernel_rfl)) ?_
    refine wp_seq ?_
    refine wp_region_lit ?_
    refine lv (d := 2) rfl rfl (by kernel_rfl) (e_assign (v := .bool false) rfl) ?_
    refine wpList_nil ?_
    refine then_n ?_
    refine wp_ret ?_
    refine then_r ?_
    obtain rfl := Option.some.inj M
    exact ret1 rfl rfl  (show _ = .bool false from (by kernel_rfl)) ⟨rfl, S10.chg⟩
  replace M := ifn q18 M
  refine cond_f rfl (bf q18 (by kernel_rfl)) ?_
  refine wp_skip ?_
  refine then_n ?_
  refine wp_seq ?_
  refine wp_seq ?_
  refine wp_region_lit ?_
  refine lv (d := 41) rfl rfl (by kernel_rfl) (e_fieldAddr (b := g7) (off := 0) (o := 0) Try.underlying65 rfl rfl (sz := 1) (by kernel_rfl) (by decide) (by kernel_rfl)) ?_
  refine lv (d := 42) rfl rfl (by kernel_rfl) (e_load1 (ad := ⟨g7, 0 + 0, none⟩) (v := .int .i64 x1.kind) Try.underlying3 rfl (by kernel_rfl) (blk_cell b9 rfl)) ?_
  refine lv (d := 43) rfl rfl (by kernel_rfl) (e_eql (k := .i64) (a := x1.kind) (b := 2) (by kernel_rfl) rfl) ?_
  refine wpList_nil ?_
  refine then_n ?_
  by_cases q19 : x1.kind = 2
  · replace M := ifp q19 M
    refine cond_t rfl (bt q19 (by kernel_rfl)) ?_
    refine wp_seq ?_
    refine wp_region_lit ?_
    refine lv (d := 44) rfl rfl (by kernel_rfl) (e_fieldAddr (b := g7) (off := 0) (o := 1) Try.underlying65 rfl rfl (sz := 1) (by kernel_rfl) (by decide) (by kernel_rfl)) ?_
    refine lv (d := 45) rfl rfl (by kernel_rfl) (e_load1 (ad := ⟨g7, 0 + 1, none⟩) (v := .int .i64 x1.n) Try.underlying3 rfl (by kernel_rfl) (blk_cell b9 rfl)) ?_
    refine lv (d := 46) rfl rfl (by kernel_rfl) (e_eql (k := .i64) (a := x1.n) (b := 0) (by kernel_rfl) rfl) ?_
    refine lv (d := 2) rfl rfl (by kernel_rfl) (e_assign (v := .bool (decide (x1.n = 0))) (by kernel_rfl)) ?_
    refine wpList_nil ?_
    refine then_n ?_
    refine wp_ret ?_
    refine then_r ?_
    obtain rfl := Option.some.inj M
    exact ret1 rfl rfl  (show _ = .bool (decide (x1.n = 0)) from (by kernel_rfl)) ⟨rfl, S10.chg⟩
  replace M := ifn q19 M
  refine cond_f rfl (bf q19 (by kernel_rfl)) ?_
  refine wp_skip ?_
  refine then_n ?_
  refine wp_seq ?_
  refine wp_region_lit ?_
  refine lv (d := 47) rfl rfl (by kernel_rfl) (e_fieldAddr (b := g7) (off := 0) (o := 0) Try.underlying65 rfl rfl (sz := 1) (by kernel_rfl) (by decide) (by kernel_rfl)) ?_
  refine lv (d := 48) rfl rfl (by kernel_rfl) (e_load1 (ad := ⟨g7, 0 + 0, none⟩) (v := .int .i64 x1.kind) Try.underlying3 rfl (by kernel_rfl) (blk_cell b9 rfl)) ?_
  refine lv (d := 49) rfl rfl (by kernel_rfl) (e_eql (k := .i64) (a := x1.kind) (b := 3) (by kernel_rfl) rfl) ?_
  refine lv (d := 50) rfl rfl (by kernel_rfl) (e_move (v := .bool (decide (x1.kind = 3))) (by kernel_rfl)) ?_
  by_cases q20 : x1.kind = 3
  · replace M := ifp q20 M
    refine lvg (d := 51) (t := 50) rfl (by kernel_rfl) rfl (bt q20 (by kernel_rfl)) rfl (by kernel_rfl) (e_fieldAddr (b := g7) (off := 0) (o := 1) Try.underlying65 rfl rfl (sz := 1) (by kernel_rfl) (by decide) (by kernel_rfl)) ?_
    refine lvg (d := 52) (t := 50) rfl (by kernel_rfl) rfl (bt q20 (by kernel_rfl)) rfl (by kernel_rfl) (e_load1 (ad := ⟨g7, 0 + 1, none⟩) (v := .int .i64 x1.n) Try.underlying3 rfl (by kernel_rfl) (blk_cell b9 rfl)) ?_
    refine lvg (d := 53) (t := 50) rfl (by kernel_rfl) rfl (bt q20 (by kernel_rfl)) rfl (by kernel_rfl) (e_geq (k := .i64) (a := x1.n) (b := 1) (by kernel_rfl) rfl) ?_
    refine lv (d := 54) rfl rfl (by kernel_rfl) (e_pick_t (v := .bool (decide (x1.n ≥ 1))) (bt q20 (by kernel_rfl)) (by kernel_rfl)) ?_
    refine lv (d := 55) rfl rfl (by kernel_rfl) (e_move (v := .bool (decide (x1.n ≥ 1))) (by kernel_rfl)) ?_
    by_cases q21 : x1.n ≥ 1
    · replace M := ifp q21 M
      refine lvg (d := 56) (t := 55) rfl (by kernel_rfl) rfl (bt q21 (by kernel_rfl)) rfl (by kernel_rfl) (e_fieldAddr (b := g7) (off := 0) (o := 1) Try.underlying65 rfl rfl (sz := 1) (by kernel_rfl) (by decide) (by kernel_rfl)) ?_
      refine lvg (d := 57) (t := 55) rfl (by kernel_rfl) rfl (bt q21 (by kernel_rfl)) rfl (by kernel_rfl) (e_load1 (ad := ⟨g7, 0 + 1, none⟩) (v := .int .i64 x1.n) Try.underlying3 rfl (by kernel_rfl) (blk_cell b9 rfl)) ?_
      refine lvg (d := 58) (t := 55) rfl (by kernel_rfl) rfl (bt q21 (by kernel_rfl)) rfl (by kernel_rfl) (e_leq (k := .i64) (a := x1.n) (b := 20) (by kernel_rfl) rfl) ?_
      refine lv (d := 59) rfl rfl (by kernel_rfl) (e_pick_t (v := .bool (decide (x1.n ≤ 20))) (bt q21 (by kernel_rfl)) (by kernel_rfl)) ?_
      refine lv (d := 2) rfl rfl (by kernel_rfl) (e_assign (v := .bool (decide (x1.n ≤ 20))) (by kernel_rfl)) ?_
      refine wpList_nil ?_
      refine then_n ?_
      refine wp_ret ?_
      obtain rfl := Option.some.inj M
      exact ret1 rfl rfl  (show _ = .bool (decide (x1.n ≤ 20)) from (by kernel_rfl)) ⟨rfl, S10.chg⟩
    replace M := ifn q21 M
    refine lskip (t := 55) (c := false) rfl (by kernel_rfl) rfl (bf q21 (by kernel_rfl)) rfl rfl ?_
    refine lskip (t := 55) (c := false) rfl (by kernel_rfl) rfl (bf q21 (by kernel_rfl)) rfl rfl ?_
    refine lskip (t := 55) (c := false) rfl (by kernel_rfl) rfl (bf q21 (by kernel_rfl)) rfl rfl ?_
    refine lv (d := 59) rfl rfl (by kernel_rfl) (e_pick_f (v := .bool false) (bf q21 (by kernel_rfl)) rfl) ?_
    refine lv (d := 2) rfl rfl (by kernel_rfl) (e_assign (v := .bool false) (by kernel_rfl)) ?_
    refine wpList_nil ?_
    refine then_n ?_
    refine wp_ret ?_
    obtain rfl := Option.some.inj M
    exact ret1 rfl rfl  (show _ = .bool false from (by kernel_rfl)) ⟨rfl, S10.chg⟩
  replace M := ifn q20 M
  refine lskip (t := 50) (c := false) rfl (by kernel_rfl) rfl (bf q20 (by kernel_rfl)) rfl rfl ?_
  refine lskip (t := 50) (c := false) rfl (by kernel_rfl) rfl (bf q20 (by kernel_rfl)) rfl rfl ?_
  refine lskip (t := 50) (c := false) rfl (by kernel_rfl) rfl (bf q20 (by kernel_rfl)) rfl rfl ?_
  refine lv (d := 54) rfl rfl (by kernel_rfl) (e_pick_f (v := .bool false) (bf q20 (by kernel_rfl)) rfl) ?_
  refine lv (d := 55) rfl rfl (by kernel_rfl) (e_move (v := .bool false) (by kernel_rfl)) ?_
  refine lskip (t := 55) (c := false) rfl (by kernel_rfl) rfl (by kernel_rfl) rfl rfl ?_
  refine lskip (t := 55) (c := false) rfl (by kernel_rfl) rfl (by kernel_rfl) rfl rfl ?_
  refine lskip (t := 55) (c := false) rfl (by kernel_rfl) rfl (by kernel_rfl) rfl rfl ?_
  refine lv (d := 59) rfl rfl (by kernel_rfl) (e_pick_f (v := .bool false) (by kernel_rfl) rfl) ?_
  refine lv (d := 2) rfl rfl (by kernel_rfl) (e_assign (v := .bool false) (by kernel_rfl)) ?_
  refine wpList_nil ?_
  refine then_n ?_
  refine wp_ret ?_
  obtain rfl := Option.some.inj M
  exact ret1 rfl rfl  (show _ = .bool false from (by kernel_rfl)) ⟨rfl, S10.chg⟩

/-! spec_ValidTerm -/
def spec_ValidTerm.l0 : Nat → (List Cell) → Int → Int → Option Bool
  | 0, _, _, _ => none
  | k19 + 1, x1, x9, x10 => (if x10 < (x1.length : Int) then (if x9 = 0 then some false else (if 0 ≤ x10 then ((spec_l2cell.f (x1.getD ((x10).toNat) z65)).bind fun t33 => (if ¬ (t33 = true) then some false else (if ((x1.getD ((x10).toNat) z65).kind) = 3 then (spec_ValidTerm.l0 k19 x1 (IntKind.i64.wrap ((IntKind.i64.wrap (x9 - 1)) + ((x1.getD ((x10).toNat) z65).n))) (IntKind.i64.wrap (x10 + 1))) else (spec_ValidTerm.l0 k19 x1 (IntKind.i64.wrap (x9 - 1)) (IntKind.i64.wrap (x10 + 1)))))) else none)) else some (decide (x9 = 0)))
def spec_ValidTerm.f (k : Nat) (x1 : List Cell) : Option Bool := (if (x1.length : Int) > 2000 then some false else (spec_ValidTerm.l0 k x1 1 0))
theorem spec_ValidTerm.calls (k : Nat) (w : World) (H : Hp) (x1 : List Cell) (A2 : Option Addr) (c3 : Nat) (h4 : Rd st65 H A2 x1) (l5 : x1.length ≤ c3) (S : Own [] H w) (r : Bool) (M : spec_ValidTerm.f k x1 = some r) :
    Calls Try.prog 15 #[.slice A2 x1.length c3] w (fun e e_w => e = .returned (.bool r) ∧ Chg no w e_w) := by
  rw [spec_ValidTerm.f] at M
  refine enter (l := [.slice A2 x1.length c3]) 41 Try.func15 rfl rfl rfl ?_
  have S0_ := S.st
  refine wp_seq ?_
  refine wp_region_lit ?_
  refine lv (d := 2) rfl rfl (by kernel_rfl) (e_assign (v := .bool false) rfl) ?_
  refine wpList_nil ?_
  refine then_n ?_
  refine wp_seq ?_
  refine wp_seq ?_
  refine wp_region_lit ?_
  refine lv (d := 5) rfl rfl (by kernel_rfl) (e_move (v := .slice A2 x1.length c3) (by kernel_rfl)) ?_
  refine lv (d := 6) rfl rfl (by kernel_rfl) (e_len (A := A2) (n := x1.length) (c := c3) Try.underlying25 (by kernel_rfl)) ?_
  refine lv (d := 7) rfl rfl (by kernel_rfl) (e_gtr (k := .i64) (a := (x1.length : Int)) (b := 2000) (by kernel_rfl) rfl) ?_
  refine wpList_nil ?_
  refine then_n ?_
  by_cases q6 : (x1.length : Int) > 2000
  · replace M := ifp q6 M
    refine cond_t rfl (bt q6 (by kernel_rfl)) ?_
    refine wp_seq ?_
    refine wp_region_lit ?_
    refine lv (d := 2) rfl rfl (by kernel_rfl) (e_assign (v := .bool false) rfl) ?_
    refine wpList_nil ?_
    refine then_n ?_
    refine wp_ret ?_
    refine then_r ?_
    obtain rfl := Option.some.inj M
    exact ret1 rfl rfl  (show _ = .bool false from (by kernel_rfl)) ⟨rfl, S0_.chg⟩
  replace M := ifn q6 M
  refine cond_f rfl (bf q6 (by kernel_rfl)) ?_
  refine wp_skip ?_
  refine then_n ?_
  refine wp_seq ?_
  refine wp_region_lit ?_
  refine lv (d := 3) rfl rfl (by kernel_rfl) (e_assign (v := .int .i64 1) rfl) ?_
  refine wpList_nil ?_
  refine then_n ?_
  refine wp_seq ?_
  refine wp_seq ?_
  refine wp_region_lit ?_
  refine lv (d := 4) rfl rfl (by kernel_rfl) (e_assign (v := .int .i64 0) rfl) ?_
  refine wpList_nil ?_
  refine then_n ?_
  refine wp_block ?_
  refine wp_loop_g (fun k17 a18 w7 => ∃ (f8 : Nat → Value) (x9 : Int) (x10 : Int), a18 = mk 41 f8 ∧ f8 0 = .slice A2 x1.length c3 ∧ f8 3 = .int .i64 x9 ∧ f8 4 = .int .i64 x10 ∧ St (anyOf []) H w [] H w7 ∧ spec_ValidTerm.l0 k17 x1 x9 x10 = some r) k ⟨_, 1, 0, rfl, (by kernel_rfl), (by kernel_rfl), (by kernel_rfl), S0_, M⟩ ?_
  clear M
  rintro k17 a18 w7 ⟨f8, x9, x10, rfl, e11, e12, e13, S14, M⟩
  rcases k17 with _ | k19
  · rw [spec_ValidTerm.l0] at M
    cases M
  rw [spec_ValidTerm.l0] at M
  refine wp_seq ?_
  refine wp_seq ?_
  refine wp_region_lit ?_
  refine lv (d := 8) rfl rfl (by kernel_rfl) (e_move (v := .int .i64 x10) (by exact e13)) ?_
  refine lv (d := 9) rfl rfl (by kernel_rfl) (e_move (v := .slice A2 x1.length c3) (by exact e11)) ?_
  refine lv (d := 10) rfl rfl (by kernel_rfl) (e_len (A := A2) (n := x1.length) (c := c3) Try.underlying25 (by kernel_rfl)) ?_
  refine lv (d := 11) rfl rfl (by kernel_rfl) (e_lss (k := .i64) (a := x10) (b := (x1.length : Int)) (by kernel_rfl) (by kernel_rfl)) ?_
  refine wpList_nil ?_
  refine then_n ?_
  by_cases q20 : x10 < (x1.length : Int)
  · replace M := ifp q20 M
    refine cond_t rfl (bt q20 (by kernel_rfl)) ?_
    refine wp_skip ?_
    refine then_n ?_
    refine wp_seq ?_
    refine wp_block ?_
    refine wp_seq ?_
    refine wp_seq ?_
    refine wp_region_lit ?_
    refine lv (d := 14) rfl rfl (by kernel_rfl) (e_move (v := .int .i64 x9) (by exact e12)) ?_
    refine lv (d := 15) rfl rfl (by kernel_rfl) (e_eql (k := .i64) (a := x9) (b := 0) (by kernel_rfl) rfl) ?_
    refine lv (d := 16) rfl rfl (by kernel_rfl) (e_move (v := .bool (decide (x9 = 0))) (by kernel_rfl)) ?_
    by_cases q21 : x9 = 0
    · replace M := ifp q21 M
      refine lskip (t := 16) (c := true) rfl (by kernel_rfl) rfl (bt q21 (by kernel_rfl)) rfl rfl ?_
      refine lskip (t := 16) (c := true) rfl (by kernel_rfl) rfl (bt q21 (by kernel_rfl)) rfl rfl ?_
      refine lskip (t := 16) (c := true) rfl (by kernel_rfl) rfl (bt q21 (by kernel_rfl)) rfl rfl ?_
      refine lskip (t := 16) (c := true) rfl (by kernel_rfl) rfl (bt q21 (by kernel_rfl)) rfl rfl ?_
      refine lskip (t := 16) (c := true) rfl (by kernel_rfl) rfl (bt q21 (by kernel_rfl)) rfl rfl ?_
      refine lskip (t := 16) (c := true) rfl (by kernel_rfl) rfl (bt q21 (by kernel_rfl)) rfl rfl ?_
      refine lv (d := 23) rfl rfl (by kernel_rfl) (e_pick_t (v := .bool true) (bt q21 (by kernel_rfl)) rfl) ?_
      refine wpList_nil ?_
      refine then_n ?_
      refine cond_t rfl (by kernel_rfl) ?_
      refine wp_seq ?_
      refine wp_region_lit ?_
      refine lv (d := 2) rfl rfl (by kernel_rfl) (e_assign (v := .bool false) rfl) ?_
      refine wpList_nil ?_
      refine then_n ?_
      refine wp_ret ?_
      refine then_r ?_
      refine inb_r ?_
      refine then_r ?_
      refine then_r ?_
      refine inb_r ?_
      refine then_r ?_
      obtain rfl := Option.some.inj M
      exact ret1 rfl rfl  (show _ = .bool false from (by kernel_rfl)) ⟨rfl, S14.chg⟩
    replace M := ifn q21 M
    refine lvg (d := 17) (t := 16) rfl (by kernel_rfl) rfl (bf q21 (by kernel_rfl)) rfl (by kernel_rfl) (e_move (v := .slice A2 x1.length c3) (by exact e11)) ?_
    refine lvg (d := 18) (t := 16) rfl (by kernel_rfl) rfl (bf q21 (by kernel_rfl)) rfl (by kernel_rfl) (e_move (v := .int .i64 x10) (by exact e13)) ?_
    obtain ⟨q22, M⟩ := chk M
    obtain ⟨b23, o24, e25⟩ := Rd.addr h4 (show (x10).toNat < x1.length by omega)
    obtain ⟨y26, r27, k28⟩ := Rd.at h4 e25 (getD_some z65 (show (x10).toNat < x1.length by omega))
    obtain ⟨A29, c30, rfl, l31, h32⟩ := st65_open r27
    refine lvg (d := 19) (t := 16) rfl (by kernel_rfl) rfl (bf q21 (by kernel_rfl)) rfl (by kernel_rfl) (e_indexAddr (b := b23) (off := o24) (n := x1.length) (c := c3) (sz := 3) (i := x10) (k := .i64) Try.underlying25 e25 (by kernel_rfl) (by kernel_rfl) (by kernel_rfl) q22 q20) ?_
    refine lvg (d := 20) (t := 16) rfl (by kernel_rfl) rfl (bf q21 (by kernel_rfl)) rfl (by kernel_rfl) (e_loadS (b := b23) (off := o24 + (x10 : Int).toNat * 3) (cs := [.int .i64 ((x1.getD ((x10).toNat) z65).kind), .int .i64 ((x1.getD ((x10).toNat) z65).n), .slice A29 ((x1.getD ((x10).toNat) z65).text).length c30]) Try.underlying65 rfl (by kernel_rfl) (by kernel_rfl) (fun j_ u_ e_ => (hpx (S14.inv.cell (k28 j_ u_ e_))))) ?_
    obtain ⟨t33, u34, M⟩ := bnd M
    refine lcallg (d := 21) (t := 16) rfl (by kernel_rfl) rfl (bf q21 (by kernel_rfl)) rfl (by kernel_rfl) (e_call (l := [.tmp 20]) (vs := [.agg #[.int .i64 ((x1.getD ((x10).toNat) z65).kind), .int .i64 ((x1.getD ((x10).toNat) z65).n), .slice A29 ((x1.getD ((x10).toNat) z65).text).length c30]]) Try.func56 (by kernel_rfl) rfl (by kernel_rfl) rfl) (spec_l2cell.calls w7 H (x1.getD ((x10).toNat) z65) A29 c30 h32 l31 S14.own0 t33 u34) ?_
    rintro _ w35 ⟨rfl, C36⟩
    refine ⟨_, rfl, ?_⟩
    obtain ⟨S37, K38⟩ := S14.still C36
    refine lvg (d := 22) (t := 16) rfl (by kernel_rfl) rfl (bf q21 (by kernel_rfl)) rfl (by kernel_rfl) (e_notv (c := t33) (by kernel_rfl)) ?_
    refine lv (d := 23) rfl rfl (by kernel_rfl) (e_pick_f (v := .bool (decide (¬ (t33 = true)))) (bf q21 (by kernel_rfl)) (by kernel_rfl)) ?_
    refine wpList_nil ?_
    refine then_n ?_
    by_cases q39 : ¬ (t33 = true)
    · replace M := ifp q39 M
      refine cond_t rfl (bt q39 (by kernel_rfl)) ?_
      refine wp_seq ?_
      refine wp_region_lit ?_
      refine lv (d := 2) rfl rfl (by kernel_rfl) (e_assign (v := .bool false) rfl) ?_
      refine wpList_nil ?_
      refine then_n ?_
      refine wp_ret ?_
      refine then_r ?_
      refine inb_r ?_
      refine then_r ?_
      refine then_r ?_
      refine inb_r ?_
      refine then_r ?_
      obtain rfl := Option.some.inj M
      exact ret1 rfl rfl  (show _ = .bool false from (by kernel_rfl)) ⟨rfl, S37.chg⟩
    replace M := ifn q39 M
    refine cond_f rfl (bf q39 (by kernel_rfl)) ?_
    refine wp_skip ?_
    refine then_n ?_
    refine wp_seq ?_
    refine wp_region_lit ?_
    refine lv (d := 24) rfl rfl (by kernel_rfl) (e_move (v := .int .i64 x9) (by exact e12)) ?_
    refine lv (d := 25) rfl rfl (by kernel_rfl) (e_sub (k := .i64) (a := x9) (b := 1) (by kernel_rfl) rfl) ?_
    refine lv (d := 3) rfl rfl (by kernel_rfl) (e_assign (v := .int .i64 (IntKind.i64.wrap (x9 - 1))) (by kernel_rfl)) ?_
    refine wpList_nil ?_
    refine then_n ?_
    refine wp_seq ?_
    refine wp_region_lit ?_
    refine lv (d := 26) rfl rfl (by kernel_rfl) (e_move (v := .slice A2 x1.length c3) (by exact e11)) ?_
    refine lv (d := 27) rfl rfl (by kernel_rfl) (e_move (v := .int .i64 x10) (by exact e13)) ?_
    obtain ⟨b40, o41, e42⟩ := Rd.addr h4 (show (x10).toNat < x1.length by omega)
    obtain ⟨y43, r44, k45⟩ := Rd.at h4 e42 (getD_some z65 (show (x10).toNat < x1.length by omega))
    obtain ⟨A46, c47, rfl, l48, h49⟩ := st65_open r44
    refine lv (d := 28) rfl rfl (by kernel_rfl) (e_indexAddr (b := b40) (off := o41) (n := x1.length) (c := c3) (sz := 3) (i := x10) (k := .i64) Try.underlying25 e42 (by kernel_rfl) (by kernel_rfl) (by kernel_rfl) q22 q20) ?_
    refine lv (d := 29) rfl rfl (by kernel_rfl) (e_fieldAddr (b := b40) (off := o41 + (x10 : Int).toNat * 3) (o := 0) Try.underlying65 rfl rfl (sz := 1) (by kernel_rfl) (by decide) (by kernel_rfl)) ?_
    refine lv (d := 30) rfl rfl (by kernel_rfl) (e_load1 (ad := ⟨b40, o41 + (x10 : Int).toNat * 3 + 0, none⟩) (v := .int .i64 ((x1.getD ((x10).toNat) z65).kind)) Try.underlying3 rfl (by kernel_rfl) (hpx (S37.inv.cell (k45 0 _ rfl)))) ?_
    refine lv (d := 31) rfl rfl (by kernel_rfl) (e_eql (k := .i64) (a := (x1.getD ((x10).toNat) z65).kind) (b := 3) (by kernel_rfl) rfl) ?_
    refine wpList_nil ?_
    refine then_n ?_
    by_cases q50 : ((x1.getD ((x10).toNat) z65).kind) = 3
    · replace M := ifp q50 M
      refine cond_t rfl (bt q50 (by kernel_rfl)) ?_
      refine wp_region_lit ?_
      refine lv (d := 32) rfl rfl (by kernel_rfl) (e_move (v := .int .i64 (IntKind.i64.wrap (x9 - 1))) (by kernel_rfl)) ?_
      refine lv (d := 33) rfl rfl (by kernel_rfl) (e_move (v := .slice A2 x1.length c3) (by exact e11)) ?_
      refine lv (d := 34) rfl rfl (by kernel_rfl) (e_move (v := .int .i64 x10) (by exact e13)) ?_
      obtain ⟨b51, o52, e53⟩ := Rd.addr h4 (show (x10).toNat < x1.length by omega)
      obtain ⟨y54, r55, k56⟩ := Rd.at h4 e53 (getD_some z65 (show (x10).toNat < x1.length by omega))
      obtain ⟨A57, c58, rfl, l59, h60⟩ := st65_open r55
      refine lv (d := 35) rfl rfl (by kernel_rfl) (e_indexAddr (b := b51) (off := o52) (n := x1.length) (c := c3) (sz := 3) (i := x10) (k := .i64) Try.underlying25 e53 (by kernel_rfl) (by kernel_rfl) (by kernel_rfl) q22 q20) ?_
      refine lv (d := 36) rfl rfl (by kernel_rfl) (e_fieldAddr (b := b51) (off := o52 + (x10 : Int).toNat * 3) (o := 1) Try.underlying65 rfl rfl (sz := 1) (by kernel_rfl) (by decide) (by kernel_rfl)) ?_
      refine lv (d := 37) rfl rfl (by kernel_rfl) (e_load1 (ad := ⟨b51, o52 + (x10 : Int).toNat * 3 + 1, none⟩) (v := .int .i64 ((x1.getD ((x10).toNat) z65).n)) Try.underlying3 rfl (by kernel_rfl) (hpx (S37.inv.cell (k56 1 _ rfl)))) ?_
      refine lv (d := 38) rfl rfl (by kernel_rfl) (e_add (k := .i64) (a := (IntKind.i64.wrap (x9 - 1))) (b := (x1.getD ((x10).toNat) z65).n) (by kernel_rfl) (by kernel_rfl)) ?_
      refine lv (d := 3) rfl rfl (by kernel_rfl) (e_assign (v := .int .i64 (IntKind.i64.wrap ((IntKind.i64.wrap (x9 - 1)) + ((x1.getD ((x10).toNat) z65).n)))) (by kernel_rfl)) ?_
      refine wpList_nil ?_
      refine inb_n ?_
      refine then_n ?_
      refine wp_region_lit ?_
      refine lv (d := 12) rfl rfl (by kernel_rfl) (e_move (v := .int .i64 x10) (by exact e13)) ?_
      refine lv (d := 13) rfl rfl (by kernel_rfl) (e_add (k := .i64) (a := x10) (b := 1) (by kernel_rfl) rfl) ?_
      refine lv (d := 4) rfl rfl (by kernel_rfl) (e_assign (v := .int .i64 (IntKind.i64.wrap (x10 + 1))) (by kernel_rfl)) ?_
      refine wpList_nil ?_
      refine then_n ?_
      exact ⟨k19, (by omega), _, (IntKind.i64.wrap ((IntKind.i64.wrap (x9 - 1)) + ((x1.getD ((x10).toNat) z65).n))), (IntKind.i64.wrap (x10 + 1)), rfl, (by exact e11), (by kernel_rfl), (by kernel_rfl), S37, M⟩
    replace M := ifn q50 M
    refine cond_f rfl (bf q50 (by kernel_rfl)) ?_
    refine wp_skip ?_
    refine inb_n ?_
    refine then_n ?_
    refine wp_region_lit ?_
    refine lv (d := 12) rfl rfl (by kernel_rfl) (e_move (v := .int .i64 x10) (by exact e13)) ?_
    refine lv (d := 13) rfl rfl (by kernel_rfl) (e_add (k := .i64) (a := x10) (b := 1) (by kernel_rfl) rfl) ?_
    refine lv (d := 4) rfl rfl (by kernel_rfl) (e_assign (v := .int .i64 (IntKind.i64.wrap (x10 + 1))) (by kernel_rfl)) ?_
    refine wpList_nil ?_
    refine then_n ?_
    exact ⟨k19, (by omega), _, (IntKind.i64.wrap (x9 - 1)), (IntKind.i64.wrap (x10 + 1)), rfl, (by exact e11), (by kernel_rfl), (by kernel_rfl), S37, M⟩
  replace M := ifn q20 M
  refine cond_f rfl (bf q20 (by kernel_rfl)) ?_
  refine wp_exit ?_
  refine then_e ?_
  refine then_e ?_
  refine inb_hit ?_
  refine then_n ?_
  refine wp_seq ?_
  refine wp_region_lit ?_
  refine lv (d := 39) rfl rfl (by kernel_rfl) (e_move (v := .int .i64 x9) (by exact e12)) ?_
  refine lv (d := 40) rfl rfl (by kernel_rfl) (e_eql (k := .i64) (a := x9) (b := 0) (by kernel_rfl) rfl) ?_
  refine lv (d := 2) rfl rfl (by kernel_rfl) (e_assign (v := .bool (decide (x9 = 0))) (by kernel_rfl)) ?_
  refine wpList_nil ?_
  refine then_n ?_
  refine wp_ret ?_
  obtain rfl := Option.some.inj M
  exact ret1 rfl rfl  (show _ = .bool (decide (x9 = 0)) from (by kernel_rfl)) ⟨rfl, S14.chg⟩

/-! spec_l5index -/
structure GL5st where
  sub_ : List Binding
  pairs_ : Int
  deriving Inhabited
def sl65 : Ty (List Cell) := slice 65 st65 (by decide)
def st63 : Ty Binding := iso (pair tInt sl65) (fun x => (x.var, x.term))
theorem st63_open {H : Hp} {x : Binding} {cs : List Value} (h : st63.R H x cs) : ∃ (A1 : Option Addr) (c1 : Nat), cs = [.int .i64 x.var, .slice A1 x.term.length c1] ∧ x.term.length ≤ c1 ∧ Rd st65 H A1 x.term := by
  obtain ⟨_, _, rfl, rfl, ⟨A1, c1, rfl, l1, h1⟩⟩ := h
  exact ⟨A1, c1, rfl, l1, h1⟩
theorem st63_mkR {H : Hp} {x : Binding} {A1 : Option Addr} {c1 : Nat} (l1 : x.term.length ≤ c1) (h1 : Rd st65 H A1 x.term) : st63.R H x [.int .i64 x.var, .slice A1 x.term.length c1] := ⟨[.int .i64 x.var], [.slice A1 x.term.length c1], rfl, rfl, ⟨A1, c1, rfl, l1, h1⟩⟩
theorem st63_mkO {H X : Hp} {F1 : Foot} {x : Binding} {A1 : Option Addr} {c1 : Nat} (h1 : Row st65 65 H X F1 A1 c1 x.term) : st63.O H X F1 x [.int .i64 x.var, .slice A1 x.term.length c1] := (pairO0 (a := tInt) (b := sl65) (x := (x.var, x.term)) (c0 := [.int .i64 x.var]) (c1 := [.slice A1 x.term.length c1]) rfl ⟨A1, c1, rfl, h1⟩)
theorem st63_openO {H X : Hp} {F : Foot} {x : Binding} {cs : List Value} (h : st63.O H X F x cs) : ∃ (A1 : Option Addr) (c1 : Nat) (F1 : Foot), cs = [.int .i64 x.var, .slice A1 x.term.length c1] ∧ Row st65 65 H X F1 A1 c1 x.term ∧ (∀ b, F1 b → F b) := by
  obtain ⟨_, _, K0, L0, rfl, rfl, ⟨A1, c1, rfl, h1⟩, d0, s0⟩ := h
  exact ⟨A1, c1, _, rfl, h1, fun b hb => s0 b (.inr (hb))⟩
theorem st63_c0 {H X : Hp} {F : Foot} {x : Binding} {cs : List Value} (h : st63.O H X F x cs) : cs[0]? = some (.int .i64 x.var) := by obtain ⟨_, _, _, rfl, _, _⟩ := st63_openO h; rfl
theorem st63_r0 {H : Hp} {x : Binding} {cs : List Value} (h : st63.R H x cs) : cs[0]? = some (.int .i64 x.var) := by obtain ⟨_, _, rfl, _, _⟩ := st63_open h; rfl
theorem st63_u0 {H X : Hp} {F1 F2 : Foot} {x : Binding} (y : Int) {cs : List Value} (h : st63.O H X F1 x cs) : st63.O H X (or2 F1 F2) {x with var := y} (cs.take 0 ++ [.int .i64 y] ++ cs.drop 1) := by
  obtain ⟨_, _, _, rfl, h1, s1⟩ := st63_openO h
  exact st63_mkO (x := {x with var := y}) (h1.mono fun b hb => .inl (s1 b hb))
theorem st63_u1 {H X : Hp} {F1 F2 : Foot} {x : Binding} {y : List Cell} {A : Option Addr} {c : Nat} {cs : List Value} (hy : Row st65 65 H X F2 A c y) (h : st63.O H X F1 x cs) : st63.O H X (or2 F1 F2) {x with term := y} (cs.take 1 ++ [.slice A y.length c] ++ cs.drop 2) := by
  obtain ⟨_, _, _, rfl, h1, _⟩ := st63_openO h
  exact st63_mkO (x := {x with term := y}) (hy.mono fun b hb => .inr hb)
def z63 : Binding := ⟨(0 : Int), ([] : List Cell)⟩
theorem z63_O (H X : Hp) : st63.O H X no z63 [.int .i64 (0 : Int), .slice none 0 0] := st63_mkO (x := z63) (Row.nil _ _ _ _ no)
theorem z63_R (H : Hp) : st63.R H z63 [.int .i64 (0 : Int), .slice none 0 0] := st63_mkR (x := z63) (Nat.le_refl _) (Rd.nil _ _ _)
def spec_l5index.l0 : Nat → (List Binding) → Int → Int → Int → Option Int
  | 0, _, _, _, _ => none
  | k20 + 1, x1, x6, x9, x10 => (if x9 < x10 then (if 0 ≤ (IntKind.i64.wrap (Int.tdiv (IntKind.i64.wrap (x9 + x10)) 2)) then (if (IntKind.i64.wrap (Int.tdiv (IntKind.i64.wrap (x9 + x10)) 2)) < (x1.length : Int) then (if ((x1.getD (((IntKind.i64.wrap (Int.tdiv (IntKind.i64.wrap (x9 + x10)) 2))).toNat) z63).var) < x6 then (spec_l5index.l0 k20 x1 x6 (IntKind.i64.wrap ((IntKind.i64.wrap (Int.tdiv (IntKind.i64.wrap (x9 + x10)) 2)) + 1)) x10) else (spec_l5index.l0 k20 x1 x6 x9 (IntKind.i64.wrap (Int.tdiv (IntKind.i64.wrap (x9 + x10)) 2)))) else none) else none) else (if x9 < (x1.length : Int) then (if 0 ≤ x9 then (if ((x1.getD ((x9).toNat) z63).var) = x6 then some x9 else some (-1)) else none) else some (-1)))
def spec_l5index.f (k : Nat) (x1 : List Binding) (x6 : Int) : Option Int := (spec_l5index.l0 k x1 x6 0 (x1.length : Int))
theorem spec_l5index.calls (k : Nat) (w : World) (H : Hp) (x1 : List Binding) (A2 : Option Addr) (c3 : Nat) (x6 : Int) (h4 : Rd st63 H A2 x1) (l5 : x1.length ≤ c3) (S : Own [] H w) (r : Int) (M : spec_l5index.f k x1 x6 = some r) :
    Calls Try.prog 85 #[.slice A2 x1.length c3, .int .i64 x6] w (fun e e_w => e = .returned (.int .i64 r) ∧ Chg no w e_w) := by
  rw [spec_l5index.f] at M
  refine enter (l := [.slice A2 x1.length c3, .int .i64 x6]) 41 Try.func85 rfl rfl rfl ?_
  have S0_ := S.st
  refine wp_seq ?_
  refine wp_region_lit ?_
  refine lv (d := 4) rfl rfl (by kernel_rfl) (e_assign (v := .int .i64 0) rfl) ?_
  refine wpList_nil ?_
  refine then_n ?_
  refine wp_seq ?_
  refine wp_region_lit ?_
  refine lv (d := 5) rfl rfl (by kernel_rfl) (e_assign (v := .int .i64 0) rfl) ?_
  refine wpList_nil ?_
  refine then_n ?_
  refine wp_seq ?_
  refine wp_region_lit ?_
  refine lv (d := 8) rfl rfl (by kernel_rfl) (e_move (v := .slice A2 x1.length c3) (by kernel_rfl)) ?_
  refine lv (d := 9) rfl rfl (by kernel_rfl) (e_len (A := A2) (n := x1.length) (c := c3) Try.underlying52 (by kernel_rfl)) ?_
  refine lv (d := 6) rfl rfl (by kernel_rfl) (e_assign (v := .int .i64 (x1.length : Int)) (by kernel_rfl)) ?_
  refine wpList_nil ?_
  refine then_n ?_
  refine wp_seq ?_
  refine wp_block ?_
  refine wp_loop_g (fun k18 a19 w7 => ∃ (f8 : Nat → Value) (x9 : Int) (x10 : Int), a19 = mk 41 f8 ∧ f8 0 = .slice A2 x1.length c3 ∧ f8 1 = .int .i64 x6 ∧ f8 5 = .int .i64 x9 ∧ f8 6 = .int .i64 x10 ∧ St (anyOf []) H w [] H w7 ∧ spec_l5index.l0 k18 x1 x6 x9 x10 = some r) k ⟨_, 0, (x1.length : Int), rfl, (by kernel_rfl), (by kernel_rfl), (by kernel_rfl), (by kernel_rfl), S0_, M⟩ ?_
  clear M
  rintro k18 a19 w7 ⟨f8, x9, x10, rfl, e11, e12, e13, e14, S15, M⟩
  rcases k18 with _ | k20
  · rw [spec_l5index.l0] at M
    cases M
  rw [spec_l5index.l0] at M
  refine wp_seq ?_
  refine wp_seq ?_
  refine wp_region_lit ?_
  refine lv (d := 10) rfl rfl (by kernel_rfl) (e_move (v := .int .i64 x9) (by exact e13)) ?_
  refine lv (d := 11) rfl rfl (by kernel_rfl) (e_move (v := .int .i64 x10) (by exact e14)) ?_
  refine lv (d := 12) rfl rfl (by kernel_rfl) (e_lss (k := .i64) (a := x9) (b := x10) (by kernel_rfl) (by kernel_rfl)) ?_
  refine wpList_nil ?_
  refine then_n ?_
  by_cases q21 : x9 < x10
  · replace M := ifp q21 M
    refine cond_t rfl (bt q21 (by kernel_rfl)) ?_
    refine wp_skip ?_
    refine then_n ?_
    refine wp_block ?_
    refine wp_seq ?_
    refine wp_region_lit ?_
    refine lv (d := 13) rfl rfl (by kernel_rfl) (e_move (v := .int .i64 x9) (by exact e13)) ?_
    refine lv (d := 14) rfl rfl (by kernel_rfl) (e_move (v := .int .i64 x10) (by exact e14)) ?_
    refine lv (d := 15) rfl rfl (by kernel_rfl) (e_add (k := .i64) (a := x9) (b := x10) (by kernel_rfl) (by kernel_rfl)) ?_
    refine lv (d := 16) rfl rfl (by kernel_rfl) (e_quo (k := .i64) (a := (IntKind.i64.wrap (x9 + x10))) (b := 2) (by kernel_rfl) rfl (by decide)) ?_
    refine lv (d := 7) rfl rfl (by kernel_rfl) (e_assign (v := .int .i64 (IntKind.i64.wrap (Int.tdiv (IntKind.i64.wrap (x9 + x10)) 2))) (by kernel_rfl)) ?_
    refine wpList_nil ?_
    refine then_n ?_
    refine wp_seq ?_
    refine wp_region_lit ?_
    refine lv (d := 17) rfl rfl (by kernel_rfl) (e_move (v := .slice A2 x1.length c3) (by exact e11)) ?_
    refine lv (d := 18) rfl rfl (by kernel_rfl) (e_move (v := .int .i64 (IntKind.i64.wrap (Int.tdiv (IntKind.i64.wrap (x9 + x10)) 2))) (by kernel_rfl)) ?_
    obtain ⟨q22, M⟩ := chk M
    obtain ⟨q23, M⟩ := chk M
    obtain ⟨b24, o25, e26⟩ := Rd.addr h4 (show ((IntKind.i64.wrap (Int.tdiv (IntKind.i64.wrap (x9 + x10)) 2))).toNat < x1.length by omega)
    obtain ⟨y27, r28, k29⟩ := Rd.at h4 e26 (getD_some z63 (show ((IntKind.i64.wrap (Int.tdiv (IntKind.i64.wrap (x9 + x10)) 2))).toNat < x1.length by omega))
    obtain ⟨A30, c31, rfl, l32, h33⟩ := st63_open r28
    refine lv (d := 19) rfl rfl (by kernel_rfl) (e_indexAddr (b := b24) (off := o25) (n := x1.length) (c := c3) (sz := 2) (i := (IntKind.i64.wrap (Int.tdiv (IntKind.i64.wrap (x9 + x10)) 2))) (k := .i64) Try.underlying52 e26 (by kernel_rfl) (by kernel_rfl) (by kernel_rfl) q22 q23) ?_
    refine lv (d := 20) rfl rfl (by kernel_rfl) (e_fieldAddr (b := b24) (off := o25 + ((IntKind.i64.wrap (Int.tdiv (IntKind.i64.wrap (x9 + x10)) 2)) : Int).toNat * 2) (o := 0) Try.underlying63 rfl rfl (sz := 1) (by kernel_rfl) (by decide) (by kernel_rfl)) ?_
    refine lv (d := 21) rfl rfl (by kernel_rfl) (e_load1 (ad := ⟨b24, o25 + ((IntKind.i64.wrap (Int.tdiv (IntKind.i64.wrap (x9 + x10)) 2)) : Int).toNat * 2 + 0, none⟩) (v := .int .i64 ((x1.getD (((IntKind.i64.wrap (Int.tdiv (IntKind.i64.wrap (x9 + x10)) 2))).toNat) z63).var)) Try.underlying3 rfl (by kernel_rfl) (hpx (S15.inv.cell (k29 0 _ rfl)))) ?_
    refine lv (d := 22) rfl rfl (by kernel_rfl) (e_move (v := .int .i64 x6) (by exact e12)) ?_
    refine lv (d := 23) rfl rfl (by kernel_rfl) (e_lss (k := .i64) (a := (x1.getD (((IntKind.i64.wrap (Int.tdiv (IntKind.i64.wrap (x9 + x10)) 2))).toNat) z63).var) (b := x6) (by kernel_rfl) (by kernel_rfl)) ?_
    refine wpList_nil ?_
    refine then_n ?_
    by_cases q34 : ((x1.getD (((IntKind.i64.wrap (Int.tdiv (IntKind.i64.wrap (x9 + x10)) 2))).toNat) z63).var) < x6
    · replace M := ifp q34 M
      refine cond_t rfl (bt q34 (by kernel_rfl)) ?_
      refine wp_region_lit ?_
      refine lv (d := 24) rfl rfl (by kernel_rfl) (e_move (v := .int .i64 (IntKind.i64.wrap (Int.tdiv (IntKind.i64.wrap (x9 + x10)) 2))) (by kernel_rfl)) ?_
      refine lv (d := 25) rfl rfl (by kernel_rfl) (e_add (k := .i64) (a := (IntKind.i64.wrap (Int.tdiv (IntKind.i64.wrap (x9 + x10)) 2))) (b := 1) (by kernel_rfl) rfl) ?_
      refine lv (d := 5) rfl rfl (by kernel_rfl) (e_assign (v := .int .i64 (IntKind.i64.wrap ((IntKind.i64.wrap (Int.tdiv (IntKind.i64.wrap (x9 + x10)) 2)) + 1))) (by kernel_rfl)) ?_
      refine wpList_nil ?_
      refine inb_n ?_
      refine then_n ?_
      exact ⟨k20, (by omega), _, (IntKind.i64.wrap ((IntKind.i64.wrap (Int.tdiv (IntKind.i64.wrap (x9 + x10)) 2)) + 1)), x10, rfl, (by exact e11), (by exact e12), (by kernel_rfl), (by exact e14), S15, M⟩
    replace M := ifn q34 M
    refine cond_f rfl (bf q34 (by kernel_rfl)) ?_
    refine wp_region_lit ?_
    refine lv (d := 26) rfl rfl (by kernel_rfl) (e_move (v := .int .i64 (IntKind.i64.wrap (Int.tdiv (IntKind.i64.wrap (x9 + x10)) 2))) (by kernel_rfl)) ?_
    refine lv (d := 6) rfl rfl (by kernel_rfl) (e_assign (v := .int .i64 (IntKind.i64.wrap (Int.tdiv (IntKind.i64.wrap (x9 + x10)) 2))) (by kernel_rfl)) ?_
    refine wpList_nil ?_
    refine inb_n ?_
    refine then_n ?_
    exact ⟨k20, (by omega), _, x9, (IntKind.i64.wrap (Int.tdiv (IntKind.i64.wrap (x9 + x10)) 2)), rfl, (by exact e11), (by exact e12), (by exact e13), (by kernel_rfl), S15, M⟩
  replace M := ifn q21 M
  refine cond_f rfl (bf q21 (by kernel_rfl)) ?_
  refine wp_exit ?_
  refine then_e ?_
  refine then_e ?_
  refine inb_hit ?_
  refine then_n ?_
  refine wp_seq ?_
  refine wp_seq ?_
  refine wp_region_lit ?_
  refine lv (d := 27) rfl rfl (by kernel_rfl) (e_move (v := .int .i64 x9) (by exact e13)) ?_
  refine lv (d := 28) rfl rfl (by kernel_rfl) (e_move (v := .slice A2 x1.length c3) (by exact e11)) ?_
  refine lv (d := 29) rfl rfl (by kernel_rfl) (e_len (A := A2) (n := x1.length) (c := c3) Try.underlying52 (by kernel_rfl)) ?_
  refine lv (d := 30) rfl rfl (by kernel_rfl) (e_lss (k := .i64) (a := x9) (b := (x1.length : Int)) (by kernel_rfl) (by kernel_rfl)) ?_
  refine lv (d := 31) rfl rfl (by kernel_rfl) (e_move (v := .bool (decide (x9 < (x1.length : Int)))) (by kernel_rfl)) ?_
  by_cases q35 : x9 < (x1.length : Int)
  · replace M := ifp q35 M
    refine lvg (d := 32) (t := 31) rfl (by kernel_rfl) rfl (bt q35 (by kernel_rfl)) rfl (by kernel_rfl) (e_move (v := .slice A2 x1.length c3) (by exact e11)) ?_
    refine lvg (d := 33) (t := 31) rfl (by kernel_rfl) rfl (bt q35 (by kernel_rfl)) rfl (by kernel_rfl) (e_move (v := .int .i64 x9) (by exact e13)) ?_
    obtain ⟨q36, M⟩ := chk M
    obtain ⟨b37, o38, e39⟩ := Rd.addr h4 (show (x9).toNat < x1.length by omega)
    obtain ⟨y40, r41, k42⟩ := Rd.at h4 e39 (getD_some z63 (show (x9).toNat < x1.length by omega))
    obtain ⟨A43, c44, rfl, l45, h46⟩ := st63_open r41
    refine lvg (d := 34) (t := 31) rfl (by kernel_rfl) rfl (bt q35 (by kernel_rfl)) rfl (by kernel_rfl) (e_indexAddr (b := b37) (off := o38) (n := x1.length) (c := c3) (sz := 2) (i := x9) (k := .i64) Try.underlying52 e39 (by kernel_rfl) (by kernel_rfl) (by kernel_rfl) q36 q35) ?_
    refine lvg (d := 35) (t := 31) rfl (by kernel_rfl) rfl (bt q35 (by kernel_rfl)) rfl (by kernel_rfl) (e_fieldAddr (b := b37) (off := o38 + (x9 : Int).toNat * 2) (o := 0) Try.underlying63 rfl rfl (sz := 1) (by kernel_rfl) (by decide) (by kernel_rfl)) ?_
    refine lvg (d := 36) (t := 31) rfl (by kernel_rfl) rfl (bt q35 (by kernel_rfl)) rfl (by kernel_rfl) (e_load1 (ad := ⟨b37, o38 + (x9 : Int).toNat * 2 + 0, none⟩) (v := .int .i64 ((x1.getD ((x9).toNat) z63).var)) Try.underlying3 rfl (by kernel_rfl) (hpx (S15.inv.cell (k42 0 _ rfl)))) ?_
    refine lvg (d := 37) (t := 31) rfl (by kernel_rfl) rfl (bt q35 (by kernel_rfl)) rfl (by kernel_rfl) (e_move (v := .int .i64 x6) (by exact e12)) ?_
    refine lvg (d := 38) (t := 31) rfl (by kernel_rfl) rfl (bt q35 (by kernel_rfl)) rfl (by kernel_rfl) (e_eql (k := .i64) (a := (x1.getD ((x9).toNat) z63).var) (b := x6) (by kernel_rfl) (by kernel_rfl)) ?_
    refine lv (d := 39) rfl rfl (by kernel_rfl) (e_pick_t (v := .bool (decide (((x1.getD ((x9).toNat) z63).var) = x6))) (bt q35 (by kernel_rfl)) (by kernel_rfl)) ?_
    refine wpList_nil ?_
    refine then_n ?_
    by_cases q47 : ((x1.getD ((x9).toNat) z63).var) = x6
    · replace M := ifp q47 M
      refine cond_t rfl (bt q47 (by kernel_rfl)) ?_
      refine wp_seq ?_
      refine wp_region_lit ?_
      refine lv (d := 40) rfl rfl (by kernel_rfl) (e_move (v := .int .i64 x9) (by exact e13)) ?_
      refine lv (d := 4) rfl rfl (by kernel_rfl) (e_assign (v := .int .i64 x9) (by kernel_rfl)) ?_
      refine wpList_nil ?_
      refine then_n ?_
      refine wp_ret ?_
      refine then_r ?_
      obtain rfl := Option.some.inj M
      exact ret1 rfl rfl  (show _ = .int .i64 x9 from (by kernel_rfl)) ⟨rfl, S15.chg⟩
    replace M := ifn q47 M
    refine cond_f rfl (bf q47 (by kernel_rfl)) ?_
    refine wp_skip ?_
    refine then_n ?_
    refine wp_seq ?_
    refine wp_region_lit ?_
    refine lv (d := 4) rfl rfl (by kernel_rfl) (e_assign (v := .int .i64 (-1)) rfl) ?_
    refine wpList_nil ?_
    refine then_n ?_
    refine wp_ret ?_
    obtain rfl := Option.some.inj M
    exact ret1 rfl rfl  (show _ = .int .i64 (-1) from (by kernel_rfl)) ⟨rfl, S15.chg⟩
  replace M := ifn q35 M
  refine lskip (t := 31) (c := false) rfl (by kernel_rfl) rfl (bf q35 (by kernel_rfl)) rfl rfl ?_
  refine lskip (t := 31) (c := false) rfl (by kernel_rfl) rfl (bf q35 (by kernel_rfl)) rfl rfl ?_
  refine lskip (t := 31) (c := false) rfl (by kernel_rfl) rfl (bf q35 (by kernel_rfl)) rfl rfl ?_
  refine lskip (t := 31) (c := false) rfl (by kernel_rfl) rfl (bf q35 (by kernel_rfl)) rfl rfl ?_
  refine lskip (t := 31) (c := false) rfl (by kernel_rfl) rfl (bf q35 (by kernel_rfl)) rfl rfl ?_
  refine lskip (t := 31) (c := false) rfl (by kernel_rfl) rfl (bf q35 (by kernel_rfl)) rfl rfl ?_
  refine lskip (t := 31) (c := false) rfl (by kernel_rfl) rfl (bf q35 (by kernel_rfl)) rfl rfl ?_
  refine lv (d := 39) rfl rfl (by kernel_rfl) (e_pick_f (v := .bool false) (bf q35 (by kernel_rfl)) rfl) ?_
  refine wpList_nil ?_
  refine then_n ?_
  refine cond_f rfl (by kernel_rfl) ?_
  refine wp_skip ?_
  refine then_n ?_
  refine wp_seq ?_
  refine wp_region_lit ?_
  refine lv (d := 4) rfl rfl (by kernel_rfl) (e_assign (v := .int .i64 (-1)) rfl) ?_
  refine wpList_nil ?_
  refine then_n ?_
  refine wp_ret ?_
  obtain rfl := Option.some.inj M
  exact ret1 rfl rfl  (show _ = .int .i64 (-1) from (by kernel_rfl)) ⟨rfl, S15.chg⟩

/-! spec_l5walk -/
def spec_l5walk.l0 : Nat → GL5st → (List Cell) → Option (List Cell)
  | 0, _, _ => none
  | k27 + 1, x1, x15 => (if 0 < (x15.length : Int) then (if ((x15.getD 0 z65).kind) = 0 then ((spec_l5index.f k27 x1.sub_ ((x15.getD 0 z65).n)).bind fun t50 => (if t50 < 0 then some x15 else (if 0 ≤ t50 then (if t50 < (x1.sub_.length : Int) then (spec_l5walk.l0 k27 x1 ((x1.sub_.getD ((t50).toNat) z63).term)) else none) else none))) else some x15) else none)
def spec_l5walk.f (k : Nat) (x1 : GL5st) (x8 : List Cell) : Option (List Cell) := (spec_l5walk.l0 k x1 x8)
theorem spec_l5walk.calls (k : Nat) (w : World) (H : Hp) (x1 : GL5st) (g2 : Nat) (A4 : Option Addr) (c5 : Nat) (F7 : Foot) (x8 : List Cell) (A9 : Option Addr) (c10 : Nat) (h6 : Row (ro st63) 63 H (hp w) F7 A4 c5 x1.sub_) (b3 : w.heap[g2]? = some (.cells #[.slice A4 x1.sub_.length c5, .int .i64 x1.pairs_] 106 (0, 0))) (h11 : Rd st65 H A9 x8) (l12 : x8.length ≤ c10) (S : Own [F7, (is g2)] H w) (r : List Cell) (M : spec_l5walk.f k x1 x8 = some r) :
    Calls Try.prog 115 #[.pointer (some ⟨g2, 0, none⟩), .slice A9 x8.length c10] w (fun e e_w => ∃ (A_1 : Option Addr) (c_1 : Nat) (H_ : Hp), e = .returned (.slice A_1 r.length c_1) ∧ Row (ro st63) 63 H_ (hp e_w) F7 A4 c5 x1.sub_ ∧ e_w.heap[g2]? = some (.cells #[.slice A4 x1.sub_.length c5, .int .i64 x1.pairs_] 106 (0, 0)) ∧ Rd st65 H_ A_1 r ∧ r.length ≤ c_1 ∧ St (anyOf [F7, (is g2)]) H w [F7, (is g2)] H_ e_w) := by
  rw [spec_l5walk.f] at M
  refine enter (l := [.pointer (some ⟨g2, 0, none⟩), .slice A9 x8.length c10]) 32 Try.func115 rfl rfl rfl ?_
  have S0_ := S.st
  refine wp_seq ?_
  refine wp_region_lit ?_
  refine lv (d := 4) rfl rfl (by kernel_rfl) (e_assign (v := .slice none 0 0) rfl) ?_
  refine wpList_nil ?_
  refine then_n ?_
  refine wp_seq ?_
  refine wp_block ?_
  refine wp_loop_g (fun k25 a26 w13 => ∃ (f14 : Nat → Value) (x15 : List Cell) (A16 : Option Addr) (c17 : Nat), a26 = mk 32 f14 ∧ f14 0 = .pointer (some ⟨g2, 0, none⟩) ∧ f14 1 = .slice A16 x15.length c17 ∧ Row (ro st63) 63 H (hp w13) F7 A4 c5 x1.sub_ ∧ w13.heap[g2]? = some (.cells #[.slice A4 x1.sub_.length c5, .int .i64 x1.pairs_] 106 (0, 0)) ∧ Rd st65 H A16 x15 ∧ x15.length ≤ c17 ∧ St (anyOf [F7, (is g2)]) H w [F7, (is g2)] H w13 ∧ spec_l5walk.l0 k25 x1 x15 = some r) k ⟨_, x8, A9, c10, rfl, (by kernel_rfl), (by kernel_rfl), h6, b3, h11, l12, S0_, M⟩ ?_
  clear M
  rintro k25 a26 w13 ⟨f14, x15, A16, c17, rfl, e20, e21, h6, b3, h18, l19, S22, M⟩
  rcases k25 with _ | k27
  · rw [spec_l5walk.l0] at M
    cases M
  rw [spec_l5walk.l0] at M
  refine wp_seq ?_
  refine wp_seq ?_
  refine wp_region_lit ?_
  refine lv (d := 6) rfl rfl (by kernel_rfl) (e_move (v := .slice A16 x15.length c17) (by exact e21)) ?_
  obtain ⟨q28, M⟩ := chk M
  obtain ⟨b29, o30, e31⟩ := Rd.addr h18 (show 0 < x15.length by omega)
  obtain ⟨y32, r33, k34⟩ := Rd.at h18 e31 (getD_some z65 (show 0 < x15.length by omega))
  obtain ⟨A35, c36, rfl, l37, h38⟩ := st65_open r33
  refine lv (d := 7) rfl rfl (by kernel_rfl) (e_indexAddr (b := b29) (off := o30) (n := x15.length) (c := c17) (sz := 3) (i := 0) (k := .i64) Try.underlying25 e31 (by kernel_rfl) (by kernel_rfl) rfl (by omega) q28) ?_
  refine lv (d := 8) rfl rfl (by kernel_rfl) (e_fieldAddr (b := b29) (off := o30 + (0 : Int).toNat * 3) (o := 0) Try.underlying65 rfl rfl (sz := 1) (by kernel_rfl) (by decide) (by kernel_rfl)) ?_
  refine lv (d := 9) rfl rfl (by kernel_rfl) (e_load1 (ad := ⟨b29, o30 + (0 : Int).toNat * 3 + 0, none⟩) (v := .int .i64 ((x15.getD 0 z65).kind)) Try.underlying3 rfl (by kernel_rfl) (hpx (S22.inv.cell (k34 0 _ rfl)))) ?_
  refine lv (d := 10) rfl rfl (by kernel_rfl) (e_eql (k := .i64) (a := (x15.getD 0 z65).kind) (b := 0) (by kernel_rfl) rfl) ?_
  refine wpList_nil ?_
  refine then_n ?_
  by_cases q39 : ((x15.getD 0 z65).kind) = 0
  · replace M := ifp q39 M
    refine cond_t rfl (bt q39 (by kernel_rfl)) ?_
    refine wp_skip ?_
    refine then_n ?_
    refine wp_block ?_
    refine wp_seq ?_
    refine region_quiet (by kernel_rfl) (by kernel_rfl) ?_
    refine qv (d := 11) rfl rfl (by kernel_rfl) (fun wq_ hq_ => e_move (v := .pointer (some ⟨g2, 0, none⟩)) (by exact e20)) ?_
    refine qv (d := 12) rfl rfl (by kernel_rfl) (fun wq_ hq_ => e_nilCheck (ad := ⟨g2, 0, none⟩) (by kernel_rfl)) ?_
    refine qv (d := 13) rfl rfl (by kernel_rfl) (fun wq_ hq_ => e_fieldAddr (b := g2) (off := 0) (o := 0) Try.underlying106 rfl rfl (sz := 1) (by kernel_rfl) (by decide) (by kernel_rfl)) ?_
    refine qv (d := 14) rfl rfl (by kernel_rfl) (fun wq_ hq_ => e_load1 (ad := ⟨g2, 0 + 0, none⟩) (v := .slice A4 x1.sub_.length c5) Try.underlying52 rfl (by kernel_rfl) (blk_cell ((S22.still hq_).2.blk 1 rfl b3) rfl)) ?_
    refine qv (d := 15) rfl rfl (by kernel_rfl) (fun wq_ hq_ => e_move (v := .slice A16 x15.length c17) (by exact e21)) ?_
    obtain ⟨b40, o41, e42⟩ := Rd.addr h18 (show 0 < x15.length by omega)
    obtain ⟨y43, r44, k45⟩ := Rd.at h18 e42 (getD_some z65 (show 0 < x15.length by omega))
    obtain ⟨A46, c47, rfl, l48, h49⟩ := st65_open r44
    refine qv (d := 16) rfl rfl (by kernel_rfl) (fun wq_ hq_ => e_indexAddr (b := b40) (off := o41) (n := x15.length) (c := c17) (sz := 3) (i := 0) (k := .i64) Try.underlying25 e42 (by kernel_rfl) (by kernel_rfl) rfl (by omega) q28) ?_
    refine qv (d := 17) rfl rfl (by kernel_rfl) (fun wq_ hq_ => e_fieldAddr (b := b40) (off := o41 + (0 : Int).toNat * 3) (o := 1) Try.underlying65 rfl rfl (sz := 1) (by kernel_rfl) (by decide) (by kernel_rfl)) ?_
    refine qv (d := 18) rfl rfl (by kernel_rfl) (fun wq_ hq_ => e_load1 (ad := ⟨b40, o41 + (0 : Int).toNat * 3 + 1, none⟩) (v := .int .i64 ((x15.getD 0 z65).n)) Try.underlying3 rfl (by kernel_rfl) (hpx ((S22.still hq_).1.inv.cell (k45 1 _ rfl)))) ?_
    obtain ⟨t50, u51, M⟩ := bnd M
    refine qcall (v := .int .i64 t50) (d := 19) rfl rfl (by kernel_rfl) (fun w_ => e_call (l := [.tmp 14, .tmp 18]) (vs := [.slice A4 x1.sub_.length c5, .int .i64 ((x15.getD 0 z65).n)]) Try.func85 (by kernel_rfl) rfl (by kernel_rfl) rfl) (fun wq_ hq_ => (by obtain ⟨S_, K_⟩ := S22.still hq_; replace h6 := h6.move (K_.at 0 rfl); replace b3 := K_.blk 1 rfl b3; have l52 := h6.le; obtain ⟨H53, S54, E55, h56, z57⟩ := S_.frzRow h6; replace h56 := h56.unro; exact (spec_l5index.calls k27 wq_ H53 x1.sub_ A4 c5 ((x15.getD 0 z65).n) h56 l52 S54.own0 t50 u51))) ?_
    refine qv (d := 5) rfl rfl (by kernel_rfl) (fun wq_ hq_ => e_assign (v := .int .i64 t50) (by kernel_rfl)) ?_
    refine wpQuiet_nil ?_
    intro w58 C61
    obtain ⟨S59, K60⟩ := S22.still C61
    replace h6 := h6.move (K60.at 0 rfl)
    replace b3 := K60.blk 1 rfl b3
    refine then_n ?_
    refine wp_seq ?_
    refine wp_seq ?_
    refine wp_region_lit ?_
    refine lv (d := 20) rfl rfl (by kernel_rfl) (e_move (v := .int .i64 t50) (by kernel_rfl)) ?_
    refine lv (d := 21) rfl rfl (by kernel_rfl) (e_lss (k := .i64) (a := t50) (b := 0) (by kernel_rfl) rfl) ?_
    refine wpList_nil ?_
    refine then_n ?_
    by_cases q62 : t50 < 0
    · replace M := ifp q62 M
      refine cond_t rfl (bt q62 (by kernel_rfl)) ?_
      refine wp_seq ?_
      refine wp_region_lit ?_
      refine lv (d := 22) rfl rfl (by kernel_rfl) (e_move (v := .slice A16 x15.length c17) (by exact e21)) ?_
      refine lv (d := 4) rfl rfl (by kernel_rfl) (e_assign (v := .slice A16 x15.length c17) (by kernel_rfl)) ?_
      refine wpList_nil ?_
      refine then_n ?_
      refine wp_ret ?_
      refine then_r ?_
      refine inb_r ?_
      refine then_r ?_
      refine inb_r ?_
      refine then_r ?_
      obtain rfl := Option.some.inj M
      exact ret1 rfl rfl  (show _ = .slice A16 x15.length c17 from (by kernel_rfl)) ⟨A16, c17, H, rfl, h6, b3, h18, l19, S59⟩
    replace M := ifn q62 M
    refine cond_f rfl (bf q62 (by kernel_rfl)) ?_
    refine wp_skip ?_
    refine then_n ?_
    refine wp_region_lit ?_
    refine lv (d := 23) rfl rfl (by kernel_rfl) (e_move (v := .pointer (some ⟨g2, 0, none⟩)) (by exact e20)) ?_
    refine lv (d := 24) rfl rfl (by kernel_rfl) (e_nilCheck (ad := ⟨g2, 0, none⟩) (by kernel_rfl)) ?_
    refine lv (d := 25) rfl rfl (by kernel_rfl) (e_fieldAddr (b := g2) (off := 0) (o := 0) Try.underlying106 rfl rfl (sz := 1) (by kernel_rfl) (by decide) (by kernel_rfl)) ?_
    refine lv (d := 26) rfl rfl (by kernel_rfl) (e_load1 (ad := ⟨g2, 0 + 0, none⟩) (v := .slice A4 x1.sub_.length c5) Try.underlying52 rfl (by kernel_rfl) (blk_cell b3 rfl)) ?_
    refine lv (d := 27) rfl rfl (by kernel_rfl) (e_move (v := .int .i64 t50) (by kernel_rfl)) ?_
    obtain ⟨q63, M⟩ := chk M
    obtain ⟨q64, M⟩ := chk M
    obtain ⟨b65, e67⟩ := Row.addr h6 (show (t50).toNat < x1.sub_.length by omega)
    refine lv (d := 28) rfl rfl (by kernel_rfl) (e_indexAddr (b := b65) (off := 0) (n := x1.sub_.length) (c := c5) (sz := 2) (i := t50) (k := .i64) Try.underlying52 e67 (by kernel_rfl) (by kernel_rfl) (by kernel_rfl) q63 q64) ?_
    refine lv (d := 29) rfl rfl (by kernel_rfl) (e_fieldAddr (b := b65) (off := 0 + (t50 : Int).toNat * 2) (o := 1) Try.underlying63 rfl rfl (sz := 1) (by kernel_rfl) (by decide) (by kernel_rfl)) ?_
    obtain ⟨y68, F69, r70, s71, k72⟩ := Row.at h6 e67 (getD_some z63 (show (t50).toNat < x1.sub_.length by omega))
    obtain ⟨A73, c74, rfl, l75, h76⟩ := st63_open r70
    refine lv (d := 30) rfl rfl (by kernel_rfl) (e_load1 (ad := ⟨b65, 0 + (t50 : Int).toNat * 2 + 1, none⟩) (v := .slice A73 ((x1.sub_.getD ((t50).toNat) z63).term).length c74) Try.underlying25 rfl (by kernel_rfl) (hpx (k72 1 _ rfl))) ?_
    refine lv (d := 1) rfl rfl (by kernel_rfl) (e_assign (v := .slice A73 ((x1.sub_.getD ((t50).toNat) z63).term).length c74) (by kernel_rfl)) ?_
    refine wpList_nil ?_
    refine inb_n ?_
    refine then_n ?_
    exact ⟨k27, (by omega), _, ((x1.sub_.getD ((t50).toNat) z63).term), A73, c74, rfl, (by exact e20), (by kernel_rfl), h6, b3, h76, l75, S59, M⟩
  replace M := ifn q39 M
  refine cond_f rfl (bf q39 (by kernel_rfl)) ?_
  refine wp_exit ?_
  refine then_e ?_
  refine then_e ?_
  refine inb_hit ?_
  refine then_n ?_
  refine wp_seq ?_
  refine wp_region_lit ?_
  refine lv (d := 31) rfl rfl (by kernel_rfl) (e_move (v := .slice A16 x15.length c17) (by exact e21)) ?_
  refine lv (d := 4) rfl rfl (by kernel_rfl) (e_assign (v := .slice A16 x15.length c17) (by kernel_rfl)) ?_
  refine wpList_nil ?_
  refine then_n ?_
  refine wp_ret ?_
  obtain rfl := Option.some.inj M
  exact ret1 rfl rfl  (show _ = .slice A16 x15.length c17 from (by kernel_rfl)) ⟨A16, c17, H, rfl, h6, b3, h18, l19, S22⟩

/-! spec_l5bind -/
def spec_l5bind.l0 : Nat → GL5st → Int → (List Cell) → Int → Option GL5st
  | 0, _, _, _, _ => none
  | k26 + 1, x1, x8, x9, x16 => (if x16 < (x1.sub_.length : Int) then (if 0 ≤ x16 then (if ((x1.sub_.getD ((x16).toNat) z63).var) < x8 then (spec_l5bind.l0 k26 x1 x8 x9 (IntKind.i64.wrap (x16 + 1))) else (if x16 ≤ (x1.sub_.length : Int) then (if 0 + (x1.sub_.take ((x16 : Int).toNat)).length ≤ 4398046511104 then (if (x1.sub_.take ((x16 : Int).toNat)).length + 1 ≤ 4398046511104 then (if ((x1.sub_.take ((x16 : Int).toNat)) ++ [(⟨x8, x9⟩ : Binding)]).length + (x1.sub_.drop ((x16 : Int).toNat)).length ≤ 4398046511104 then some (⟨(((x1.sub_.take ((x16 : Int).toNat)) ++ [(⟨x8, x9⟩ : Binding)]) ++ (x1.sub_.drop ((x16 : Int).toNat))), x1.pairs_⟩ : GL5st) else none) else none) else none) else none)) else none) else (if 0 ≤ x16 then (if x16 ≤ (x1.sub_.length : Int) then (if 0 + (x1.sub_.take ((x16 : Int).toNat)).length ≤ 4398046511104 then (if (x1.sub_.take ((x16 : Int).toNat)).length + 1 ≤ 4398046511104 then (if ((x1.sub_.take ((x16 : Int).toNat)) ++ [(⟨x8, x9⟩ : Binding)]).length + (x1.sub_.drop ((x16 : Int).toNat)).length ≤ 4398046511104 then some (⟨(((x1.sub_.take ((x16 : Int).toNat)) ++ [(⟨x8, x9⟩ : Binding)]) ++ (x1.sub_.drop ((x16 : Int).toNat))), x1.pairs_⟩ : GL5st) else none) else none) else none) else none) else none))
def spec_l5bind.f (k : Nat) (x1 : GL5st) (x8 : Int) (x9 : List Cell) : Option GL5st := (spec_l5bind.l0 k x1 x8 x9 0)
theorem spec_l5bind.calls (k : Nat) (w : World) (H : Hp) (x1 : GL5st) (g2 : Nat) (A4 : Option Addr) (c5 : Nat) (F7 : Foot) (x8 : Int) (x9 : List Cell) (A10 : Option Addr) (c11 : Nat) (h6 : Row (ro st63) 63 H (hp w) F7 A4 c5 x1.sub_) (b3 : w.heap[g2]? = some (.cells #[.slice A4 x1.sub_.length c5, .int .i64 x1.pairs_] 106 (0, 0))) (h12 : Rd st65 H A10 x9) (l13 : x9.length ≤ c11) (S : Own [F7, (is g2)] H w) (r : GL5st) (M : spec_l5bind.f k x1 x8 x9 = some r) :
    Calls Try.prog 116 #[.pointer (some ⟨g2, 0, none⟩), .int .i64 x8, .slice A10 x9.length c11] w (fun e e_w => ∃ (A_1 : Option Addr) (c_1 : Nat) (F_1 : Foot) (H_ : Hp), e = .returned (.tuple #[]) ∧ Row (ro st63) 63 H_ (hp e_w) F_1 A_1 c_1 r.sub_ ∧ e_w.heap[g2]? = some (.cells #[.slice A_1 r.sub_.length c_1, .int .i64 r.pairs_] 106 (0, 0)) ∧ St (anyOf [F7, (is g2)]) H w [(is g2), F_1] H_ e_w) := by
  rw [spec_l5bind.f] at M
  refine enter (l := [.pointer (some ⟨g2, 0, none⟩), .int .i64 x8, .slice A10 x9.length c11]) 54 Try.func116 rfl rfl rfl ?_
  have S0_ := S.st
  refine wp_seq ?_
  refine wp_region_lit ?_
  refine lv (d := 6) rfl rfl (by kernel_rfl) (e_assign (v := .int .i64 0) rfl) ?_
  refine wpList_nil ?_
  refine then_n ?_
  refine wp_seq ?_
  refine wp_block ?_
  refine wp_loop_g (fun k24 a25 w14 => ∃ (f15 : Nat → Value) (x16 : Int), a25 = mk 54 f15 ∧ f15 0 = .pointer (some ⟨g2, 0, none⟩) ∧ f15 1 = .int .i64 x8 ∧ f15 2 = .slice A10 x9.length c11 ∧ f15 6 = .int .i64 x16 ∧ Row (ro st63) 63 H (hp w14) F7 A4 c5 x1.sub_ ∧ w14.heap[g2]? = some (.cells #[.slice A4 x1.sub_.length c5, .int .i64 x1.pairs_] 106 (0, 0)) ∧ St (anyOf [F7, (is g2)]) H w [F7, (is g2)] H w14 ∧ spec_l5bind.l0 k24 x1 x8 x9 x16 = some r) k ⟨_, 0, rfl, (by kernel_rfl), (by kernel_rfl), (by kernel_rfl), (by kernel_rfl), h6, b3, S0_, M⟩ ?_
  clear M
  rintro k24 a25 w14 ⟨f15, x16, rfl, e17, e18, e19, e20, h6, b3, S21, M⟩
  rcases k24 with _ | k26
  · rw [spec_l5bind.l0] at M
    cases M
  rw [spec_l5bind.l0] at M
  refine wp_seq ?_
  refine wp_seq ?_
  refine wp_region_lit ?_
  refine lv (d := 8) rfl rfl (by kernel_rfl) (e_move (v := .int .i64 x16) (by exact e20)) ?_
  refine lv (d := 9) rfl rfl (by kernel_rfl) (e_move (v := .pointer (some ⟨g2, 0, none⟩)) (by exact e17)) ?_
  refine lv (d := 10) rfl rfl (by kernel_rfl) (e_nilCheck (ad := ⟨g2, 0, none⟩) (by kernel_rfl)) ?_
  refine lv (d := 11) rfl rfl (by kernel_rfl) (e_fieldAddr (b := g2) (off := 0) (o := 0) Try.underlying106 rfl rfl (sz := 1) (by kernel_rfl) (by decide) (by kernel_rfl)) ?_
  refine lv (d := 12) rfl rfl (by kernel_rfl) (e_load1 (ad := ⟨g2, 0 + 0, none⟩) (v := .slice A4 x1.sub_.length c5) Try.underlying52 rfl (by kernel_rfl) (blk_cell b3 rfl)) ?_
  refine lv (d := 13) rfl rfl (by kernel_rfl) (e_len (A := A4) (n := x1.sub_.length) (c := c5) Try.underlying52 (by kernel_rfl)) ?_
  refine lv (d := 14) rfl rfl (by kernel_rfl) (e_lss (k := .i64) (a := x16) (b := (x1.sub_.length : Int)) (by kernel_rfl) (by kernel_rfl)) ?_
  refine lv (d := 15) rfl rfl (by kernel_rfl) (e_move (v := .bool (decide (x16 < (x1.sub_.length : Int)))) (by kernel_rfl)) ?_
  by_cases q27 : x16 < (x1.sub_.length : Int)
  · replace M := ifp q27 M
    refine lvg (d := 16) (t := 15) rfl (by kernel_rfl) rfl (bt q27 (by kernel_rfl)) rfl (by kernel_rfl) (e_move (v := .pointer (some ⟨g2, 0, none⟩)) (by exact e17)) ?_
    refine lvg (d := 17) (t := 15) rfl (by kernel_rfl) rfl (bt q27 (by kernel_rfl)) rfl (by kernel_rfl) (e_nilCheck (ad := ⟨g2, 0, none⟩) (by kernel_rfl)) ?_
    refine lvg (d := 18) (t := 15) rfl (by kernel_rfl) rfl (bt q27 (by kernel_rfl)) rfl (by kernel_rfl) (e_fieldAddr (b := g2) (off := 0) (o := 0) Try.underlying106 rfl rfl (sz := 1) (by kernel_rfl) (by decide) (by kernel_rfl)) ?_
    refine lvg (d := 19) (t := 15) rfl (by kernel_rfl) rfl (bt q27 (by kernel_rfl)) rfl (by kernel_rfl) (e_load1 (ad := ⟨g2, 0 + 0, none⟩) (v := .slice A4 x1.sub_.length c5) Try.underlying52 rfl (by kernel_rfl) (blk_cell b3 rfl)) ?_
    refine lvg (d := 20) (t := 15) rfl (by kernel_rfl) rfl (bt q27 (by kernel_rfl)) rfl (by kernel_rfl) (e_move (v := .int .i64 x16) (by exact e20)) ?_
    obtain ⟨q28, M⟩ := chk M
    obtain ⟨b29, e31⟩ := Row.addr h6 (show (x16).toNat < x1.sub_.length by omega)
    refine lvg (d := 21) (t := 15) rfl (by kernel_rfl) rfl (bt q27 (by kernel_rfl)) rfl (by kernel_rfl) (e_indexAddr (b := b29) (off := 0) (n := x1.sub_.length) (c := c5) (sz := 2) (i := x16) (k := .i64) Try.underlying52 e31 (by kernel_rfl) (by kernel_rfl) (by kernel_rfl) q28 q27) ?_
    refine lvg (d := 22) (t := 15) rfl (by kernel_rfl) rfl (bt q27 (by kernel_rfl)) rfl (by kernel_rfl) (e_fieldAddr (b := b29) (off := 0 + (x16 : Int).toNat * 2) (o := 0) Try.underlying63 rfl rfl (sz := 1) (by kernel_rfl) (by decide) (by kernel_rfl)) ?_
    refine lvg (d := 23) (t := 15) rfl (by kernel_rfl) rfl (bt q27 (by kernel_rfl)) rfl (by kernel_rfl) (e_load1 (ad := ⟨b29, 0 + (x16 : Int).toNat * 2 + 0, none⟩) (v := .int .i64 ((x1.sub_.getD ((x16).toNat) z63).var)) Try.underlying3 rfl (by kernel_rfl) (hpx (Row.pick (j := 0) (u := .int .i64 ((x1.sub_.getD ((x16).toNat) z63).var)) h6 e31 (getD_some z63 (show (x16).toNat < x1.sub_.length by omega)) (fun _ _ o_ => st63_r0 o_)))) ?_
    refine lvg (d := 24) (t := 15) rfl (by kernel_rfl) rfl (bt q27 (by kernel_rfl)) rfl (by kernel_rfl) (e_move (v := .int .i64 x8) (by exact e18)) ?_
    refine lvg (d := 25) (t := 15) rfl (by kernel_rfl) rfl (bt q27 (by kernel_rfl)) rfl (by kernel_rfl) (e_lss (k := .i64) (a := (x1.sub_.getD ((x16).toNat) z63).var) (b := x8) (by kernel_rfl) (by kernel_rfl)) ?_
    refine lv (d := 26) rfl rfl (by kernel_rfl) (e_pick_t (v := .bool (decide (((x1.sub_.getD ((x16).toNat) z63).var) < x8))) (bt q27 (by kernel_rfl)) (by kernel_rfl)) ?_
    refine wpList_nil ?_
    refine then_n ?_
    by_cases q32 : ((x1.sub_.getD ((x16).toNat) z63).var) < x8
    · replace M := ifp q32 M
      refine cond_t rfl (bt q32 (by kernel_rfl)) ?_
      refine wp_skip ?_
      refine then_n ?_
      refine wp_block ?_
      refine wp_region_lit ?_
      refine lv (d := 27) rfl rfl (by kernel_rfl) (e_move (v := .int .i64 x16) (by exact e20)) ?_
      refine lv (d := 28) rfl rfl (by kernel_rfl) (e_add (k := .i64) (a := x16) (b := 1) (by kernel_rfl) rfl) ?_
      refine lv (d := 6) rfl rfl (by kernel_rfl) (e_assign (v := .int .i64 (IntKind.i64.wrap (x16 + 1))) (by kernel_rfl)) ?_
      refine wpList_nil ?_
      refine inb_n ?_
      refine then_n ?_
      exact ⟨k26, (by omega), _, (IntKind.i64.wrap (x16 + 1)), rfl, (by exact e17), (by exact e18), (by exact e19), (by kernel_rfl), h6, b3, S21, M⟩
    replace M := ifn q32 M
    refine cond_f rfl (bf q32 (by kernel_rfl)) ?_
    refine wp_exit ?_
    refine then_e ?_
    refine then_e ?_
    refine inb_hit ?_
    refine then_n ?_
    refine wp_seq ?_
    refine wp_region_lit ?_
    refine lv (d := 7) rfl rfl (by kernel_rfl) (e_assign (v := .slice none 0 0) rfl) ?_
    refine wpList_nil ?_
    refine then_n ?_
    refine wp_seq ?_
    refine wp_region_lit ?_
    refine lv (d := 29) rfl rfl (by kernel_rfl) (e_move (v := .slice none 0 0) (by kernel_rfl)) ?_
    refine lv (d := 30) rfl rfl (by kernel_rfl) (e_move (v := .pointer (some ⟨g2, 0, none⟩)) (by exact e17)) ?_
    refine lv (d := 31) rfl rfl (by kernel_rfl) (e_nilCheck (ad := ⟨g2, 0, none⟩) (by kernel_rfl)) ?_
    refine lv (d := 32) rfl rfl (by kernel_rfl) (e_fieldAddr (b := g2) (off := 0) (o := 0) Try.underlying106 rfl rfl (sz := 1) (by kernel_rfl) (by decide) (by kernel_rfl)) ?_
    refine lv (d := 33) rfl rfl (by kernel_rfl) (e_load1 (ad := ⟨g2, 0 + 0, none⟩) (v := .slice A4 x1.sub_.length c5) Try.underlying52 rfl (by kernel_rfl) (blk_cell b3 rfl)) ?_
    refine lv (d := 34) rfl rfl (by kernel_rfl) (e_move (v := .int .i64 x16) (by exact e20)) ?_
    have l33 := h6.le
    obtain ⟨H34, S35, E36, h37, z38⟩ := S21.frzRow h6
    replace h37 := h37.unro
    obtain ⟨q39, M⟩ := chk M
    refine lv (d := 35) rfl rfl (by kernel_rfl) (e_slice_h (xs := x1.sub_) (n := x1.sub_.length) (m := 2) (cap := c5) (A := A4) (b := x16) (k2 := .i64) Try.underlying52 (by kernel_rfl) (by kernel_rfl) (by kernel_rfl) q28 q39 (by have := l33; have := (rfl : x1.sub_.length = x1.sub_.length); omega) (take_len q28 q39 rfl)) ?_
    have h40 := Rd.take (n := (x16 : Int).toNat) h37
    have l41 : (x1.sub_.take ((x16 : Int).toNat)).length ≤ c5 := by rw [List.length_take]; have := l33; omega
    obtain ⟨y42, h43, h44⟩ := Rd.news (d := (ro st63)) (ro_ro _) S35 (Rd.toro h40)
    obtain ⟨q45, M⟩ := chk M
    have S46 := S35.unit
    have S47 := S46.unit
    have S48 := S47.pull (F := no) (Fr := [no, (is g2)]) 1 rfl rfl
    refine lve (d := 36) rfl rfl (by kernel_rfl) (e_append (d := (ro st63)) (n := 0) (xs := []) (cap := 0) (A := none) (ys := (x1.sub_.take ((x16 : Int).toNat))) (A2 := A4) (c2 := c5) (z := .agg #[.int .i64 0, .slice none 0 0]) (bytes := 32) S48 Try.underlying52 (by kernel_rfl) rfl (by decide) (by kernel_rfl) rfl (by kernel_rfl) (Row.nil _ _ _ _ no) h43 h44 (show (0 + (x1.sub_.take ((x16 : Int).toNat)).length) * 32 ≤ _ by first | omega | (simp only [List.length_cons, List.length_nil]; omega)) (by decide)) ?_
    rintro _ w49 ⟨A50, c51, F52, rfl, h53, S54, K55⟩
    replace b3 := K55.blk 0 rfl b3
    replace h53 : Row (ro st63) 63 H34 (hp w49) F52 A50 c51 (x1.sub_.take ((x16 : Int).toNat)) := h53
    refine lv (d := 7) rfl rfl (by kernel_rfl) (e_assign (v := .slice A50 ((x1.sub_.take ((x16 : Int).toNat)).length) c51) (by kernel_rfl)) ?_
    refine wpList_nil ?_
    refine then_n ?_
    refine wp_seq ?_
    refine wp_region_lit ?_
    refine lv (d := 37) rfl rfl (by kernel_rfl) (e_move (v := .slice A50 ((x1.sub_.take ((x16 : Int).toNat)).length) c51) (by kernel_rfl)) ?_
    refine lv (d := 38) rfl rfl (by kernel_rfl) (e_move (v := .int .i64 x8) (by exact e18)) ?_
    refine lv (d := 39) rfl rfl (by kernel_rfl) (e_move (v := .slice A10 x9.length c11) (by exact e19)) ?_
    refine lv (d := 40) rfl rfl (by kernel_rfl) (show _ = Result.ok (Next.value (.agg #[.int .i64 x8, .slice A10 x9.length c11])) w49 from by kernel_rfl) ?_
    refine lve (d := 41) rfl rfl (by kernel_rfl) (new_blk (v := fun g_ => .slice (some ⟨g_, 0, none⟩) 1 1) (cs := #[.int .i64 x8, .slice A10 x9.length c11]) (t := 63) S54 (by kernel_rfl)) ?_
    rintro _ w56 ⟨g57, rfl, b58, S59, K60⟩
    replace h53 := h53.move (K60.at 0 rfl)
    replace b3 := K60.blk 1 rfl b3
    obtain ⟨q61, M⟩ := chk M
    have S62 := S59.pull (F := F52) (Fr := [(is g57), (is g2)]) 1 rfl rfl
    have S63 := S62.unit
    have S64 := S63.pull (F := F52) (Fr := [no, (is g57), (is g2)]) 1 rfl rfl
    refine lve (d := 42) rfl rfl (by kernel_rfl) (e_append (d := (ro st63)) (n := (x1.sub_.take ((x16 : Int).toNat)).length) (xs := (x1.sub_.take ((x16 : Int).toNat))) (cap := c51) (A := A50) (ys := [(⟨x8, x9⟩ : Binding)]) (A2 := (some ⟨g57, 0, none⟩)) (c2 := 1) (z := .agg #[.int .i64 0, .slice none 0 0]) (bytes := 32) S64 Try.underlying52 (by kernel_rfl) rfl (by decide) (by kernel_rfl) rfl (by kernel_rfl) h53 (elsO_one1 (st63_mkR (x := (⟨x8, x9⟩ : Binding)) l13 (h12.ext E36))) (.inr (blk_news b58 rfl)) (show ((x1.sub_.take ((x16 : Int).toNat)).length + [(⟨x8, x9⟩ : Binding)].length) * 32 ≤ _ by first | omega | (simp only [List.length_cons, List.length_nil]; omega)) (by decide)) ?_
    rintro _ w65 ⟨A66, c67, F68, rfl, h69, S70, K71⟩
    replace b58 := K71.blk 0 rfl b58
    replace b3 := K71.blk 1 rfl b3
    refine lv (d := 7) rfl rfl (by kernel_rfl) (e_assign (v := .slice A66 (((x1.sub_.take ((x16 : Int).toNat)) ++ [(⟨x8, x9⟩ : Binding)]).length) c67) (by kernel_rfl)) ?_
    refine wpList_nil ?_
    refine then_n ?_
    refine wp_region_lit ?_
    refine lv (d := 43) rfl rfl (by kernel_rfl) (e_move (v := .pointer (some ⟨g2, 0, none⟩)) (by exact e17)) ?_
    refine lv (d := 44) rfl rfl (by kernel_rfl) (e_move (v := .slice A66 (((x1.sub_.take ((x16 : Int).toNat)) ++ [(⟨x8, x9⟩ : Binding)]).length) c67) (by kernel_rfl)) ?_
    refine lv (d := 45) rfl rfl (by kernel_rfl) (e_move (v := .pointer (some ⟨g2, 0, none⟩)) (by exact e17)) ?_
    refine lv (d := 46) rfl rfl (by kernel_rfl) (e_nilCheck (ad := ⟨g2, 0, none⟩) (by kernel_rfl)) ?_
    refine lv (d := 47) rfl rfl (by kernel_rfl) (e_fieldAddr (b := g2) (off := 0) (o := 0) Try.underlying106 rfl rfl (sz := 1) (by kernel_rfl) (by decide) (by kernel_rfl)) ?_
    refine lv (d := 48) rfl rfl (by kernel_rfl) (e_load1 (ad := ⟨g2, 0 + 0, none⟩) (v := .slice A4 x1.sub_.length c5) Try.underlying52 rfl (by kernel_rfl) (blk_cell b3 rfl)) ?_
    refine lv (d := 49) rfl rfl (by kernel_rfl) (e_move (v := .int .i64 x16) (by exact e20)) ?_
    obtain ⟨A72, h75, l74, h73⟩ := Rd.sub1 (d := st63) (n := x1.sub_.length) (m := 2) (cap := c5) (a := x16) rfl h37 q28 q39 rfl l33
    refine lv (d := 50) rfl rfl (by kernel_rfl) (e_slice_l (n := x1.sub_.length) (m := 2) (cap := c5) (A := A4) (a := x16) (k := .i64) Try.underlying52 (by kernel_rfl) (by kernel_rfl) (by kernel_rfl) q28 q39 l33 h75) ?_
    obtain ⟨y76, h77, h78⟩ := Rd.news (d := (ro st63)) (ro_ro _) S70 (Rd.toro h73)
    obtain ⟨q79, M⟩ := chk M
    have S80 := S70.unit
    have S81 := S80.pull (F := F68) (Fr := [no, (is g57), (is g2)]) 1 rfl rfl
    refine lve (d := 51) rfl rfl (by kernel_rfl) (e_append (d := (ro st63)) (n := ((x1.sub_.take ((x16 : Int).toNat)) ++ [(⟨x8, x9⟩ : Binding)]).length) (xs := ((x1.sub_.take ((x16 : Int).toNat)) ++ [(⟨x8, x9⟩ : Binding)])) (cap := c67) (A := A66) (ys := (x1.sub_.drop ((x16 : Int).toNat))) (A2 := A72) (c2 := (c5 - ((x16 : Int).toNat))) (z := .agg #[.int .i64 0, .slice none 0 0]) (bytes := 32) S81 Try.underlying52 (by kernel_rfl) rfl (by decide) (by kernel_rfl) rfl (by kernel_rfl) h69 h77 h78 (show (((x1.sub_.take ((x16 : Int).toNat)) ++ [(⟨x8, x9⟩ : Binding)]).length + (x1.sub_.drop ((x16 : Int).toNat)).length) * 32 ≤ _ by first | omega | (simp only [List.length_cons, List.length_nil]; omega)) (by decide)) ?_
    rintro _ w82 ⟨A83, c84, F85, rfl, h86, S87, K88⟩
    replace b58 := K88.blk 0 rfl b58
    replace b3 := K88.blk 1 rfl b3
    refine lv (d := 52) rfl rfl (by kernel_rfl) (e_nilCheck (ad := ⟨g2, 0, none⟩) (by kernel_rfl)) ?_
    refine lv (d := 53) rfl rfl (by kernel_rfl) (e_fieldAddr (b := g2) (off := 0) (o := 0) Try.underlying106 rfl rfl (sz := 1) (by kernel_rfl) (by decide) (by kernel_rfl)) ?_
    have S89 := S87.pull (F := (is g2)) (Fr := [F85, (is g57)]) 2 rfl rfl
    refine lse rfl rfl (by kernel_rfl) (e_store (g := g2) (o := 0 + 0) (v := .slice A83 ((((x1.sub_.take ((x16 : Int).toNat)) ++ [(⟨x8, x9⟩ : Binding)]) ++ (x1.sub_.drop ((x16 : Int).toNat))).length) c84) (cur' := #[.slice A83 ((((x1.sub_.take ((x16 : Int).toNat)) ++ [(⟨x8, x9⟩ : Binding)]) ++ (x1.sub_.drop ((x16 : Int).toNat))).length) c84, .int .i64 x1.pairs_]) (vs := [.slice A83 ((((x1.sub_.take ((x16 : Int).toNat)) ++ [(⟨x8, x9⟩ : Binding)]) ++ (x1.sub_.drop ((x16 : Int).toNat))).length) c84]) S89 (by kernel_rfl) (by kernel_rfl) rfl (by kernel_rfl) b3 (Nat.le_of_ble_eq_true rfl) (List.forall_mem_cons.2 ⟨rfl, (fun _ h_ => by cases h_)⟩) rfl) ?_
    rintro w90 ⟨b91, S92, K93⟩
    replace h86 := h86.move (K93.at 0 rfl)
    replace b58 := K93.blk 1 rfl b58
    clear b3
    refine wpList_nil ?_
    obtain rfl := Option.some.inj M
    have S94 := S92.pull (F := F85) (Fr := [(is g2), (is g57)]) 1 rfl rfl
    have S95 := S94.pull (F := (is g2)) (Fr := [F85, (is g57)]) 1 rfl rfl
    have S96 := St.first (Fa := [(is g2), F85]) (Fr := [(is g57)]) S95
    exact end0 rfl ⟨A83, c84, F85, H34, rfl, h86, b91, S96⟩
  replace M := ifn q27 M
  refine lskip (t := 15) (c := false) rfl (by kernel_rfl) rfl (bf q27 (by kernel_rfl)) rfl rfl ?_
  refine lskip (t := 15) (c := false) rfl (by kernel_rfl) rfl (bf q27 (by kernel_rfl)) rfl rfl ?_
  refine lskip (t := 15) (c := false) rfl (by kernel_rfl) rfl (bf q27 (by kernel_rfl)) rfl rfl ?_
  refine lskip (t := 15) (c := false) rfl (by kernel_rfl) rfl (bf q27 (by kernel_rfl)) rfl rfl ?_
  refine lskip (t := 15) (c := false) rfl (by kernel_rfl) rfl (bf q27 (by kernel_rfl)) rfl rfl ?_
  refine lskip (t := 15) (c := false) rfl (by kernel_rfl) rfl (bf q27 (by kernel_rfl)) rfl rfl ?_
  refine lskip (t := 15) (c := false) rfl (by kernel_rfl) rfl (bf q27 (by kernel_rfl)) rfl rfl ?_
  refine lskip (t := 15) (c := false) rfl (by kernel_rfl) rfl (bf q27 (by kernel_rfl)) rfl rfl ?_
  refine lskip (t := 15) (c := false) rfl (by kernel_rfl) rfl (bf q27 (by kernel_rfl)) rfl rfl ?_
  refine lskip (t := 15) (c := false) rfl (by kernel_rfl) rfl (bf q27 (by kernel_rfl)) rfl rfl ?_
  refine lv (d := 26) rfl rfl (by kernel_rfl) (e_pick_f (v := .bool false) (bf q27 (by kernel_rfl)) rfl) ?_
  refine wpList_nil ?_
  refine then_n ?_
  refine cond_f rfl (by kernel_rfl) ?_
  refine wp_exit ?_
  refine then_e ?_
  refine then_e ?_
  refine inb_hit ?_
  refine then_n ?_
  refine wp_seq ?_
  refine wp_region_lit ?_
  refine lv (d := 7) rfl rfl (by kernel_rfl) (e_assign (v := .slice none 0 0) rfl) ?_
  refine wpList_nil ?_
  refine then_n ?_
  refine wp_seq ?_
  refine wp_region_lit ?_
  refine lv (d := 29) rfl rfl (by kernel_rfl) (e_move (v := .slice none 0 0) (by kernel_rfl)) ?_
  refine lv (d := 30) rfl rfl (by kernel_rfl) (e_move (v := .pointer (some ⟨g2, 0, none⟩)) (by exact e17)) ?_
  refine lv (d := 31) rfl rfl (by kernel_rfl) (e_nilCheck (ad := ⟨g2, 0, none⟩) (by kernel_rfl)) ?_
  refine lv (d := 32) rfl rfl (by kernel_rfl) (e_fieldAddr (b := g2) (off := 0) (o := 0) Try.underlying106 rfl rfl (sz := 1) (by kernel_rfl) (by decide) (by kernel_rfl)) ?_
  refine lv (d := 33) rfl rfl (by kernel_rfl) (e_load1 (ad := ⟨g2, 0 + 0, none⟩) (v := .slice A4 x1.sub_.length c5) Try.underlying52 rfl (by kernel_rfl) (blk_cell b3 rfl)) ?_
  refine lv (d := 34) rfl rfl (by kernel_rfl) (e_move (v := .int .i64 x16) (by exact e20)) ?_
  have l97 := h6.le
  obtain ⟨H98, S99, E100, h101, z102⟩ := S21.frzRow h6
  replace h101 := h101.unro
  obtain ⟨q103, M⟩ := chk M
  obtain ⟨q104, M⟩ := chk M
  refine lv (d := 35) rfl rfl (by kernel_rfl) (e_slice_h (xs := x1.sub_) (n := x1.sub_.length) (m := 2) (cap := c5) (A := A4) (b := x16) (k2 := .i64) Try.underlying52 (by kernel_rfl) (by kernel_rfl) (by kernel_rfl) q103 q104 (by have := l97; have := (rfl : x1.sub_.length = x1.sub_.length); omega) (take_len q103 q104 rfl)) ?_
  have h105 := Rd.take (n := (x16 : Int).toNat) h101
  have l106 : (x1.sub_.take ((x16 : Int).toNat)).length ≤ c5 := by rw [List.length_take]; have := l97; omega
  obtain ⟨y107, h108, h109⟩ := Rd.news (d := (ro st63)) (ro_ro _) S99 (Rd.toro h105)
  obtain ⟨q110, M⟩ := chk M
  have S111 := S99.unit
  have S112 := S111.unit
  have S113 := S112.pull (F := no) (Fr := [no, (is g2)]) 1 rfl rfl
  refine lve (d := 36) rfl rfl (by kernel_rfl) (e_append (d := (ro st63)) (n := 0) (xs := []) (cap := 0) (A := none) (ys := (x1.sub_.take ((x16 : Int).toNat))) (A2 := A4) (c2 := c5) (z := .agg #[.int .i64 0, .slice none 0 0]) (bytes := 32) S113 Try.underlying52 (by kernel_rfl) rfl (by decide) (by kernel_rfl) rfl (by kernel_rfl) (Row.nil _ _ _ _ no) h108 h109 (show (0 + (x1.sub_.take ((x16 : Int).toNat)).length) * 32 ≤ _ by first | omega | (simp only [List.length_cons, List.length_nil]; omega)) (by decide)) ?_
  rintro _ w114 ⟨A115, c116, F117, rfl, h118, S119, K120⟩
  replace b3 := K120.blk 0 rfl b3
  replace h118 : Row (ro st63) 63 H98 (hp w114) F117 A115 c116 (x1.sub_.take ((x16 : Int).toNat)) := h118
  refine lv (d := 7) rfl rfl (by kernel_rfl) (e_assign (v := .slice A115 ((x1.sub_.take ((x16 : Int).toNat)).length) c116) (by kernel_rfl)) ?_
  refine wpList_nil ?_
  refine then_n ?_
  refine wp_seq ?_
  refine wp_region_lit ?_
  refine lv (d := 37) rfl rfl (by kernel_rfl) (e_move (v := .slice A115 ((x1.sub_.take ((x16 : Int).toNat)).length) c116) (by kernel_rfl)) ?_
  refine lv (d := 38) rfl rfl (by kernel_rfl) (e_move (v := .int .i64 x8) (by exact e18)) ?_
  refine lv (d := 39) rfl rfl (by kernel_rfl) (e_move (v := .slice A10 x9.length c11) (by exact e19)) ?_
  refine lv (d := 40) rfl rfl (by kernel_rfl) (show _ = Result.ok (Next.value (.agg #[.int .i64 x8, .slice A10 x9.length c11])) w114 from by kernel_rfl) ?_
  refine lve (d := 41) rfl rfl (by kernel_rfl) (new_blk (v := fun g_ => .slice (some ⟨g_, 0, none⟩) 1 1) (cs := #[.int .i64 x8, .slice A10 x9.length c11]) (t := 63) S119 (by kernel_rfl)) ?_
  rintro _ w121 ⟨g122, rfl, b123, S124, K125⟩
  replace h118 := h118.move (K125.at 0 rfl)
  replace b3 := K125.blk 1 rfl b3
  obtain ⟨q126, M⟩ := chk M
  have S127 := S124.pull (F := F117) (Fr := [(is g122), (is g2)]) 1 rfl rfl
  have S128 := S127.unit
  have S129 := S128.pull (F := F117) (Fr := [no, (is g122), (is g2)]) 1 rfl rfl
  refine lve (d := 42) rfl rfl (by kernel_rfl) (e_append (d := (ro st63)) (n := (x1.sub_.take ((x16 : Int).toNat)).length) (xs := (x1.sub_.take ((x16 : Int).toNat))) (cap := c116) (A := A115) (ys := [(⟨x8, x9⟩ : Binding)]) (A2 := (some ⟨g122, 0, none⟩)) (c2 := 1) (z := .agg #[.int .i64 0, .slice none 0 0]) (bytes := 32) S129 Try.underlying52 (by kernel_rfl) rfl (by decide) (by kernel_rfl) rfl (by kernel_rfl) h118 (elsO_one1 (st63_mkR (x := (⟨x8, x9⟩ : Binding)) l13 (h12.ext E100))) (.inr (blk_news b123 rfl)) (show ((x1.sub_.take ((x16 : Int).toNat)).length + [(⟨x8, x9⟩ : Binding)].length) * 32 ≤ _ by first | omega | (simp only [List.length_cons, List.length_nil]; omega)) (by decide)) ?_
  rintro _ w130 ⟨A131, c132, F133, rfl, h134, S135, K136⟩
  replace b123 := K136.blk 0 rfl b123
  replace b3 := K136.blk 1 rfl b3
  refine lv (d := 7) rfl rfl (by kernel_rfl) (e_assign (v := .slice A131 (((x1.sub_.take ((x16 : Int).toNat)) ++ [(⟨x8, x9⟩ : Binding)]).length) c132) (by kernel_rfl)) ?_
  refine wpList_nil ?_
  refine then_n ?_
  refine wp_region_lit ?_
  refine lv (d := 43) rfl rfl (by kernel_rfl) (e_move (v := .pointer (some ⟨g2, 0, none⟩)) (by exact e17)) ?_
  refine lv (d := 44) rfl rfl (by kernel_rfl) (e_move (v := .slice A131 (((x1.sub_.take ((x16 : Int).toNat)) ++ [(⟨x8, x9⟩ : Binding)]).length) c132) (by kernel_rfl)) ?_
  refine lv (d := 45) rfl rfl (by kernel_rfl) (e_move (v := .pointer (some ⟨g2, 0, none⟩)) (by exact e17)) ?_
  refine lv (d := 46) rfl rfl (by kernel_rfl) (e_nilCheck (ad := ⟨g2, 0, none⟩) (by kernel_rfl)) ?_
  refine lv (d := 47) rfl rfl (by kernel_rfl) (e_fieldAddr (b := g2) (off := 0) (o := 0) Try.underlying106 rfl rfl (sz := 1) (by kernel_rfl) (by decide) (by kernel_rfl)) ?_
  refine lv (d := 48) rfl rfl (by kernel_rfl) (e_load1 (ad := ⟨g2, 0 + 0, none⟩) (v := .slice A4 x1.sub_.length c5) Try.underlying52 rfl (by kernel_rfl) (blk_cell b3 rfl)) ?_
  refine lv (d := 49) rfl rfl (by kernel_rfl) (e_move (v := .int .i64 x16) (by exact e20)) ?_
  obtain ⟨A137, h140, l139, h138⟩ := Rd.sub1 (d := st63) (n := x1.sub_.length) (m := 2) (cap := c5) (a := x16) rfl h101 q103 q104 rfl l97
  refine lv (d := 50) rfl rfl (by kernel_rfl) (e_slice_l (n := x1.sub_.length) (m := 2) (cap := c5) (A := A4) (a := x16) (k := .i64) Try.underlying52 (by kernel_rfl) (by kernel_rfl) (by kernel_rfl) q103 q104 l97 h140) ?_
  obtain ⟨y141, h142, h143⟩ := Rd.news (d := (ro st63)) (ro_ro _) S135 (Rd.toro h138)
  obtain ⟨q144, M⟩ := chk M
  have S145 := S135.unit
  have S146 := S145.pull (F := F133) (Fr := [no, (is g122), (is g2)]) 1 rfl rfl
  refine lve (d := 51) rfl rfl (by kernel_rfl) (e_append (d := (ro st63)) (n := ((x1.sub_.take ((x16 : Int).toNat)) ++ [(⟨x8, x9⟩ : Binding)]).length) (xs := ((x1.sub_.take ((x16 : Int).toNat)) ++ [(⟨x8, x9⟩ : Binding)])) (cap := c132) (A := A131) (ys := (x1.sub_.drop ((x16 : Int).toNat))) (A2 := A137) (c2 := (c5 - ((x16 : Int).toNat))) (z := .agg #[.int .i64 0, .slice none 0 0]) (bytes := 32) S146 Try.underlying52 (by kernel_rfl) rfl (by decide) (by kernel_rfl) rfl (by kernel_rfl) h134 h142 h143 (show (((x1.sub_.take ((x16 : Int).toNat)) ++ [(⟨x8, x9⟩ : Binding)]).length + (x1.sub_.drop ((x16 : Int).toNat)).length) * 32 ≤ _ by first | omega | (simp only [List.length_cons, List.length_nil]; omega)) (by decide)) ?_
  rintro _ w147 ⟨A148, c149, F150, rfl, h151, S152, K153⟩
  replace b123 := K153.blk 0 rfl b123
  replace b3 := K153.blk 1 rfl b3
  refine lv (d := 52) rfl rfl (by kernel_rfl) (e_nilCheck (ad := ⟨g2, 0, none⟩) (by kernel_rfl)) ?_
  refine lv (d := 53) rfl rfl (by kernel_rfl) (e_fieldAddr (b := g2) (off := 0) (o := 0) Try.underlying106 rfl rfl (sz := 1) (by kernel_rfl) (by decide) (by kernel_rfl)) ?_
  have S154 := S152.pull (F := (is g2)) (Fr := [F150, (is g122)]) 2 rfl rfl
  refine lse rfl rfl (by kernel_rfl) (e_store (g := g2) (o := 0 + 0) (v := .slice A148 ((((x1.sub_.take ((x16 : Int).toNat)) ++ [(⟨x8, x9⟩ : Binding)]) ++ (x1.sub_.drop ((x16 : Int).toNat))).length) c149) (cur' := #[.slice A148 ((((x1.sub_.take ((x16 : Int).toNat)) ++ [(⟨x8, x9⟩ : Binding)]) ++ (x1.sub_.drop ((x16 : Int).toNat))).length) c149, .int .i64 x1.pairs_]) (vs := [.slice A148 ((((x1.sub_.take ((x16 : Int).toNat)) ++ [(⟨x8, x9⟩ : Binding)]) ++ (x1.sub_.drop ((x16 : Int).toNat))).length) c149]) S154 (by kernel_rfl) (by kernel_rfl) rfl (by kernel_rfl) b3 (Nat.le_of_ble_eq_true rfl) (List.forall_mem_cons.2 ⟨rfl, (fun _ h_ => by cases h_)⟩) rfl) ?_
  rintro w155 ⟨b156, S157, K158⟩
  replace h151 := h151.move (K158.at 0 rfl)
  replace b123 := K158.blk 1 rfl b123
  clear b3
  refine wpList_nil ?_
  obtain rfl := Option.some.inj M
  have S159 := S157.pull (F := F150) (Fr := [(is g2), (is g122)]) 1 rfl rfl
  have S160 := S159.pull (F := (is g2)) (Fr := [F150, (is g122)]) 1 rfl rfl
  have S161 := St.first (Fa := [(is g2), F150]) (Fr := [(is g122)]) S160
  exact end0 rfl ⟨A148, c149, F150, H98, rfl, h151, b156, S161⟩

/-! spec_l5stands -/
mutual
def spec_l5stands.l0 : Nat → GL5st → Int → (List (List Cell)) → (List Bool) → Option Bool
  | 0, _, _, _, _ => none
  | k51 + 1, x1, x8, x34, x40 => (if (x34.length : Int) > 0 then (if 0 ≤ (IntKind.i64.wrap ((x34.length : Int) - 1)) then (if (IntKind.i64.wrap ((x34.length : Int) - 1)) < (x34.length : Int) then (if (IntKind.i64.wrap ((x34.length : Int) - 1)) ≤ (x34.length : Int) then (spec_l5stands.l1 k51 x1 x8 x34 (x34.take (((IntKind.i64.wrap ((x34.length : Int) - 1)) : Int).toNat)) 0 x40) else none) else none) else none) else some false)
def spec_l5stands.l1 : Nat → GL5st → Int → (List (List Cell)) → (List (List Cell)) → Int → (List Bool) → Option Bool
  | 0, _, _, _, _, _, _ => none
  | k92 + 1, x1, x8, x34, x72, x77, x79 => (if x77 < ((x34.getD (((IntKind.i64.wrap ((x34.length : Int) - 1))).toNat) ([] : List Cell)).length : Int) then (if 0 ≤ x77 then (if (((x34.getD (((IntKind.i64.wrap ((x34.length : Int) - 1))).toNat) ([] : List Cell)).getD ((x77).toNat) z65).kind) ≠ 0 then (spec_l5stands.l1 k92 x1 x8 x34 x72 (IntKind.i64.wrap (x77 + 1)) x79) else (if (((x34.getD (((IntKind.i64.wrap ((x34.length : Int) - 1))).toNat) ([] : List Cell)).getD ((x77).toNat) z65).n) = x8 then some true else ((spec_l5index.f k92 x1.sub_ (((x34.getD (((IntKind.i64.wrap ((x34.length : Int) - 1))).toNat) ([] : List Cell)).getD ((x77).toNat) z65).n)).bind fun t127 => (if t127 ≥ 0 then (if 0 ≤ t127 then (if t127 < (((x1.sub_.length : Int)).toNat : Int) then (if ¬ ((x79.getD ((t127).toNat) false) = true) then (if t127 < (x1.sub_.length : Int) then (if x72.length + 1 ≤ 5864062014805 then (spec_l5stands.l1 k92 x1 x8 x34 (x72 ++ [(x1.sub_.getD ((t127).toNat) z63).term]) (IntKind.i64.wrap (x77 + 1)) (x79.set ((t127).toNat) true)) else none) else none) else (spec_l5stands.l1 k92 x1 x8 x34 x72 (IntKind.i64.wrap (x77 + 1)) x79)) else none) else none) else (spec_l5stands.l1 k92 x1 x8 x34 x72 (IntKind.i64.wrap (x77 + 1)) x79))))) else none) else (spec_l5stands.l0 k92 x1 x8 x72 x79))
end
def spec_l5stands.f (k : Nat) (x1 : GL5st) (x8 : Int) (x9 : List Cell) : Option Bool := (if 0 ≤ (x1.sub_.length : Int) then (if ((x1.sub_.length : Int)).toNat ≤ 281474976710656 then (spec_l5stands.l0 k x1 x8 [x9] (List.replicate ((x1.sub_.length : Int)).toNat false)) else none) else none)
theorem spec_l5stands.calls (k : Nat) (w : World) (H : Hp) (x1 : GL5st) (g2 : Nat) (A4 : Option Addr) (c5 : Nat) (x8 : Int) (x9 : List Cell) (A10 : Option Addr) (c11 : Nat) (h6 : Rd st63 H A4 x1.sub_) (l7 : x1.sub_.length ≤ c5) (b3 : H g2 = some (.cells #[.slice A4 x1.sub_.length c5, .int .i64 x1.pairs_] 106 (0, 0))) (h12 : Rd st65 H A10 x9) (l13 : x9.length ≤ c11) (S : Own [] H w) (r : Bool) (M : spec_l5stands.f k x1 x8 x9 = some r) :
    Calls Try.prog 117 #[.pointer (some ⟨g2, 0, none⟩), .int .i64 x8, .slice A10 x9.length c11] w (fun e e_w => e = .returned (.bool r) ∧ Chg no w e_w) := by
  rw [spec_l5stands.f] at M
  refine enter (l := [.pointer (some ⟨g2, 0, none⟩), .int .i64 x8, .slice A10 x9.length c11]) 86 Try.func117 rfl rfl rfl ?_
  have S0_ := S.st
  refine wp_seq ?_
  refine wp_region_lit ?_
  refine lv (d := 6) rfl rfl (by kernel_rfl) (e_assign (v := .bool false) rfl) ?_
  refine wpList_nil ?_
  refine then_n ?_
  refine wp_seq ?_
  refine wp_region_lit ?_
  refine lv (d := 12) rfl rfl (by kernel_rfl) (e_move (v := .pointer (some ⟨g2, 0, none⟩)) (by kernel_rfl)) ?_
  refine lv (d := 13) rfl rfl (by kernel_rfl) (e_nilCheck (ad := ⟨g2, 0, none⟩) (by kernel_rfl)) ?_
  refine lv (d := 14) rfl rfl (by kernel_rfl) (e_fieldAddr (b := g2) (off := 0) (o := 0) Try.underlying106 rfl rfl (sz := 1) (by kernel_rfl) (by decide) (by kernel_rfl)) ?_
  refine lv (d := 15) rfl rfl (by kernel_rfl) (e_load1 (ad := ⟨g2, 0 + 0, none⟩) (v := .slice A4 x1.sub_.length c5) Try.underlying52 rfl (by kernel_rfl) (blk_cell (S0_.inv _ _ b3) rfl)) ?_
  refine lv (d := 16) rfl rfl (by kernel_rfl) (e_len (A := A4) (n := x1.sub_.length) (c := c5) Try.underlying52 (by kernel_rfl)) ?_
  obtain ⟨q14, M⟩ := chk M
  obtain ⟨q15, M⟩ := chk M
  refine lve (d := 17) rfl rfl (by kernel_rfl) (e_make (d := tBool) (k := .i64) (k2 := .i64) (n := (x1.sub_.length : Int)) (z := .bool false) (zx := false) (bytes := 1) S0_ Try.underlying156 (by kernel_rfl) rfl (by decide) (fun _ => rfl) (by kernel_rfl) (by kernel_rfl) q14 (by omega) (by omega)) ?_
  rintro _ w16 ⟨A17, c18, F19, rfl, h20, S21, K22⟩
  refine lv (d := 7) rfl rfl (by kernel_rfl) (e_assign (v := .slice A17 (((x1.sub_.length : Int)).toNat) c18) (by kernel_rfl)) ?_
  refine wpList_nil ?_
  refine then_n ?_
  refine wp_seq ?_
  refine wp_region_lit ?_
  refine lv (d := 18) rfl rfl (by kernel_rfl) (e_move (v := .slice A10 x9.length c11) (by kernel_rfl)) ?_
  refine lve (d := 19) rfl rfl (by kernel_rfl) (new_blk (v := fun g_ => .slice (some ⟨g_, 0, none⟩) 1 1) (cs := #[.slice A10 x9.length c11]) (t := 25) S21 (by kernel_rfl)) ?_
  rintro _ w23 ⟨g24, rfl, b25, S26, K27⟩
  replace h20 := h20.move (K27.at 0 rfl)
  have S28 := S26.unit
  have S29 := S28.pull (F := (is g24)) (Fr := [no, F19]) 1 rfl rfl
  obtain ⟨h30, S31⟩ := row_lit (d := (ro sl65)) (xs := [x9]) S29 b25 rfl (elsO_one1 ⟨A10, c11, rfl, l13, h12⟩) (Nat.le_of_ble_eq_true rfl)
  refine lv (d := 8) rfl rfl (by kernel_rfl) (e_assign (v := .slice (some ⟨g24, 0, none⟩) 1 1) (by kernel_rfl)) ?_
  refine wpList_nil ?_
  refine then_n ?_
  refine wp_seq ?_
  refine wp_block ?_
  have S52 := S31.pull (F := F19) (Fr := [(or2 (is g24) no)]) 1 rfl rfl
  refine wp_loop_g (fun k49 a50 w32 => ∃ (f33 : Nat → Value) (x34 : List (List Cell)) (A35 : Option Addr) (c36 : Nat) (F37 : Foot) (F39 : Foot) (x40 : List Bool), a50 = mk 86 f33 ∧ f33 0 = .pointer (some ⟨g2, 0, none⟩) ∧ f33 1 = .int .i64 x8 ∧ f33 7 = .slice A17 (((x1.sub_.length : Int)).toNat) c18 ∧ f33 8 = .slice A35 x34.length c36 ∧ Row tBool 4 H (hp w32) F39 A17 c18 x40 ∧ Row (ro sl65) 25 H (hp w32) F37 A35 c36 x34 ∧ x40.length = ((x1.sub_.length : Int)).toNat ∧ St (anyOf []) H w [F39, F37] H w32 ∧ spec_l5stands.l0 k49 x1 x8 x34 x40 = some r) k ⟨_, [x9], (some ⟨g24, 0, none⟩), 1, (or2 (is g24) no), F19, (List.replicate ((x1.sub_.length : Int)).toNat false), rfl, (by kernel_rfl), (by kernel_rfl), (by kernel_rfl), (by kernel_rfl), h20, h30, List.length_replicate, S52, M⟩ ?_
  clear M
  rintro k49 a50 w32 ⟨f33, x34, A35, c36, F37, F39, x40, rfl, e42, e43, e44, e45, h20, h38, n41, S46, M⟩
  rcases k49 with _ | k51
  · rw [spec_l5stands.l0] at M
    cases M
  rw [spec_l5stands.l0] at M
  refine wp_seq ?_
  refine wp_seq ?_
  refine wp_region_lit ?_
  refine lv (d := 20) rfl rfl (by kernel_rfl) (e_move (v := .slice A35 x34.length c36) (by exact e45)) ?_
  refine lv (d := 21) rfl rfl (by kernel_rfl) (e_len (A := A35) (n := x34.length) (c := c36) Try.underlying38 (by kernel_rfl)) ?_
  refine lv (d := 22) rfl rfl (by kernel_rfl) (e_gtr (k := .i64) (a := (x34.length : Int)) (b := 0) (by kernel_rfl) rfl) ?_
  refine wpList_nil ?_
  refine then_n ?_
  by_cases q53 : (x34.length : Int) > 0
  · replace M := ifp q53 M
    refine cond_t rfl (bt q53 (by kernel_rfl)) ?_
    refine wp_skip ?_
    refine then_n ?_
    refine wp_block ?_
    refine wp_seq ?_
    refine wp_region_lit ?_
    refine lv (d := 23) rfl rfl (by kernel_rfl) (e_move (v := .slice A35 x34.length c36) (by exact e45)) ?_
    refine lv (d := 24) rfl rfl (by kernel_rfl) (e_move (v := .slice A35 x34.length c36) (by exact e45)) ?_
    refine lv (d := 25) rfl rfl (by kernel_rfl) (e_len (A := A35) (n := x34.length) (c := c36) Try.underlying38 (by kernel_rfl)) ?_
    refine lv (d := 26) rfl rfl (by kernel_rfl) (e_sub (k := .i64) (a := (x34.length : Int)) (b := 1) (by kernel_rfl) rfl) ?_
    obtain ⟨q54, M⟩ := chk M
    obtain ⟨q55, M⟩ := chk M
    obtain ⟨b56, e58⟩ := Row.addr h38 (show ((IntKind.i64.wrap ((x34.length : Int) - 1))).toNat < x34.length by omega)
    refine lv (d := 27) rfl rfl (by kernel_rfl) (e_indexAddr (b := b56) (off := 0) (n := x34.length) (c := c36) (sz := 1) (i := (IntKind.i64.wrap ((x34.length : Int) - 1))) (k := .i64) Try.underlying38 e58 (by kernel_rfl) (by kernel_rfl) (by kernel_rfl) q54 q55) ?_
    obtain ⟨y59, F60, r61, s62, k63⟩ := Row.at h38 e58 (getD_some ([] : List Cell) (show ((IntKind.i64.wrap ((x34.length : Int) - 1))).toNat < x34.length by omega))
    obtain ⟨A64, c65, rfl, l66, h67⟩ := r61
    refine lv (d := 28) rfl rfl (by kernel_rfl) (e_load1 (ad := ⟨b56, 0 + ((IntKind.i64.wrap ((x34.length : Int) - 1)) : Int).toNat * 1, none⟩) (v := .slice A64 (x34.getD (((IntKind.i64.wrap ((x34.length : Int) - 1))).toNat) ([] : List Cell)).length c65) Try.underlying25 rfl (by kernel_rfl) (hpx (k63 0 _ rfl))) ?_
    refine lv (d := 9) rfl rfl (by kernel_rfl) (e_assign (v := .slice A64 (x34.getD (((IntKind.i64.wrap ((x34.length : Int) - 1))).toNat) ([] : List Cell)).length c65) (by kernel_rfl)) ?_
    refine wpList_nil ?_
    refine then_n ?_
    refine wp_seq ?_
    refine wp_region_lit ?_
    refine lv (d := 29) rfl rfl (by kernel_rfl) (e_move (v := .slice A35 x34.length c36) (by exact e45)) ?_
    refine lv (d := 30) rfl rfl (by kernel_rfl) (e_move (v := .slice A35 x34.length c36) (by exact e45)) ?_
    refine lv (d := 31) rfl rfl (by kernel_rfl) (e_len (A := A35) (n := x34.length) (c := c36) Try.underlying38 (by kernel_rfl)) ?_
    refine lv (d := 32) rfl rfl (by kernel_rfl) (e_sub (k := .i64) (a := (x34.length : Int)) (b := 1) (by kernel_rfl) rfl) ?_
    obtain ⟨q68, M⟩ := chk M
    refine lv (d := 33) rfl rfl (by kernel_rfl) (e_slice_h (xs := x34) (n := x34.length) (m := 1) (cap := c36) (A := A35) (b := (IntKind.i64.wrap ((x34.length : Int) - 1))) (k2 := .i64) Try.underlying38 (by kernel_rfl) (by kernel_rfl) (by kernel_rfl) q54 q68 (by have := h38.le; have := (rfl : x34.length = x34.length); omega) (take_len q54 q68 rfl)) ?_
    have h69 := h38.cut (n := ((IntKind.i64.wrap ((x34.length : Int) - 1)) : Int).toNat) (by have := (rfl : x34.length = x34.length); omega)
    clear h38
    refine lv (d := 8) rfl rfl (by kernel_rfl) (e_assign (v := .slice A35 ((x34.take (((IntKind.i64.wrap ((x34.length : Int) - 1)) : Int).toNat)).length) c36) (by kernel_rfl)) ?_
    refine wpList_nil ?_
    refine then_n ?_
    refine wp_seq ?_
    refine wp_region_lit ?_
    refine lv (d := 10) rfl rfl (by kernel_rfl) (e_assign (v := .int .i64 0) rfl) ?_
    refine wpList_nil ?_
    refine then_n ?_
    refine wp_block ?_
    refine wp_loop_g (fun k90 a91 w70 => ∃ (f71 : Nat → Value) (x72 : List (List Cell)) (A73 : Option Addr) (c74 : Nat) (F75 : Foot) (x77 : Int) (F78 : Foot) (x79 : List Bool), k90 ≤ k51 ∧ a91 = mk 86 f71 ∧ f71 0 = .pointer (some ⟨g2, 0, none⟩) ∧ f71 1 = .int .i64 x8 ∧ f71 7 = .slice A17 (((x1.sub_.length : Int)).toNat) c18 ∧ f71 8 = .slice A73 x72.length c74 ∧ f71 9 = .slice A64 (x34.getD (((IntKind.i64.wrap ((x34.length : Int) - 1))).toNat) ([] : List Cell)).length c65 ∧ f71 10 = .int .i64 x77 ∧ Row tBool 4 H (hp w70) F78 A17 c18 x79 ∧ Row (ro sl65) 25 H (hp w70) F75 A73 c74 x72 ∧ x79.length = ((x1.sub_.length : Int)).toNat ∧ St (anyOf []) H w [F78, F75] H w70 ∧ spec_l5stands.l1 k90 x1 x8 x34 x72 x77 x79 = some r) k51 ⟨_, (x34.take (((IntKind.i64.wrap ((x34.length : Int) - 1)) : Int).toNat)), A35, c36, F37, 0, F39, x40, (by omega), rfl, (by exact e42), (by exact e43), (by exact e44), (by kernel_rfl), (by kernel_rfl), (by kernel_rfl), h20, h69, n41, S46, M⟩ ?_
    clear M
    rintro k90 a91 w70 ⟨f71, x72, A73, c74, F75, x77, F78, x79, z89, rfl, e81, e82, e83, e84, e85, e86, h20, h76, n80, S87, M⟩
    rcases k90 with _ | k92
    · rw [spec_l5stands.l1] at M
      cases M
    rw [spec_l5stands.l1] at M
    refine wp_seq ?_
    refine wp_seq ?_
    refine wp_region_lit ?_
    refine lv (d := 34) rfl rfl (by kernel_rfl) (e_move (v := .int .i64 x77) (by exact e86)) ?_
    refine lv (d := 35) rfl rfl (by kernel_rfl) (e_move (v := .slice A64 (x34.getD (((IntKind.i64.wrap ((x34.length : Int) - 1))).toNat) ([] : List Cell)).length c65) (by exact e85)) ?_
    refine lv (d := 36) rfl rfl (by kernel_rfl) (e_len (A := A64) (n := (x34.getD (((IntKind.i64.wrap ((x34.length : Int) - 1))).toNat) ([] : List Cell)).length) (c := c65) Try.underlying25 (by kernel_rfl)) ?_
    refine lv (d := 37) rfl rfl (by kernel_rfl) (e_lss (k := .i64) (a := x77) (b := ((x34.getD (((IntKind.i64.wrap ((x34.length : Int) - 1))).toNat) ([] : List Cell)).length : Int)) (by kernel_rfl) (by kernel_rfl)) ?_
    refine wpList_nil ?_
    refine then_n ?_
    by_cases q93 : x77 < ((x34.getD (((IntKind.i64.wrap ((x34.length : Int) - 1))).toNat) ([] : List Cell)).length : Int)
    · replace M := ifp q93 M
      refine cond_t rfl (bt q93 (by kernel_rfl)) ?_
      refine wp_skip ?_
      refine then_n ?_
      refine wp_seq ?_
      refine wp_block ?_
      refine wp_seq ?_
      refine wp_seq ?_
      refine wp_region_lit ?_
      refine lv (d := 40) rfl rfl (by kernel_rfl) (e_move (v := .slice A64 (x34.getD (((IntKind.i64.wrap ((x34.length : Int) - 1))).toNat) ([] : List Cell)).length c65) (by exact e85)) ?_
      refine lv (d := 41) rfl rfl (by kernel_rfl) (e_move (v := .int .i64 x77) (by exact e86)) ?_
      obtain ⟨q94, M⟩ := chk M
      obtain ⟨b95, o96, e97⟩ := Rd.addr h67 (show (x77).toNat < (x34.getD (((IntKind.i64.wrap ((x34.length : Int) - 1))).toNat) ([] : List Cell)).length by omega)
      obtain ⟨y98, r99, k100⟩ := Rd.at h67 e97 (getD_some z65 (show (x77).toNat < (x34.getD (((IntKind.i64.wrap ((x34.length : Int) - 1))).toNat) ([] : List Cell)).length by omega))
      obtain ⟨A101, c102, rfl, l103, h104⟩ := st65_open r99
      refine lv (d := 42) rfl rfl (by kernel_rfl) (e_indexAddr (b := b95) (off := o96) (n := (x34.getD (((IntKind.i64.wrap ((x34.length : Int) - 1))).toNat) ([] : List Cell)).length) (c := c65) (sz := 3) (i := x77) (k := .i64) Try.underlying25 e97 (by kernel_rfl) (by kernel_rfl) (by kernel_rfl) q94 q93) ?_
      refine lv (d := 43) rfl rfl (by kernel_rfl) (e_fieldAddr (b := b95) (off := o96 + (x77 : Int).toNat * 3) (o := 0) Try.underlying65 rfl rfl (sz := 1) (by kernel_rfl) (by decide) (by kernel_rfl)) ?_
      refine lv (d := 44) rfl rfl (by kernel_rfl) (e_load1 (ad := ⟨b95, o96 + (x77 : Int).toNat * 3 + 0, none⟩) (v := .int .i64 (((x34.getD (((IntKind.i64.wrap ((x34.length : Int) - 1))).toNat) ([] : List Cell)).getD ((x77).toNat) z65).kind)) Try.underlying3 rfl (by kernel_rfl) (hpx (S87.inv.cell (k100 0 _ rfl)))) ?_
      refine lv (d := 45) rfl rfl (by kernel_rfl) (e_neq (k := .i64) (a := ((x34.getD (((IntKind.i64.wrap ((x34.length : Int) - 1))).toNat) ([] : List Cell)).getD ((x77).toNat) z65).kind) (b := 0) (by kernel_rfl) rfl) ?_
      refine wpList_nil ?_
      refine then_n ?_
      by_cases q105 : (((x34.getD (((IntKind.i64.wrap ((x34.length : Int) - 1))).toNat) ([] : List Cell)).getD ((x77).toNat) z65).kind) ≠ 0
      · replace M := ifp q105 M
        refine cond_t rfl (bt q105 (by kernel_rfl)) ?_
        refine wp_exit ?_
        refine then_e ?_
        refine inb_hit ?_
        refine then_n ?_
        refine wp_region_lit ?_
        refine lv (d := 38) rfl rfl (by kernel_rfl) (e_move (v := .int .i64 x77) (by exact e86)) ?_
        refine lv (d := 39) rfl rfl (by kernel_rfl) (e_add (k := .i64) (a := x77) (b := 1) (by kernel_rfl) rfl) ?_
        refine lv (d := 10) rfl rfl (by kernel_rfl) (e_assign (v := .int .i64 (IntKind.i64.wrap (x77 + 1))) (by kernel_rfl)) ?_
        refine wpList_nil ?_
        refine then_n ?_
        exact ⟨k92, (by omega), _, x72, A73, c74, F75, (IntKind.i64.wrap (x77 + 1)), F78, x79, (by omega), rfl, (by exact e81), (by exact e82), (by exact e83), (by exact e84), (by exact e85), (by kernel_rfl), h20, h76, n80, S87, M⟩
      replace M := ifn q105 M
      refine cond_f rfl (bf q105 (by kernel_rfl)) ?_
      refine wp_skip ?_
      refine then_n ?_
      refine wp_seq ?_
      refine wp_seq ?_
      refine wp_region_lit ?_
      refine lv (d := 46) rfl rfl (by kernel_rfl) (e_move (v := .slice A64 (x34.getD (((IntKind.i64.wrap ((x34.length : Int) - 1))).toNat) ([] : List Cell)).length c65) (by exact e85)) ?_
      refine lv (d := 47) rfl rfl (by kernel_rfl) (e_move (v := .int .i64 x77) (by exact e86)) ?_
      obtain ⟨b106, o107, e108⟩ := Rd.addr h67 (show (x77).toNat < (x34.getD (((IntKind.i64.wrap ((x34.length : Int) - 1))).toNat) ([] : List Cell)).length by omega)
      obtain ⟨y109, r110, k111⟩ := Rd.at h67 e108 (getD_some z65 (show (x77).toNat < (x34.getD (((IntKind.i64.wrap ((x34.length : Int) - 1))).toNat) ([] : List Cell)).length by omega))
      obtain ⟨A112, c113, rfl, l114, h115⟩ := st65_open r110
      refine lv (d := 48) rfl rfl (by kernel_rfl) (e_indexAddr (b := b106) (off := o107) (n := (x34.getD (((IntKind.i64.wrap ((x34.length : Int) - 1))).toNat) ([] : List Cell)).length) (c := c65) (sz := 3) (i := x77) (k := .i64) Try.underlying25 e108 (by kernel_rfl) (by kernel_rfl) (by kernel_rfl) q94 q93) ?_
      refine lv (d := 49) rfl rfl (by kernel_rfl) (e_fieldAddr (b := b106) (off := o107 + (x77 : Int).toNat * 3) (o := 1) Try.underlying65 rfl rfl (sz := 1) (by kernel_rfl) (by decide) (by kernel_rfl)) ?_
      refine lv (d := 50) rfl rfl (by kernel_rfl) (e_load1 (ad := ⟨b106, o107 + (x77 : Int).toNat * 3 + 1, none⟩) (v := .int .i64 (((x34.getD (((IntKind.i64.wrap ((x34.length : Int) - 1))).toNat) ([] : List Cell)).getD ((x77).toNat) z65).n)) Try.underlying3 rfl (by kernel_rfl) (hpx (S87.inv.cell (k111 1 _ rfl)))) ?_
      refine lv (d := 51) rfl rfl (by kernel_rfl) (e_move (v := .int .i64 x8) (by exact e82)) ?_
      refine lv (d := 52) rfl rfl (by kernel_rfl) (e_eql (k := .i64) (a := ((x34.getD (((IntKind.i64.wrap ((x34.length : Int) - 1))).toNat) ([] : List Cell)).getD ((x77).toNat) z65).n) (b := x8) (by kernel_rfl) (by kernel_rfl)) ?_
      refine wpList_nil ?_
      refine then_n ?_
      by_cases q116 : (((x34.getD (((IntKind.i64.wrap ((x34.length : Int) - 1))).toNat) ([] : List Cell)).getD ((x77).toNat) z65).n) = x8
      · replace M := ifp q116 M
        refine cond_t rfl (bt q116 (by kernel_rfl)) ?_
        refine wp_seq ?_
        refine wp_region_lit ?_
        refine lv (d := 6) rfl rfl (by kernel_rfl) (e_assign (v := .bool true) rfl) ?_
        refine wpList_nil ?_
        refine then_n ?_
        refine wp_ret ?_
        refine then_r ?_
        refine inb_r ?_
        refine then_r ?_
        refine then_r ?_
        refine inb_r ?_
        refine inb_r ?_
        refine then_r ?_
        refine inb_r ?_
        refine then_r ?_
        obtain rfl := Option.some.inj M
        exact ret1 rfl rfl  (show _ = .bool true from (by kernel_rfl)) ⟨rfl, S87.chg⟩
      replace M := ifn q116 M
      refine cond_f rfl (bf q116 (by kernel_rfl)) ?_
      refine wp_skip ?_
      refine then_n ?_
      refine wp_seq ?_
      refine region_quiet (by kernel_rfl) (by kernel_rfl) ?_
      refine qv (d := 53) rfl rfl (by kernel_rfl) (fun wq_ hq_ => e_move (v := .pointer (some ⟨g2, 0, none⟩)) (by exact e81)) ?_
      refine qv (d := 54) rfl rfl (by kernel_rfl) (fun wq_ hq_ => e_nilCheck (ad := ⟨g2, 0, none⟩) (by kernel_rfl)) ?_
      refine qv (d := 55) rfl rfl (by kernel_rfl) (fun wq_ hq_ => e_fieldAddr (b := g2) (off := 0) (o := 0) Try.underlying106 rfl rfl (sz := 1) (by kernel_rfl) (by decide) (by kernel_rfl)) ?_
      refine qv (d := 56) rfl rfl (by kernel_rfl) (fun wq_ hq_ => e_load1 (ad := ⟨g2, 0 + 0, none⟩) (v := .slice A4 x1.sub_.length c5) Try.underlying52 rfl (by kernel_rfl) (blk_cell ((S87.still hq_).1.inv _ _ b3) rfl)) ?_
      refine qv (d := 57) rfl rfl (by kernel_rfl) (fun wq_ hq_ => e_move (v := .slice A64 (x34.getD (((IntKind.i64.wrap ((x34.length : Int) - 1))).toNat) ([] : List Cell)).length c65) (by exact e85)) ?_
      refine qv (d := 58) rfl rfl (by kernel_rfl) (fun wq_ hq_ => e_move (v := .int .i64 x77) (by exact e86)) ?_
      obtain ⟨b117, o118, e119⟩ := Rd.addr h67 (show (x77).toNat < (x34.getD (((IntKind.i64.wrap ((x34.length : Int) - 1))).toNat) ([] : List Cell)).length by omega)
      obtain ⟨y120, r121, k122⟩ := Rd.at h67 e119 (getD_some z65 (show (x77).toNat < (x34.getD (((IntKind.i64.wrap ((x34.length : Int) - 1))).toNat) ([] : List Cell)).length by omega))
      obtain ⟨A123, c124, rfl, l125, h126⟩ := st65_open r121
      refine qv (d := 59) rfl rfl (by kernel_rfl) (fun wq_ hq_ => e_indexAddr (b := b117) (off := o118) (n := (x34.getD (((IntKind.i64.wrap ((x34.length : Int) - 1))).toNat) ([] : List Cell)).length) (c := c65) (sz := 3) (i := x77) (k := .i64) Try.underlying25 e119 (by kernel_rfl) (by kernel_rfl) (by kernel_rfl) q94 q93) ?_
      refine qv (d := 60) rfl rfl (by kernel_rfl) (fun wq_ hq_ => e_fieldAddr (b := b117) (off := o118 + (x77 : Int).toNat * 3) (o := 1) Try.underlying65 rfl rfl (sz := 1) (by kernel_rfl) (by decide) (by kernel_rfl)) ?_
      refine qv (d := 61) rfl rfl (by kernel_rfl) (fun wq_ hq_ => e_load1 (ad := ⟨b117, o118 + (x77 : Int).toNat * 3 + 1, none⟩) (v := .int .i64 (((x34.getD (((IntKind.i64.wrap ((x34.length : Int) - 1))).toNat) ([] : List Cell)).getD ((x77).toNat) z65).n)) Try.underlying3 rfl (by kernel_rfl) (hpx ((S87.still hq_).1.inv.cell (k122 1 _ rfl)))) ?_
      obtain ⟨t127, u128, M⟩ := bnd M
      refine qcall (v := .int .i64 t127) (d := 62) rfl rfl (by kernel_rfl) (fun w_ => e_call (l := [.tmp 56, .tmp 61]) (vs := [.slice A4 x1.sub_.length c5, .int .i64 (((x34.getD (((IntKind.i64.wrap ((x34.length : Int) - 1))).toNat) ([] : List Cell)).getD ((x77).toNat) z65).n)]) Try.func85 (by kernel_rfl) rfl (by kernel_rfl) rfl) (fun wq_ hq_ => (by obtain ⟨S_, K_⟩ := S87.still hq_; replace h20 := h20.move (K_.at 0 rfl); replace h76 := h76.move (K_.at 1 rfl); exact (spec_l5index.calls k92 wq_ H x1.sub_ A4 c5 (((x34.getD (((IntKind.i64.wrap ((x34.length : Int) - 1))).toNat) ([] : List Cell)).getD ((x77).toNat) z65).n) h6 l7 S_.own0 t127 u128))) ?_
      refine qv (d := 11) rfl rfl (by kernel_rfl) (fun wq_ hq_ => e_assign (v := .int .i64 t127) (by kernel_rfl)) ?_
      refine wpQuiet_nil ?_
      intro w129 C132
      obtain ⟨S130, K131⟩ := S87.still C132
      replace h20 := h20.move (K131.at 0 rfl)
      replace h76 := h76.move (K131.at 1 rfl)
      refine then_n ?_
      refine wp_seq ?_
      refine wp_region_lit ?_
      refine lv (d := 63) rfl rfl (by kernel_rfl) (e_move (v := .int .i64 t127) (by kernel_rfl)) ?_
      refine lv (d := 64) rfl rfl (by kernel_rfl) (e_geq (k := .i64) (a := t127) (b := 0) (by kernel_rfl) rfl) ?_
      refine lv (d := 65) rfl rfl (by kernel_rfl) (e_move (v := .bool (decide (t127 ≥ 0))) (by kernel_rfl)) ?_
      by_cases q133 : t127 ≥ 0
      · replace M := ifp q133 M
        refine lvg (d := 66) (t := 65) rfl (by kernel_rfl) rfl (bt q133 (by kernel_rfl)) rfl (by kernel_rfl) (e_move (v := .slice A17 (((x1.sub_.length : Int)).toNat) c18) (by exact e83)) ?_
        refine lvg (d := 67) (t := 65) rfl (by kernel_rfl) rfl (bt q133 (by kernel_rfl)) rfl (by kernel_rfl) (e_move (v := .int .i64 t127) (by kernel_rfl)) ?_
        obtain ⟨q134, M⟩ := chk M
        obtain ⟨q135, M⟩ := chk M
        obtain ⟨b136, e138⟩ := Row.addr h20 (show (t127).toNat < x79.length by have : x79.length = ((x1.sub_.length : Int)).toNat := n80; omega)
        refine lvg (d := 68) (t := 65) rfl (by kernel_rfl) rfl (bt q133 (by kernel_rfl)) rfl (by kernel_rfl) (e_indexAddr (b := b136) (off := 0) (n := ((x1.sub_.length : Int)).toNat) (c := c18) (sz := 1) (i := t127) (k := .i64) Try.underlying156 e138 (by kernel_rfl) (by kernel_rfl) (by kernel_rfl) q134 q135) ?_
        refine lvg (d := 69) (t := 65) rfl (by kernel_rfl) rfl (bt q133 (by kernel_rfl)) rfl (by kernel_rfl) (e_load1 (ad := ⟨b136, 0 + (t127 : Int).toNat * 1, none⟩) (v := .bool (x79.getD ((t127).toNat) false)) Try.underlying4 rfl (by kernel_rfl) (hpx (Row.pick (j := 0) (u := .bool (x79.getD ((t127).toNat) false)) h20 e138 (getD_some false (show (t127).toNat < x79.length by have : x79.length = ((x1.sub_.length : Int)).toNat := n80; omega)) (fun _ _ o_ => by rw [show _ = _ from o_]; rfl)))) ?_
        refine lvg (d := 70) (t := 65) rfl (by kernel_rfl) rfl (bt q133 (by kernel_rfl)) rfl (by kernel_rfl) (e_notv (c := (x79.getD ((t127).toNat) false)) (by kernel_rfl)) ?_
        refine lv (d := 71) rfl rfl (by kernel_rfl) (e_pick_t (v := .bool (decide (¬ ((x79.getD ((t127).toNat) false) = true)))) (bt q133 (by kernel_rfl)) (by kernel_rfl)) ?_
        refine wpList_nil ?_
        refine then_n ?_
        by_cases q139 : ¬ ((x79.getD ((t127).toNat) false) = true)
        · replace M := ifp q139 M
          refine cond_t rfl (bt q139 (by kernel_rfl)) ?_
          refine wp_seq ?_
          refine wp_region_lit ?_
          refine lv (d := 72) rfl rfl (by kernel_rfl) (e_move (v := .slice A17 (((x1.sub_.length : Int)).toNat) c18) (by exact e83)) ?_
          refine lv (d := 73) rfl rfl (by kernel_rfl) (e_move (v := .int .i64 t127) (by kernel_rfl)) ?_
          obtain ⟨b140, e142⟩ := Row.addr h20 (show (t127).toNat < x79.length by have : x79.length = ((x1.sub_.length : Int)).toNat := n80; omega)
          refine lv (d := 74) rfl rfl (by kernel_rfl) (e_indexAddr (b := b140) (off := 0) (n := ((x1.sub_.length : Int)).toNat) (c := c18) (sz := 1) (i := t127) (k := .i64) Try.underlying156 e142 (by kernel_rfl) (by kernel_rfl) (by kernel_rfl) q134 q135) ?_
          have S143 := S130.unit
          have S144 := S143.pull (F := F78) (Fr := [no, F75]) 1 rfl rfl
          refine lse rfl rfl (by kernel_rfl) (e_setel (d := tBool) (b := b140) (i := (t127).toNat) (v := .bool true) (vs := [.bool true]) (yv := true) S144 (by kernel_rfl) e142 rfl rfl (by kernel_rfl) h20 (show (t127).toNat < x79.length by have : x79.length = ((x1.sub_.length : Int)).toNat := n80; omega) rfl) ?_
          rintro w145 ⟨F147, h146, S148, K149⟩
          replace h76 := h76.move (K149.at 0 rfl)
          clear h20
          refine wpList_nil ?_
          refine then_n ?_
          refine wp_region_lit ?_
          refine lv (d := 75) rfl rfl (by kernel_rfl) (e_move (v := .slice A73 x72.length c74) (by exact e84)) ?_
          refine lv (d := 76) rfl rfl (by kernel_rfl) (e_move (v := .pointer (some ⟨g2, 0, none⟩)) (by exact e81)) ?_
          refine lv (d := 77) rfl rfl (by kernel_rfl) (e_nilCheck (ad := ⟨g2, 0, none⟩) (by kernel_rfl)) ?_
          refine lv (d := 78) rfl rfl (by kernel_rfl) (e_fieldAddr (b := g2) (off := 0) (o := 0) Try.underlying106 rfl rfl (sz := 1) (by kernel_rfl) (by decide) (by kernel_rfl)) ?_
          refine lv (d := 79) rfl rfl (by kernel_rfl) (e_load1 (ad := ⟨g2, 0 + 0, none⟩) (v := .slice A4 x1.sub_.length c5) Try.underlying52 rfl (by kernel_rfl) (blk_cell (S148.inv _ _ b3) rfl)) ?_
          refine lv (d := 80) rfl rfl (by kernel_rfl) (e_move (v := .int .i64 t127) (by kernel_rfl)) ?_
          obtain ⟨q150, M⟩ := chk M
          obtain ⟨b151, o152, e153⟩ := Rd.addr h6 (show (t127).toNat < x1.sub_.length by omega)
          obtain ⟨y154, r155, k156⟩ := Rd.at h6 e153 (getD_some z63 (show (t127).toNat < x1.sub_.length by omega))
          obtain ⟨A157, c158, rfl, l159, h160⟩ := st63_open r155
          refine lv (d := 81) rfl rfl (by kernel_rfl) (e_indexAddr (b := b151) (off := o152) (n := x1.sub_.length) (c := c5) (sz := 2) (i := t127) (k := .i64) Try.underlying52 e153 (by kernel_rfl) (by kernel_rfl) (by kernel_rfl) q134 q150) ?_
          refine lv (d := 82) rfl rfl (by kernel_rfl) (e_fieldAddr (b := b151) (off := o152 + (t127 : Int).toNat * 2) (o := 1) Try.underlying63 rfl rfl (sz := 1) (by kernel_rfl) (by decide) (by kernel_rfl)) ?_
          refine lv (d := 83) rfl rfl (by kernel_rfl) (e_load1 (ad := ⟨b151, o152 + (t127 : Int).toNat * 2 + 1, none⟩) (v := .slice A157 ((x1.sub_.getD ((t127).toNat) z63).term).length c158) Try.underlying25 rfl (by kernel_rfl) (hpx (S148.inv.cell (k156 1 _ rfl)))) ?_
          refine lve (d := 84) rfl rfl (by kernel_rfl) (new_blk (v := fun g_ => .slice (some ⟨g_, 0, none⟩) 1 1) (cs := #[.slice A157 ((x1.sub_.getD ((t127).toNat) z63).term).length c158]) (t := 25) S148 (by kernel_rfl)) ?_
          rintro _ w161 ⟨g162, rfl, b163, S164, K165⟩
          replace h146 := h146.move (K165.at 0 rfl)
          replace h76 := h76.move (K165.at 1 rfl)
          obtain ⟨q166, M⟩ := chk M
          have S167 := S164.pull (F := F75) (Fr := [(is g162), F147]) 2 rfl rfl
          have S168 := S167.unit
          have S169 := S168.pull (F := F75) (Fr := [no, (is g162), F147]) 1 rfl rfl
          refine lve (d := 85) rfl rfl (by kernel_rfl) (e_append (d := (ro sl65)) (n := x72.length) (xs := x72) (cap := c74) (A := A73) (ys := [(x1.sub_.getD ((t127).toNat) z63).term]) (A2 := (some ⟨g162, 0, none⟩)) (c2 := 1) (z := .slice none 0 0) (bytes := 24) S169 Try.underlying38 (by kernel_rfl) rfl (by decide) (by kernel_rfl) rfl (by kernel_rfl) h76 (elsO_one1 ⟨A157, c158, rfl, l159, h160⟩) (.inr (blk_news b163 rfl)) (show (x72.length + [(x1.sub_.getD ((t127).toNat) z63).term].length) * 24 ≤ _ by first | omega | (simp only [List.length_cons, List.length_nil]; omega)) (by decide)) ?_
          rintro _ w170 ⟨A171, c172, F173, rfl, h174, S175, K176⟩
          replace b163 := K176.blk 0 rfl b163
          replace h146 := h146.move (K176.at 1 rfl)
          refine lv (d := 8) rfl rfl (by kernel_rfl) (e_assign (v := .slice A171 ((x72 ++ [(x1.sub_.getD ((t127).toNat) z63).term]).length) c172) (by kernel_rfl)) ?_
          refine wpList_nil ?_
          refine inb_n ?_
          refine then_n ?_
          refine wp_region_lit ?_
          refine lv (d := 38) rfl rfl (by kernel_rfl) (e_move (v := .int .i64 x77) (by exact e86)) ?_
          refine lv (d := 39) rfl rfl (by kernel_rfl) (e_add (k := .i64) (a := x77) (b := 1) (by kernel_rfl) rfl) ?_
          refine lv (d := 10) rfl rfl (by kernel_rfl) (e_assign (v := .int .i64 (IntKind.i64.wrap (x77 + 1))) (by kernel_rfl)) ?_
          refine wpList_nil ?_
          refine then_n ?_
          have S177 := S175.pull (F := F147) (Fr := [F173, (is g162)]) 2 rfl rfl
          have S178 := St.first (Fa := [F147, F173]) (Fr := [(is g162)]) S177
          exact ⟨k92, (by omega), _, (x72 ++ [(x1.sub_.getD ((t127).toNat) z63).term]), A171, c172, F173, (IntKind.i64.wrap (x77 + 1)), F147, (x79.set ((t127).toNat) true), (by omega), rfl, (by exact e81), (by exact e82), (by exact e83), (by kernel_rfl), (by exact e85), (by kernel_rfl), h146, h174, (List.length_set.trans n80), S178, M⟩
        replace M := ifn q139 M
        refine cond_f rfl (bf q139 (by kernel_rfl)) ?_
        refine wp_skip ?_
        refine inb_n ?_
        refine then_n ?_
        refine wp_region_lit ?_
        refine lv (d := 38) rfl rfl (by kernel_rfl) (e_move (v := .int .i64 x77) (by exact e86)) ?_
        refine lv (d := 39) rfl rfl (by kernel_rfl) (e_add (k := .i64) (a := x77) (b := 1) (by kernel_rfl) rfl) ?_
        refine lv (d := 10) rfl rfl (by kernel_rfl) (e_assign (v := .int .i64 (IntKind.i64.wrap (x77 + 1))) (by kernel_rfl)) ?_
        refine wpList_nil ?_
        refine then_n ?_
        exact ⟨k92, (by omega), _, x72, A73, c74, F75, (IntKind.i64.wrap (x77 + 1)), F78, x79, (by omega), rfl, (by exact e81), (by exact e82), (by exact e83), (by exact e84), (by exact e85), (by kernel_rfl), h20, h76, n80, S130, M⟩
      replace M := ifn q133 M
      refine lskip (t := 65) (c := false) rfl (by kernel_rfl) rfl (bf q133 (by kernel_rfl)) rfl rfl ?_
      refine lskip (t := 65) (c := false) rfl (by kernel_rfl) rfl (bf q133 (by kernel_rfl)) rfl rfl ?_
      refine lskip (t := 65) (c := false) rfl (by kernel_rfl) rfl (bf q133 (by kernel_rfl)) rfl rfl ?_
      refine lskip (t := 65) (c := false) rfl (by kernel_rfl) rfl (bf q133 (by kernel_rfl)) rfl rfl ?_
      refine lskip (t := 65) (c := false) rfl (by kernel_rfl) rfl (bf q133 (by kernel_rfl)) rfl rfl ?_
      refine lv (d := 71) rfl rfl (by kernel_rfl) (e_pick_f (v := .bool false) (bf q133 (by kernel_rfl)) rfl) ?_
      refine wpList_nil ?_
      refine then_n ?_
      refine cond_f rfl (by kernel_rfl) ?_
      refine wp_skip ?_
      refine inb_n ?_
      refine then_n ?_
      refine wp_region_lit ?_
      refine lv (d := 38) rfl rfl (by kernel_rfl) (e_move (v := .int .i64 x77) (by exact e86)) ?_
      refine lv (d := 39) rfl rfl (by kernel_rfl) (e_add (k := .i64) (a := x77) (b := 1) (by kernel_rfl) rfl) ?_
      refine lv (d := 10) rfl rfl (by kernel_rfl) (e_assign (v := .int .i64 (IntKind.i64.wrap (x77 + 1))) (by kernel_rfl)) ?_
      refine wpList_nil ?_
      refine then_n ?_
      exact ⟨k92, (by omega), _, x72, A73, c74, F75, (IntKind.i64.wrap (x77 + 1)), F78, x79, (by omega), rfl, (by exact e81), (by exact e82), (by exact e83), (by exact e84), (by exact e85), (by kernel_rfl), h20, h76, n80, S130, M⟩
    replace M := ifn q93 M
    refine cond_f rfl (bf q93 (by kernel_rfl)) ?_
    refine wp_exit ?_
    refine then_e ?_
    refine then_e ?_
    refine inb_hit ?_
    refine inb_n ?_
    refine then_n ?_
    exact ⟨k92, (by omega), _, x72, A73, c74, F75, F78, x79, rfl, (by exact e81), (by exact e82), (by exact e83), (by exact e84), h20, h76, n80, S87, M⟩
  replace M := ifn q53 M
  refine cond_f rfl (bf q53 (by kernel_rfl)) ?_
  refine wp_exit ?_
  refine then_e ?_
  refine then_e ?_
  refine inb_hit ?_
  refine then_n ?_
  refine wp_seq ?_
  refine wp_region_lit ?_
  refine lv (d := 6) rfl rfl (by kernel_rfl) (e_assign (v := .bool false) rfl) ?_
  refine wpList_nil ?_
  refine then_n ?_
  refine wp_ret ?_
  obtain rfl := Option.some.inj M
  exact ret1 rfl rfl  (show _ = .bool false from (by kernel_rfl)) ⟨rfl, S46.chg⟩

/-! spec_l2next -/
def spec_l2next.l0 : Nat → (List Cell) → Int → Int → Option Int
  | 0, _, _, _ => none
  | k19 + 1, x1, x9, x10 => (if x10 > 0 then (if 0 ≤ x9 then (if x9 < (x1.length : Int) then (if ((x1.getD ((x9).toNat) z65).kind) = 3 then (spec_l2next.l0 k19 x1 (IntKind.i64.wrap (x9 + 1)) (IntKind.i64.wrap ((IntKind.i64.wrap (x10 + ((x1.getD ((x9).toNat) z65).n))) - 1))) else (spec_l2next.l0 k19 x1 (IntKind.i64.wrap (x9 + 1)) (IntKind.i64.wrap (x10 - 1)))) else none) else none) else some x9)
def spec_l2next.f (k : Nat) (x1 : List Cell) (x6 : Int) : Option Int := (spec_l2next.l0 k x1 x6 1)
theorem spec_l2next.calls (k : Nat) (w : World) (H : Hp) (x1 : List Cell) (A2 : Option Addr) (c3 : Nat) (x6 : Int) (h4 : Rd st65 H A2 x1) (l5 : x1.length ≤ c3) (S : Own [] H w) (r : Int) (M : spec_l2next.f k x1 x6 = some r) :
    Calls Try.prog 70 #[.slice A2 x1.length c3, .int .i64 x6] w (fun e e_w => e = .returned (.int .i64 r) ∧ Chg no w e_w) := by
  rw [spec_l2next.f] at M
  refine enter (l := [.slice A2 x1.length c3, .int .i64 x6]) 26 Try.func70 rfl rfl rfl ?_
  have S0_ := S.st
  refine wp_seq ?_
  refine wp_region_lit ?_
  refine lv (d := 4) rfl rfl (by kernel_rfl) (e_assign (v := .int .i64 0) rfl) ?_
  refine wpList_nil ?_
  refine then_n ?_
  refine wp_seq ?_
  refine wp_region_lit ?_
  refine lv (d := 5) rfl rfl (by kernel_rfl) (e_assign (v := .int .i64 1) rfl) ?_
  refine wpList_nil ?_
  refine then_n ?_
  refine wp_seq ?_
  refine wp_block ?_
  refine wp_loop_g (fun k17 a18 w7 => ∃ (f8 : Nat → Value) (x9 : Int) (x10 : Int), a18 = mk 26 f8 ∧ f8 0 = .slice A2 x1.length c3 ∧ f8 1 = .int .i64 x9 ∧ f8 5 = .int .i64 x10 ∧ St (anyOf []) H w [] H w7 ∧ spec_l2next.l0 k17 x1 x9 x10 = some r) k ⟨_, x6, 1, rfl, (by kernel_rfl), (by kernel_rfl), (by kernel_rfl), S0_, M⟩ ?_
  clear M
  rintro k17 a18 w7 ⟨f8, x9, x10, rfl, e11, e12, e13, S14, M⟩
  rcases k17 with _ | k19
  · rw [spec_l2next.l0] at M
    cases M
  rw [spec_l2next.l0] at M
  refine wp_seq ?_
  refine wp_seq ?_
  refine wp_region_lit ?_
  refine lv (d := 6) rfl rfl (by kernel_rfl) (e_move (v := .int .i64 x10) (by exact e13)) ?_
  refine lv (d := 7) rfl rfl (by kernel_rfl) (e_gtr (k := .i64) (a := x10) (b := 0) (by kernel_rfl) rfl) ?_
  refine wpList_nil ?_
  refine then_n ?_
  by_cases q20 : x10 > 0
  · replace M := ifp q20 M
    refine cond_t rfl (bt q20 (by kernel_rfl)) ?_
    refine wp_skip ?_
    refine then_n ?_
    refine wp_block ?_
    refine wp_seq ?_
    refine wp_seq ?_
    refine wp_region_lit ?_
    refine lv (d := 8) rfl rfl (by kernel_rfl) (e_move (v := .slice A2 x1.length c3) (by exact e11)) ?_
    refine lv (d := 9) rfl rfl (by kernel_rfl) (e_move (v := .int .i64 x9) (by exact e12)) ?_
    obtain ⟨q21, M⟩ := chk M
    obtain ⟨q22, M⟩ := chk M
    obtain ⟨b23, o24, e25⟩ := Rd.addr h4 (show (x9).toNat < x1.length by omega)
    obtain ⟨y26, r27, k28⟩ := Rd.at h4 e25 (getD_some z65 (show (x9).toNat < x1.length by omega))
    obtain ⟨A29, c30, rfl, l31, h32⟩ := st65_open r27
    refine lv (d := 10) rfl rfl (by kernel_rfl) (e_indexAddr (b := b23) (off := o24) (n := x1.length) (c := c3) (sz := 3) (i := x9) (k := .i64) Try.underlying25 e25 (by kernel_rfl) (by kernel_rfl) (by kernel_rfl) q21 q22) ?_
    refine lv (d := 11) rfl rfl (by kernel_rfl) (e_fieldAddr (b := b23) (off := o24 + (x9 : Int).toNat * 3) (o := 0) Try.underlying65 rfl rfl (sz := 1) (by kernel_rfl) (by decide) (by kernel_rfl)) ?_
    refine lv (d := 12) rfl rfl (by kernel_rfl) (e_load1 (ad := ⟨b23, o24 + (x9 : Int).toNat * 3 + 0, none⟩) (v := .int .i64 ((x1.getD ((x9).toNat) z65).kind)) Try.underlying3 rfl (by kernel_rfl) (hpx (S14.inv.cell (k28 0 _ rfl)))) ?_
    refine lv (d := 13) rfl rfl (by kernel_rfl) (e_eql (k := .i64) (a := (x1.getD ((x9).toNat) z65).kind) (b := 3) (by kernel_rfl) rfl) ?_
    refine wpList_nil ?_
    refine then_n ?_
    by_cases q33 : ((x1.getD ((x9).toNat) z65).kind) = 3
    · replace M := ifp q33 M
      refine cond_t rfl (bt q33 (by kernel_rfl)) ?_
      refine wp_region_lit ?_
      refine lv (d := 14) rfl rfl (by kernel_rfl) (e_move (v := .int .i64 x10) (by exact e13)) ?_
      refine lv (d := 15) rfl rfl (by kernel_rfl) (e_move (v := .slice A2 x1.length c3) (by exact e11)) ?_
      refine lv (d := 16) rfl rfl (by kernel_rfl) (e_move (v := .int .i64 x9) (by exact e12)) ?_
      obtain ⟨b34, o35, e36⟩ := Rd.addr h4 (show (x9).toNat < x1.length by omega)
      obtain ⟨y37, r38, k39⟩ := Rd.at h4 e36 (getD_some z65 (show (x9).toNat < x1.length by omega))
      obtain ⟨A40, c41, rfl, l42, h43⟩ := st65_open r38
      refine lv (d := 17) rfl rfl (by kernel_rfl) (e_indexAddr (b := b34) (off := o35) (n := x1.length) (c := c3) (sz := 3) (i := x9) (k := .i64) Try.underlying25 e36 (by kernel_rfl) (by kernel_rfl) (by kernel_rfl) q21 q22) ?_
      refine lv (d := 18) rfl rfl (by kernel_rfl) (e_fieldAddr (b := b34) (off := o35 + (x9 : Int).toNat * 3) (o := 1) Try.underlying65 rfl rfl (sz := 1) (by kernel_rfl) (by decide) (by kernel_rfl)) ?_
      refine lv (d := 19) rfl rfl (by kernel_rfl) (e_load1 (ad := ⟨b34, o35 + (x9 : Int).toNat * 3 + 1, none⟩) (v := .int .i64 ((x1.getD ((x9).toNat) z65).n)) Try.underlying3 rfl (by kernel_rfl) (hpx (S14.inv.cell (k39 1 _ rfl)))) ?_
      refine lv (d := 20) rfl rfl (by kernel_rfl) (e_add (k := .i64) (a := x10) (b := (x1.getD ((x9).toNat) z65).n) (by kernel_rfl) (by kernel_rfl)) ?_
      refine lv (d := 5) rfl rfl (by kernel_rfl) (e_assign (v := .int .i64 (IntKind.i64.wrap (x10 + ((x1.getD ((x9).toNat) z65).n)))) (by kernel_rfl)) ?_
      refine wpList_nil ?_
      refine then_n ?_
      refine wp_seq ?_
      refine wp_region_lit ?_
      refine lv (d := 21) rfl rfl (by kernel_rfl) (e_move (v := .int .i64 (IntKind.i64.wrap (x10 + ((x1.getD ((x9).toNat) z65).n)))) (by kernel_rfl)) ?_
      refine lv (d := 22) rfl rfl (by kernel_rfl) (e_sub (k := .i64) (a := (IntKind.i64.wrap (x10 + ((x1.getD ((x9).toNat) z65).n)))) (b := 1) (by kernel_rfl) rfl) ?_
      refine lv (d := 5) rfl rfl (by kernel_rfl) (e_assign (v := .int .i64 (IntKind.i64.wrap ((IntKind.i64.wrap (x10 + ((x1.getD ((x9).toNat) z65).n))) - 1))) (by kernel_rfl)) ?_
      refine wpList_nil ?_
      refine then_n ?_
      refine wp_region_lit ?_
      refine lv (d := 23) rfl rfl (by kernel_rfl) (e_move (v := .int .i64 x9) (by exact e12)) ?_
      refine lv (d := 24) rfl rfl (by kernel_rfl) (e_add (k := .i64) (a := x9) (b := 1) (by kernel_rfl) rfl) ?_
      refine lv (d := 1) rfl rfl (by kernel_rfl) (e_assign (v := .int .i64 (IntKind.i64.wrap (x9 + 1))) (by kernel_rfl)) ?_
      refine wpList_nil ?_
      refine inb_n ?_
      refine then_n ?_
      exact ⟨k19, (by omega), _, (IntKind.i64.wrap (x9 + 1)), (IntKind.i64.wrap ((IntKind.i64.wrap (x10 + ((x1.getD ((x9).toNat) z65).n))) - 1)), rfl, (by exact e11), (by kernel_rfl), (by kernel_rfl), S14, M⟩
    replace M := ifn q33 M
    refine cond_f rfl (bf q33 (by kernel_rfl)) ?_
    refine wp_skip ?_
    refine then_n ?_
    refine wp_seq ?_
    refine wp_region_lit ?_
    refine lv (d := 21) rfl rfl (by kernel_rfl) (e_move (v := .int .i64 x10) (by exact e13)) ?_
    refine lv (d := 22) rfl rfl (by kernel_rfl) (e_sub (k := .i64) (a := x10) (b := 1) (by kernel_rfl) rfl) ?_
    refine lv (d := 5) rfl rfl (by kernel_rfl) (e_assign (v := .int .i64 (IntKind.i64.wrap (x10 - 1))) (by kernel_rfl)) ?_
    refine wpList_nil ?_
    refine then_n ?_
    refine wp_region_lit ?_
    refine lv (d := 23) rfl rfl (by kernel_rfl) (e_move (v := .int .i64 x9) (by exact e12)) ?_
    refine lv (d := 24) rfl rfl (by kernel_rfl) (e_add (k := .i64) (a := x9) (b := 1) (by kernel_rfl) rfl) ?_
    refine lv (d := 1) rfl rfl (by kernel_rfl) (e_assign (v := .int .i64 (IntKind.i64.wrap (x9 + 1))) (by kernel_rfl)) ?_
    refine wpList_nil ?_
    refine inb_n ?_
    refine then_n ?_
    exact ⟨k19, (by omega), _, (IntKind.i64.wrap (x9 + 1)), (IntKind.i64.wrap (x10 - 1)), rfl, (by exact e11), (by kernel_rfl), (by kernel_rfl), S14, M⟩
  replace M := ifn q20 M
  refine cond_f rfl (bf q20 (by kernel_rfl)) ?_
  refine wp_exit ?_
  refine then_e ?_
  refine then_e ?_
  refine inb_hit ?_
  refine then_n ?_
  refine wp_seq ?_
  refine wp_region_lit ?_
  refine lv (d := 25) rfl rfl (by kernel_rfl) (e_move (v := .int .i64 x9) (by exact e12)) ?_
  refine lv (d := 4) rfl rfl (by kernel_rfl) (e_assign (v := .int .i64 x9) (by kernel_rfl)) ?_
  refine wpList_nil ?_
  refine then_n ?_
  refine wp_ret ?_
  obtain rfl := Option.some.inj M
  exact ret1 rfl rfl  (show _ = .int .i64 x9 from (by kernel_rfl)) ⟨rfl, S14.chg⟩

/-! spec_l2args -/
def spec_l2args.l0 : Nat → (List Cell) → (List (List Cell)) → Int → Int → Option (List (List Cell))
  | 0, _, _, _, _ => none
  | k39 + 1, x1, x23, x28, x29 => (if x29 < ((x1.getD 0 z65).n) then ((spec_l2next.f k39 x1 x28).bind fun t52 => (if 0 ≤ x28 then (if x28 ≤ t52 then (if t52 ≤ (x1.length : Int) then (if x23.length + 1 ≤ 5864062014805 then (spec_l2args.l0 k39 x1 (x23 ++ [((x1.drop ((x28 : Int).toNat)).take ((t52 : Int).toNat - (x28 : Int).toNat))]) t52 (IntKind.i64.wrap (x29 + 1))) else none) else none) else none) else none)) else some x23)
def spec_l2args.f (k : Nat) (x1 : List Cell) : Option (List (List Cell)) := (if (x1.length : Int) = 0 then some [] else (if 0 < (x1.length : Int) then (if ((x1.getD 0 z65).kind) ≠ 3 then some [] else (spec_l2args.l0 k x1 [] 1 0)) else none))
theorem spec_l2args.calls (k : Nat) (w : World) (H : Hp) (x1 : List Cell) (A2 : Option Addr) (c3 : Nat) (h4 : Rd st65 H A2 x1) (l5 : x1.length ≤ c3) (S : Own [] H w) (r : List (List Cell)) (M : spec_l2args.f k x1 = some r) :
    Calls Try.prog 118 #[.slice A2 x1.length c3] w (fun e e_w => ∃ (A_1 : Option Addr) (c_1 : Nat) (F_1 : Foot) (H_ : Hp), e = .returned (.slice A_1 r.length c_1) ∧ Row (ro sl65) 25 H_ (hp e_w) F_1 A_1 c_1 r ∧ St (anyOf []) H w [F_1] H_ e_w) := by
  rw [spec_l2args.f] at M
  refine enter (l := [.slice A2 x1.length c3]) 38 Try.func118 rfl rfl rfl ?_
  have S0_ := S.st
  refine wp_seq ?_
  refine wp_region_lit ?_
  refine lv (d := 2) rfl rfl (by kernel_rfl) (e_assign (v := .slice none 0 0) rfl) ?_
  refine wpList_nil ?_
  refine then_n ?_
  refine wp_seq ?_
  refine wp_region_lit ?_
  refine lv (d := 3) rfl rfl (by kernel_rfl) (e_assign (v := .slice none 0 0) rfl) ?_
  refine wpList_nil ?_
  refine then_n ?_
  refine wp_seq ?_
  refine wp_seq ?_
  refine wp_region_lit ?_
  refine lv (d := 7) rfl rfl (by kernel_rfl) (e_move (v := .slice A2 x1.length c3) (by kernel_rfl)) ?_
  refine lv (d := 8) rfl rfl (by kernel_rfl) (e_len (A := A2) (n := x1.length) (c := c3) Try.underlying25 (by kernel_rfl)) ?_
  refine lv (d := 9) rfl rfl (by kernel_rfl) (e_eql (k := .i64) (a := (x1.length : Int)) (b := 0) (by kernel_rfl) rfl) ?_
  refine lv (d := 10) rfl rfl (by kernel_rfl) (e_move (v := .bool (decide ((x1.length : Int) = 0))) (by kernel_rfl)) ?_
  by_cases q6 : (x1.length : Int) = 0
  · replace M := ifp q6 M
    refine lskip (t := 10) (c := true) rfl (by kernel_rfl) rfl (bt q6 (by kernel_rfl)) rfl rfl ?_
    refine lskip (t := 10) (c := true) rfl (by kernel_rfl) rfl (bt q6 (by kernel_rfl)) rfl rfl ?_
    refine lskip (t := 10) (c := true) rfl (by kernel_rfl) rfl (bt q6 (by kernel_rfl)) rfl rfl ?_
    refine lskip (t := 10) (c := true) rfl (by kernel_rfl) rfl (bt q6 (by kernel_rfl)) rfl rfl ?_
    refine lskip (t := 10) (c := true) rfl (by kernel_rfl) rfl (bt q6 (by kernel_rfl)) rfl rfl ?_
    refine lv (d := 16) rfl rfl (by kernel_rfl) (e_pick_t (v := .bool true) (bt q6 (by kernel_rfl)) rfl) ?_
    refine wpList_nil ?_
    refine then_n ?_
    refine cond_t rfl (by kernel_rfl) ?_
    refine wp_seq ?_
    refine wp_region_lit ?_
    refine lv (d := 17) rfl rfl (by kernel_rfl) (e_move (v := .slice none 0 0) (by kernel_rfl)) ?_
    refine lv (d := 2) rfl rfl (by kernel_rfl) (e_assign (v := .slice none 0 0) (by kernel_rfl)) ?_
    refine wpList_nil ?_
    refine then_n ?_
    refine wp_ret ?_
    refine then_r ?_
    obtain rfl := Option.some.inj M
    have S7 := S0_.unit
    exact ret1 rfl rfl  (show _ = .slice none 0 0 from (by kernel_rfl)) ⟨none, 0, no, H, rfl, (Row.nil _ _ _ _ no), S7⟩
  replace M := ifn q6 M
  refine lvg (d := 11) (t := 10) rfl (by kernel_rfl) rfl (bf q6 (by kernel_rfl)) rfl (by kernel_rfl) (e_move (v := .slice A2 x1.length c3) (by kernel_rfl)) ?_
  obtain ⟨q8, M⟩ := chk M
  obtain ⟨b9, o10, e11⟩ := Rd.addr h4 (show 0 < x1.length by omega)
  obtain ⟨y12, r13, k14⟩ := Rd.at h4 e11 (getD_some z65 (show 0 < x1.length by omega))
  obtain ⟨A15, c16, rfl, l17, h18⟩ := st65_open r13
  refine lvg (d := 12) (t := 10) rfl (by kernel_rfl) rfl (bf q6 (by kernel_rfl)) rfl (by kernel_rfl) (e_indexAddr (b := b9) (off := o10) (n := x1.length) (c := c3) (sz := 3) (i := 0) (k := .i64) Try.underlying25 e11 (by kernel_rfl) (by kernel_rfl) rfl (by omega) q8) ?_
  refine lvg (d := 13) (t := 10) rfl (by kernel_rfl) rfl (bf q6 (by kernel_rfl)) rfl (by kernel_rfl) (e_fieldAddr (b := b9) (off := o10 + (0 : Int).toNat * 3) (o := 0) Try.underlying65 rfl rfl (sz := 1) (by kernel_rfl) (by decide) (by kernel_rfl)) ?_
  refine lvg (d := 14) (t := 10) rfl (by kernel_rfl) rfl (bf q6 (by kernel_rfl)) rfl (by kernel_rfl) (e_load1 (ad := ⟨b9, o10 + (0 : Int).toNat * 3 + 0, none⟩) (v := .int .i64 ((x1.getD 0 z65).kind)) Try.underlying3 rfl (by kernel_rfl) (hpx (S0_.inv.cell (k14 0 _ rfl)))) ?_
  refine lvg (d := 15) (t := 10) rfl (by kernel_rfl) rfl (bf q6 (by kernel_rfl)) rfl (by kernel_rfl) (e_neq (k := .i64) (a := (x1.getD 0 z65).kind) (b := 3) (by kernel_rfl) rfl) ?_
  refine lv (d := 16) rfl rfl (by kernel_rfl) (e_pick_f (v := .bool (decide (((x1.getD 0 z65).kind) ≠ 3))) (bf q6 (by kernel_rfl)) (by kernel_rfl)) ?_
  refine wpList_nil ?_
  refine then_n ?_
  by_cases q19 : ((x1.getD 0 z65).kind) ≠ 3
  · replace M := ifp q19 M
    refine cond_t rfl (bt q19 (by kernel_rfl)) ?_
    refine wp_seq ?_
    refine wp_region_lit ?_
    refine lv (d := 17) rfl rfl (by kernel_rfl) (e_move (v := .slice none 0 0) (by kernel_rfl)) ?_
    refine lv (d := 2) rfl rfl (by kernel_rfl) (e_assign (v := .slice none 0 0) (by kernel_rfl)) ?_
    refine wpList_nil ?_
    refine then_n ?_
    refine wp_ret ?_
    refine then_r ?_
    obtain rfl := Option.some.inj M
    have S20 := S0_.unit
    exact ret1 rfl rfl  (show _ = .slice none 0 0 from (by kernel_rfl)) ⟨none, 0, no, H, rfl, (Row.nil _ _ _ _ no), S20⟩
  replace M := ifn q19 M
  refine cond_f rfl (bf q19 (by kernel_rfl)) ?_
  refine wp_skip ?_
  refine then_n ?_
  refine wp_seq ?_
  refine wp_region_lit ?_
  refine lv (d := 4) rfl rfl (by kernel_rfl) (e_assign (v := .int .i64 1) rfl) ?_
  refine wpList_nil ?_
  refine then_n ?_
  refine wp_seq ?_
  refine wp_seq ?_
  refine wp_region_lit ?_
  refine lv (d := 5) rfl rfl (by kernel_rfl) (e_assign (v := .int .i64 0) rfl) ?_
  refine wpList_nil ?_
  refine then_n ?_
  refine wp_block ?_
  have S40 := S0_.unit
  refine wp_loop_g (fun k37 a38 w21 => ∃ (f22 : Nat → Value) (x23 : List (List Cell)) (A24 : Option Addr) (c25 : Nat) (F26 : Foot) (x28 : Int) (x29 : Int), a38 = mk 38 f22 ∧ f22 0 = .slice A2 x1.length c3 ∧ f22 3 = .slice A24 x23.length c25 ∧ f22 4 = .int .i64 x28 ∧ f22 5 = .int .i64 x29 ∧ Row (ro sl65) 25 H (hp w21) F26 A24 c25 x23 ∧ St (anyOf []) H w [F26] H w21 ∧ spec_l2args.l0 k37 x1 x23 x28 x29 = some r) k ⟨_, [], none, 0, no, 1, 0, rfl, (by kernel_rfl), (by kernel_rfl), (by kernel_rfl), (by kernel_rfl), (Row.nil _ _ _ _ _), S40, M⟩ ?_
  clear M
  rintro k37 a38 w21 ⟨f22, x23, A24, c25, F26, x28, x29, rfl, e30, e31, e32, e33, h27, S34, M⟩
  rcases k37 with _ | k39
  · rw [spec_l2args.l0] at M
    cases M
  rw [spec_l2args.l0] at M
  refine wp_seq ?_
  refine wp_seq ?_
  refine wp_region_lit ?_
  refine lv (d := 18) rfl rfl (by kernel_rfl) (e_move (v := .int .i64 x29) (by exact e33)) ?_
  refine lv (d := 19) rfl rfl (by kernel_rfl) (e_move (v := .slice A2 x1.length c3) (by exact e30)) ?_
  obtain ⟨b41, o42, e43⟩ := Rd.addr h4 (show 0 < x1.length by omega)
  obtain ⟨y44, r45, k46⟩ := Rd.at h4 e43 (getD_some z65 (show 0 < x1.length by omega))
  obtain ⟨A47, c48, rfl, l49, h50⟩ := st65_open r45
  refine lv (d := 20) rfl rfl (by kernel_rfl) (e_indexAddr (b := b41) (off := o42) (n := x1.length) (c := c3) (sz := 3) (i := 0) (k := .i64) Try.underlying25 e43 (by kernel_rfl) (by kernel_rfl) rfl (by omega) q8) ?_
  refine lv (d := 21) rfl rfl (by kernel_rfl) (e_fieldAddr (b := b41) (off := o42 + (0 : Int).toNat * 3) (o := 1) Try.underlying65 rfl rfl (sz := 1) (by kernel_rfl) (by decide) (by kernel_rfl)) ?_
  refine lv (d := 22) rfl rfl (by kernel_rfl) (e_load1 (ad := ⟨b41, o42 + (0 : Int).toNat * 3 + 1, none⟩) (v := .int .i64 ((x1.getD 0 z65).n)) Try.underlying3 rfl (by kernel_rfl) (hpx (S34.inv.cell (k46 1 _ rfl)))) ?_
  refine lv (d := 23) rfl rfl (by kernel_rfl) (e_lss (k := .i64) (a := x29) (b := (x1.getD 0 z65).n) (by kernel_rfl) (by kernel_rfl)) ?_
  refine wpList_nil ?_
  refine then_n ?_
  by_cases q51 : x29 < ((x1.getD 0 z65).n)
  · replace M := ifp q51 M
    refine cond_t rfl (bt q51 (by kernel_rfl)) ?_
    refine wp_skip ?_
    refine then_n ?_
    refine wp_seq ?_
    refine wp_block ?_
    refine wp_seq ?_
    refine wp_region_lit ?_
    refine lv (d := 26) rfl rfl (by kernel_rfl) (e_move (v := .slice A2 x1.length c3) (by exact e30)) ?_
    refine lv (d := 27) rfl rfl (by kernel_rfl) (e_move (v := .int .i64 x28) (by exact e32)) ?_
    obtain ⟨t52, u53, M⟩ := bnd M
    refine lcall (d := 28) rfl rfl (by kernel_rfl) (e_call (l := [.tmp 26, .tmp 27]) (vs := [.slice A2 x1.length c3, .int .i64 x28]) Try.func70 (by kernel_rfl) rfl (by kernel_rfl) rfl) (spec_l2next.calls k39 w21 H x1 A2 c3 x28 h4 l5 S34.own0 t52 u53) ?_
    rintro _ w54 ⟨rfl, C55⟩
    refine ⟨_, rfl, ?_⟩
    obtain ⟨S56, K57⟩ := S34.still C55
    replace h27 := h27.move (K57.at 0 rfl)
    refine lv (d := 6) rfl rfl (by kernel_rfl) (e_assign (v := .int .i64 t52) (by kernel_rfl)) ?_
    refine wpList_nil ?_
    refine then_n ?_
    refine wp_seq ?_
    refine wp_region_lit ?_
    refine lv (d := 29) rfl rfl (by kernel_rfl) (e_move (v := .slice A24 x23.length c25) (by exact e31)) ?_
    refine lv (d := 30) rfl rfl (by kernel_rfl) (e_move (v := .slice A2 x1.length c3) (by exact e30)) ?_
    refine lv (d := 31) rfl rfl (by kernel_rfl) (e_move (v := .int .i64 x28) (by exact e32)) ?_
    refine lv (d := 32) rfl rfl (by kernel_rfl) (e_move (v := .int .i64 t52) (by kernel_rfl)) ?_
    obtain ⟨q58, M⟩ := chk M
    obtain ⟨q59, M⟩ := chk M
    obtain ⟨q60, M⟩ := chk M
    obtain ⟨A61, h64, l63, h62⟩ := Rd.sub2 (d := st65) (n := x1.length) (m := 3) (cap := c3) (a := x28) (b := t52) rfl h4 q58 q59 q60 rfl l5
    refine lv (d := 33) rfl rfl (by kernel_rfl) (e_slice_lh (n := x1.length) (m := 3) (cap := c3) (A := A2) (a := x28) (b := t52) (k := .i64) (k2 := .i64) Try.underlying25 (by kernel_rfl) (by kernel_rfl) (by kernel_rfl) (by kernel_rfl) q58 q59 q60 l5 h64) ?_
    refine lve (d := 34) rfl rfl (by kernel_rfl) (new_blk (v := fun g_ => .slice (some ⟨g_, 0, none⟩) 1 1) (cs := #[.slice A61 ((x1.drop ((x28 : Int).toNat)).take ((t52 : Int).toNat - (x28 : Int).toNat)).length (c3 - ((x28 : Int).toNat))]) (t := 25) S56 (by kernel_rfl)) ?_
    rintro _ w65 ⟨g66, rfl, b67, S68, K69⟩
    replace h27 := h27.move (K69.at 0 rfl)
    obtain ⟨q70, M⟩ := chk M
    have S71 := S68.pull (F := F26) (Fr := [(is g66)]) 1 rfl rfl
    have S72 := S71.unit
    have S73 := S72.pull (F := F26) (Fr := [no, (is g66)]) 1 rfl rfl
    refine lve (d := 35) rfl rfl (by kernel_rfl) (e_append (d := (ro sl65)) (n := x23.length) (xs := x23) (cap := c25) (A := A24) (ys := [((x1.drop ((x28 : Int).toNat)).take ((t52 : Int).toNat - (x28 : Int).toNat))]) (A2 := (some ⟨g66, 0, none⟩)) (c2 := 1) (z := .slice none 0 0) (bytes := 24) S73 Try.underlying38 (by kernel_rfl) rfl (by decide) (by kernel_rfl) rfl (by kernel_rfl) h27 (elsO_one1 ⟨A61, (c3 - ((x28 : Int).toNat)), rfl, l63, h62⟩) (.inr (blk_news b67 rfl)) (show (x23.length + [((x1.drop ((x28 : Int).toNat)).take ((t52 : Int).toNat - (x28 : Int).toNat))].length) * 24 ≤ _ by first | omega | (simp only [List.length_cons, List.length_nil]; omega)) (by decide)) ?_
    rintro _ w74 ⟨A75, c76, F77, rfl, h78, S79, K80⟩
    replace b67 := K80.blk 0 rfl b67
    refine lv (d := 3) rfl rfl (by kernel_rfl) (e_assign (v := .slice A75 ((x23 ++ [((x1.drop ((x28 : Int).toNat)).take ((t52 : Int).toNat - (x28 : Int).toNat))]).length) c76) (by kernel_rfl)) ?_
    refine wpList_nil ?_
    refine then_n ?_
    refine wp_region_lit ?_
    refine lv (d := 36) rfl rfl (by kernel_rfl) (e_move (v := .int .i64 t52) (by kernel_rfl)) ?_
    refine lv (d := 4) rfl rfl (by kernel_rfl) (e_assign (v := .int .i64 t52) (by kernel_rfl)) ?_
    refine wpList_nil ?_
    refine inb_n ?_
    refine then_n ?_
    refine wp_region_lit ?_
    refine lv (d := 24) rfl rfl (by kernel_rfl) (e_move (v := .int .i64 x29) (by exact e33)) ?_
    refine lv (d := 25) rfl rfl (by kernel_rfl) (e_add (k := .i64) (a := x29) (b := 1) (by kernel_rfl) rfl) ?_
    refine lv (d := 5) rfl rfl (by kernel_rfl) (e_assign (v := .int .i64 (IntKind.i64.wrap (x29 + 1))) (by kernel_rfl)) ?_
    refine wpList_nil ?_
    refine then_n ?_
    have S81 := St.first (Fa := [F77]) (Fr := [(is g66)]) S79
    exact ⟨k39, (by omega), _, (x23 ++ [((x1.drop ((x28 : Int).toNat)).take ((t52 : Int).toNat - (x28 : Int).toNat))]), A75, c76, F77, t52, (IntKind.i64.wrap (x29 + 1)), rfl, (by exact e30), (by kernel_rfl), (by kernel_rfl), (by kernel_rfl), h78, S81, M⟩
  replace M := ifn q51 M
  refine cond_f rfl (bf q51 (by kernel_rfl)) ?_
  refine wp_exit ?_
  refine then_e ?_
  refine then_e ?_
  refine inb_hit ?_
  refine then_n ?_
  refine wp_seq ?_
  refine wp_region_lit ?_
  refine lv (d := 37) rfl rfl (by kernel_rfl) (e_move (v := .slice A24 x23.length c25) (by exact e31)) ?_
  refine lv (d := 2) rfl rfl (by kernel_rfl) (e_assign (v := .slice A24 x23.length c25) (by kernel_rfl)) ?_
  refine wpList_nil ?_
  refine then_n ?_
  refine wp_ret ?_
  obtain rfl := Option.some.inj M
  exact ret1 rfl rfl  (show _ = .slice A24 x23.length c25 from (by kernel_rfl)) ⟨A24, c25, F26, H, rfl, h27, S34⟩

/-! spec_l5pair -/
mutual
def spec_l5pair_2.l0 : Nat → (List Binding) → Int → Option (Int × GL5st)
  | 0, _, _ => none
  | k112 + 1, x102, x107 => some (0, (⟨x102, x107⟩ : GL5st))
def spec_l5pair_2.l1 : Nat → GL5st → (List Cell) → (List Cell) → Int → Int → (List UInt8) → Int → Int → (List UInt8) → Option (Int × GL5st)
  | 0, _, _, _, _, _, _, _, _, _ => none
  | k232 + 1, x1, x199, x204, x209, x210, x211, x216, x217, x218 => (if x209 = 0 then ((spec_l5stands.f k232 (⟨x1.sub_, (IntKind.i64.wrap (x1.pairs_ + 1))⟩ : GL5st) x210 x204).bind fun t266 => (if t266 = true then some (5, (⟨x1.sub_, (IntKind.i64.wrap (x1.pairs_ + 1))⟩ : GL5st)) else ((spec_l5bind.f k232 (⟨x1.sub_, (IntKind.i64.wrap (x1.pairs_ + 1))⟩ : GL5st) x210 x204).bind fun t291 => some (0, t291)))) else (if x209 ≠ x216 then some (4, (⟨x1.sub_, (IntKind.i64.wrap (x1.pairs_ + 1))⟩ : GL5st)) else (if x210 ≠ x217 then some (4, (⟨x1.sub_, (IntKind.i64.wrap (x1.pairs_ + 1))⟩ : GL5st)) else (if x211 ≠ x218 then some (4, (⟨x1.sub_, (IntKind.i64.wrap (x1.pairs_ + 1))⟩ : GL5st)) else ((spec_l2args.f k232 x199).bind fun t319 => ((spec_l2args.f k232 x204).bind fun t331 => (spec_l5pair_2.l2 k232 t319 t331 0 x1.sub_ (IntKind.i64.wrap (x1.pairs_ + 1)))))))))
def spec_l5pair_2.l2 : Nat → (List (List Cell)) → (List (List Cell)) → Int → (List Binding) → Int → Option (Int × GL5st)
  | 0, _, _, _, _, _ => none
  | k363 + 1, t319, t331, x347, x348, x353 => (if x347 < (t319.length : Int) then (if 0 ≤ x347 then (if x347 < (t331.length : Int) then ((spec_l5pair_2.f k363 (⟨x348, x353⟩ : GL5st) (t319.getD ((x347).toNat) ([] : List Cell)) (t331.getD ((x347).toNat) ([] : List Cell))).bind fun t422 => (if t422.1 ≠ 0 then some (t422.1, t422.2) else (spec_l5pair_2.l2 k363 t319 t331 (IntKind.i64.wrap (x347 + 1)) t422.2.sub_ t422.2.pairs_))) else none) else none) else some (0, (⟨x348, x353⟩ : GL5st)))
def spec_l5pair_2.f : Nat → GL5st → (List Cell) → (List Cell) → Option (Int × GL5st)
  | 0, _, _, _ => none
  | k1_ + 1, x1, x8, x13 => (if x1.pairs_ ≥ 20000 then some (3, x1) else ((spec_l5walk.f k1_ (⟨x1.sub_, (IntKind.i64.wrap (x1.pairs_ + 1))⟩ : GL5st) x8).bind fun t26 => ((spec_l5walk.f k1_ (⟨x1.sub_, (IntKind.i64.wrap (x1.pairs_ + 1))⟩ : GL5st) x13).bind fun t42 => (if 0 < (t26.length : Int) then (if 0 < (t42.length : Int) then (if ((t26.getD 0 z65).kind) = 0 then (if ((t42.getD 0 z65).kind) = 0 then (if ((t26.getD 0 z65).n) > ((t42.getD 0 z65).n) then ((spec_l5bind.f k1_ (⟨x1.sub_, (IntKind.i64.wrap (x1.pairs_ + 1))⟩ : GL5st) ((t26.getD 0 z65).n) t42).bind fun t117 => (spec_l5pair_2.l0 k1_ t117.sub_ t117.pairs_)) else (if ((t42.getD 0 z65).n) > ((t26.getD 0 z65).n) then ((spec_l5bind.f k1_ (⟨x1.sub_, (IntKind.i64.wrap (x1.pairs_ + 1))⟩ : GL5st) ((t42.getD 0 z65).n) t26).bind fun t136 => (spec_l5pair_2.l0 k1_ t136.sub_ t136.pairs_)) else (spec_l5pair_2.l0 k1_ x1.sub_ (IntKind.i64.wrap (x1.pairs_ + 1))))) else ((spec_l5stands.f k1_ (⟨x1.sub_, (IntKind.i64.wrap (x1.pairs_ + 1))⟩ : GL5st) ((t26.getD 0 z65).n) t42).bind fun t156 => (if t156 = true then some (5, (⟨x1.sub_, (IntKind.i64.wrap (x1.pairs_ + 1))⟩ : GL5st)) else ((spec_l5bind.f k1_ (⟨x1.sub_, (IntKind.i64.wrap (x1.pairs_ + 1))⟩ : GL5st) ((t26.getD 0 z65).n) t42).bind fun t181 => some (0, t181))))) else (if ((t42.getD 0 z65).kind) = 0 then (spec_l5pair_2.l1 k1_ x1 t42 t26 ((t42.getD 0 z65).kind) ((t42.getD 0 z65).n) ((t42.getD 0 z65).text) ((t26.getD 0 z65).kind) ((t26.getD 0 z65).n) ((t26.getD 0 z65).text)) else (spec_l5pair_2.l1 k1_ x1 t26 t42 ((t26.getD 0 z65).kind) ((t26.getD 0 z65).n) ((t26.getD 0 z65).text) ((t42.getD 0 z65).kind) ((t42.getD 0 z65).n) ((t42.getD 0 z65).text)))) else none) else none))))
end
theorem spec_l5pair_2.all : ∀ (K : Nat), (∀ (k : Nat), k < K → ∀ (w : World) (H : Hp) (x1 : GL5st) (g2 : Nat) (A4 : Option Addr) (c5 : Nat) (F7 : Foot) (x8 : List Cell) (A9 : Option Addr) (c10 : Nat) (x13 : List Cell) (A14 : Option Addr) (c15 : Nat) (h6 : Row (ro st63) 63 H (hp w) F7 A4 c5 x1.sub_) (b3 : w.heap[g2]? = some (.cells #[.slice A4 x1.sub_.length c5, .int .i64 x1.pairs_] 106 (0, 0))) (h11 : Rd st65 H A9 x8) (l12 : x8.length ≤ c10) (h16 : Rd st65 H A14 x13) (l17 : x13.length ≤ c15) (S : Own [F7, (is g2)] H w) (r : Int × GL5st) (M : spec_l5pair_2.f k x1 x8 x13 = some r), Calls Try.prog 89 #[.pointer (some ⟨g2, 0, none⟩), .slice A9 x8.length c10, .slice A14 x13.length c15] w (fun e e_w => ∃ (A_1 : Option Addr) (c_1 : Nat) (F_1 : Foot) (H_ : Hp), e = .returned (.int .i64 r.1) ∧ Row (ro st63) 63 H_ (hp e_w) F_1 A_1 c_1 r.2.sub_ ∧ e_w.heap[g2]? = some (.cells #[.slice A_1 r.2.sub_.length c_1, .int .i64 r.2.pairs_] 106 (0, 0)) ∧ St (anyOf [F7, (is g2)]) H w [(is g2), F_1] H_ e_w)) := by
  intro K
  induction K with
  | zero => intro k hk; omega
  | succ K ih =>
    intro k hk w H x1 g2 A4 c5 F7 x8 A9 c10 x13 A14 c15 h6 b3 h11 l12 h16 l17 S r M
    rcases k with _ | k1_
    · rw [spec_l5pair_2.f] at M
      cases M
    rw [spec_l5pair_2.f] at M
    refine enter (l := [.pointer (some ⟨g2, 0, none⟩), .slice A9 x8.length c10, .slice A14 x13.length c15]) 135 Try.func89 rfl rfl rfl ?_
    have S0_ := S.st
    refine wp_seq ?_
    refine wp_region_lit ?_
    refine lv (d := 6) rfl rfl (by kernel_rfl) (e_assign (v := .int .i64 0) rfl) ?_
    refine wpList_nil ?_
    refine then_n ?_
    refine wp_seq ?_
    refine wp_seq ?_
    refine wp_region_lit ?_
    refine lv (d := 14) rfl rfl (by kernel_rfl) (e_move (v := .pointer (some ⟨g2, 0, none⟩)) (by kernel_rfl)) ?_
    refine lv (d := 15) rfl rfl (by kernel_rfl) (e_nilCheck (ad := ⟨g2, 0, none⟩) (by kernel_rfl)) ?_
    refine lv (d := 16) rfl rfl (by kernel_rfl) (e_fieldAddr (b := g2) (off := 0) (o := 1) Try.underlying106 rfl rfl (sz := 1) (by kernel_rfl) (by decide) (by kernel_rfl)) ?_
    refine lv (d := 17) rfl rfl (by kernel_rfl) (e_load1 (ad := ⟨g2, 0 + 1, none⟩) (v := .int .i64 x1.pairs_) Try.underlying3 rfl (by kernel_rfl) (blk_cell b3 rfl)) ?_
    refine lv (d := 18) rfl rfl (by kernel_rfl) (e_geq (k := .i64) (a := x1.pairs_) (b := 20000) (by kernel_rfl) rfl) ?_
    refine wpList_nil ?_
    refine then_n ?_
    by_cases q18 : x1.pairs_ ≥ 20000
    · replace M := ifp q18 M
      refine cond_t rfl (bt q18 (by kernel_rfl)) ?_
      refine wp_seq ?_
      refine wp_region_lit ?_
      refine lv (d := 6) rfl rfl (by kernel_rfl) (e_assign (v := .int .i64 3) rfl) ?_
      refine wpList_nil ?_
      refine then_n ?_
      refine wp_ret ?_
      refine then_r ?_
      obtain rfl := Option.some.inj M
      have S19 := S0_.pull (F := (is g2)) (Fr := [F7]) 1 rfl rfl
      exact ret1 rfl rfl  (show _ = .int .i64 3 from (by kernel_rfl)) ⟨A4, c5, F7, H, rfl, h6, b3, S19⟩
    replace M := ifn q18 M
    refine cond_f rfl (bf q18 (by kernel_rfl)) ?_
    refine wp_skip ?_
    refine then_n ?_
    refine wp_seq ?_
    refine wp_region_lit ?_
    refine lv (d := 19) rfl rfl (by kernel_rfl) (e_move (v := .pointer (some ⟨g2, 0, none⟩)) (by kernel_rfl)) ?_
    refine lv (d := 20) rfl rfl (by kernel_rfl) (e_nilCheck (ad := ⟨g2, 0, none⟩) (by kernel_rfl)) ?_
    refine lv (d := 21) rfl rfl (by kernel_rfl) (e_fieldAddr (b := g2) (off := 0) (o := 1) Try.underlying106 rfl rfl (sz := 1) (by kernel_rfl) (by decide) (by kernel_rfl)) ?_
    refine lv (d := 22) rfl rfl (by kernel_rfl) (e_load1 (ad := ⟨g2, 0 + 1, none⟩) (v := .int .i64 x1.pairs_) Try.underlying3 rfl (by kernel_rfl) (blk_cell b3 rfl)) ?_
    refine lv (d := 23) rfl rfl (by kernel_rfl) (e_add (k := .i64) (a := x1.pairs_) (b := 1) (by kernel_rfl) rfl) ?_
    refine lv (d := 24) rfl rfl (by kernel_rfl) (e_nilCheck (ad := ⟨g2, 0, none⟩) (by kernel_rfl)) ?_
    refine lv (d := 25) rfl rfl (by kernel_rfl) (e_fieldAddr (b := g2) (off := 0) (o := 1) Try.underlying106 rfl rfl (sz := 1) (by kernel_rfl) (by decide) (by kernel_rfl)) ?_
    have S20 := S0_.pull (F := (is g2)) (Fr := [F7]) 1 rfl rfl
    refine lse rfl rfl (by kernel_rfl) (e_store (g := g2) (o := 0 + 1) (v := .int .i64 (IntKind.i64.wrap (x1.pairs_ + 1))) (cur' := #[.slice A4 x1.sub_.length c5, .int .i64 (IntKind.i64.wrap (x1.pairs_ + 1))]) (vs := [.int .i64 (IntKind.i64.wrap (x1.pairs_ + 1))]) S20 (by kernel_rfl) (by kernel_rfl) rfl (by kernel_rfl) b3 (Nat.le_of_ble_eq_true rfl) (List.forall_mem_cons.2 ⟨rfl, (fun _ h_ => by cases h_)⟩) rfl) ?_
    rintro w21 ⟨b22, S23, K24⟩
    replace h6 := h6.move (K24.at 0 rfl)
    clear b3
    refine wpList_nil ?_
    refine then_n ?_
    refine wp_seq ?_
    refine wp_region_lit ?_
    refine lv (d := 26) rfl rfl (by kernel_rfl) (e_move (v := .pointer (some ⟨g2, 0, none⟩)) (by kernel_rfl)) ?_
    refine lv (d := 27) rfl rfl (by kernel_rfl) (e_move (v := .slice A9 x8.length c10) (by kernel_rfl)) ?_
    have S25 := S23.pull (F := F7) (Fr := [(is g2)]) 1 rfl rfl
    obtain ⟨t26, u27, M⟩ := bnd M
    refine lcall (d := 28) rfl rfl (by kernel_rfl) (e_call (l := [.tmp 26, .tmp 27]) (vs := [.pointer (some ⟨g2, 0, none⟩), .slice A9 x8.length c10]) Try.func115 (by kernel_rfl) rfl (by kernel_rfl) rfl) (spec_l5walk.calls k1_ w21 H (⟨x1.sub_, (IntKind.i64.wrap (x1.pairs_ + 1))⟩ : GL5st) g2 A4 c5 F7 x8 A9 c10 h6 b22 h11 l12 (St.own' (Fa := [F7, (is g2)]) (Fr := []) S25) t26 u27) ?_
    rintro _ w28 ⟨A33, c34, H29, rfl, h31, b32, h35, l36, T30⟩
    refine ⟨_, rfl, ?_⟩
    obtain ⟨S37, K38⟩ := St.call (Fa := [F7, (is g2)]) (Fr := []) S25 T30
    have E39 := T30.ext
    refine lv (d := 1) rfl rfl (by kernel_rfl) (e_assign (v := .slice A33 t26.length c34) (by kernel_rfl)) ?_
    refine wpList_nil ?_
    refine then_n ?_
    refine wp_seq ?_
    refine wp_region_lit ?_
    refine lv (d := 29) rfl rfl (by kernel_rfl) (e_move (v := .pointer (some ⟨g2, 0, none⟩)) (by kernel_rfl)) ?_
    refine lv (d := 30) rfl rfl (by kernel_rfl) (e_move (v := .slice A14 x13.length c15) (by kernel_rfl)) ?_
    have S40 := S37.pull (F := (is g2)) (Fr := [F7]) 1 rfl rfl
    have S41 := S40.pull (F := F7) (Fr := [(is g2)]) 1 rfl rfl
    obtain ⟨t42, u43, M⟩ := bnd M
    refine lcall (d := 31) rfl rfl (by kernel_rfl) (e_call (l := [.tmp 29, .tmp 30]) (vs := [.pointer (some ⟨g2, 0, none⟩), .slice A14 x13.length c15]) Try.func115 (by kernel_rfl) rfl (by kernel_rfl) rfl) (spec_l5walk.calls k1_ w28 H29 (⟨x1.sub_, (IntKind.i64.wrap (x1.pairs_ + 1))⟩ : GL5st) g2 A4 c5 F7 x13 A14 c15 h31 b32 (h16.ext E39) l17 (St.own' (Fa := [F7, (is g2)]) (Fr := []) S41) t42 u43) ?_
    rintro _ w44 ⟨A49, c50, H45, rfl, h47, b48, h51, l52, T46⟩
    refine ⟨_, rfl, ?_⟩
    obtain ⟨S53, K54⟩ := St.call (Fa := [F7, (is g2)]) (Fr := []) S41 T46
    have E55 := T46.ext
    refine lv (d := 2) rfl rfl (by kernel_rfl) (e_assign (v := .slice A49 t42.length c50) (by kernel_rfl)) ?_
    refine wpList_nil ?_
    refine then_n ?_
    refine wp_seq ?_
    refine wp_region_lit ?_
    refine lv (d := 32) rfl rfl (by kernel_rfl) (e_move (v := .slice A33 t26.length c34) (by kernel_rfl)) ?_
    obtain ⟨q56, M⟩ := chk M
    obtain ⟨b57, o58, e59⟩ := Rd.addr h35 (show 0 < t26.length by omega)
    obtain ⟨y60, r61, k62⟩ := Rd.at h35 e59 (getD_some z65 (show 0 < t26.length by omega))
    obtain ⟨A63, c64, rfl, l65, h66⟩ := st65_open r61
    refine lv (d := 33) rfl rfl (by kernel_rfl) (e_indexAddr (b := b57) (off := o58) (n := t26.length) (c := c34) (sz := 3) (i := 0) (k := .i64) Try.underlying25 e59 (by kernel_rfl) (by kernel_rfl) rfl (by omega) q56) ?_
    refine lv (d := 34) rfl rfl (by kernel_rfl) (e_loadS (b := b57) (off := o58 + (0 : Int).toNat * 3) (cs := [.int .i64 ((t26.getD 0 z65).kind), .int .i64 ((t26.getD 0 z65).n), .slice A63 ((t26.getD 0 z65).text).length c64]) Try.underlying65 rfl (by kernel_rfl) (by kernel_rfl) (fun j_ u_ e_ => (hpx (S53.inv.cell (E55.cell (k62 j_ u_ e_)))))) ?_
    refine lve (d := 7) rfl rfl (by kernel_rfl) (new_blk (v := fun g_ => .pointer (some ⟨g_, 0, none⟩)) (cs := #[.int .i64 0, .int .i64 0, .slice none 0 0]) (t := 65) S53 (by kernel_rfl)) ?_
    rintro _ w67 ⟨g68, rfl, b69, S70, K71⟩
    replace h47 := h47.move (K71.at 0 rfl)
    replace b48 := K71.blk 1 rfl b48
    refine lse rfl rfl (by kernel_rfl) (e_store (g := g68) (o := 0) (v := .agg #[.int .i64 ((t26.getD 0 z65).kind), .int .i64 ((t26.getD 0 z65).n), .slice A63 ((t26.getD 0 z65).text).length c64]) (cur' := #[.int .i64 ((t26.getD 0 z65).kind), .int .i64 ((t26.getD 0 z65).n), .slice A63 ((t26.getD 0 z65).text).length c64]) (vs := [.int .i64 ((t26.getD 0 z65).kind), .int .i64 ((t26.getD 0 z65).n), .slice A63 ((t26.getD 0 z65).text).length c64]) S70 (by kernel_rfl) (by kernel_rfl) rfl (by kernel_rfl) b69 (Nat.le_of_ble_eq_true rfl) (List.forall_mem_cons.2 ⟨rfl, (List.forall_mem_cons.2 ⟨rfl, (List.forall_mem_cons.2 ⟨rfl, (fun _ h_ => by cases h_)⟩)⟩)⟩) rfl) ?_
    rintro w72 ⟨b73, S74, K75⟩
    replace h47 := h47.move (K75.at 0 rfl)
    replace b48 := K75.blk 1 rfl b48
    clear b69
    refine wpList_nil ?_
    refine then_n ?_
    refine wp_seq ?_
    refine wp_region_lit ?_
    refine lv (d := 35) rfl rfl (by kernel_rfl) (e_move (v := .slice A49 t42.length c50) (by kernel_rfl)) ?_
    obtain ⟨q76, M⟩ := chk M
    obtain ⟨b77, o78, e79⟩ := Rd.addr h51 (show 0 < t42.length by omega)
    obtain ⟨y80, r81, k82⟩ := Rd.at h51 e79 (getD_some z65 (show 0 < t42.length by omega))
    obtain ⟨A83, c84, rfl, l85, h86⟩ := st65_open r81
    refine lv (d := 36) rfl rfl (by kernel_rfl) (e_indexAddr (b := b77) (off := o78) (n := t42.length) (c := c50) (sz := 3) (i := 0) (k := .i64) Try.underlying25 e79 (by kernel_rfl) (by kernel_rfl) rfl (by omega) q76) ?_
    refine lv (d := 37) rfl rfl (by kernel_rfl) (e_loadS (b := b77) (off := o78 + (0 : Int).toNat * 3) (cs := [.int .i64 ((t42.getD 0 z65).kind), .int .i64 ((t42.getD 0 z65).n), .slice A83 ((t42.getD 0 z65).text).length c84]) Try.underlying65 rfl (by kernel_rfl) (by kernel_rfl) (fun j_ u_ e_ => (hpx (S74.inv.cell (k82 j_ u_ e_))))) ?_
    refine lve (d := 8) rfl rfl (by kernel_rfl) (new_blk (v := fun g_ => .pointer (some ⟨g_, 0, none⟩)) (cs := #[.int .i64 0, .int .i64 0, .slice none 0 0]) (t := 65) S74 (by kernel_rfl)) ?_
    rintro _ w87 ⟨g88, rfl, b89, S90, K91⟩
    replace b73 := K91.blk 0 rfl b73
    replace h47 := h47.move (K91.at 1 rfl)
    replace b48 := K91.blk 2 rfl b48
    refine lse rfl rfl (by kernel_rfl) (e_store (g := g88) (o := 0) (v := .agg #[.int .i64 ((t42.getD 0 z65).kind), .int .i64 ((t42.getD 0 z65).n), .slice A83 ((t42.getD 0 z65).text).length c84]) (cur' := #[.int .i64 ((t42.getD 0 z65).kind), .int .i64 ((t42.getD 0 z65).n), .slice A83 ((t42.getD 0 z65).text).length c84]) (vs := [.int .i64 ((t42.getD 0 z65).kind), .int .i64 ((t42.getD 0 z65).n), .slice A83 ((t42.getD 0 z65).text).length c84]) S90 (by kernel_rfl) (by kernel_rfl) rfl (by kernel_rfl) b89 (Nat.le_of_ble_eq_true rfl) (List.forall_mem_cons.2 ⟨rfl, (List.forall_mem_cons.2 ⟨rfl, (List.forall_mem_cons.2 ⟨rfl, (fun _ h_ => by cases h_)⟩)⟩)⟩) rfl) ?_
    rintro w92 ⟨b93, S94, K95⟩
    replace b73 := K95.blk 0 rfl b73
    replace h47 := h47.move (K95.at 1 rfl)
    replace b48 := K95.blk 2 rfl b48
    clear b89
    refine wpList_nil ?_
    refine then_n ?_
    refine wp_seq ?_
    refine wp_seq ?_
    refine wp_region_lit ?_
    refine lv (d := 38) rfl rfl (by kernel_rfl) (e_fieldAddr (b := g68) (off := 0) (o := 0) Try.underlying65 rfl rfl (sz := 1) (by kernel_rfl) (by decide) (by kernel_rfl)) ?_
    refine lv (d := 39) rfl rfl (by kernel_rfl) (e_load1 (ad := ⟨g68, 0 + 0, none⟩) (v := .int .i64 ((t26.getD 0 z65).kind)) Try.underlying3 rfl (by kernel_rfl) (blk_cell b73 rfl)) ?_
    refine lv (d := 40) rfl rfl (by kernel_rfl) (e_eql (k := .i64) (a := (t26.getD 0 z65).kind) (b := 0) (by kernel_rfl) rfl) ?_
    refine lv (d := 41) rfl rfl (by kernel_rfl) (e_move (v := .bool (decide (((t26.getD 0 z65).kind) = 0))) (by kernel_rfl)) ?_
    by_cases q96 : ((t26.getD 0 z65).kind) = 0
    · replace M := ifp q96 M
      refine lvg (d := 42) (t := 41) rfl (by kernel_rfl) rfl (bt q96 (by kernel_rfl)) rfl (by kernel_rfl) (e_fieldAddr (b := g88) (off := 0) (o := 0) Try.underlying65 rfl rfl (sz := 1) (by kernel_rfl) (by decide) (by kernel_rfl)) ?_
      refine lvg (d := 43) (t := 41) rfl (by kernel_rfl) rfl (bt q96 (by kernel_rfl)) rfl (by kernel_rfl) (e_load1 (ad := ⟨g88, 0 + 0, none⟩) (v := .int .i64 ((t42.getD 0 z65).kind)) Try.underlying3 rfl (by kernel_rfl) (blk_cell b93 rfl)) ?_
      refine lvg (d := 44) (t := 41) rfl (by kernel_rfl) rfl (bt q96 (by kernel_rfl)) rfl (by kernel_rfl) (e_eql (k := .i64) (a := (t42.getD 0 z65).kind) (b := 0) (by kernel_rfl) rfl) ?_
      refine lv (d := 45) rfl rfl (by kernel_rfl) (e_pick_t (v := .bool (decide (((t42.getD 0 z65).kind) = 0))) (bt q96 (by kernel_rfl)) (by kernel_rfl)) ?_
      refine wpList_nil ?_
      refine then_n ?_
      by_cases q97 : ((t42.getD 0 z65).kind) = 0
      · replace M := ifp q97 M
        refine cond_t rfl (bt q97 (by kernel_rfl)) ?_
        refine wp_seq_cut (fun a111 w98 => ∃ (k113 : Nat), k113 ≤ k1_ ∧ ∃ (f99 : Nat → Value) (H100 : Hp) (x102 : List Binding) (A103 : Option Addr) (c104 : Nat) (F105 : Foot) (x107 : Int), k113 < K ∧ a111 = mk 135 f99 ∧ w98.heap[g2]? = some (.cells #[.slice A103 x102.length c104, .int .i64 x107] 106 (0, 0)) ∧ Row (ro st63) 63 H100 (hp w98) F105 A103 c104 x102 ∧ Ext H45 H100 ∧ St (anyOf [F7, (is g2)]) H w [(is g2), F105] H100 w98 ∧ spec_l5pair_2.l0 k113 x102 x107 = some r) ?_ ?_
        · refine wp_seq ?_
          refine wp_region_lit ?_
          refine lv (d := 46) rfl rfl (by kernel_rfl) (e_fieldAddr (b := g68) (off := 0) (o := 1) Try.underlying65 rfl rfl (sz := 1) (by kernel_rfl) (by decide) (by kernel_rfl)) ?_
          refine lv (d := 47) rfl rfl (by kernel_rfl) (e_load1 (ad := ⟨g68, 0 + 1, none⟩) (v := .int .i64 ((t26.getD 0 z65).n)) Try.underlying3 rfl (by kernel_rfl) (blk_cell b73 rfl)) ?_
          refine lv (d := 48) rfl rfl (by kernel_rfl) (e_fieldAddr (b := g88) (off := 0) (o := 1) Try.underlying65 rfl rfl (sz := 1) (by kernel_rfl) (by decide) (by kernel_rfl)) ?_
          refine lv (d := 49) rfl rfl (by kernel_rfl) (e_load1 (ad := ⟨g88, 0 + 1, none⟩) (v := .int .i64 ((t42.getD 0 z65).n)) Try.underlying3 rfl (by kernel_rfl) (blk_cell b93 rfl)) ?_
          refine lv (d := 50) rfl rfl (by kernel_rfl) (e_gtr (k := .i64) (a := (t26.getD 0 z65).n) (b := (t42.getD 0 z65).n) (by kernel_rfl) (by kernel_rfl)) ?_
          refine wpList_nil ?_
          refine then_n ?_
          by_cases q114 : ((t26.getD 0 z65).n) > ((t42.getD 0 z65).n)
          · replace M := ifp q114 M
            refine cond_t rfl (bt q114 (by kernel_rfl)) ?_
            refine wp_region_lit ?_
            refine lv (d := 51) rfl rfl (by kernel_rfl) (e_move (v := .pointer (some ⟨g2, 0, none⟩)) (by kernel_rfl)) ?_
            refine lv (d := 52) rfl rfl (by kernel_rfl) (e_fieldAddr (b := g68) (off := 0) (o := 1) Try.underlying65 rfl rfl (sz := 1) (by kernel_rfl) (by decide) (by kernel_rfl)) ?_
            refine lv (d := 53) rfl rfl (by kernel_rfl) (e_load1 (ad := ⟨g68, 0 + 1, none⟩) (v := .int .i64 ((t26.getD 0 z65).n)) Try.underlying3 rfl (by kernel_rfl) (blk_cell b73 rfl)) ?_
            refine lv (d := 54) rfl rfl (by kernel_rfl) (e_move (v := .slice A49 t42.length c50) (by kernel_rfl)) ?_
            have S115 := S94.pull (F := (is g2)) (Fr := [(is g88), (is g68), F7]) 3 rfl rfl
            have S116 := S115.pull (F := F7) (Fr := [(is g2), (is g88), (is g68)]) 3 rfl rfl
            obtain ⟨t117, u118, M⟩ := bnd M
            refine lcall (d := 55) rfl rfl (by kernel_rfl) (e_call (l := [.tmp 51, .tmp 53, .tmp 54]) (vs := [.pointer (some ⟨g2, 0, none⟩), .int .i64 ((t26.getD 0 z65).n), .slice A49 t42.length c50]) Try.func116 (by kernel_rfl) rfl (by kernel_rfl) rfl) (spec_l5bind.calls k1_ w92 H45 (⟨x1.sub_, (IntKind.i64.wrap (x1.pairs_ + 1))⟩ : GL5st) g2 A4 c5 F7 ((t26.getD 0 z65).n) t42 A49 c50 h47 b48 h51 l52 (St.own' (Fa := [F7, (is g2)]) (Fr := [(is g88), (is g68)]) S116) t117 u118) ?_
            rintro _ w119 ⟨A122, c123, F125, H120, rfl, h124, b126, T121⟩
            refine ⟨_, rfl, ?_⟩
            obtain ⟨S127, K128⟩ := St.call (Fa := [F7, (is g2)]) (Fr := [(is g88), (is g68)]) S116 T121
            replace b93 := K128.blk 0 rfl b93
            replace b73 := K128.blk 1 rfl b73
            have E129 := T121.ext
            refine wpList_nil ?_
            refine then_n ?_
            have S130 := S127.pull (F := F125) (Fr := [(is g2), (is g88), (is g68)]) 1 rfl rfl
            have S131 := S130.pull (F := (is g2)) (Fr := [F125, (is g88), (is g68)]) 1 rfl rfl
            have S132 := St.first (Fa := [(is g2), F125]) (Fr := [(is g88), (is g68)]) S131
            exact ⟨k1_, (by omega), _, H120, t117.sub_, A122, c123, F125, t117.pairs_, (by omega), rfl, b126, h124, E129, S132, M⟩
          replace M := ifn q114 M
          refine cond_f rfl (bf q114 (by kernel_rfl)) ?_
          refine wp_seq ?_
          refine wp_region_lit ?_
          refine lv (d := 56) rfl rfl (by kernel_rfl) (e_fieldAddr (b := g88) (off := 0) (o := 1) Try.underlying65 rfl rfl (sz := 1) (by kernel_rfl) (by decide) (by kernel_rfl)) ?_
          refine lv (d := 57) rfl rfl (by kernel_rfl) (e_load1 (ad := ⟨g88, 0 + 1, none⟩) (v := .int .i64 ((t42.getD 0 z65).n)) Try.underlying3 rfl (by kernel_rfl) (blk_cell b93 rfl)) ?_
          refine lv (d := 58) rfl rfl (by kernel_rfl) (e_fieldAddr (b := g68) (off := 0) (o := 1) Try.underlying65 rfl rfl (sz := 1) (by kernel_rfl) (by decide) (by kernel_rfl)) ?_
          refine lv (d := 59) rfl rfl (by kernel_rfl) (e_load1 (ad := ⟨g68, 0 + 1, none⟩) (v := .int .i64 ((t26.getD 0 z65).n)) Try.underlying3 rfl (by kernel_rfl) (blk_cell b73 rfl)) ?_
          refine lv (d := 60) rfl rfl (by kernel_rfl) (e_gtr (k := .i64) (a := (t42.getD 0 z65).n) (b := (t26.getD 0 z65).n) (by kernel_rfl) (by kernel_rfl)) ?_
          refine wpList_nil ?_
          refine then_n ?_
          by_cases q133 : ((t42.getD 0 z65).n) > ((t26.getD 0 z65).n)
          · replace M := ifp q133 M
            refine cond_t rfl (bt q133 (by kernel_rfl)) ?_
            refine wp_region_lit ?_
            refine lv (d := 61) rfl rfl (by kernel_rfl) (e_move (v := .pointer (some ⟨g2, 0, none⟩)) (by kernel_rfl)) ?_
            refine lv (d := 62) rfl rfl (by kernel_rfl) (e_fieldAddr (b := g88) (off := 0) (o := 1) Try.underlying65 rfl rfl (sz := 1) (by kernel_rfl) (by decide) (by kernel_rfl)) ?_
            refine lv (d := 63) rfl rfl (by kernel_rfl) (e_load1 (ad := ⟨g88, 0 + 1, none⟩) (v := .int .i64 ((t42.getD 0 z65).n)) Try.underlying3 rfl (by kernel_rfl) (blk_cell b93 rfl)) ?_
            refine lv (d := 64) rfl rfl (by kernel_rfl) (e_move (v := .slice A33 t26.length c34) (by kernel_rfl)) ?_
            have S134 := S94.pull (F := (is g2)) (Fr := [(is g88), (is g68), F7]) 3 rfl rfl
            have S135 := S134.pull (F := F7) (Fr := [(is g2), (is g88), (is g68)]) 3 rfl rfl
            obtain ⟨t136, u137, M⟩ := bnd M
            refine lcall (d := 65) rfl rfl (by kernel_rfl) (e_call (l := [.tmp 61, .tmp 63, .tmp 64]) (vs := [.pointer (some ⟨g2, 0, none⟩), .int .i64 ((t42.getD 0 z65).n), .slice A33 t26.length c34]) Try.func116 (by kernel_rfl) rfl (by kernel_rfl) rfl) (spec_l5bind.calls k1_ w92 H45 (⟨x1.sub_, (IntKind.i64.wrap (x1.pairs_ + 1))⟩ : GL5st) g2 A4 c5 F7 ((t42.getD 0 z65).n) t26 A33 c34 h47 b48 (h35.ext E55) l36 (St.own' (Fa := [F7, (is g2)]) (Fr := [(is g88), (is g68)]) S135) t136 u137) ?_
            rintro _ w138 ⟨A141, c142, F144, H139, rfl, h143, b145, T140⟩
            refine ⟨_, rfl, ?_⟩
            obtain ⟨S146, K147⟩ := St.call (Fa := [F7, (is g2)]) (Fr := [(is g88), (is g68)]) S135 T140
            replace b93 := K147.blk 0 rfl b93
            replace b73 := K147.blk 1 rfl b73
            have E148 := T140.ext
            refine wpList_nil ?_
            refine then_n ?_
            have S149 := S146.pull (F := F144) (Fr := [(is g2), (is g88), (is g68)]) 1 rfl rfl
            have S150 := S149.pull (F := (is g2)) (Fr := [F144, (is g88), (is g68)]) 1 rfl rfl
            have S151 := St.first (Fa := [(is g2), F144]) (Fr := [(is g88), (is g68)]) S150
            exact ⟨k1_, (by omega), _, H139, t136.sub_, A141, c142, F144, t136.pairs_, (by omega), rfl, b145, h143, E148, S151, M⟩
          replace M := ifn q133 M
          refine cond_f rfl (bf q133 (by kernel_rfl)) ?_
          refine wp_skip ?_
          refine then_n ?_
          have S152 := S94.pull (F := F7) (Fr := [(is g88), (is g68), (is g2)]) 2 rfl rfl
          have S153 := S152.pull (F := (is g2)) (Fr := [F7, (is g88), (is g68)]) 3 rfl rfl
          have S154 := St.first (Fa := [(is g2), F7]) (Fr := [(is g88), (is g68)]) S153
          exact ⟨k1_, (by omega), _, H45, x1.sub_, A4, c5, F7, (IntKind.i64.wrap (x1.pairs_ + 1)), (by omega), rfl, b48, h47, (Ext.refl _), S154, M⟩
        clear M
        rintro a111 w98 ⟨k113, z155, f99, H100, x102, A103, c104, F105, x107, z109, rfl, b48, h106, Y101, S108, M⟩
        rcases k113 with _ | k112
        · rw [spec_l5pair_2.l0] at M
          cases M
        rw [spec_l5pair_2.l0] at M
        refine wp_seq ?_
        refine wp_region_lit ?_
        refine lv (d := 6) rfl rfl (by kernel_rfl) (e_assign (v := .int .i64 0) rfl) ?_
        refine wpList_nil ?_
        refine then_n ?_
        refine wp_ret ?_
        refine then_r ?_
        obtain rfl := Option.some.inj M
        exact ret1 rfl rfl  (show _ = .int .i64 0 from (by kernel_rfl)) ⟨A103, c104, F105, H100, rfl, h106, b48, S108⟩
      replace M := ifn q97 M
      refine cond_f rfl (bf q97 (by kernel_rfl)) ?_
      refine wp_skip ?_
      refine then_n ?_
      refine wp_seq ?_
      refine wp_seq ?_
      refine wp_region_lit ?_
      refine lv (d := 66) rfl rfl (by kernel_rfl) (e_fieldAddr (b := g88) (off := 0) (o := 0) Try.underlying65 rfl rfl (sz := 1) (by kernel_rfl) (by decide) (by kernel_rfl)) ?_
      refine lv (d := 67) rfl rfl (by kernel_rfl) (e_load1 (ad := ⟨g88, 0 + 0, none⟩) (v := .int .i64 ((t42.getD 0 z65).kind)) Try.underlying3 rfl (by kernel_rfl) (blk_cell b93 rfl)) ?_
      refine lv (d := 68) rfl rfl (by kernel_rfl) (e_eql (k := .i64) (a := (t42.getD 0 z65).kind) (b := 0) (by kernel_rfl) rfl) ?_
      refine wpList_nil ?_
      refine then_n ?_
      refine cond_f rfl (bf q97 (by kernel_rfl)) ?_
      refine wp_skip ?_
      refine then_n ?_
      refine wp_seq ?_
      refine wp_seq ?_
      refine wp_region_lit ?_
      refine lv (d := 78) rfl rfl (by kernel_rfl) (e_fieldAddr (b := g68) (off := 0) (o := 0) Try.underlying65 rfl rfl (sz := 1) (by kernel_rfl) (by decide) (by kernel_rfl)) ?_
      refine lv (d := 79) rfl rfl (by kernel_rfl) (e_load1 (ad := ⟨g68, 0 + 0, none⟩) (v := .int .i64 ((t26.getD 0 z65).kind)) Try.underlying3 rfl (by kernel_rfl) (blk_cell b73 rfl)) ?_
      refine lv (d := 80) rfl rfl (by kernel_rfl) (e_eql (k := .i64) (a := (t26.getD 0 z65).kind) (b := 0) (by kernel_rfl) rfl) ?_
      refine wpList_nil ?_
      refine then_n ?_
      refine cond_t rfl (bt q96 (by kernel_rfl)) ?_
      refine wp_seq ?_
      refine wp_seq ?_
      refine wp_region_lit ?_
      refine lv (d := 81) rfl rfl (by kernel_rfl) (e_move (v := .pointer (some ⟨g2, 0, none⟩)) (by kernel_rfl)) ?_
      refine lv (d := 82) rfl rfl (by kernel_rfl) (e_fieldAddr (b := g68) (off := 0) (o := 1) Try.underlying65 rfl rfl (sz := 1) (by kernel_rfl) (by decide) (by kernel_rfl)) ?_
      refine lv (d := 83) rfl rfl (by kernel_rfl) (e_load1 (ad := ⟨g68, 0 + 1, none⟩) (v := .int .i64 ((t26.getD 0 z65).n)) Try.underlying3 rfl (by kernel_rfl) (blk_cell b73 rfl)) ?_
      refine lv (d := 84) rfl rfl (by kernel_rfl) (e_move (v := .slice A49 t42.length c50) (by kernel_rfl)) ?_
      obtain ⟨t156, u157, M⟩ := bnd M
      refine lcall (d := 85) rfl rfl (by kernel_rfl) (e_call (l := [.tmp 81, .tmp 83, .tmp 84]) (vs := [.pointer (some ⟨g2, 0, none⟩), .int .i64 ((t26.getD 0 z65).n), .slice A49 t42.length c50]) Try.func117 (by kernel_rfl) rfl (by kernel_rfl) rfl) (by have l158 := h47.le; have S159 := S94.pull (F := F7) (Fr := [(is g88), (is g68), (is g2)]) 2 rfl rfl; obtain ⟨H160, S161, E162, h163, z164⟩ := S159.frzRow h47; replace h163 := h163.unro; have S165 := S161.pull (F := (is g2)) (Fr := [(is g88), (is g68)]) 2 rfl rfl; obtain ⟨H166, S167, E168, h169, z170⟩ := S165.frzBlk b48; exact (spec_l5stands.calls k1_ w92 H166 (⟨x1.sub_, (IntKind.i64.wrap (x1.pairs_ + 1))⟩ : GL5st) g2 A4 c5 ((t26.getD 0 z65).n) t42 A49 c50 (h163.ext E168) l158 h169 (h51.ext (E162.trans E168)) l52 S167.own0 t156 u157)) ?_
      rintro _ w171 ⟨rfl, C172⟩
      refine ⟨_, rfl, ?_⟩
      obtain ⟨S173, K174⟩ := S94.still C172
      replace b93 := K174.blk 0 rfl b93
      replace b73 := K174.blk 1 rfl b73
      replace h47 := h47.move (K174.at 2 rfl)
      replace b48 := K174.blk 3 rfl b48
      refine wpList_nil ?_
      refine then_n ?_
      by_cases q175 : t156 = true
      · replace M := ifp q175 M
        refine cond_t rfl (bvt q175 (by kernel_rfl)) ?_
        refine wp_seq ?_
        refine wp_region_lit ?_
        refine lv (d := 6) rfl rfl (by kernel_rfl) (e_assign (v := .int .i64 5) rfl) ?_
        refine wpList_nil ?_
        refine then_n ?_
        refine wp_ret ?_
        refine then_r ?_
        refine then_r ?_
        obtain rfl := Option.some.inj M
        have S176 := S173.pull (F := F7) (Fr := [(is g88), (is g68), (is g2)]) 2 rfl rfl
        have S177 := S176.pull (F := (is g2)) (Fr := [F7, (is g88), (is g68)]) 3 rfl rfl
        have S178 := St.first (Fa := [(is g2), F7]) (Fr := [(is g88), (is g68)]) S177
        exact ret1 rfl rfl  (show _ = .int .i64 5 from (by kernel_rfl)) ⟨A4, c5, F7, H45, rfl, h47, b48, S178⟩
      replace M := ifn q175 M
      refine cond_f rfl (bvf q175 (by kernel_rfl)) ?_
      refine wp_skip ?_
      refine then_n ?_
      refine wp_seq ?_
      refine wp_region_lit ?_
      refine lv (d := 86) rfl rfl (by kernel_rfl) (e_move (v := .pointer (some ⟨g2, 0, none⟩)) (by kernel_rfl)) ?_
      refine lv (d := 87) rfl rfl (by kernel_rfl) (e_fieldAddr (b := g68) (off := 0) (o := 1) Try.underlying65 rfl rfl (sz := 1) (by kernel_rfl) (by decide) (by kernel_rfl)) ?_
      refine lv (d := 88) rfl rfl (by kernel_rfl) (e_load1 (ad := ⟨g68, 0 + 1, none⟩) (v := .int .i64 ((t26.getD 0 z65).n)) Try.underlying3 rfl (by kernel_rfl) (blk_cell b73 rfl)) ?_
      refine lv (d := 89) rfl rfl (by kernel_rfl) (e_move (v := .slice A49 t42.length c50) (by kernel_rfl)) ?_
      have S179 := S173.pull (F := (is g2)) (Fr := [(is g88), (is g68), F7]) 3 rfl rfl
      have S180 := S179.pull (F := F7) (Fr := [(is g2), (is g88), (is g68)]) 3 rfl rfl
      obtain ⟨t181, u182, M⟩ := bnd M
      refine lcall (d := 90) rfl rfl (by kernel_rfl) (e_call (l := [.tmp 86, .tmp 88, .tmp 89]) (vs := [.pointer (some ⟨g2, 0, none⟩), .int .i64 ((t26.getD 0 z65).n), .slice A49 t42.length c50]) Try.func116 (by kernel_rfl) rfl (by kernel_rfl) rfl) (spec_l5bind.calls k1_ w171 H45 (⟨x1.sub_, (IntKind.i64.wrap (x1.pairs_ + 1))⟩ : GL5st) g2 A4 c5 F7 ((t26.getD 0 z65).n) t42 A49 c50 h47 b48 h51 l52 (St.own' (Fa := [F7, (is g2)]) (Fr := [(is g88), (is g68)]) S180) t181 u182) ?_
      rintro _ w183 ⟨A186, c187, F189, H184, rfl, h188, b190, T185⟩
      refine ⟨_, rfl, ?_⟩
      obtain ⟨S191, K192⟩ := St.call (Fa := [F7, (is g2)]) (Fr := [(is g88), (is g68)]) S180 T185
      replace b93 := K192.blk 0 rfl b93
      replace b73 := K192.blk 1 rfl b73
      have E193 := T185.ext
      refine wpList_nil ?_
      refine then_n ?_
      refine wp_seq ?_
      refine wp_region_lit ?_
      refine lv (d := 6) rfl rfl (by kernel_rfl) (e_assign (v := .int .i64 0) rfl) ?_
      refine wpList_nil ?_
      refine then_n ?_
      refine wp_ret ?_
      refine then_r ?_
      obtain rfl := Option.some.inj M
      have S194 := S191.pull (F := F189) (Fr := [(is g2), (is g88), (is g68)]) 1 rfl rfl
      have S195 := S194.pull (F := (is g2)) (Fr := [F189, (is g88), (is g68)]) 1 rfl rfl
      have S196 := St.first (Fa := [(is g2), F189]) (Fr := [(is g88), (is g68)]) S195
      exact ret1 rfl rfl  (show _ = .int .i64 0 from (by kernel_rfl)) ⟨A186, c187, F189, H184, rfl, h188, b190, S196⟩
    replace M := ifn q96 M
    refine lskip (t := 41) (c := false) rfl (by kernel_rfl) rfl (bf q96 (by kernel_rfl)) rfl rfl ?_
    refine lskip (t := 41) (c := false) rfl (by kernel_rfl) rfl (bf q96 (by kernel_rfl)) rfl rfl ?_
    refine lskip (t := 41) (c := false) rfl (by kernel_rfl) rfl (bf q96 (by kernel_rfl)) rfl rfl ?_
    refine lv (d := 45) rfl rfl (by kernel_rfl) (e_pick_f (v := .bool false) (bf q96 (by kernel_rfl)) rfl) ?_
    refine wpList_nil ?_
    refine then_n ?_
    refine cond_f rfl (by kernel_rfl) ?_
    refine wp_skip ?_
    refine then_n ?_
    refine wp_seq_cut (fun a231 w197 => ∃ (k233 : Nat), k233 ≤ k1_ ∧ ∃ (f198 : Nat → Value) (x199 : List Cell) (A200 : Option Addr) (c201 : Nat) (x204 : List Cell) (A205 : Option Addr) (c206 : Nat) (x209 : Int) (x210 : Int) (x211 : List UInt8) (A212 : Option Addr) (c213 : Nat) (x216 : Int) (x217 : Int) (x218 : List UInt8) (A219 : Option Addr) (c220 : Nat), k233 < K ∧ a231 = mk 135 f198 ∧ f198 0 = .pointer (some ⟨g2, 0, none⟩) ∧ f198 1 = .slice A200 x199.length c201 ∧ f198 2 = .slice A205 x204.length c206 ∧ f198 7 = .pointer (some ⟨g68, 0, none⟩) ∧ f198 8 = .pointer (some ⟨g88, 0, none⟩) ∧ w197.heap[g88]? = some (.cells #[.int .i64 x216, .int .i64 x217, .slice A219 x218.length c220] 65 (0, 0)) ∧ w197.heap[g68]? = some (.cells #[.int .i64 x209, .int .i64 x210, .slice A212 x211.length c213] 65 (0, 0)) ∧ Row (ro st63) 63 H45 (hp w197) F7 A4 c5 x1.sub_ ∧ w197.heap[g2]? = some (.cells #[.slice A4 x1.sub_.length c5, .int .i64 (IntKind.i64.wrap (x1.pairs_ + 1))] 106 (0, 0)) ∧ Rd st65 H45 A200 x199 ∧ x199.length ≤ c201 ∧ Rd st65 H45 A205 x204 ∧ x204.length ≤ c206 ∧ Rd tByte H45 A212 x211 ∧ x211.length ≤ c213 ∧ Rd tByte H45 A219 x218 ∧ x218.length ≤ c220 ∧ St (anyOf [F7, (is g2)]) H w [(is g88), (is g68), F7, (is g2)] H45 w197 ∧ spec_l5pair_2.l1 k233 x1 x199 x204 x209 x210 x211 x216 x217 x218 = some r) ?_ ?_
    · refine wp_seq ?_
      refine wp_region_lit ?_
      refine lv (d := 66) rfl rfl (by kernel_rfl) (e_fieldAddr (b := g88) (off := 0) (o := 0) Try.underlying65 rfl rfl (sz := 1) (by kernel_rfl) (by decide) (by kernel_rfl)) ?_
      refine lv (d := 67) rfl rfl (by kernel_rfl) (e_load1 (ad := ⟨g88, 0 + 0, none⟩) (v := .int .i64 ((t42.getD 0 z65).kind)) Try.underlying3 rfl (by kernel_rfl) (blk_cell b93 rfl)) ?_
      refine lv (d := 68) rfl rfl (by kernel_rfl) (e_eql (k := .i64) (a := (t42.getD 0 z65).kind) (b := 0) (by kernel_rfl) rfl) ?_
      refine wpList_nil ?_
      refine then_n ?_
      by_cases q234 : ((t42.getD 0 z65).kind) = 0
      · replace M := ifp q234 M
        refine cond_t rfl (bt q234 (by kernel_rfl)) ?_
        refine wp_seq ?_
        refine wp_region_lit ?_
        refine lv (d := 69) rfl rfl (by kernel_rfl) (e_move (v := .slice A33 t26.length c34) (by kernel_rfl)) ?_
        refine lv (d := 9) rfl rfl (by kernel_rfl) (e_assign (v := .slice A33 t26.length c34) (by kernel_rfl)) ?_
        refine wpList_nil ?_
        refine then_n ?_
        refine wp_seq ?_
        refine wp_region_lit ?_
        refine lv (d := 70) rfl rfl (by kernel_rfl) (e_move (v := .slice A49 t42.length c50) (by kernel_rfl)) ?_
        refine lv (d := 1) rfl rfl (by kernel_rfl) (e_assign (v := .slice A49 t42.length c50) (by kernel_rfl)) ?_
        refine wpList_nil ?_
        refine then_n ?_
        refine wp_seq ?_
        refine wp_region_lit ?_
        refine lv (d := 71) rfl rfl (by kernel_rfl) (e_move (v := .slice A33 t26.length c34) (by kernel_rfl)) ?_
        refine lv (d := 2) rfl rfl (by kernel_rfl) (e_assign (v := .slice A33 t26.length c34) (by kernel_rfl)) ?_
        refine wpList_nil ?_
        refine then_n ?_
        refine wp_seq ?_
        refine wp_region_lit ?_
        refine lv (d := 72) rfl rfl (by kernel_rfl) (e_move (v := .slice A49 t42.length c50) (by kernel_rfl)) ?_
        obtain ⟨b235, o236, e237⟩ := Rd.addr h51 (show 0 < t42.length by omega)
        obtain ⟨y238, r239, k240⟩ := Rd.at h51 e237 (getD_some z65 (show 0 < t42.length by omega))
        obtain ⟨A241, c242, rfl, l243, h244⟩ := st65_open r239
        refine lv (d := 73) rfl rfl (by kernel_rfl) (e_indexAddr (b := b235) (off := o236) (n := t42.length) (c := c50) (sz := 3) (i := 0) (k := .i64) Try.underlying25 e237 (by kernel_rfl) (by kernel_rfl) rfl (by omega) q76) ?_
        refine lv (d := 74) rfl rfl (by kernel_rfl) (e_loadS (b := b235) (off := o236 + (0 : Int).toNat * 3) (cs := [.int .i64 ((t42.getD 0 z65).kind), .int .i64 ((t42.getD 0 z65).n), .slice A241 ((t42.getD 0 z65).text).length c242]) Try.underlying65 rfl (by kernel_rfl) (by kernel_rfl) (fun j_ u_ e_ => (hpx (S94.inv.cell (k240 j_ u_ e_))))) ?_
        have S245 := S94.pull (F := (is g68)) (Fr := [(is g88), F7, (is g2)]) 1 rfl rfl
        refine lse rfl rfl (by kernel_rfl) (e_store (g := g68) (o := 0) (v := .agg #[.int .i64 ((t42.getD 0 z65).kind), .int .i64 ((t42.getD 0 z65).n), .slice A241 ((t42.getD 0 z65).text).length c242]) (cur' := #[.int .i64 ((t42.getD 0 z65).kind), .int .i64 ((t42.getD 0 z65).n), .slice A241 ((t42.getD 0 z65).text).length c242]) (vs := [.int .i64 ((t42.getD 0 z65).kind), .int .i64 ((t42.getD 0 z65).n), .slice A241 ((t42.getD 0 z65).text).length c242]) S245 (by kernel_rfl) (by kernel_rfl) rfl (by kernel_rfl) b73 (Nat.le_of_ble_eq_true rfl) (List.forall_mem_cons.2 ⟨rfl, (List.forall_mem_cons.2 ⟨rfl, (List.forall_mem_cons.2 ⟨rfl, (fun _ h_ => by cases h_)⟩)⟩)⟩) rfl) ?_
        rintro w246 ⟨b247, S248, K249⟩
        replace b93 := K249.blk 0 rfl b93
        replace h47 := h47.move (K249.at 1 rfl)
        replace b48 := K249.blk 2 rfl b48
        clear b73
        refine wpList_nil ?_
        refine then_n ?_
        refine wp_region_lit ?_
        refine lv (d := 75) rfl rfl (by kernel_rfl) (e_move (v := .slice A33 t26.length c34) (by kernel_rfl)) ?_
        obtain ⟨b250, o251, e252⟩ := Rd.addr h35 (show 0 < t26.length by omega)
        obtain ⟨y253, r254, k255⟩ := Rd.at h35 e252 (getD_some z65 (show 0 < t26.length by omega))
        obtain ⟨A256, c257, rfl, l258, h259⟩ := st65_open r254
        refine lv (d := 76) rfl rfl (by kernel_rfl) (e_indexAddr (b := b250) (off := o251) (n := t26.length) (c := c34) (sz := 3) (i := 0) (k := .i64) Try.underlying25 e252 (by kernel_rfl) (by kernel_rfl) rfl (by omega) q56) ?_
        refine lv (d := 77) rfl rfl (by kernel_rfl) (e_loadS (b := b250) (off := o251 + (0 : Int).toNat * 3) (cs := [.int .i64 ((t26.getD 0 z65).kind), .int .i64 ((t26.getD 0 z65).n), .slice A256 ((t26.getD 0 z65).text).length c257]) Try.underlying65 rfl (by kernel_rfl) (by kernel_rfl) (fun j_ u_ e_ => (hpx (S248.inv.cell (E55.cell (k255 j_ u_ e_)))))) ?_
        have S260 := S248.pull (F := (is g88)) (Fr := [(is g68), F7, (is g2)]) 1 rfl rfl
        refine lse rfl rfl (by kernel_rfl) (e_store (g := g88) (o := 0) (v := .agg #[.int .i64 ((t26.getD 0 z65).kind), .int .i64 ((t26.getD 0 z65).n), .slice A256 ((t26.getD 0 z65).text).length c257]) (cur' := #[.int .i64 ((t26.getD 0 z65).kind), .int .i64 ((t26.getD 0 z65).n), .slice A256 ((t26.getD 0 z65).text).length c257]) (vs := [.int .i64 ((t26.getD 0 z65).kind), .int .i64 ((t26.getD 0 z65).n), .slice A256 ((t26.getD 0 z65).text).length c257]) S260 (by kernel_rfl) (by kernel_rfl) rfl (by kernel_rfl) b93 (Nat.le_of_ble_eq_true rfl) (List.forall_mem_cons.2 ⟨rfl, (List.forall_mem_cons.2 ⟨rfl, (List.forall_mem_cons.2 ⟨rfl, (fun _ h_ => by cases h_)⟩)⟩)⟩) rfl) ?_
        rintro w261 ⟨b262, S263, K264⟩
        replace b247 := K264.blk 0 rfl b247
        replace h47 := h47.move (K264.at 1 rfl)
        replace b48 := K264.blk 2 rfl b48
        clear b93
        refine wpList_nil ?_
        refine then_n ?_
        exact ⟨k1_, (by omega), _, t42, A49, c50, t26, A33, c34, ((t42.getD 0 z65).kind), ((t42.getD 0 z65).n), ((t42.getD 0 z65).text), A241, c242, ((t26.getD 0 z65).kind), ((t26.getD 0 z65).n), ((t26.getD 0 z65).text), A256, c257, (by omega), rfl, (by kernel_rfl), (by kernel_rfl), (by kernel_rfl), (by kernel_rfl), (by kernel_rfl), b262, b247, h47, b48, h51, l52, (h35.ext E55), l36, h244, l243, (h259.ext E55), l258, S263, M⟩
      replace M := ifn q234 M
      refine cond_f rfl (bf q234 (by kernel_rfl)) ?_
      refine wp_skip ?_
      refine then_n ?_
      exact ⟨k1_, (by omega), _, t26, A33, c34, t42, A49, c50, ((t26.getD 0 z65).kind), ((t26.getD 0 z65).n), ((t26.getD 0 z65).text), A63, c64, ((t42.getD 0 z65).kind), ((t42.getD 0 z65).n), ((t42.getD 0 z65).text), A83, c84, (by omega), rfl, (by kernel_rfl), (by kernel_rfl), (by kernel_rfl), (by kernel_rfl), (by kernel_rfl), b93, b73, h47, b48, (h35.ext E55), l36, h51, l52, (h66.ext E55), l65, h86, l85, S94, M⟩
    clear M
    rintro a231 w197 ⟨k233, z450, f198, x199, A200, c201, x204, A205, c206, x209, x210, x211, A212, c213, x216, x217, x218, A219, c220, z229, rfl, e223, e224, e225, e226, e227, b93, b73, h47, b48, h202, l203, h207, l208, h214, l215, h221, l222, S228, M⟩
    rcases k233 with _ | k232
    · rw [spec_l5pair_2.l1] at M
      cases M
    rw [spec_l5pair_2.l1] at M
    refine wp_seq ?_
    refine wp_seq ?_
    refine wp_region_lit ?_
    refine lv (d := 78) rfl rfl (by kernel_rfl) (e_fieldAddr (b := g68) (off := 0) (o := 0) Try.underlying65 rfl rfl (sz := 1) (by kernel_rfl) (by decide) (by exact e226)) ?_
    refine lv (d := 79) rfl rfl (by kernel_rfl) (e_load1 (ad := ⟨g68, 0 + 0, none⟩) (v := .int .i64 x209) Try.underlying3 rfl (by kernel_rfl) (blk_cell b73 rfl)) ?_
    refine lv (d := 80) rfl rfl (by kernel_rfl) (e_eql (k := .i64) (a := x209) (b := 0) (by kernel_rfl) rfl) ?_
    refine wpList_nil ?_
    refine then_n ?_
    by_cases q265 : x209 = 0
    · replace M := ifp q265 M
      refine cond_t rfl (bt q265 (by kernel_rfl)) ?_
      refine wp_seq ?_
      refine wp_seq ?_
      refine wp_region_lit ?_
      refine lv (d := 81) rfl rfl (by kernel_rfl) (e_move (v := .pointer (some ⟨g2, 0, none⟩)) (by exact e223)) ?_
      refine lv (d := 82) rfl rfl (by kernel_rfl) (e_fieldAddr (b := g68) (off := 0) (o := 1) Try.underlying65 rfl rfl (sz := 1) (by kernel_rfl) (by decide) (by exact e226)) ?_
      refine lv (d := 83) rfl rfl (by kernel_rfl) (e_load1 (ad := ⟨g68, 0 + 1, none⟩) (v := .int .i64 x210) Try.underlying3 rfl (by kernel_rfl) (blk_cell b73 rfl)) ?_
      refine lv (d := 84) rfl rfl (by kernel_rfl) (e_move (v := .slice A205 x204.length c206) (by exact e225)) ?_
      obtain ⟨t266, u267, M⟩ := bnd M
      refine lcall (d := 85) rfl rfl (by kernel_rfl) (e_call (l := [.tmp 81, .tmp 83, .tmp 84]) (vs := [.pointer (some ⟨g2, 0, none⟩), .int .i64 x210, .slice A205 x204.length c206]) Try.func117 (by kernel_rfl) rfl (by kernel_rfl) rfl) (by have l268 := h47.le; have S269 := S228.pull (F := F7) (Fr := [(is g88), (is g68), (is g2)]) 2 rfl rfl; obtain ⟨H270, S271, E272, h273, z274⟩ := S269.frzRow h47; replace h273 := h273.unro; have S275 := S271.pull (F := (is g2)) (Fr := [(is g88), (is g68)]) 2 rfl rfl; obtain ⟨H276, S277, E278, h279, z280⟩ := S275.frzBlk b48; exact (spec_l5stands.calls k232 w197 H276 (⟨x1.sub_, (IntKind.i64.wrap (x1.pairs_ + 1))⟩ : GL5st) g2 A4 c5 x210 x204 A205 c206 (h273.ext E278) l268 h279 (h207.ext (E272.trans E278)) l208 S277.own0 t266 u267)) ?_
      rintro _ w281 ⟨rfl, C282⟩
      refine ⟨_, rfl, ?_⟩
      obtain ⟨S283, K284⟩ := S228.still C282
      replace b93 := K284.blk 0 rfl b93
      replace b73 := K284.blk 1 rfl b73
      replace h47 := h47.move (K284.at 2 rfl)
      replace b48 := K284.blk 3 rfl b48
      refine wpList_nil ?_
      refine then_n ?_
      by_cases q285 : t266 = true
      · replace M := ifp q285 M
        refine cond_t rfl (bvt q285 (by kernel_rfl)) ?_
        refine wp_seq ?_
        refine wp_region_lit ?_
        refine lv (d := 6) rfl rfl (by kernel_rfl) (e_assign (v := .int .i64 5) rfl) ?_
        refine wpList_nil ?_
        refine then_n ?_
        refine wp_ret ?_
        refine then_r ?_
        refine then_r ?_
        obtain rfl := Option.some.inj M
        have S286 := S283.pull (F := F7) (Fr := [(is g88), (is g68), (is g2)]) 2 rfl rfl
        have S287 := S286.pull (F := (is g2)) (Fr := [F7, (is g88), (is g68)]) 3 rfl rfl
        have S288 := St.first (Fa := [(is g2), F7]) (Fr := [(is g88), (is g68)]) S287
        exact ret1 rfl rfl  (show _ = .int .i64 5 from (by kernel_rfl)) ⟨A4, c5, F7, H45, rfl, h47, b48, S288⟩
      replace M := ifn q285 M
      refine cond_f rfl (bvf q285 (by kernel_rfl)) ?_
      refine wp_skip ?_
      refine then_n ?_
      refine wp_seq ?_
      refine wp_region_lit ?_
      refine lv (d := 86) rfl rfl (by kernel_rfl) (e_move (v := .pointer (some ⟨g2, 0, none⟩)) (by exact e223)) ?_
      refine lv (d := 87) rfl rfl (by kernel_rfl) (e_fieldAddr (b := g68) (off := 0) (o := 1) Try.underlying65 rfl rfl (sz := 1) (by kernel_rfl) (by decide) (by exact e226)) ?_
      refine lv (d := 88) rfl rfl (by kernel_rfl) (e_load1 (ad := ⟨g68, 0 + 1, none⟩) (v := .int .i64 x210) Try.underlying3 rfl (by kernel_rfl) (blk_cell b73 rfl)) ?_
      refine lv (d := 89) rfl rfl (by kernel_rfl) (e_move (v := .slice A205 x204.length c206) (by exact e225)) ?_
      have S289 := S283.pull (F := (is g2)) (Fr := [(is g88), (is g68), F7]) 3 rfl rfl
      have S290 := S289.pull (F := F7) (Fr := [(is g2), (is g88), (is g68)]) 3 rfl rfl
      obtain ⟨t291, u292, M⟩ := bnd M
      refine lcall (d := 90) rfl rfl (by kernel_rfl) (e_call (l := [.tmp 86, .tmp 88, .tmp 89]) (vs := [.pointer (some ⟨g2, 0, none⟩), .int .i64 x210, .slice A205 x204.length c206]) Try.func116 (by kernel_rfl) rfl (by kernel_rfl) rfl) (spec_l5bind.calls k232 w281 H45 (⟨x1.sub_, (IntKind.i64.wrap (x1.pairs_ + 1))⟩ : GL5st) g2 A4 c5 F7 x210 x204 A205 c206 h47 b48 h207 l208 (St.own' (Fa := [F7, (is g2)]) (Fr := [(is g88), (is g68)]) S290) t291 u292) ?_
      rintro _ w293 ⟨A296, c297, F299, H294, rfl, h298, b300, T295⟩
      refine ⟨_, rfl, ?_⟩
      obtain ⟨S301, K302⟩ := St.call (Fa := [F7, (is g2)]) (Fr := [(is g88), (is g68)]) S290 T295
      replace b93 := K302.blk 0 rfl b93
      replace b73 := K302.blk 1 rfl b73
      have E303 := T295.ext
      refine wpList_nil ?_
      refine then_n ?_
      refine wp_seq ?_
      refine wp_region_lit ?_
      refine lv (d := 6) rfl rfl (by kernel_rfl) (e_assign (v := .int .i64 0) rfl) ?_
      refine wpList_nil ?_
      refine then_n ?_
      refine wp_ret ?_
      refine then_r ?_
      obtain rfl := Option.some.inj M
      have S304 := S301.pull (F := F299) (Fr := [(is g2), (is g88), (is g68)]) 1 rfl rfl
      have S305 := S304.pull (F := (is g2)) (Fr := [F299, (is g88), (is g68)]) 1 rfl rfl
      have S306 := St.first (Fa := [(is g2), F299]) (Fr := [(is g88), (is g68)]) S305
      exact ret1 rfl rfl  (show _ = .int .i64 0 from (by kernel_rfl)) ⟨A296, c297, F299, H294, rfl, h298, b300, S306⟩
    replace M := ifn q265 M
    refine cond_f rfl (bf q265 (by kernel_rfl)) ?_
    refine wp_skip ?_
    refine then_n ?_
    refine wp_seq ?_
    refine wp_seq ?_
    refine wp_region_lit ?_
    refine lv (d := 91) rfl rfl (by kernel_rfl) (e_fieldAddr (b := g68) (off := 0) (o := 0) Try.underlying65 rfl rfl (sz := 1) (by kernel_rfl) (by decide) (by exact e226)) ?_
    refine lv (d := 92) rfl rfl (by kernel_rfl) (e_load1 (ad := ⟨g68, 0 + 0, none⟩) (v := .int .i64 x209) Try.underlying3 rfl (by kernel_rfl) (blk_cell b73 rfl)) ?_
    refine lv (d := 93) rfl rfl (by kernel_rfl) (e_fieldAddr (b := g88) (off := 0) (o := 0) Try.underlying65 rfl rfl (sz := 1) (by kernel_rfl) (by decide) (by exact e227)) ?_
    refine lv (d := 94) rfl rfl (by kernel_rfl) (e_load1 (ad := ⟨g88, 0 + 0, none⟩) (v := .int .i64 x216) Try.underlying3 rfl (by kernel_rfl) (blk_cell b93 rfl)) ?_
    refine lv (d := 95) rfl rfl (by kernel_rfl) (e_neq (k := .i64) (a := x209) (b := x216) (by kernel_rfl) (by kernel_rfl)) ?_
    refine lv (d := 96) rfl rfl (by kernel_rfl) (e_move (v := .bool (decide (x209 ≠ x216))) (by kernel_rfl)) ?_
    by_cases q307 : x209 ≠ x216
    · replace M := ifp q307 M
      refine lskip (t := 96) (c := true) rfl (by kernel_rfl) rfl (bt q307 (by kernel_rfl)) rfl rfl ?_
      refine lskip (t := 96) (c := true) rfl (by kernel_rfl) rfl (bt q307 (by kernel_rfl)) rfl rfl ?_
      refine lskip (t := 96) (c := true) rfl (by kernel_rfl) rfl (bt q307 (by kernel_rfl)) rfl rfl ?_
      refine lskip (t := 96) (c := true) rfl (by kernel_rfl) rfl (bt q307 (by kernel_rfl)) rfl rfl ?_
      refine lskip (t := 96) (c := true) rfl (by kernel_rfl) rfl (bt q307 (by kernel_rfl)) rfl rfl ?_
      refine lv (d := 102) rfl rfl (by kernel_rfl) (e_pick_t (v := .bool true) (bt q307 (by kernel_rfl)) rfl) ?_
      refine lv (d := 103) rfl rfl (by kernel_rfl) (e_move (v := .bool true) (by kernel_rfl)) ?_
      refine lskip (t := 103) (c := true) rfl (by kernel_rfl) rfl (by kernel_rfl) rfl rfl ?_
      refine lskip (t := 103) (c := true) rfl (by kernel_rfl) rfl (by kernel_rfl) rfl rfl ?_
      refine lskip (t := 103) (c := true) rfl (by kernel_rfl) rfl (by kernel_rfl) rfl rfl ?_
      refine lskip (t := 103) (c := true) rfl (by kernel_rfl) rfl (by kernel_rfl) rfl rfl ?_
      refine lskip (t := 103) (c := true) rfl (by kernel_rfl) rfl (by kernel_rfl) rfl rfl ?_
      refine lskip (t := 103) (c := true) rfl (by kernel_rfl) rfl (by kernel_rfl) rfl rfl ?_
      refine lskip (t := 103) (c := true) rfl (by kernel_rfl) rfl (by kernel_rfl) rfl rfl ?_
      refine lv (d := 111) rfl rfl (by kernel_rfl) (e_pick_t (v := .bool true) (by kernel_rfl) rfl) ?_
      refine wpList_nil ?_
      refine then_n ?_
      refine cond_t rfl (by kernel_rfl) ?_
      refine wp_seq ?_
      refine wp_region_lit ?_
      refine lv (d := 6) rfl rfl (by kernel_rfl) (e_assign (v := .int .i64 4) rfl) ?_
      refine wpList_nil ?_
      refine then_n ?_
      refine wp_ret ?_
      refine then_r ?_
      obtain rfl := Option.some.inj M
      have S308 := S228.pull (F := F7) (Fr := [(is g88), (is g68), (is g2)]) 2 rfl rfl
      have S309 := S308.pull (F := (is g2)) (Fr := [F7, (is g88), (is g68)]) 3 rfl rfl
      have S310 := St.first (Fa := [(is g2), F7]) (Fr := [(is g88), (is g68)]) S309
      exact ret1 rfl rfl  (show _ = .int .i64 4 from (by kernel_rfl)) ⟨A4, c5, F7, H45, rfl, h47, b48, S310⟩
    replace M := ifn q307 M
    refine lvg (d := 97) (t := 96) rfl (by kernel_rfl) rfl (bf q307 (by kernel_rfl)) rfl (by kernel_rfl) (e_fieldAddr (b := g68) (off := 0) (o := 1) Try.underlying65 rfl rfl (sz := 1) (by kernel_rfl) (by decide) (by exact e226)) ?_
    refine lvg (d := 98) (t := 96) rfl (by kernel_rfl) rfl (bf q307 (by kernel_rfl)) rfl (by kernel_rfl) (e_load1 (ad := ⟨g68, 0 + 1, none⟩) (v := .int .i64 x210) Try.underlying3 rfl (by kernel_rfl) (blk_cell b73 rfl)) ?_
    refine lvg (d := 99) (t := 96) rfl (by kernel_rfl) rfl (bf q307 (by kernel_rfl)) rfl (by kernel_rfl) (e_fieldAddr (b := g88) (off := 0) (o := 1) Try.underlying65 rfl rfl (sz := 1) (by kernel_rfl) (by decide) (by exact e227)) ?_
    refine lvg (d := 100) (t := 96) rfl (by kernel_rfl) rfl (bf q307 (by kernel_rfl)) rfl (by kernel_rfl) (e_load1 (ad := ⟨g88, 0 + 1, none⟩) (v := .int .i64 x217) Try.underlying3 rfl (by kernel_rfl) (blk_cell b93 rfl)) ?_
    refine lvg (d := 101) (t := 96) rfl (by kernel_rfl) rfl (bf q307 (by kernel_rfl)) rfl (by kernel_rfl) (e_neq (k := .i64) (a := x210) (b := x217) (by kernel_rfl) (by kernel_rfl)) ?_
    refine lv (d := 102) rfl rfl (by kernel_rfl) (e_pick_f (v := .bool (decide (x210 ≠ x217))) (bf q307 (by kernel_rfl)) (by kernel_rfl)) ?_
    refine lv (d := 103) rfl rfl (by kernel_rfl) (e_move (v := .bool (decide (x210 ≠ x217))) (by kernel_rfl)) ?_
    by_cases q311 : x210 ≠ x217
    · replace M := ifp q311 M
      refine lskip (t := 103) (c := true) rfl (by kernel_rfl) rfl (bt q311 (by kernel_rfl)) rfl rfl ?_
      refine lskip (t := 103) (c := true) rfl (by kernel_rfl) rfl (bt q311 (by kernel_rfl)) rfl rfl ?_
      refine lskip (t := 103) (c := true) rfl (by kernel_rfl) rfl (bt q311 (by kernel_rfl)) rfl rfl ?_
      refine lskip (t := 103) (c := true) rfl (by kernel_rfl) rfl (bt q311 (by kernel_rfl)) rfl rfl ?_
      refine lskip (t := 103) (c := true) rfl (by kernel_rfl) rfl (bt q311 (by kernel_rfl)) rfl rfl ?_
      refine lskip (t := 103) (c := true) rfl (by kernel_rfl) rfl (bt q311 (by kernel_rfl)) rfl rfl ?_
      refine lskip (t := 103) (c := true) rfl (by kernel_rfl) rfl (bt q311 (by kernel_rfl)) rfl rfl ?_
      refine lv (d := 111) rfl rfl (by kernel_rfl) (e_pick_t (v := .bool true) (bt q311 (by kernel_rfl)) rfl) ?_
      refine wpList_nil ?_
      refine then_n ?_
      refine cond_t rfl (by kernel_rfl) ?_
      refine wp_seq ?_
      refine wp_region_lit ?_
      refine lv (d := 6) rfl rfl (by kernel_rfl) (e_assign (v := .int .i64 4) rfl) ?_
      refine wpList_nil ?_
      refine then_n ?_
      refine wp_ret ?_
      refine then_r ?_
      obtain rfl := Option.some.inj M
      have S312 := S228.pull (F := F7) (Fr := [(is g88), (is g68), (is g2)]) 2 rfl rfl
      have S313 := S312.pull (F := (is g2)) (Fr := [F7, (is g88), (is g68)]) 3 rfl rfl
      have S314 := St.first (Fa := [(is g2), F7]) (Fr := [(is g88), (is g68)]) S313
      exact ret1 rfl rfl  (show _ = .int .i64 4 from (by kernel_rfl)) ⟨A4, c5, F7, H45, rfl, h47, b48, S314⟩
    replace M := ifn q311 M
    refine lvg (d := 104) (t := 103) rfl (by kernel_rfl) rfl (bf q311 (by kernel_rfl)) rfl (by kernel_rfl) (e_fieldAddr (b := g68) (off := 0) (o := 2) Try.underlying65 rfl rfl (sz := 1) (by kernel_rfl) (by decide) (by exact e226)) ?_
    refine lvg (d := 105) (t := 103) rfl (by kernel_rfl) rfl (bf q311 (by kernel_rfl)) rfl (by kernel_rfl) (e_load1 (ad := ⟨g68, 0 + 2, none⟩) (v := .slice A212 x211.length c213) Try.underlying59 rfl (by kernel_rfl) (blk_cell b73 rfl)) ?_
    refine lvg (d := 106) (t := 103) rfl (by kernel_rfl) rfl (bf q311 (by kernel_rfl)) rfl (by kernel_rfl) (e_conv_bs (A := A212) (n := x211.length) (c := c213) (xs := x211) Try.underlying59 Try.underlying5 Try.underlying9 (by kernel_rfl) rfl (Rd.bytesE S228.inv h214)) ?_
    refine lvg (d := 107) (t := 103) rfl (by kernel_rfl) rfl (bf q311 (by kernel_rfl)) rfl (by kernel_rfl) (e_fieldAddr (b := g88) (off := 0) (o := 2) Try.underlying65 rfl rfl (sz := 1) (by kernel_rfl) (by decide) (by exact e227)) ?_
    refine lvg (d := 108) (t := 103) rfl (by kernel_rfl) rfl (bf q311 (by kernel_rfl)) rfl (by kernel_rfl) (e_load1 (ad := ⟨g88, 0 + 2, none⟩) (v := .slice A219 x218.length c220) Try.underlying59 rfl (by kernel_rfl) (blk_cell b93 rfl)) ?_
    refine lvg (d := 109) (t := 103) rfl (by kernel_rfl) rfl (bf q311 (by kernel_rfl)) rfl (by kernel_rfl) (e_conv_bs (A := A219) (n := x218.length) (c := c220) (xs := x218) Try.underlying59 Try.underlying5 Try.underlying9 (by kernel_rfl) rfl (Rd.bytesE S228.inv h221)) ?_
    refine lvg (d := 110) (t := 103) rfl (by kernel_rfl) rfl (bf q311 (by kernel_rfl)) rfl (by kernel_rfl) (e_sneq (p := x211) (q := x218) (by kernel_rfl) (by kernel_rfl)) ?_
    refine lv (d := 111) rfl rfl (by kernel_rfl) (e_pick_f (v := .bool (decide (x211 ≠ x218))) (bf q311 (by kernel_rfl)) (by kernel_rfl)) ?_
    refine wpList_nil ?_
    refine then_n ?_
    by_cases q315 : x211 ≠ x218
    · replace M := ifp q315 M
      refine cond_t rfl (bt q315 (by kernel_rfl)) ?_
      refine wp_seq ?_
      refine wp_region_lit ?_
      refine lv (d := 6) rfl rfl (by kernel_rfl) (e_assign (v := .int .i64 4) rfl) ?_
      refine wpList_nil ?_
      refine then_n ?_
      refine wp_ret ?_
      refine then_r ?_
      obtain rfl := Option.some.inj M
      have S316 := S228.pull (F := F7) (Fr := [(is g88), (is g68), (is g2)]) 2 rfl rfl
      have S317 := S316.pull (F := (is g2)) (Fr := [F7, (is g88), (is g68)]) 3 rfl rfl
      have S318 := St.first (Fa := [(is g2), F7]) (Fr := [(is g88), (is g68)]) S317
      exact ret1 rfl rfl  (show _ = .int .i64 4 from (by kernel_rfl)) ⟨A4, c5, F7, H45, rfl, h47, b48, S318⟩
    replace M := ifn q315 M
    refine cond_f rfl (bf q315 (by kernel_rfl)) ?_
    refine wp_skip ?_
    refine then_n ?_
    refine wp_seq ?_
    refine wp_region_lit ?_
    refine lv (d := 112) rfl rfl (by kernel_rfl) (e_move (v := .slice A200 x199.length c201) (by exact e224)) ?_
    obtain ⟨t319, u320, M⟩ := bnd M
    refine lcall (d := 113) rfl rfl (by kernel_rfl) (e_call (l := [.tmp 112]) (vs := [.slice A200 x199.length c201]) Try.func118 (by kernel_rfl) rfl (by kernel_rfl) rfl) (spec_l2args.calls k232 w197 H45 x199 A200 c201 h202 l203 (St.own' (Fa := []) (Fr := [(is g88), (is g68), F7, (is g2)]) S228) t319 u320) ?_
    rintro _ w321 ⟨A324, c325, F327, H322, rfl, h326, T323⟩
    refine ⟨_, rfl, ?_⟩
    obtain ⟨S328, K329⟩ := St.call (Fa := []) (Fr := [(is g88), (is g68), F7, (is g2)]) S228 T323
    replace b93 := K329.blk 0 rfl b93
    replace b73 := K329.blk 1 rfl b73
    replace h47 := h47.move (K329.at 2 rfl)
    replace b48 := K329.blk 3 rfl b48
    have E330 := T323.ext
    replace h47 := h47.ext E330
    refine lv (d := 10) rfl rfl (by kernel_rfl) (e_assign (v := .slice A324 t319.length c325) (by kernel_rfl)) ?_
    refine wpList_nil ?_
    refine then_n ?_
    refine wp_seq ?_
    refine wp_region_lit ?_
    refine lv (d := 114) rfl rfl (by kernel_rfl) (e_move (v := .slice A205 x204.length c206) (by exact e225)) ?_
    obtain ⟨t331, u332, M⟩ := bnd M
    refine lcall (d := 115) rfl rfl (by kernel_rfl) (e_call (l := [.tmp 114]) (vs := [.slice A205 x204.length c206]) Try.func118 (by kernel_rfl) rfl (by kernel_rfl) rfl) (spec_l2args.calls k232 w321 H322 x204 A205 c206 (h207.ext E330) l208 (St.own' (Fa := []) (Fr := [F327, (is g88), (is g68), F7, (is g2)]) S328) t331 u332) ?_
    rintro _ w333 ⟨A336, c337, F339, H334, rfl, h338, T335⟩
    refine ⟨_, rfl, ?_⟩
    obtain ⟨S340, K341⟩ := St.call (Fa := []) (Fr := [F327, (is g88), (is g68), F7, (is g2)]) S328 T335
    replace h326 := h326.move (K341.at 0 rfl)
    replace b93 := K341.blk 1 rfl b93
    replace b73 := K341.blk 2 rfl b73
    replace h47 := h47.move (K341.at 3 rfl)
    replace b48 := K341.blk 4 rfl b48
    have E342 := T335.ext
    replace h326 := h326.ext E342
    replace h47 := h47.ext E342
    refine lv (d := 11) rfl rfl (by kernel_rfl) (e_assign (v := .slice A336 t331.length c337) (by kernel_rfl)) ?_
    refine wpList_nil ?_
    refine then_n ?_
    refine wp_seq ?_
    refine wp_seq ?_
    refine wp_region_lit ?_
    refine lv (d := 12) rfl rfl (by kernel_rfl) (e_assign (v := .int .i64 0) rfl) ?_
    refine wpList_nil ?_
    refine then_n ?_
    refine wp_block ?_
    have S364 := S340.pull (F := F7) (Fr := [F339, F327, (is g88), (is g68), (is g2)]) 4 rfl rfl
    have S365 := S364.pull (F := (is g2)) (Fr := [F7, F339, F327, (is g88), (is g68)]) 5 rfl rfl
    have S366 := S365.pull (F := F327) (Fr := [(is g2), F7, F339, (is g88), (is g68)]) 3 rfl rfl
    have S367 := S366.pull (F := F339) (Fr := [F327, (is g2), F7, (is g88), (is g68)]) 3 rfl rfl
    have S368 := St.first (Fa := [F339, F327, (is g2), F7]) (Fr := [(is g88), (is g68)]) S367
    refine wp_loop_g (fun k361 a362 w343 => ∃ (f344 : Nat → Value) (H345 : Hp) (x347 : Int) (x348 : List Binding) (A349 : Option Addr) (c350 : Nat) (F351 : Foot) (x353 : Int), k361 < K ∧ a362 = mk 135 f344 ∧ f344 0 = .pointer (some ⟨g2, 0, none⟩) ∧ f344 10 = .slice A324 t319.length c325 ∧ f344 11 = .slice A336 t331.length c337 ∧ f344 12 = .int .i64 x347 ∧ Row (ro sl65) 25 H345 (hp w343) F339 A336 c337 t331 ∧ Row (ro sl65) 25 H345 (hp w343) F327 A324 c325 t319 ∧ w343.heap[g2]? = some (.cells #[.slice A349 x348.length c350, .int .i64 x353] 106 (0, 0)) ∧ Row (ro st63) 63 H345 (hp w343) F351 A349 c350 x348 ∧ Ext H334 H345 ∧ St (anyOf [F7, (is g2)]) H w [F339, F327, (is g2), F351] H345 w343 ∧ spec_l5pair_2.l2 k361 t319 t331 x347 x348 x353 = some r) k232 ⟨_, H334, 0, x1.sub_, A4, c5, F7, (IntKind.i64.wrap (x1.pairs_ + 1)), (by omega), rfl, (by exact e223), (by kernel_rfl), (by kernel_rfl), (by kernel_rfl), h338, h326, b48, h47, (Ext.refl _), S368, M⟩ ?_
    clear M
    rintro k361 a362 w343 ⟨f344, H345, x347, x348, A349, c350, F351, x353, z359, rfl, e354, e355, e356, e357, h338, h326, b48, h352, Y346, S358, M⟩
    rcases k361 with _ | k363
    · rw [spec_l5pair_2.l2] at M
      cases M
    rw [spec_l5pair_2.l2] at M
    refine wp_seq ?_
    refine wp_seq ?_
    refine wp_region_lit ?_
    refine lv (d := 116) rfl rfl (by kernel_rfl) (e_move (v := .int .i64 x347) (by exact e357)) ?_
    refine lv (d := 117) rfl rfl (by kernel_rfl) (e_move (v := .slice A324 t319.length c325) (by exact e355)) ?_
    refine lv (d := 118) rfl rfl (by kernel_rfl) (e_len (A := A324) (n := t319.length) (c := c325) Try.underlying38 (by kernel_rfl)) ?_
    refine lv (d := 119) rfl rfl (by kernel_rfl) (e_lss (k := .i64) (a := x347) (b := (t319.length : Int)) (by kernel_rfl) (by kernel_rfl)) ?_
    refine wpList_nil ?_
    refine then_n ?_
    by_cases q369 : x347 < (t319.length : Int)
    · replace M := ifp q369 M
      refine cond_t rfl (bt q369 (by kernel_rfl)) ?_
      refine wp_skip ?_
      refine then_n ?_
      refine wp_seq ?_
      refine wp_block ?_
      refine wp_seq ?_
      refine region_mix (S := (fun (L_ : Array Bool) (w_ : World) => Ext H345 (hp w_) ∧ (∀ b_, F327 b_ → hp w_ b_ = hp w343 b_))) (by kernel_rfl) S358 ?_
      intro w370 S371 K372 hc373
      have o374 := h326
      have hs375 : (fun (L_ : Array Bool) (w_ : World) => Ext H345 (hp w_) ∧ (∀ b_, F327 b_ → hp w_ b_ = hp w343 b_)) (Array.replicate 11 false) w370 := ⟨S371.inv, (fun b_ h_ => K372.at 1 rfl b_ h_)⟩
      replace h338 := h338.move (K372.at 0 rfl)
      replace h326 := h326.move (K372.at 1 rfl)
      replace b48 := K372.blk 2 rfl b48
      replace h352 := h352.move (K372.at 3 rfl)
      refine xv (i := 0) (d := 122) rfl rfl rfl (by kernel_rfl) (by kernel_rfl) (fun _ _ => Iff.rfl) hc373 hs375 (fun L_ w_ hc_ hu_ hs_ => e_move (v := .pointer (some ⟨g2, 0, none⟩)) (by exact e354)) ?_; intro hc376 hs377
      refine xv (i := 1) (d := 123) rfl rfl rfl (by kernel_rfl) (by kernel_rfl) (fun _ _ => Iff.rfl) hc376 hs377 (fun L_ w_ hc_ hu_ hs_ => e_move (v := .slice A324 t319.length c325) (by exact e355)) ?_; intro hc378 hs379
      refine xv (i := 2) (d := 124) rfl rfl rfl (by kernel_rfl) (by kernel_rfl) (fun _ _ => Iff.rfl) hc378 hs379 (fun L_ w_ hc_ hu_ hs_ => e_move (v := .int .i64 x347) (by exact e357)) ?_; intro hc380 hs381
      obtain ⟨q382, M⟩ := chk M
      obtain ⟨b383, e385⟩ := Row.addr h326 (show (x347).toNat < t319.length by omega)
      refine xv (i := 3) (d := 125) rfl rfl rfl (by kernel_rfl) (by kernel_rfl) (fun _ _ => Iff.rfl) hc380 hs381 (fun L_ w_ hc_ hu_ hs_ => e_indexAddr (b := b383) (off := 0) (n := t319.length) (c := c325) (sz := 1) (i := x347) (k := .i64) Try.underlying38 e385 (by kernel_rfl) (by kernel_rfl) (by kernel_rfl) q382 q369) ?_; intro hc386 hs387
      obtain ⟨y388, F389, r390, s391, k392⟩ := Row.at o374 e385 (getD_some ([] : List Cell) (show (x347).toNat < t319.length by omega))
      obtain ⟨A393, c394, rfl, l395, h396⟩ := r390
      refine xv (i := 4) (d := 126) rfl rfl rfl (by kernel_rfl) (by kernel_rfl) (fun _ _ => Iff.rfl) hc386 hs387 (fun L_ w_ hc_ hu_ hs_ => e_load1 (ad := ⟨b383, 0 + (x347 : Int).toNat * 1, none⟩) (v := .slice A393 (t319.getD ((x347).toNat) ([] : List Cell)).length c394) Try.underlying25 rfl (by kernel_rfl) (hpx (cell_same (hs_.2 _ (Row.foot o374 e385)) (k392 0 _ rfl)))) ?_; intro hc397 hs398
      refine xv (i := 5) (d := 127) rfl rfl rfl (by kernel_rfl) (by kernel_rfl) (fun _ _ => Iff.rfl) hc397 hs398 (fun L_ w_ hc_ hu_ hs_ => e_move (v := .slice A336 t331.length c337) (by exact e356)) ?_; intro hc399 hs400
      refine xone (i := 6) (by kernel_rfl) hc399 ?_
      refine yo (i := 6) (d := 128) rfl rfl (wanted_none rfl _) (by kernel_rfl) (by kernel_rfl) (fun _ _ => Iff.rfl) hs400 (e_move (v := .int .i64 x347) (by exact e357)) ?_; intro hc401 hs402
      obtain ⟨q403, M⟩ := chk M
      obtain ⟨b404, e406⟩ := Row.addr h338 (show (x347).toNat < t331.length by omega)
      refine xone (i := 7) (by kernel_rfl) hc401 ?_
      refine yo (i := 7) (d := 129) rfl rfl (wanted_none rfl _) (by kernel_rfl) (by kernel_rfl) (fun _ _ => Iff.rfl) hs402 (e_indexAddr (b := b404) (off := 0) (n := t331.length) (c := c337) (sz := 1) (i := x347) (k := .i64) Try.underlying38 e406 (by kernel_rfl) (by kernel_rfl) (by kernel_rfl) q382 q403) ?_; intro hc407 hs408
      obtain ⟨y409, F410, r411, s412, k413⟩ := Row.at h338 e406 (getD_some ([] : List Cell) (show (x347).toNat < t331.length by omega))
      obtain ⟨A414, c415, rfl, l416, h417⟩ := r411
      refine xone (i := 8) (by kernel_rfl) hc407 ?_
      refine yo (i := 8) (d := 130) rfl rfl (wanted_none rfl _) (by kernel_rfl) (by kernel_rfl) (fun _ _ => Iff.rfl) hs408 (e_load1 (ad := ⟨b404, 0 + (x347 : Int).toNat * 1, none⟩) (v := .slice A414 (t331.getD ((x347).toNat) ([] : List Cell)).length c415) Try.underlying25 rfl (by kernel_rfl) (hpx (k413 0 _ rfl))) ?_; intro hc418 hs419
      have S420 := S371.pull (F := (is g2)) (Fr := [F339, F327, F351]) 2 rfl rfl
      have S421 := S420.pull (F := F351) (Fr := [(is g2), F339, F327]) 3 rfl rfl
      obtain ⟨t422, u423, M⟩ := bnd M
      refine xone (i := 9) (by kernel_rfl) hc418 ?_
      refine yc (i := 9) rfl (wanted_none rfl _) (by kernel_rfl) (by kernel_rfl) (e_call (l := [.tmp 122, .tmp 126, .tmp 130]) (vs := [.pointer (some ⟨g2, 0, none⟩), .slice A393 (t319.getD ((x347).toNat) ([] : List Cell)).length c394, .slice A414 (t331.getD ((x347).toNat) ([] : List Cell)).length c415]) Try.func89 (by kernel_rfl) rfl (by kernel_rfl) rfl) (ih k363 (by omega) w370 H345 (⟨x348, x353⟩ : GL5st) g2 A349 c350 F351 (t319.getD ((x347).toNat) ([] : List Cell)) A393 c394 (t331.getD ((x347).toNat) ([] : List Cell)) A414 c415 h352 b48 h396 l395 h417 l416 (St.own' (Fa := [F351, (is g2)]) (Fr := [F339, F327]) S421) t422 u423) ?_
      rintro hc432 _ w424 ⟨A427, c428, F430, H425, rfl, h429, b431, T426⟩
      refine ⟨_, rfl, ?_⟩
      obtain ⟨S433, K434⟩ := St.call (Fa := [F351, (is g2)]) (Fr := [F339, F327]) S421 T426
      replace h338 := h338.move (K434.at 0 rfl)
      replace h326 := h326.move (K434.at 1 rfl)
      have E435 := T426.ext
      replace h338 := h338.ext E435
      replace h326 := h326.ext E435
      refine ⟨⟨(Ext.trans E435 S433.inv), (fun b_ h_ => (K434.at 1 rfl b_ h_).trans (hs419.2 b_ h_))⟩, fun hs436 => ?_⟩
      refine xone (i := 10) (by kernel_rfl) hc432 ?_
      refine yo (i := 10) (d := 13) rfl rfl (wanted_none rfl _) (by kernel_rfl) (by kernel_rfl) (fun _ _ => Iff.rfl) hs436 (e_assign (v := .int .i64 t422.1) (by kernel_rfl)) ?_; intro hc437 hs438
      refine xn (by kernel_rfl) ?_ _
      refine then_n ?_
      refine wp_seq ?_
      refine wp_region_lit ?_
      refine lv (d := 132) rfl rfl (by kernel_rfl) (e_move (v := .int .i64 t422.1) (by kernel_rfl)) ?_
      refine lv (d := 133) rfl rfl (by kernel_rfl) (e_neq (k := .i64) (a := t422.1) (b := 0) (by kernel_rfl) rfl) ?_
      refine wpList_nil ?_
      refine then_n ?_
      by_cases q439 : t422.1 ≠ 0
      · replace M := ifp q439 M
        refine cond_t rfl (bt q439 (by kernel_rfl)) ?_
        refine wp_seq ?_
        refine wp_region_lit ?_
        refine lv (d := 134) rfl rfl (by kernel_rfl) (e_move (v := .int .i64 t422.1) (by kernel_rfl)) ?_
        refine lv (d := 6) rfl rfl (by kernel_rfl) (e_assign (v := .int .i64 t422.1) (by kernel_rfl)) ?_
        refine wpList_nil ?_
        refine then_n ?_
        refine wp_ret ?_
        refine inb_r ?_
        refine then_r ?_
        refine then_r ?_
        refine inb_r ?_
        refine then_r ?_
        obtain rfl := Option.some.inj M
        have S440 := S433.pull (F := F430) (Fr := [(is g2), F339, F327]) 1 rfl rfl
        have S441 := S440.pull (F := (is g2)) (Fr := [F430, F339, F327]) 1 rfl rfl
        have S442 := St.first (Fa := [(is g2), F430]) (Fr := [F339, F327]) S441
        exact ret1 rfl rfl  (show _ = .int .i64 t422.1 from (by kernel_rfl)) ⟨A427, c428, F430, H425, rfl, h429, b431, S442⟩
      replace M := ifn q439 M
      refine cond_f rfl (bf q439 (by kernel_rfl)) ?_
      refine wp_skip ?_
      refine inb_n ?_
      refine then_n ?_
      refine wp_region_lit ?_
      refine lv (d := 120) rfl rfl (by kernel_rfl) (e_move (v := .int .i64 x347) (by exact e357)) ?_
      refine lv (d := 121) rfl rfl (by kernel_rfl) (e_add (k := .i64) (a := x347) (b := 1) (by kernel_rfl) rfl) ?_
      refine lv (d := 12) rfl rfl (by kernel_rfl) (e_assign (v := .int .i64 (IntKind.i64.wrap (x347 + 1))) (by kernel_rfl)) ?_
      refine wpList_nil ?_
      refine then_n ?_
      have S443 := S433.pull (F := F430) (Fr := [(is g2), F339, F327]) 1 rfl rfl
      have S444 := S443.pull (F := (is g2)) (Fr := [F430, F339, F327]) 1 rfl rfl
      have S445 := S444.pull (F := F327) (Fr := [(is g2), F430, F339]) 3 rfl rfl
      have S446 := S445.pull (F := F339) (Fr := [F327, (is g2), F430]) 3 rfl rfl
      exact ⟨k363, (by omega), _, H425, (IntKind.i64.wrap (x347 + 1)), t422.2.sub_, A427, c428, F430, t422.2.pairs_, (by omega), rfl, (by exact e354), (by exact e355), (by exact e356), (by kernel_rfl), h338, h326, b431, h429, (Y346.trans E435), S446, M⟩
    replace M := ifn q369 M
    refine cond_f rfl (bf q369 (by kernel_rfl)) ?_
    refine wp_exit ?_
    refine then_e ?_
    refine then_e ?_
    refine inb_hit ?_
    refine then_n ?_
    refine wp_seq ?_
    refine wp_region_lit ?_
    refine lv (d := 6) rfl rfl (by kernel_rfl) (e_assign (v := .int .i64 0) rfl) ?_
    refine wpList_nil ?_
    refine then_n ?_
    refine wp_ret ?_
    obtain rfl := Option.some.inj M
    have S447 := S358.pull (F := F351) (Fr := [F339, F327, (is g2)]) 3 rfl rfl
    have S448 := S447.pull (F := (is g2)) (Fr := [F351, F339, F327]) 3 rfl rfl
    have S449 := St.first (Fa := [(is g2), F351]) (Fr := [F339, F327]) S448
    exact ret1 rfl rfl  (show _ = .int .i64 0 from (by kernel_rfl)) ⟨A349, c350, F351, H345, rfl, h352, b48, S449⟩
theorem spec_l5pair_2.calls (k : Nat) (w : World) (H : Hp) (x1 : GL5st) (g2 : Nat) (A4 : Option Addr) (c5 : Nat) (F7 : Foot) (x8 : List Cell) (A9 : Option Addr) (c10 : Nat) (x13 : List Cell) (A14 : Option Addr) (c15 : Nat) (h6 : Row (ro st63) 63 H (hp w) F7 A4 c5 x1.sub_) (b3 : w.heap[g2]? = some (.cells #[.slice A4 x1.sub_.length c5, .int .i64 x1.pairs_] 106 (0, 0))) (h11 : Rd st65 H A9 x8) (l12 : x8.length ≤ c10) (h16 : Rd st65 H A14 x13) (l17 : x13.length ≤ c15) (S : Own [F7, (is g2)] H w) (r : Int × GL5st) (M : spec_l5pair_2.f k x1 x8 x13 = some r) :
    Calls Try.prog 89 #[.pointer (some ⟨g2, 0, none⟩), .slice A9 x8.length c10, .slice A14 x13.length c15] w (fun e e_w => ∃ (A_1 : Option Addr) (c_1 : Nat) (F_1 : Foot) (H_ : Hp), e = .returned (.int .i64 r.1) ∧ Row (ro st63) 63 H_ (hp e_w) F_1 A_1 c_1 r.2.sub_ ∧ e_w.heap[g2]? = some (.cells #[.slice A_1 r.2.sub_.length c_1, .int .i64 r.2.pairs_] 106 (0, 0)) ∧ St (anyOf [F7, (is g2)]) H w [(is g2), F_1] H_ e_w) := (spec_l5pair_2.all (k + 1)) k (Nat.lt_succ_self k) w H x1 g2 A4 c5 F7 x8 A9 c10 x13 A14 c15 h6 b3 h11 l12 h16 l17 S r M

/-! spec_l1copy -/
def spec_l1copy.f (x1 : List UInt8) : Option (List UInt8) := (if 0 + x1.length ≤ 140737488355328 then some x1 else none)
theorem spec_l1copy.calls (w : World) (H : Hp) (x1 : List UInt8) (A2 : Option Addr) (c3 : Nat) (h4 : Rd tByte H A2 x1) (l5 : x1.length ≤ c3) (S : Own [] H w) (r : List UInt8) (M : spec_l1copy.f x1 = some r) :
    Calls Try.prog 113 #[.slice A2 x1.length c3] w (fun e e_w => ∃ (A_1 : Option Addr) (c_1 : Nat) (F_1 : Foot) (H_ : Hp), e = .returned (.slice A_1 r.length c_1) ∧ Row tByte 5 H_ (hp e_w) F_1 A_1 c_1 r ∧ St (anyOf []) H w [F_1] H_ e_w) := by
  rw [spec_l1copy.f] at M
  refine enter (l := [.slice A2 x1.length c3]) 7 Try.func113 rfl rfl rfl ?_
  have S0_ := S.st
  refine wp_seq ?_
  refine wp_region_lit ?_
  refine lv (d := 2) rfl rfl (by kernel_rfl) (e_assign (v := .slice none 0 0) rfl) ?_
  refine wpList_nil ?_
  refine then_n ?_
  refine wp_seq ?_
  refine wp_region_lit ?_
  refine lv (d := 3) rfl rfl (by kernel_rfl) (e_assign (v := .slice none 0 0) rfl) ?_
  refine wpList_nil ?_
  refine then_n ?_
  refine wp_seq ?_
  refine wp_region_lit ?_
  refine lv (d := 4) rfl rfl (by kernel_rfl) (e_move (v := .slice none 0 0) (by kernel_rfl)) ?_
  refine lv (d := 5) rfl rfl (by kernel_rfl) (e_move (v := .slice A2 x1.length c3) (by kernel_rfl)) ?_
  obtain ⟨y6, h7, h8⟩ := Rd.news (d := tByte) (ro_scal _ _) S0_ h4
  obtain ⟨q9, M⟩ := chk M
  have S10 := S0_.unit
  have S11 := S10.unit
  have S12 := S11.pull (F := no) (Fr := [no]) 1 rfl rfl
  refine lve (d := 6) rfl rfl (by kernel_rfl) (e_append (d := tByte) (n := 0) (xs := []) (cap := 0) (A := none) (ys := x1) (A2 := A2) (c2 := c3) (z := .int .u8 0) (bytes := 1) S12 Try.underlying59 (by kernel_rfl) rfl (by decide) (by kernel_rfl) rfl (by kernel_rfl) (Row.nil _ _ _ _ no) h7 h8 (show (0 + x1.length) * 1 ≤ _ by first | omega | (simp only [List.length_cons, List.length_nil]; omega)) (by decide)) ?_
  rintro _ w13 ⟨A14, c15, F16, rfl, h17, S18, K19⟩
  replace h17 : Row tByte 5 H (hp w13) F16 A14 c15 x1 := h17
  refine lv (d := 2) rfl rfl (by kernel_rfl) (e_assign (v := .slice A14 x1.length c15) (by kernel_rfl)) ?_
  refine wpList_nil ?_
  refine then_n ?_
  refine wp_ret ?_
  obtain rfl := Option.some.inj M
  exact ret1 rfl rfl  (show _ = .slice A14 x1.length c15 from (by kernel_rfl)) ⟨A14, c15, F16, H, rfl, h17, S18⟩
end Go.Proofs.Ytognefkopbbdnaa
