import Derived.Test.YtognefkopbbdnaaProg
import Derived.Test.YtognefkopbbdnaaY11
namespace Go.Proofs.Ytognefkopbbdnaa
open Go.Sx Go.Sy
attribute [local irreducible] Go.wpList Go.wpStill Go.wpQuiet Go.Code.wp
set_option maxRecDepth 100000
set_option maxHeartbeats 1000000
set_option linter.unusedVariables false
set_option linter.unusedSimpArgs false

/-! laws_szByteS -/
def sl5 : Ty (List UInt8) := slice 5 tByte (by decide)
def st68 : Ty Cell := iso (pair tInt (pair tInt sl5)) (fun x => (x.kind, x.n, x.text))
theorem st68_open {H : Hp} {x : Cell} {cs : List Value} (h : st68.R H x cs) : ∃ (A2 : Option Addr) (c2 : Nat), cs = [.int .i64 x.kind, .int .i64 x.n, .slice A2 x.text.length c2] ∧ x.text.length ≤ c2 ∧ Rd tByte H A2 x.text := by
  obtain ⟨_, _, rfl, rfl, ⟨_, _, rfl, rfl, ⟨A2, c2, rfl, l2, h2⟩⟩⟩ := h
  exact ⟨A2, c2, rfl, l2, h2⟩
theorem st68_mkR {H : Hp} {x : Cell} {A2 : Option Addr} {c2 : Nat} (l2 : x.text.length ≤ c2) (h2 : Rd tByte H A2 x.text) : st68.R H x [.int .i64 x.kind, .int .i64 x.n, .slice A2 x.text.length c2] := ⟨[.int .i64 x.kind], [.int .i64 x.n, .slice A2 x.text.length c2], rfl, rfl, ⟨[.int .i64 x.n], [.slice A2 x.text.length c2], rfl, rfl, ⟨A2, c2, rfl, l2, h2⟩⟩⟩
theorem st68_mkO {H X : Hp} {F2 : Foot} {x : Cell} {A2 : Option Addr} {c2 : Nat} (h2 : Row tByte 5 H X F2 A2 c2 x.text) : st68.O H X F2 x [.int .i64 x.kind, .int .i64 x.n, .slice A2 x.text.length c2] := (pairO0 (a := tInt) (b := (pair tInt sl5)) (x := (x.kind, (x.n, x.text))) (c0 := [.int .i64 x.kind]) (c1 := [.int .i64 x.n, .slice A2 x.text.length c2]) rfl (pairO0 (a := tInt) (b := sl5) (x := (x.n, x.text)) (c0 := [.int .i64 x.n]) (c1 := [.slice A2 x.text.length c2]) rfl ⟨A2, c2, rfl, h2⟩))
theorem st68_openO {H X : Hp} {F : Foot} {x : Cell} {cs : List Value} (h : st68.O H X F x cs) : ∃ (A2 : Option Addr) (c2 : Nat) (F2 : Foot), cs = [.int .i64 x.kind, .int .i64 x.n, .slice A2 x.text.length c2] ∧ Row tByte 5 H X F2 A2 c2 x.text ∧ (∀ b, F2 b → F b) := by
  obtain ⟨_, _, K1, L1, rfl, rfl, ⟨_, _, K0, L0, rfl, rfl, ⟨A2, c2, rfl, h2⟩, d0, s0⟩, d1, s1⟩ := h
  exact ⟨A2, c2, _, rfl, h2, fun b hb => s1 b (.inr (s0 b (.inr (hb))))⟩
theorem st68_c0 {H X : Hp} {F : Foot} {x : Cell} {cs : List Value} (h : st68.O H X F x cs) : cs[0]? = some (.int .i64 x.kind) := by obtain ⟨_, _, _, rfl, _, _⟩ := st68_openO h; rfl
theorem st68_r0 {H : Hp} {x : Cell} {cs : List Value} (h : st68.R H x cs) : cs[0]? = some (.int .i64 x.kind) := by obtain ⟨_, _, rfl, _, _⟩ := st68_open h; rfl
theorem st68_c1 {H X : Hp} {F : Foot} {x : Cell} {cs : List Value} (h : st68.O H X F x cs) : cs[1]? = some (.int .i64 x.n) := by obtain ⟨_, _, _, rfl, _, _⟩ := st68_openO h; rfl
theorem st68_r1 {H : Hp} {x : Cell} {cs : List Value} (h : st68.R H x cs) : cs[1]? = some (.int .i64 x.n) := by obtain ⟨_, _, rfl, _, _⟩ := st68_open h; rfl
theorem st68_u0 {H X : Hp} {F1 F2 : Foot} {x : Cell} (y : Int) {cs : List Value} (h : st68.O H X F1 x cs) : st68.O H X (or2 F1 F2) {x with kind := y} (cs.take 0 ++ [.int .i64 y] ++ cs.drop 1) := by
  obtain ⟨_, _, _, rfl, h2, s2⟩ := st68_openO h
  exact st68_mkO (x := {x with kind := y}) (h2.mono fun b hb => .inl (s2 b hb))
theorem st68_u1 {H X : Hp} {F1 F2 : Foot} {x : Cell} (y : Int) {cs : List Value} (h : st68.O H X F1 x cs) : st68.O H X (or2 F1 F2) {x with n := y} (cs.take 1 ++ [.int .i64 y] ++ cs.drop 2) := by
  obtain ⟨_, _, _, rfl, h2, s2⟩ := st68_openO h
  exact st68_mkO (x := {x with n := y}) (h2.mono fun b hb => .inl (s2 b hb))
theorem st68_u2 {H X : Hp} {F1 F2 : Foot} {x : Cell} {y : List UInt8} {A : Option Addr} {c : Nat} {cs : List Value} (hy : Row tByte 5 H X F2 A c y) (h : st68.O H X F1 x cs) : st68.O H X (or2 F1 F2) {x with text := y} (cs.take 2 ++ [.slice A y.length c] ++ cs.drop 3) := by
  obtain ⟨_, _, _, rfl, h2, _⟩ := st68_openO h
  exact st68_mkO (x := {x with text := y}) (hy.mono fun b hb => .inr hb)
def z68 : Cell := ⟨(0 : Int), (0 : Int), ([] : List UInt8)⟩
theorem z68_O (H X : Hp) : st68.O H X no z68 [.int .i64 (0 : Int), .int .i64 (0 : Int), .slice none 0 0] := st68_mkO (x := z68) (Row.nil _ _ _ _ no)
theorem z68_R (H : Hp) : st68.R H z68 [.int .i64 (0 : Int), .int .i64 (0 : Int), .slice none 0 0] := st68_mkR (x := z68) (Nat.le_refl _) (Rd.nil _ _ _)
def laws_szByteS.f (x1 : List UInt8) (x6 : Int) : Option Int := (if (IntKind.i64.wrap (x6 - (x1.length : Int))) < 0 then some (-1) else some (IntKind.i64.wrap (x6 - (x1.length : Int))))
theorem laws_szByteS.calls (w : World) (H : Hp) (x1 : List UInt8) (A2 : Option Addr) (c3 : Nat) (x6 : Int) (h4 : Rd tByte H A2 x1) (l5 : x1.length ≤ c3) (S : Own [] H w) (r : Int) (M : laws_szByteS.f x1 x6 = some r) :
    Calls Try.prog 102 #[.slice A2 x1.length c3, .int .i64 x6] w (fun e e_w => e = .returned (.int .i64 r) ∧ Chg no w e_w) := by
  rw [laws_szByteS.f] at M
  refine enter (l := [.slice A2 x1.length c3, .int .i64 x6]) 12 Try.func102 rfl rfl rfl ?_
  have S0_ := S.st
  refine wp_seq ?_
  refine wp_region_lit ?_
  refine lv (d := 4) rfl rfl (by kernel_rfl) (e_assign (v := .int .i64 0) rfl) ?_
  refine wpList_nil ?_
  refine then_n ?_
  refine wp_seq ?_
  refine wp_region_lit ?_
  refine lv (d := 5) rfl rfl (by kernel_rfl) (e_move (v := .int .i64 x6) (by kernel_rfl)) ?_
  refine lv (d := 6) rfl rfl (by kernel_rfl) (e_move (v := .slice A2 x1.length c3) (by kernel_rfl)) ?_
  refine lv (d := 7) rfl rfl (by kernel_rfl) (e_len (A := A2) (n := x1.length) (c := c3) Try.underlying59 (by kernel_rfl)) ?_
  refine lv (d := 8) rfl rfl (by kernel_rfl) (e_sub (k := .i64) (a := x6) (b := (x1.length : Int)) (by kernel_rfl) (by kernel_rfl)) ?_
  refine lv (d := 1) rfl rfl (by kernel_rfl) (e_assign (v := .int .i64 (IntKind.i64.wrap (x6 - (x1.length : Int)))) (by kernel_rfl)) ?_
  refine wpList_nil ?_
  refine then_n ?_
  refine wp_seq ?_
  refine wp_seq ?_
  refine wp_region_lit ?_
  refine lv (d := 9) rfl rfl (by kernel_rfl) (e_move (v := .int .i64 (IntKind.i64.wrap (x6 - (x1.length : Int)))) (by kernel_rfl)) ?_
  refine lv (d := 10) rfl rfl (by kernel_rfl) (e_lss (k := .i64) (a := (IntKind.i64.wrap (x6 - (x1.length : Int)))) (b := 0) (by kernel_rfl) rfl) ?_
  refine wpList_nil ?_
  refine then_n ?_
  by_cases q7 : (IntKind.i64.wrap (x6 - (x1.length : Int))) < 0
  · replace M := ifp q7 M
    refine cond_t rfl (bt q7 (by kernel_rfl)) ?_
    refine wp_seq ?_
    refine wp_region_lit ?_
    refine lv (d := 4) rfl rfl (by kernel_rfl) (e_assign (v := .int .i64 (-1)) rfl) ?_
    refine wpList_nil ?_
    refine then_n ?_
    refine wp_ret ?_
    refine then_r ?_
    obtain rfl := Option.some.inj M
    exact ret1 rfl rfl  (show _ = .int .i64 (-1) from (by kernel_rfl)) ⟨rfl, S0_.chg⟩
  replace M := ifn q7 M
  refine cond_f rfl (bf q7 (by kernel_rfl)) ?_
  refine wp_skip ?_
  refine then_n ?_
  refine wp_seq ?_
  refine wp_region_lit ?_
  refine lv (d := 11) rfl rfl (by kernel_rfl) (e_move (v := .int .i64 (IntKind.i64.wrap (x6 - (x1.length : Int)))) (by kernel_rfl)) ?_
  refine lv (d := 4) rfl rfl (by kernel_rfl) (e_assign (v := .int .i64 (IntKind.i64.wrap (x6 - (x1.length : Int)))) (by kernel_rfl)) ?_
  refine wpList_nil ?_
  refine then_n ?_
  refine wp_ret ?_
  obtain rfl := Option.some.inj M
  exact ret1 rfl rfl  (show _ = .int .i64 (IntKind.i64.wrap (x6 - (x1.length : Int))) from (by kernel_rfl)) ⟨rfl, S0_.chg⟩

/-! laws_szCell -/
def laws_szCell.f (x1 : Cell) (x6 : Int) : Option Int := ((laws_szByteS.f x1.text x6).bind fun t12 => (if t12 < 0 then some (-1) else some t12))
theorem laws_szCell.calls (w : World) (H : Hp) (x1 : Cell) (A2 : Option Addr) (c3 : Nat) (x6 : Int) (h4 : Rd tByte H A2 x1.text) (l5 : x1.text.length ≤ c3) (S : Own [] H w) (r : Int) (M : laws_szCell.f x1 x6 = some r) :
    Calls Try.prog 55 #[.agg #[.int .i64 x1.kind, .int .i64 x1.n, .slice A2 x1.text.length c3], .int .i64 x6] w (fun e e_w => e = .returned (.int .i64 r) ∧ Chg no w e_w) := by
  rw [laws_szCell.f] at M
  refine enter (l := [.agg #[.int .i64 x1.kind, .int .i64 x1.n, .slice A2 x1.text.length c3], .int .i64 x6]) 12 Try.func55 rfl rfl rfl ?_
  have S0_ := S.st
  refine wp_seq ?_
  refine wp_region_lit ?_
  refine lve (d := 2) rfl rfl (by kernel_rfl) (new_blk (v := fun g_ => .pointer (some ⟨g_, 0, none⟩)) (cs := #[.int .i64 x1.kind, .int .i64 x1.n, .slice A2 x1.text.length c3]) (t := 68) S0_ (by kernel_rfl)) ?_
  rintro _ w7 ⟨g8, rfl, b9, S10, K11⟩
  refine lv (d := 4) rfl rfl (by kernel_rfl) (e_assign (v := .int .i64 0) rfl) ?_
  refine wpList_nil ?_
  refine then_n ?_
  refine wp_seq ?_
  refine wp_region_lit ?_
  refine lv (d := 5) rfl rfl (by kernel_rfl) (e_fieldAddr (b := g8) (off := 0) (o := 2) Try.underlying68 rfl rfl (sz := 1) (by kernel_rfl) (by decide) (by kernel_rfl)) ?_
  refine lv (d := 6) rfl rfl (by kernel_rfl) (e_load1 (ad := ⟨g8, 0 + 2, none⟩) (v := .slice A2 x1.text.length c3) Try.underlying59 rfl (by kernel_rfl) (blk_cell b9 rfl)) ?_
  refine lv (d := 7) rfl rfl (by kernel_rfl) (e_move (v := .int .i64 x6) (by kernel_rfl)) ?_
  obtain ⟨t12, u13, M⟩ := bnd M
  refine lcall (d := 8) rfl rfl (by kernel_rfl) (e_call (l := [.tmp 6, .tmp 7]) (vs := [.slice A2 x1.text.length c3, .int .i64 x6]) Try.func102 (by kernel_rfl) rfl (by kernel_rfl) rfl) (laws_szByteS.calls w7 H x1.text A2 c3 x6 h4 l5 S10.own0 t12 u13) ?_
  rintro _ w14 ⟨rfl, C15⟩
  refine ⟨_, rfl, ?_⟩
  obtain ⟨S16, K17⟩ := S10.still C15
  replace b9 := K17.blk 0 rfl b9
  refine lv (d := 1) rfl rfl (by kernel_rfl) (e_assign (v := .int .i64 t12) (by kernel_rfl)) ?_
  refine wpList_nil ?_
  refine then_n ?_
  refine wp_seq ?_
  refine wp_seq ?_
  refine wp_region_lit ?_
  refine lv (d := 9) rfl rfl (by kernel_rfl) (e_move (v := .int .i64 t12) (by kernel_rfl)) ?_
  refine lv (d := 10) rfl rfl (by kernel_rfl) (e_lss (k := .i64) (a := t12) (b := 0) (by kernel_rfl) rfl) ?_
  refine wpList_nil ?_
  refine then_n ?_
  by_cases q18 : t12 < 0
  · replace M := ifp q18 M
    refine cond_t rfl (bt q18 (by kernel_rfl)) ?_
    refine wp_seq ?_
    refine wp_region_lit ?_
    refine lv (d := 4) rfl rfl (by kernel_rfl) (e_assign (v := .int .i64 (-1)) rfl) ?_
    refine wpList_nil ?_
    refine then_n ?_
    refine wp_ret ?_
    refine then_r ?_
    obtain rfl := Option.some.inj M
    exact ret1 rfl rfl  (show _ = .int .i64 (-1) from (by kernel_rfl)) ⟨rfl, S16.chg⟩
  replace M := ifn q18 M
  refine cond_f rfl (bf q18 (by kernel_rfl)) ?_
  refine wp_skip ?_
  refine then_n ?_
  refine wp_seq ?_
  refine wp_region_lit ?_
  refine lv (d := 11) rfl rfl (by kernel_rfl) (e_move (v := .int .i64 t12) (by kernel_rfl)) ?_
  refine lv (d := 4) rfl rfl (by kernel_rfl) (e_assign (v := .int .i64 t12) (by kernel_rfl)) ?_
  refine wpList_nil ?_
  refine then_n ?_
  refine wp_ret ?_
  obtain rfl := Option.some.inj M
  exact ret1 rfl rfl  (show _ = .int .i64 t12 from (by kernel_rfl)) ⟨rfl, S16.chg⟩

/-! laws_szCellS -/
def laws_szCellS.l0 : Nat → (List Cell) → Int → Int → Option Int
  | 0, _, _, _ => none
  | k20 + 1, x1, x10, x11 => (if x11 < (x1.length : Int) then (if 0 ≤ x11 then ((laws_szCell.f (x1.getD ((x11).toNat) z68) x10).bind fun t33 => (if t33 < 0 then some (-1) else (laws_szCellS.l0 k20 x1 t33 (IntKind.i64.wrap (x11 + 1))))) else none) else some x10)
def laws_szCellS.f (k : Nat) (x1 : List Cell) (x6 : Int) : Option Int := (if (IntKind.i64.wrap (x6 - (x1.length : Int))) < 0 then some (-1) else (laws_szCellS.l0 k x1 (IntKind.i64.wrap (x6 - (x1.length : Int))) 0))
theorem laws_szCellS.calls (k : Nat) (w : World) (H : Hp) (x1 : List Cell) (A2 : Option Addr) (c3 : Nat) (x6 : Int) (h4 : Rd st68 H A2 x1) (l5 : x1.length ≤ c3) (S : Own [] H w) (r : Int) (M : laws_szCellS.f k x1 x6 = some r) :
    Calls Try.prog 14 #[.slice A2 x1.length c3, .int .i64 x6] w (fun e e_w => e = .returned (.int .i64 r) ∧ Chg no w e_w) := by
  rw [laws_szCellS.f] at M
  refine enter (l := [.slice A2 x1.length c3, .int .i64 x6]) 27 Try.func14 rfl rfl rfl ?_
  have S0_ := S.st
  refine wp_seq ?_
  refine wp_region_lit ?_
  refine lv (d := 4) rfl rfl (by kernel_rfl) (e_assign (v := .int .i64 0) rfl) ?_
  refine wpList_nil ?_
  refine then_n ?_
  refine wp_seq ?_
  refine wp_region_lit ?_
  refine lv (d := 6) rfl rfl (by kernel_rfl) (e_move (v := .int .i64 x6) (by kernel_rfl)) ?_
  refine lv (d := 7) rfl rfl (by kernel_rfl) (e_move (v := .slice A2 x1.length c3) (by kernel_rfl)) ?_
  refine lv (d := 8) rfl rfl (by kernel_rfl) (e_len (A := A2) (n := x1.length) (c := c3) Try.underlying22 (by kernel_rfl)) ?_
  refine lv (d := 9) rfl rfl (by kernel_rfl) (e_sub (k := .i64) (a := x6) (b := (x1.length : Int)) (by kernel_rfl) (by kernel_rfl)) ?_
  refine lv (d := 1) rfl rfl (by kernel_rfl) (e_assign (v := .int .i64 (IntKind.i64.wrap (x6 - (x1.length : Int)))) (by kernel_rfl)) ?_
  refine wpList_nil ?_
  refine then_n ?_
  refine wp_seq ?_
  refine wp_seq ?_
  refine wp_region_lit ?_
  refine lv (d := 10) rfl rfl (by kernel_rfl) (e_move (v := .int .i64 (IntKind.i64.wrap (x6 - (x1.length : Int)))) (by kernel_rfl)) ?_
  refine lv (d := 11) rfl rfl (by kernel_rfl) (e_lss (k := .i64) (a := (IntKind.i64.wrap (x6 - (x1.length : Int)))) (b := 0) (by kernel_rfl) rfl) ?_
  refine wpList_nil ?_
  refine then_n ?_
  by_cases q7 : (IntKind.i64.wrap (x6 - (x1.length : Int))) < 0
  · replace M := ifp q7 M
    refine cond_t rfl (bt q7 (by kernel_rfl)) ?_
    refine wp_seq ?_
    refine wp_region_lit ?_
    refine lv (d := 4) rfl rfl (by kernel_rfl) (e_assign (v := .int .i64 (-1)) rfl) ?_
    refine wpList_nil ?_
    refine then_n ?_
    refine wp_ret ?_
    refine then_r ?_
    obtain rfl := Option.some.inj M
    exact ret1 rfl rfl  (show _ = .int .i64 (-1) from (by kernel_rfl)) ⟨rfl, S0_.chg⟩
  replace M := ifn q7 M
  refine cond_f rfl (bf q7 (by kernel_rfl)) ?_
  refine wp_skip ?_
  refine then_n ?_
  refine wp_seq ?_
  refine wp_seq ?_
  refine wp_region_lit ?_
  refine lv (d := 5) rfl rfl (by kernel_rfl) (e_assign (v := .int .i64 0) rfl) ?_
  refine wpList_nil ?_
  refine then_n ?_
  refine wp_block ?_
  refine wp_loop_g (fun k18 a19 w8 => ∃ (f9 : Nat → Value) (x10 : Int) (x11 : Int), a19 = mk 27 f9 ∧ f9 0 = .slice A2 x1.length c3 ∧ f9 1 = .int .i64 x10 ∧ f9 5 = .int .i64 x11 ∧ St (anyOf []) H w [] H w8 ∧ laws_szCellS.l0 k18 x1 x10 x11 = some r) k ⟨_, (IntKind.i64.wrap (x6 - (x1.length : Int))), 0, rfl, (by kernel_rfl), (by kernel_rfl), (by kernel_rfl), S0_, M⟩ ?_
  clear M
  rintro k18 a19 w8 ⟨f9, x10, x11, rfl, e12, e13, e14, S15, M⟩
  rcases k18 with _ | k20
  · rw [laws_szCellS.l0] at M
    cases M
  rw [laws_szCellS.l0] at M
  refine wp_seq ?_
  refine wp_seq ?_
  refine wp_region_lit ?_
  refine lv (d := 12) rfl rfl (by kernel_rfl) (e_move (v := .int .i64 x11) (by exact e14)) ?_
  refine lv (d := 13) rfl rfl (by kernel_rfl) (e_move (v := .slice A2 x1.length c3) (by exact e12)) ?_
  refine lv (d := 14) rfl rfl (by kernel_rfl) (e_len (A := A2) (n := x1.length) (c := c3) Try.underlying22 (by kernel_rfl)) ?_
  refine lv (d := 15) rfl rfl (by kernel_rfl) (e_lss (k := .i64) (a := x11) (b := (x1.length : Int)) (by kernel_rfl) (by kernel_rfl)) ?_
  refine wpList_nil ?_
  refine then_n ?_
  by_cases q21 : x11 < (x1.length : Int)
  · replace M := ifp q21 M
    refine cond_t rfl (bt q21 (by kernel_rfl)) ?_
    refine wp_skip ?_
    refine then_n ?_
    refine wp_seq ?_
    refine wp_block ?_
    refine wp_seq ?_
    refine wp_region_lit ?_
    refine lv (d := 18) rfl rfl (by kernel_rfl) (e_move (v := .slice A2 x1.length c3) (by exact e12)) ?_
    refine lv (d := 19) rfl rfl (by kernel_rfl) (e_move (v := .int .i64 x11) (by exact e14)) ?_
    obtain ⟨q22, M⟩ := chk M
    obtain ⟨b23, o24, e25⟩ := Rd.addr h4 (show (x11).toNat < x1.length by omega)
    obtain ⟨y26, r27, k28⟩ := Rd.at h4 e25 (getD_some z68 (show (x11).toNat < x1.length by omega))
    obtain ⟨A29, c30, rfl, l31, h32⟩ := st68_open r27
    refine lv (d := 20) rfl rfl (by kernel_rfl) (e_indexAddr (b := b23) (off := o24) (n := x1.length) (c := c3) (sz := 3) (i := x11) (k := .i64) Try.underlying22 e25 (by kernel_rfl) (by kernel_rfl) (by kernel_rfl) q22 q21) ?_
    refine lv (d := 21) rfl rfl (by kernel_rfl) (e_loadS (b := b23) (off := o24 + (x11 : Int).toNat * 3) (cs := [.int .i64 ((x1.getD ((x11).toNat) z68).kind), .int .i64 ((x1.getD ((x11).toNat) z68).n), .slice A29 ((x1.getD ((x11).toNat) z68).text).length c30]) Try.underlying68 rfl (by kernel_rfl) (by kernel_rfl) (fun j_ u_ e_ => (hpx (S15.inv.cell (k28 j_ u_ e_))))) ?_
    refine lv (d := 22) rfl rfl (by kernel_rfl) (e_move (v := .int .i64 x10) (by exact e13)) ?_
    obtain ⟨t33, u34, M⟩ := bnd M
    refine lcall (d := 23) rfl rfl (by kernel_rfl) (e_call (l := [.tmp 21, .tmp 22]) (vs := [.agg #[.int .i64 ((x1.getD ((x11).toNat) z68).kind), .int .i64 ((x1.getD ((x11).toNat) z68).n), .slice A29 ((x1.getD ((x11).toNat) z68).text).length c30], .int .i64 x10]) Try.func55 (by kernel_rfl) rfl (by kernel_rfl) rfl) (laws_szCell.calls w8 H (x1.getD ((x11).toNat) z68) A29 c30 x10 h32 l31 S15.own0 t33 u34) ?_
    rintro _ w35 ⟨rfl, C36⟩
    refine ⟨_, rfl, ?_⟩
    obtain ⟨S37, K38⟩ := S15.still C36
    refine lv (d := 1) rfl rfl (by kernel_rfl) (e_assign (v := .int .i64 t33) (by kernel_rfl)) ?_
    refine wpList_nil ?_
    refine then_n ?_
    refine wp_seq ?_
    refine wp_region_lit ?_
    refine lv (d := 24) rfl rfl (by kernel_rfl) (e_move (v := .int .i64 t33) (by kernel_rfl)) ?_
    refine lv (d := 25) rfl rfl (by kernel_rfl) (e_lss (k := .i64) (a := t33) (b := 0) (by kernel_rfl) rfl) ?_
    refine wpList_nil ?_
    refine then_n ?_
    by_cases q39 : t33 < 0
    · replace M := ifp q39 M
      refine cond_t rfl (bt q39 (by kernel_rfl)) ?_
      refine wp_seq ?_
      refine wp_region_lit ?_
      refine lv (d := 4) rfl rfl (by kernel_rfl) (e_assign (v := .int .i64 (-1)) rfl) ?_
      refine wpList_nil ?_
      refine then_n ?_
      refine wp_ret ?_
      refine inb_r ?_
      refine then_r ?_
      refine then_r ?_
      refine inb_r ?_
      refine then_r ?_
      obtain rfl := Option.some.inj M
      exact ret1 rfl rfl  (show _ = .int .i64 (-1) from (by kernel_rfl)) ⟨rfl, S37.chg⟩
    replace M := ifn q39 M
    refine cond_f rfl (bf q39 (by kernel_rfl)) ?_
    refine wp_skip ?_
    refine inb_n ?_
    refine then_n ?_
    refine wp_region_lit ?_
    refine lv (d := 16) rfl rfl (by kernel_rfl) (e_move (v := .int .i64 x11) (by exact e14)) ?_
    refine lv (d := 17) rfl rfl (by kernel_rfl) (e_add (k := .i64) (a := x11) (b := 1) (by kernel_rfl) rfl) ?_
    refine lv (d := 5) rfl rfl (by kernel_rfl) (e_assign (v := .int .i64 (IntKind.i64.wrap (x11 + 1))) (by kernel_rfl)) ?_
    refine wpList_nil ?_
    refine then_n ?_
    exact ⟨k20, (by omega), _, t33, (IntKind.i64.wrap (x11 + 1)), rfl, (by exact e12), (by kernel_rfl), (by kernel_rfl), S37, M⟩
  replace M := ifn q21 M
  refine cond_f rfl (bf q21 (by kernel_rfl)) ?_
  refine wp_exit ?_
  refine then_e ?_
  refine then_e ?_
  refine inb_hit ?_
  refine then_n ?_
  refine wp_seq ?_
  refine wp_region_lit ?_
  refine lv (d := 26) rfl rfl (by kernel_rfl) (e_move (v := .int .i64 x10) (by exact e13)) ?_
  refine lv (d := 4) rfl rfl (by kernel_rfl) (e_assign (v := .int .i64 x10) (by kernel_rfl)) ?_
  refine wpList_nil ?_
  refine then_n ?_
  refine wp_ret ?_
  obtain rfl := Option.some.inj M
  exact ret1 rfl rfl  (show _ = .int .i64 x10 from (by kernel_rfl)) ⟨rfl, S15.chg⟩

/-! laws_toByteS -/
def st65 : Ty Cell := iso (pair tInt (pair tInt sl5)) (fun x => (x.kind, x.n, x.text))
theorem st65_open {H : Hp} {x : Cell} {cs : List Value} (h : st65.R H x cs) : ∃ (A2 : Option Addr) (c2 : Nat), cs = [.int .i64 x.kind, .int .i64 x.n, .slice A2 x.text.length c2] ∧ x.text.length ≤ c2 ∧ Rd tByte H A2 x.text := by
  obtain ⟨_, _, rfl, rfl, ⟨_, _, rfl, rfl, ⟨A2, c2, rfl, l2, h2⟩⟩⟩ := h
  exact ⟨A2, c2, rfl, l2, h2⟩
theorem st65_mkR {H : Hp} {x : Cell} {A2 : Option Addr} {c2 : Nat} (l2 : x.text.length ≤ c2) (h2 : Rd tByte H A2 x.text) : st65.R H x [.int .i64 x.kind, .int .i64 x.n, .slice A2 x.text.length c2] := ⟨[.int .i64 x.kind], [.int .i64 x.n, .slice A2 x.text.length c2], rfl, rfl, ⟨[.int .i64 x.n], [.slice A2 x.text.length c2], rfl, rfl, ⟨A2, c2, rfl, l2, h2⟩⟩⟩
theorem st65_mkO {H X : Hp} {F2 : Foot} {x : Cell} {A2 : Option Addr} {c2 : Nat} (h2 : Row tByte 5 H X F2 A2 c2 x.text) : st65.O H X F2 x [.int .i64 x.kind, .int .i64 x.n, .slice A2 x.text.length c2] := (pairO0 (a := tInt) (b := (pair tInt sl5)) (x := (x.kind, (x.n, x.text))) (c0 := [.int .i64 x.kind]) (c1 := [.int .i64 x.n, .slice A2 x.text.length c2]) rfl (pairO0 (a := tInt) (b := sl5) (x := (x.n, x.text)) (c0 := [.int .i64 x.n]) (c1 := [.slice A2 x.text.length c2]) rfl ⟨A2, c2, rfl, h2⟩))
theorem st65_openO {H X : Hp} {F : Foot} {x : Cell} {cs : List Value} (h : st65.O H X F x cs) : ∃ (A2 : Option Addr) (c2 : Nat) (F2 : Foot), cs = [.int .i64 x.kind, .int .i64 x.n, .slice A2 x.text.length c2] ∧ Row tByte 5 H X F2 A2 c2 x.text ∧ (∀ b, F2 b → F b) := by
  obtain ⟨_, _, K1, L1, rfl, rfl, ⟨_, _, K0, L0, rfl, rfl, ⟨A2, c2, rfl, h2⟩, d0, s0⟩, d1, s1⟩ := h
  exact ⟨A2, c2, _, rfl, h2, fun b hb => s1 b (.inr (s0 b (.inr (hb))))⟩
theorem st65_c0 {H X : Hp} {F : Foot} {x : Cell} {cs : List Value} (h : st65.O H X F x cs) : cs[0]? = some (.int .i64 x.kind) := by obtain ⟨_, _, _, rfl, _, _⟩ := st65_openO h; rfl
theorem st65_r0 {H : Hp} {x : Cell} {cs : List Value} (h : st65.R H x cs) : cs[0]? = some (.int .i64 x.kind) := by obtain ⟨_, _, rfl, _, _⟩ := st65_open h; rfl
theorem st65_c1 {H X : Hp} {F : Foot} {x : Cell} {cs : List Value} (h : st65.O H X F x cs) : cs[1]? = some (.int .i64 x.n) := by obtain ⟨_, _, _, rfl, _, _⟩ := st65_openO h; rfl
theorem st65_r1 {H : Hp} {x : Cell} {cs : List Value} (h : st65.R H x cs) : cs[1]? = some (.int .i64 x.n) := by obtain ⟨_, _, rfl, _, _⟩ := st65_open h; rfl
theorem st65_u0 {H X : Hp} {F1 F2 : Foot} {x : Cell} (y : Int) {cs : List Value} (h : st65.O H X F1 x cs) : st65.O H X (or2 F1 F2) {x with kind := y} (cs.take 0 ++ [.int .i64 y] ++ cs.drop 1) := by
  obtain ⟨_, _, _, rfl, h2, s2⟩ := st65_openO h
  exact st65_mkO (x := {x with kind := y}) (h2.mono fun b hb => .inl (s2 b hb))
theorem st65_u1 {H X : Hp} {F1 F2 : Foot} {x : Cell} (y : Int) {cs : List Value} (h : st65.O H X F1 x cs) : st65.O H X (or2 F1 F2) {x with n := y} (cs.take 1 ++ [.int .i64 y] ++ cs.drop 2) := by
  obtain ⟨_, _, _, rfl, h2, s2⟩ := st65_openO h
  exact st65_mkO (x := {x with n := y}) (h2.mono fun b hb => .inl (s2 b hb))
theorem st65_u2 {H X : Hp} {F1 F2 : Foot} {x : Cell} {y : List UInt8} {A : Option Addr} {c : Nat} {cs : List Value} (hy : Row tByte 5 H X F2 A c y) (h : st65.O H X F1 x cs) : st65.O H X (or2 F1 F2) {x with text := y} (cs.take 2 ++ [.slice A y.length c] ++ cs.drop 3) := by
  obtain ⟨_, _, _, rfl, h2, _⟩ := st65_openO h
  exact st65_mkO (x := {x with text := y}) (hy.mono fun b hb => .inr hb)
def z65 : Cell := ⟨(0 : Int), (0 : Int), ([] : List UInt8)⟩
theorem z65_O (H X : Hp) : st65.O H X no z65 [.int .i64 (0 : Int), .int .i64 (0 : Int), .slice none 0 0] := st65_mkO (x := z65) (Row.nil _ _ _ _ no)
theorem z65_R (H : Hp) : st65.R H z65 [.int .i64 (0 : Int), .int .i64 (0 : Int), .slice none 0 0] := st65_mkR (x := z65) (Nat.le_refl _) (Rd.nil _ _ _)
def laws_toByteS.l0 : Nat → (List UInt8) → Int → (List UInt8) → Option (List UInt8)
  | 0, _, _, _ => none
  | k29 + 1, x1, x17, x19 => (if x17 < (x1.length : Int) then (if 0 ≤ x17 then (if x17 < (((x1.length : Int)).toNat : Int) then (laws_toByteS.l0 k29 x1 (IntKind.i64.wrap (x17 + 1)) (x19.set ((x17).toNat) (x1.getD ((x17).toNat) (0 : UInt8)))) else none) else none) else some x19)
def laws_toByteS.f (k : Nat) (x1 : List UInt8) : Option (List UInt8) := (if 0 ≤ (x1.length : Int) then (if ((x1.length : Int)).toNat ≤ 281474976710656 then (laws_toByteS.l0 k x1 0 (List.replicate ((x1.length : Int)).toNat (0 : UInt8))) else none) else none)
theorem laws_toByteS.calls (k : Nat) (w : World) (H : Hp) (x1 : List UInt8) (A2 : Option Addr) (c3 : Nat) (h4 : Rd tByte H A2 x1) (l5 : x1.length ≤ c3) (S : Own [] H w) (r : List UInt8) (M : laws_toByteS.f k x1 = some r) :
    Calls Try.prog 103 #[.slice A2 x1.length c3] w (fun e e_w => ∃ (A_1 : Option Addr) (c_1 : Nat) (F_1 : Foot) (H_ : Hp), e = .returned (.slice A_1 r.length c_1) ∧ Row tByte 5 H_ (hp e_w) F_1 A_1 c_1 r ∧ St (anyOf []) H w [F_1] H_ e_w) := by
  rw [laws_toByteS.f] at M
  refine enter (l := [.slice A2 x1.length c3]) 22 Try.func103 rfl rfl rfl ?_
  have S0_ := S.st
  refine wp_seq ?_
  refine wp_region_lit ?_
  refine lv (d := 2) rfl rfl (by kernel_rfl) (e_assign (v := .slice none 0 0) rfl) ?_
  refine wpList_nil ?_
  refine then_n ?_
  refine wp_seq ?_
  refine wp_region_lit ?_
  refine lv (d := 5) rfl rfl (by kernel_rfl) (e_move (v := .slice A2 x1.length c3) (by kernel_rfl)) ?_
  refine lv (d := 6) rfl rfl (by kernel_rfl) (e_len (A := A2) (n := x1.length) (c := c3) Try.underlying59 (by kernel_rfl)) ?_
  obtain ⟨q6, M⟩ := chk M
  obtain ⟨q7, M⟩ := chk M
  refine lve (d := 7) rfl rfl (by kernel_rfl) (e_make (d := tByte) (k := .i64) (k2 := .i64) (n := (x1.length : Int)) (z := .int .u8 0) (zx := (0 : UInt8)) (bytes := 1) S0_ Try.underlying59 (by kernel_rfl) rfl (by decide) (fun _ => rfl) (by kernel_rfl) (by kernel_rfl) q6 (by omega) (by omega)) ?_
  rintro _ w8 ⟨A9, c10, F11, rfl, h12, S13, K14⟩
  refine lv (d := 3) rfl rfl (by kernel_rfl) (e_assign (v := .slice A9 (((x1.length : Int)).toNat) c10) (by kernel_rfl)) ?_
  refine wpList_nil ?_
  refine then_n ?_
  refine wp_seq ?_
  refine wp_seq ?_
  refine wp_region_lit ?_
  refine lv (d := 4) rfl rfl (by kernel_rfl) (e_assign (v := .int .i64 0) rfl) ?_
  refine wpList_nil ?_
  refine then_n ?_
  refine wp_block ?_
  refine wp_loop_g (fun k27 a28 w15 => ∃ (f16 : Nat → Value) (x17 : Int) (F18 : Foot) (x19 : List UInt8), a28 = mk 22 f16 ∧ f16 0 = .slice A2 x1.length c3 ∧ f16 3 = .slice A9 (((x1.length : Int)).toNat) c10 ∧ f16 4 = .int .i64 x17 ∧ Row tByte 5 H (hp w15) F18 A9 c10 x19 ∧ x19.length = ((x1.length : Int)).toNat ∧ St (anyOf []) H w [F18] H w15 ∧ laws_toByteS.l0 k27 x1 x17 x19 = some r) k ⟨_, 0, F11, (List.replicate ((x1.length : Int)).toNat (0 : UInt8)), rfl, (by kernel_rfl), (by kernel_rfl), (by kernel_rfl), h12, List.length_replicate, S13, M⟩ ?_
  clear M
  rintro k27 a28 w15 ⟨f16, x17, F18, x19, rfl, e21, e22, e23, h12, n20, S24, M⟩
  rcases k27 with _ | k29
  · rw [laws_toByteS.l0] at M
    cases M
  rw [laws_toByteS.l0] at M
  refine wp_seq ?_
  refine wp_seq ?_
  refine wp_region_lit ?_
  refine lv (d := 8) rfl rfl (by kernel_rfl) (e_move (v := .int .i64 x17) (by exact e23)) ?_
  refine lv (d := 9) rfl rfl (by kernel_rfl) (e_move (v := .slice A2 x1.length c3) (by exact e21)) ?_
  refine lv (d := 10) rfl rfl (by kernel_rfl) (e_len (A := A2) (n := x1.length) (c := c3) Try.underlying59 (by kernel_rfl)) ?_
  refine lv (d := 11) rfl rfl (by kernel_rfl) (e_lss (k := .i64) (a := x17) (b := (x1.length : Int)) (by kernel_rfl) (by kernel_rfl)) ?_
  refine wpList_nil ?_
  refine then_n ?_
  by_cases q30 : x17 < (x1.length : Int)
  · replace M := ifp q30 M
    refine cond_t rfl (bt q30 (by kernel_rfl)) ?_
    refine wp_skip ?_
    refine then_n ?_
    refine wp_seq ?_
    refine wp_block ?_
    refine wp_region_lit ?_
    refine lv (d := 14) rfl rfl (by kernel_rfl) (e_move (v := .slice A9 (((x1.length : Int)).toNat) c10) (by exact e22)) ?_
    refine lv (d := 15) rfl rfl (by kernel_rfl) (e_move (v := .int .i64 x17) (by exact e23)) ?_
    refine lv (d := 16) rfl rfl (by kernel_rfl) (e_move (v := .slice A2 x1.length c3) (by exact e21)) ?_
    refine lv (d := 17) rfl rfl (by kernel_rfl) (e_move (v := .int .i64 x17) (by exact e23)) ?_
    obtain ⟨q31, M⟩ := chk M
    obtain ⟨b32, o33, e34⟩ := Rd.addr h4 (show (x17).toNat < x1.length by omega)
    obtain ⟨y35, r36, k37⟩ := Rd.at h4 e34 (getD_some (0 : UInt8) (show (x17).toNat < x1.length by omega))
    obtain rfl := r36
    refine lv (d := 18) rfl rfl (by kernel_rfl) (e_indexAddr (b := b32) (off := o33) (n := x1.length) (c := c3) (sz := 1) (i := x17) (k := .i64) Try.underlying59 e34 (by kernel_rfl) (by kernel_rfl) (by kernel_rfl) q31 q30) ?_
    refine lv (d := 19) rfl rfl (by kernel_rfl) (e_load1 (ad := ⟨b32, o33 + (x17 : Int).toNat * 1, none⟩) (v := .int .u8 ((x1.getD ((x17).toNat) (0 : UInt8)).toNat : Int)) Try.underlying5 rfl (by kernel_rfl) (hpx (S24.inv.cell (k37 0 _ rfl)))) ?_
    obtain ⟨q38, M⟩ := chk M
    obtain ⟨b39, e41⟩ := Row.addr h12 (show (x17).toNat < x19.length by have : x19.length = ((x1.length : Int)).toNat := n20; omega)
    refine lv (d := 20) rfl rfl (by kernel_rfl) (e_indexAddr (b := b39) (off := 0) (n := ((x1.length : Int)).toNat) (c := c10) (sz := 1) (i := x17) (k := .i64) Try.underlying59 e41 (by kernel_rfl) (by kernel_rfl) (by kernel_rfl) q31 q38) ?_
    have S42 := S24.unit
    have S43 := S42.pull (F := F18) (Fr := [no]) 1 rfl rfl
    refine lse rfl rfl (by kernel_rfl) (e_setel (d := tByte) (b := b39) (i := (x17).toNat) (v := .int .u8 ((x1.getD ((x17).toNat) (0 : UInt8)).toNat : Int)) (vs := [.int .u8 ((x1.getD ((x17).toNat) (0 : UInt8)).toNat : Int)]) (yv := (x1.getD ((x17).toNat) (0 : UInt8))) S43 (by kernel_rfl) e41 (by kernel_rfl) rfl (by kernel_rfl) h12 (show (x17).toNat < x19.length by have : x19.length = ((x1.length : Int)).toNat := n20; omega) rfl) ?_
    rintro w44 ⟨F46, h45, S47, K48⟩
    clear h12
    refine wpList_nil ?_
    refine inb_n ?_
    refine then_n ?_
    refine wp_region_lit ?_
    refine lv (d := 12) rfl rfl (by kernel_rfl) (e_move (v := .int .i64 x17) (by exact e23)) ?_
    refine lv (d := 13) rfl rfl (by kernel_rfl) (e_add (k := .i64) (a := x17) (b := 1) (by kernel_rfl) rfl) ?_
    refine lv (d := 4) rfl rfl (by kernel_rfl) (e_assign (v := .int .i64 (IntKind.i64.wrap (x17 + 1))) (by kernel_rfl)) ?_
    refine wpList_nil ?_
    refine then_n ?_
    exact ⟨k29, (by omega), _, (IntKind.i64.wrap (x17 + 1)), F46, (x19.set ((x17).toNat) (x1.getD ((x17).toNat) (0 : UInt8))), rfl, (by exact e21), (by exact e22), (by kernel_rfl), h45, (List.length_set.trans n20), S47, M⟩
  replace M := ifn q30 M
  refine cond_f rfl (bf q30 (by kernel_rfl)) ?_
  refine wp_exit ?_
  refine then_e ?_
  refine then_e ?_
  refine inb_hit ?_
  refine then_n ?_
  refine wp_seq ?_
  refine wp_region_lit ?_
  refine lv (d := 21) rfl rfl (by kernel_rfl) (e_move (v := .slice A9 (((x1.length : Int)).toNat) c10) (by exact e22)) ?_
  refine lv (d := 2) rfl rfl (by kernel_rfl) (e_assign (v := .slice A9 (((x1.length : Int)).toNat) c10) (by kernel_rfl)) ?_
  refine wpList_nil ?_
  refine then_n ?_
  refine wp_ret ?_
  obtain rfl := Option.some.inj M
  exact ret1 rfl rfl  (show _ = .slice A9 (((x1.length : Int)).toNat) c10 from (by kernel_rfl)) ⟨A9, c10, F18, H, (by rw [(show x19.length = ((x1.length : Int)).toNat from n20)]), h12, S24⟩

/-! laws_toCell -/
def laws_toCell.f (k : Nat) (x1 : Cell) : Option Cell := ((laws_toByteS.f k x1.text).bind fun t29 => some (⟨x1.kind, x1.n, t29⟩ : Cell))
theorem laws_toCell.calls (k : Nat) (w : World) (H : Hp) (x1 : Cell) (A2 : Option Addr) (c3 : Nat) (h4 : Rd tByte H A2 x1.text) (l5 : x1.text.length ≤ c3) (S : Own [] H w) (r : Cell) (M : laws_toCell.f k x1 = some r) :
    Calls Try.prog 57 #[.agg #[.int .i64 x1.kind, .int .i64 x1.n, .slice A2 x1.text.length c3]] w (fun e e_w => ∃ (A_1 : Option Addr) (c_1 : Nat) (F_1 : Foot) (H_ : Hp), e = .returned (.agg #[.int .i64 r.kind, .int .i64 r.n, .slice A_1 r.text.length c_1]) ∧ Row tByte 5 H_ (hp e_w) F_1 A_1 c_1 r.text ∧ St (anyOf []) H w [F_1] H_ e_w) := by
  rw [laws_toCell.f] at M
  refine enter (l := [.agg #[.int .i64 x1.kind, .int .i64 x1.n, .slice A2 x1.text.length c3]]) 15 Try.func57 rfl rfl rfl ?_
  have S0_ := S.st
  refine wp_seq ?_
  refine wp_region_lit ?_
  refine lve (d := 1) rfl rfl (by kernel_rfl) (new_blk (v := fun g_ => .pointer (some ⟨g_, 0, none⟩)) (cs := #[.int .i64 x1.kind, .int .i64 x1.n, .slice A2 x1.text.length c3]) (t := 68) S0_ (by kernel_rfl)) ?_
  rintro _ w6 ⟨g7, rfl, b8, S9, K10⟩
  refine lve (d := 2) rfl rfl (by kernel_rfl) (new_blk (v := fun g_ => .pointer (some ⟨g_, 0, none⟩)) (cs := #[.int .i64 0, .int .i64 0, .slice none 0 0]) (t := 65) S9 (by kernel_rfl)) ?_
  rintro _ w11 ⟨g12, rfl, b13, S14, K15⟩
  replace b8 := K15.blk 0 rfl b8
  refine wpList_nil ?_
  refine then_n ?_
  refine wp_seq ?_
  refine wp_region_lit ?_
  refine lve (d := 3) rfl rfl (by kernel_rfl) (new_blk (v := fun g_ => .pointer (some ⟨g_, 0, none⟩)) (cs := #[.int .i64 0, .int .i64 0, .slice none 0 0]) (t := 65) S14 (by kernel_rfl)) ?_
  rintro _ w16 ⟨g17, rfl, b18, S19, K20⟩
  replace b13 := K20.blk 0 rfl b13
  replace b8 := K20.blk 1 rfl b8
  refine wpList_nil ?_
  refine then_n ?_
  refine wp_seq ?_
  refine wp_region_lit ?_
  refine lv (d := 4) rfl rfl (by kernel_rfl) (e_fieldAddr (b := g7) (off := 0) (o := 0) Try.underlying68 rfl rfl (sz := 1) (by kernel_rfl) (by decide) (by kernel_rfl)) ?_
  refine lv (d := 5) rfl rfl (by kernel_rfl) (e_load1 (ad := ⟨g7, 0 + 0, none⟩) (v := .int .i64 x1.kind) Try.underlying3 rfl (by kernel_rfl) (blk_cell b8 rfl)) ?_
  refine lv (d := 6) rfl rfl (by kernel_rfl) (e_fieldAddr (b := g17) (off := 0) (o := 0) Try.underlying65 rfl rfl (sz := 1) (by kernel_rfl) (by decide) (by kernel_rfl)) ?_
  refine lse rfl rfl (by kernel_rfl) (e_store (g := g17) (o := 0 + 0) (v := .int .i64 x1.kind) (cur' := #[.int .i64 x1.kind, .int .i64 0, .slice none 0 0]) (vs := [.int .i64 x1.kind]) S19 (by kernel_rfl) (by kernel_rfl) rfl (by kernel_rfl) b18 (Nat.le_of_ble_eq_true rfl) (List.forall_mem_cons.2 ⟨rfl, (fun _ h_ => by cases h_)⟩) rfl) ?_
  rintro w21 ⟨b22, S23, K24⟩
  replace b13 := K24.blk 0 rfl b13
  replace b8 := K24.blk 1 rfl b8
  clear b18
  refine wpList_nil ?_
  refine then_n ?_
  refine wp_seq ?_
  refine wp_region_lit ?_
  refine lv (d := 7) rfl rfl (by kernel_rfl) (e_fieldAddr (b := g7) (off := 0) (o := 1) Try.underlying68 rfl rfl (sz := 1) (by kernel_rfl) (by decide) (by kernel_rfl)) ?_
  refine lv (d := 8) rfl rfl (by kernel_rfl) (e_load1 (ad := ⟨g7, 0 + 1, none⟩) (v := .int .i64 x1.n) Try.underlying3 rfl (by kernel_rfl) (blk_cell b8 rfl)) ?_
  refine lv (d := 9) rfl rfl (by kernel_rfl) (e_fieldAddr (b := g17) (off := 0) (o := 1) Try.underlying65 rfl rfl (sz := 1) (by kernel_rfl) (by decide) (by kernel_rfl)) ?_
  refine lse rfl rfl (by kernel_rfl) (e_store (g := g17) (o := 0 + 1) (v := .int .i64 x1.n) (cur' := #[.int .i64 x1.kind, .int .i64 x1.n, .slice none 0 0]) (vs := [.int .i64 x1.n]) S23 (by kernel_rfl) (by kernel_rfl) rfl (by kernel_rfl) b22 (Nat.le_of_ble_eq_true rfl) (List.forall_mem_cons.2 ⟨rfl, (fun _ h_ => by cases h_)⟩) rfl) ?_
  rintro w25 ⟨b26, S27, K28⟩
  replace b13 := K28.blk 0 rfl b13
  replace b8 := K28.blk 1 rfl b8
  clear b22
  refine wpList_nil ?_
  refine then_n ?_
  refine wp_seq ?_
  refine wp_region_lit ?_
  refine lv (d := 10) rfl rfl (by kernel_rfl) (e_fieldAddr (b := g7) (off := 0) (o := 2) Try.underlying68 rfl rfl (sz := 1) (by kernel_rfl) (by decide) (by kernel_rfl)) ?_
  refine lv (d := 11) rfl rfl (by kernel_rfl) (e_load1 (ad := ⟨g7, 0 + 2, none⟩) (v := .slice A2 x1.text.length c3) Try.underlying59 rfl (by kernel_rfl) (blk_cell b8 rfl)) ?_
  obtain ⟨t29, u30, M⟩ := bnd M
  refine lcall (d := 12) rfl rfl (by kernel_rfl) (e_call (l := [.tmp 11]) (vs := [.slice A2 x1.text.length c3]) Try.func103 (by kernel_rfl) rfl (by kernel_rfl) rfl) (laws_toByteS.calls k w25 H x1.text A2 c3 h4 l5 (St.own' (Fa := []) (Fr := [(is g17), (is g12), (is g7)]) S27) t29 u30) ?_
  rintro _ w31 ⟨A34, c35, F37, H32, rfl, h36, T33⟩
  refine ⟨_, rfl, ?_⟩
  obtain ⟨S38, K39⟩ := St.call (Fa := []) (Fr := [(is g17), (is g12), (is g7)]) S27 T33
  replace b26 := K39.blk 0 rfl b26
  replace b13 := K39.blk 1 rfl b13
  replace b8 := K39.blk 2 rfl b8
  have E40 := T33.ext
  refine lv (d := 13) rfl rfl (by kernel_rfl) (e_fieldAddr (b := g17) (off := 0) (o := 2) Try.underlying65 rfl rfl (sz := 1) (by kernel_rfl) (by decide) (by kernel_rfl)) ?_
  have S41 := S38.pull (F := (is g17)) (Fr := [F37, (is g12), (is g7)]) 1 rfl rfl
  refine lse rfl rfl (by kernel_rfl) (e_store (g := g17) (o := 0 + 2) (v := .slice A34 t29.length c35) (cur' := #[.int .i64 x1.kind, .int .i64 x1.n, .slice A34 t29.length c35]) (vs := [.slice A34 t29.length c35]) S41 (by kernel_rfl) (by kernel_rfl) rfl (by kernel_rfl) b26 (Nat.le_of_ble_eq_true rfl) (List.forall_mem_cons.2 ⟨rfl, (fun _ h_ => by cases h_)⟩) rfl) ?_
  rintro w42 ⟨b43, S44, K45⟩
  replace h36 := h36.move (K45.at 0 rfl)
  replace b13 := K45.blk 1 rfl b13
  replace b8 := K45.blk 2 rfl b8
  clear b26
  refine wpList_nil ?_
  refine then_n ?_
  refine wp_seq ?_
  refine wp_region_lit ?_
  refine lv (d := 14) rfl rfl (by kernel_rfl) (e_loadS (b := g17) (off := 0) (cs := [.int .i64 x1.kind, .int .i64 x1.n, .slice A34 t29.length c35]) Try.underlying65 rfl (by kernel_rfl) (by kernel_rfl) (blk_cells b43 rfl)) ?_
  have S46 := S44.pull (F := (is g12)) (Fr := [(is g17), F37, (is g7)]) 2 rfl rfl
  refine lse rfl rfl (by kernel_rfl) (e_store (g := g12) (o := 0) (v := .agg #[.int .i64 x1.kind, .int .i64 x1.n, .slice A34 t29.length c35]) (cur' := #[.int .i64 x1.kind, .int .i64 x1.n, .slice A34 t29.length c35]) (vs := [.int .i64 x1.kind, .int .i64 x1.n, .slice A34 t29.length c35]) S46 (by kernel_rfl) (by kernel_rfl) rfl (by kernel_rfl) b13 (Nat.le_of_ble_eq_true rfl) (List.forall_mem_cons.2 ⟨rfl, (List.forall_mem_cons.2 ⟨rfl, (List.forall_mem_cons.2 ⟨rfl, (fun _ h_ => by cases h_)⟩)⟩)⟩) rfl) ?_
  rintro w47 ⟨b48, S49, K50⟩
  replace b43 := K50.blk 0 rfl b43
  replace h36 := h36.move (K50.at 1 rfl)
  replace b8 := K50.blk 2 rfl b8
  clear b13
  refine wpList_nil ?_
  refine then_n ?_
  refine wp_ret ?_
  obtain rfl := Option.some.inj M
  have S51 := S49.pull (F := F37) (Fr := [(is g12), (is g17), (is g7)]) 2 rfl rfl
  have S52 := St.first (Fa := [F37]) (Fr := [(is g12), (is g17), (is g7)]) S51
  exact retS (ty := 65) (cur := #[.int .i64 x1.kind, .int .i64 x1.n, .slice A34 t29.length c35]) rfl rfl (by kernel_rfl) b48 Try.underlying65 rfl (by kernel_rfl) ⟨A34, c35, F37, H32, rfl, h36, S52⟩

/-! laws_toCellS -/
def laws_toCellS.l0 : Nat → (List Cell) → Int → (List Cell) → Option (List Cell)
  | 0, _, _, _ => none
  | k31 + 1, x1, x19, x21 => (if x19 < (x1.length : Int) then (if 0 ≤ x19 then ((laws_toCell.f k31 (x1.getD ((x19).toNat) z68)).bind fun t44 => (if x19 < (((x1.length : Int)).toNat : Int) then (laws_toCellS.l0 k31 x1 (IntKind.i64.wrap (x19 + 1)) (x21.set ((x19).toNat) t44)) else none)) else none) else some x21)
def laws_toCellS.f (k : Nat) (x1 : List Cell) : Option (List Cell) := (if 0 ≤ (x1.length : Int) then (if ((x1.length : Int)).toNat ≤ 7036874417766 then (laws_toCellS.l0 k x1 0 (List.replicate ((x1.length : Int)).toNat z65)) else none) else none)
theorem laws_toCellS.calls (k : Nat) (w : World) (H : Hp) (x1 : List Cell) (A2 : Option Addr) (c3 : Nat) (h4 : Rd st68 H A2 x1) (l5 : x1.length ≤ c3) (S : Own [] H w) (r : List Cell) (M : laws_toCellS.f k x1 = some r) :
    Calls Try.prog 16 #[.slice A2 x1.length c3] w (fun e e_w => ∃ (A_1 : Option Addr) (c_1 : Nat) (F_1 : Foot) (H_ : Hp), e = .returned (.slice A_1 r.length c_1) ∧ Row st65 65 H_ (hp e_w) F_1 A_1 c_1 r ∧ St (anyOf []) H w [F_1] H_ e_w) := by
  rw [laws_toCellS.f] at M
  refine enter (l := [.slice A2 x1.length c3]) 23 Try.func16 rfl rfl rfl ?_
  have S0_ := S.st
  refine wp_seq ?_
  refine wp_region_lit ?_
  refine lv (d := 2) rfl rfl (by kernel_rfl) (e_assign (v := .slice none 0 0) rfl) ?_
  refine wpList_nil ?_
  refine then_n ?_
  refine wp_seq ?_
  refine wp_region_lit ?_
  refine lv (d := 5) rfl rfl (by kernel_rfl) (e_move (v := .slice A2 x1.length c3) (by kernel_rfl)) ?_
  refine lv (d := 6) rfl rfl (by kernel_rfl) (e_len (A := A2) (n := x1.length) (c := c3) Try.underlying22 (by kernel_rfl)) ?_
  obtain ⟨q6, M⟩ := chk M
  obtain ⟨q7, M⟩ := chk M
  refine lve (d := 7) rfl rfl (by kernel_rfl) (e_make (d := st65) (k := .i64) (k2 := .i64) (n := (x1.length : Int)) (z := .agg #[.int .i64 0, .int .i64 0, .slice none 0 0]) (zx := z65) (bytes := 40) S0_ Try.underlying25 (by kernel_rfl) rfl (by decide) (z65_O _) (by kernel_rfl) (by kernel_rfl) q6 (by omega) (by omega)) ?_
  rintro _ w8 ⟨A9, c10, F11, rfl, h12, S13, K14⟩
  refine lv (d := 3) rfl rfl (by kernel_rfl) (e_assign (v := .slice A9 (((x1.length : Int)).toNat) c10) (by kernel_rfl)) ?_
  refine wpList_nil ?_
  refine then_n ?_
  refine wp_seq ?_
  refine wp_seq ?_
  refine wp_region_lit ?_
  refine lv (d := 4) rfl rfl (by kernel_rfl) (e_assign (v := .int .i64 0) rfl) ?_
  refine wpList_nil ?_
  refine then_n ?_
  refine wp_block ?_
  refine wp_loop_g (fun k29 a30 w15 => ∃ (f16 : Nat → Value) (H17 : Hp) (x19 : Int) (F20 : Foot) (x21 : List Cell), a30 = mk 23 f16 ∧ f16 0 = .slice A2 x1.length c3 ∧ f16 3 = .slice A9 (((x1.length : Int)).toNat) c10 ∧ f16 4 = .int .i64 x19 ∧ Row st65 65 H17 (hp w15) F20 A9 c10 x21 ∧ x21.length = ((x1.length : Int)).toNat ∧ Ext H H17 ∧ St (anyOf []) H w [F20] H17 w15 ∧ laws_toCellS.l0 k29 x1 x19 x21 = some r) k ⟨_, H, 0, F11, (List.replicate ((x1.length : Int)).toNat z65), rfl, (by kernel_rfl), (by kernel_rfl), (by kernel_rfl), h12, List.length_replicate, (Ext.refl _), S13, M⟩ ?_
  clear M
  rintro k29 a30 w15 ⟨f16, H17, x19, F20, x21, rfl, e23, e24, e25, h12, n22, Y18, S26, M⟩
  rcases k29 with _ | k31
  · rw [laws_toCellS.l0] at M
    cases M
  rw [laws_toCellS.l0] at M
  refine wp_seq ?_
  refine wp_seq ?_
  refine wp_region_lit ?_
  refine lv (d := 8) rfl rfl (by kernel_rfl) (e_move (v := .int .i64 x19) (by exact e25)) ?_
  refine lv (d := 9) rfl rfl (by kernel_rfl) (e_move (v := .slice A2 x1.length c3) (by exact e23)) ?_
  refine lv (d := 10) rfl rfl (by kernel_rfl) (e_len (A := A2) (n := x1.length) (c := c3) Try.underlying22 (by kernel_rfl)) ?_
  refine lv (d := 11) rfl rfl (by kernel_rfl) (e_lss (k := .i64) (a := x19) (b := (x1.length : Int)) (by kernel_rfl) (by kernel_rfl)) ?_
  refine wpList_nil ?_
  refine then_n ?_
  by_cases q32 : x19 < (x1.length : Int)
  · replace M := ifp q32 M
    refine cond_t rfl (bt q32 (by kernel_rfl)) ?_
    refine wp_skip ?_
    refine then_n ?_
    refine wp_seq ?_
    refine wp_block ?_
    refine wp_region_lit ?_
    refine lv (d := 14) rfl rfl (by kernel_rfl) (e_move (v := .slice A9 (((x1.length : Int)).toNat) c10) (by exact e24)) ?_
    refine lv (d := 15) rfl rfl (by kernel_rfl) (e_move (v := .int .i64 x19) (by exact e25)) ?_
    refine lv (d := 16) rfl rfl (by kernel_rfl) (e_move (v := .slice A2 x1.length c3) (by exact e23)) ?_
    refine lv (d := 17) rfl rfl (by kernel_rfl) (e_move (v := .int .i64 x19) (by exact e25)) ?_
    obtain ⟨q33, M⟩ := chk M
    obtain ⟨b34, o35, e36⟩ := Rd.addr h4 (show (x19).toNat < x1.length by omega)
    obtain ⟨y37, r38, k39⟩ := Rd.at h4 e36 (getD_some z68 (show (x19).toNat < x1.length by omega))
    obtain ⟨A40, c41, rfl, l42, h43⟩ := st68_open r38
    refine lv (d := 18) rfl rfl (by kernel_rfl) (e_indexAddr (b := b34) (off := o35) (n := x1.length) (c := c3) (sz := 3) (i := x19) (k := .i64) Try.underlying22 e36 (by kernel_rfl) (by kernel_rfl) (by kernel_rfl) q33 q32) ?_
    refine lv (d := 19) rfl rfl (by kernel_rfl) (e_loadS (b := b34) (off := o35 + (x19 : Int).toNat * 3) (cs := [.int .i64 ((x1.getD ((x19).toNat) z68).kind), .int .i64 ((x1.getD ((x19).toNat) z68).n), .slice A40 ((x1.getD ((x19).toNat) z68).text).length c41]) Try.underlying68 rfl (by kernel_rfl) (by kernel_rfl) (fun j_ u_ e_ => (hpx (S26.inv.cell (Y18.cell (k39 j_ u_ e_)))))) ?_
    obtain ⟨t44, u45, M⟩ := bnd M
    refine lcall (d := 20) rfl rfl (by kernel_rfl) (e_call (l := [.tmp 19]) (vs := [.agg #[.int .i64 ((x1.getD ((x19).toNat) z68).kind), .int .i64 ((x1.getD ((x19).toNat) z68).n), .slice A40 ((x1.getD ((x19).toNat) z68).text).length c41]]) Try.func57 (by kernel_rfl) rfl (by kernel_rfl) rfl) (laws_toCell.calls k31 w15 H17 (x1.getD ((x19).toNat) z68) A40 c41 (h43.ext Y18) l42 (St.own' (Fa := []) (Fr := [F20]) S26) t44 u45) ?_
    rintro _ w46 ⟨A49, c50, F52, H47, rfl, h51, T48⟩
    refine ⟨_, rfl, ?_⟩
    obtain ⟨S53, K54⟩ := St.call (Fa := []) (Fr := [F20]) S26 T48
    replace h12 := h12.move (K54.at 0 rfl)
    have E55 := T48.ext
    replace h12 := h12.ext E55
    obtain ⟨q56, M⟩ := chk M
    obtain ⟨b57, e59⟩ := Row.addr h12 (show (x19).toNat < x21.length by have : x21.length = ((x1.length : Int)).toNat := n22; omega)
    refine lv (d := 21) rfl rfl (by kernel_rfl) (e_indexAddr (b := b57) (off := 0) (n := ((x1.length : Int)).toNat) (c := c10) (sz := 3) (i := x19) (k := .i64) Try.underlying25 e59 (by kernel_rfl) (by kernel_rfl) (by kernel_rfl) q33 q56) ?_
    have S60 := S53.pull (F := F20) (Fr := [F52]) 1 rfl rfl
    refine lse rfl rfl (by kernel_rfl) (e_setel (d := st65) (b := b57) (i := (x19).toNat) (v := .agg #[.int .i64 t44.kind, .int .i64 t44.n, .slice A49 t44.text.length c50]) (vs := [.int .i64 t44.kind, .int .i64 t44.n, .slice A49 t44.text.length c50]) (yv := t44) S60 (by kernel_rfl) e59 (by kernel_rfl) rfl (by kernel_rfl) h12 (show (x19).toNat < x21.length by have : x21.length = ((x1.length : Int)).toNat := n22; omega) (st65_mkO (x := t44) h51)) ?_
    rintro w61 ⟨F63, h62, S64, K65⟩
    clear h12
    refine wpList_nil ?_
    refine inb_n ?_
    refine then_n ?_
    refine wp_region_lit ?_
    refine lv (d := 12) rfl rfl (by kernel_rfl) (e_move (v := .int .i64 x19) (by exact e25)) ?_
    refine lv (d := 13) rfl rfl (by kernel_rfl) (e_add (k := .i64) (a := x19) (b := 1) (by kernel_rfl) rfl) ?_
    refine lv (d := 4) rfl rfl (by kernel_rfl) (e_assign (v := .int .i64 (IntKind.i64.wrap (x19 + 1))) (by kernel_rfl)) ?_
    refine wpList_nil ?_
    refine then_n ?_
    exact ⟨k31, (by omega), _, H47, (IntKind.i64.wrap (x19 + 1)), F63, (x21.set ((x19).toNat) t44), rfl, (by exact e23), (by exact e24), (by kernel_rfl), h62, (List.length_set.trans n22), (Y18.trans E55), S64, M⟩
  replace M := ifn q32 M
  refine cond_f rfl (bf q32 (by kernel_rfl)) ?_
  refine wp_exit ?_
  refine then_e ?_
  refine then_e ?_
  refine inb_hit ?_
  refine then_n ?_
  refine wp_seq ?_
  refine wp_region_lit ?_
  refine lv (d := 22) rfl rfl (by kernel_rfl) (e_move (v := .slice A9 (((x1.length : Int)).toNat) c10) (by exact e24)) ?_
  refine lv (d := 2) rfl rfl (by kernel_rfl) (e_assign (v := .slice A9 (((x1.length : Int)).toNat) c10) (by kernel_rfl)) ?_
  refine wpList_nil ?_
  refine then_n ?_
  refine wp_ret ?_
  obtain rfl := Option.some.inj M
  exact ret1 rfl rfl  (show _ = .slice A9 (((x1.length : Int)).toNat) c10 from (by kernel_rfl)) ⟨A9, c10, F20, H17, (by rw [(show x21.length = ((x1.length : Int)).toNat from n22)]), h12, S26⟩

/-! spec_l2cell -/
def spec_l2cell.f (x1 : Cell) : Option Bool := (if x1.kind = 0 then (if x1.n ≥ 0 then (if x1.n ≤ 1000000 then some (decide ((x1.text.length : Int) = 0)) else some false) else some false) else (if x1.kind = 1 then (if x1.n ≥ (-1000000000000000) then (if x1.n ≤ 1000000000000000 then some (decide ((x1.text.length : Int) = 0)) else some false) else some false) else (if (x1.text.length : Int) > 100 then some false else (if x1.kind = 2 then some (decide (x1.n = 0)) else (if x1.kind = 3 then (if x1.n ≥ 1 then some (decide (x1.n ≤ 20)) else some false) else some false)))))
theorem spec_l2cell.calls (w : World) (H : Hp) (x1 : Cell) (A2 : Option Addr) (c3 : Nat) (h4 : Rd tByte H A2 x1.text) (l5 : x1.text.length ≤ c3) (S : Own [] H w) (r : Bool) (M : spec_l2cell.f x1 = some r) :
    Calls Try.prog 56 #[.agg #[.int .i64 x1.kind, .int .i64 x1.n, .slice A2 x1.text.length c3]] w (fun e e_w => e = .returned (.bool r) ∧ Chg no w e_w) := by
  rw [spec_l2cell.f] at M
  refine enter (l := [.agg #[.int .i64 x1.kind, .int .i64 x1.n, .slice A2 x1.text.length c3]]) 60 Try.func56 rfl rfl rfl ?_
  have S0_ := S.st
  refine wp_seq ?_
  refine wp_region_lit ?_
  refine lve (d := 1) rfl rfl (by kernel_rfl) (new_blk (v := fun g_ => .pointer (some ⟨g_, 0, none⟩)) (cs := #[.int .i64 x1.kind, .int .i64 x1.n, .slice A2 x1.text.length c3]) (t := 65) S0_ (by kernel_rfl)) ?_
  rintro _ w6 ⟨g7, rfl, b8, S9, K10⟩
  refine lv (d := 2) rfl rfl (by kernel_rfl) (e_assign (v := .bool false) rfl) ?_
  refine wpList_nil ?_
  refine then_n ?_
  refine wp_seq ?_
  refine wp_seq ?_
  refine wp_region_lit ?_
  refine lv (d := 3) rfl rfl (by kernel_rfl) (e_fieldAddr (b := g7) (off := 0) (o := 0) Try.underlying65 rfl rfl (sz := 1) (by kernel_rfl) (by decide) (by kernel_rfl)) ?_
  refine lv (d := 4) rfl rfl (by kernel_rfl) (e_load1 (ad := ⟨g7, 0 + 0, none⟩) (v := .int .i64 x1.kind) Try.underlying3 rfl (by kernel_rfl) (blk_cell b8 rfl)) ?_
  refine lv (d := 5) rfl rfl (by kernel_rfl) (e_eql (k := .i64) (a := x1.kind) (b := 0) (by kernel_rfl) rfl) ?_
  refine wpList_nil ?_
  refine then_n ?_
  by_cases q11 : x1.kind = 0
  · replace M := ifp q11 M
    refine cond_t rfl (bt q11 (by kernel_rfl)) ?_
    refine wp_seq ?_
    refine wp_region_lit ?_
    refine lv (d := 6) rfl rfl (by kernel_rfl) (e_fieldAddr (b := g7) (off := 0) (o := 1) Try.underlying65 rfl rfl (sz := 1) (by kernel_rfl) (by decide) (by kernel_rfl)) ?_
    refine lv (d := 7) rfl rfl (by kernel_rfl) (e_load1 (ad := ⟨g7, 0 + 1, none⟩) (v := .int .i64 x1.n) Try.underlying3 rfl (by kernel_rfl) (blk_cell b8 rfl)) ?_
    refine lv (d := 8) rfl rfl (by kernel_rfl) (e_geq (k := .i64) (a := x1.n) (b := 0) (by kernel_rfl) rfl) ?_
    refine lv (d := 9) rfl rfl (by kernel_rfl) (e_move (v := .bool (decide (x1.n ≥ 0))) (by kernel_rfl)) ?_
    by_cases q12 : x1.n ≥ 0
    · replace M := ifp q12 M
      refine lvg (d := 10) (t := 9) rfl (by kernel_rfl) rfl (bt q12 (by kernel_rfl)) rfl (by kernel_rfl) (e_fieldAddr (b := g7) (off := 0) (o := 1) Try.underlying65 rfl rfl (sz := 1) (by kernel_rfl) (by decide) (by kernel_rfl)) ?_
      refine lvg (d := 11) (t := 9) rfl (by kernel_rfl) rfl (bt q12 (by kernel_rfl)) rfl (by kernel_rfl) (e_load1 (ad := ⟨g7, 0 + 1, none⟩) (v := .int .i64 x1.n) Try.underlying3 rfl (by kernel_rfl) (blk_cell b8 rfl)) ?_
      refine lvg (d := 12) (t := 9) rfl (by kernel_rfl) rfl (bt q12 (by kernel_rfl)) rfl (by kernel_rfl) (e_leq (k := .i64) (a := x1.n) (b := 1000000) (by kernel_rfl) rfl) ?_
      refine lv (d := 13) rfl rfl (by kernel_rfl) (e_pick_t (v := .bool (decide (x1.n ≤ 1000000))) (bt q12 (by kernel_rfl)) (by kernel_rfl)) ?_
      refine lv (d := 14) rfl rfl (by kernel_rfl) (e_move (v := .bool (decide (x1.n ≤ 1000000))) (by kernel_rfl)) ?_
      by_cases q13 : x1.n ≤ 1000000
      · replace M := ifp q13 M
        refine lvg (d := 15) (t := 14) rfl (by kernel_rfl) rfl (bt q13 (by kernel_rfl)) rfl (by kernel_rfl) (e_fieldAddr (b := g7) (off := 0) (o := 2) Try.underlying65 rfl rfl (sz := 1) (by kernel_rfl) (by decide) (by kernel_rfl)) ?_
        refine lvg (d := 16) (t := 14) rfl (by kernel_rfl) rfl (bt q13 (by kernel_rfl)) rfl (by kernel_rfl) (e_load1 (ad := ⟨g7, 0 + 2, none⟩) (v := .slice A2 x1.text.length c3) Try.underlying59 rfl (by kernel_rfl) (blk_cell b8 rfl)) ?_
        refine lvg (d := 17) (t := 14) rfl (by kernel_rfl) rfl (bt q13 (by kernel_rfl)) rfl (by kernel_rfl) (e_len (A := A2) (n := x1.text.length) (c := c3) Try.underlying59 (by kernel_rfl)) ?_
        refine lvg (d := 18) (t := 14) rfl (by kernel_rfl) rfl (bt q13 (by kernel_rfl)) rfl (by kernel_rfl) (e_eql (k := .i64) (a := (x1.text.length : Int)) (b := 0) (by kernel_rfl) rfl) ?_
        refine lv (d := 19) rfl rfl (by kernel_rfl) (e_pick_t (v := .bool (decide ((x1.text.length : Int) = 0))) (bt q13 (by kernel_rfl)) (by kernel_rfl)) ?_
        refine lv (d := 2) rfl rfl (by kernel_rfl) (e_assign (v := .bool (decide ((x1.text.length : Int) = 0))) (by kernel_rfl)) ?_
        refine wpList_nil ?_
        refine then_n ?_
        refine wp_ret ?_
        refine then_r ?_
        obtain rfl := Option.some.inj M
        exact ret1 rfl rfl  (show _ = .bool (decide ((x1.text.length : Int) = 0)) from (by kernel_rfl)) ⟨rfl, S9.chg⟩
      replace M := ifn q13 M
      refine lskip (t := 14) (c := false) rfl (by kernel_rfl) rfl (bf q13 (by kernel_rfl)) rfl rfl ?_
      refine lskip (t := 14) (c := false) rfl (by kernel_rfl) rfl (bf q13 (by kernel_rfl)) rfl rfl ?_
      refine lskip (t := 14) (c := false) rfl (by kernel_rfl) rfl (bf q13 (by kernel_rfl)) rfl rfl ?_
      refine lskip (t := 14) (c := false) rfl (by kernel_rfl) rfl (bf q13 (by kernel_rfl)) rfl rfl ?_
      refine lv (d := 19) rfl rfl (by kernel_rfl) (e_pick_f (v := .bool false) (bf q13 (by kernel_rfl)) rfl) ?_
      refine lv (d := 2) rfl rfl (by kernel_rfl) (e_assign (v := .bool false) (by kernel_rfl)) ?_
      refine wpList_nil ?_
      refine then_n ?_
      refine wp_ret ?_
      refine then_r ?_
      obtain rfl := Option.some.inj M
      exact ret1 rfl rfl  (show _ = .bool false from (by kernel_rfl)) ⟨rfl, S9.chg⟩
    replace M := ifn q12 M
    refine lskip (t := 9) (c := false) rfl (by kernel_rfl) rfl (bf q12 (by kernel_rfl)) rfl rfl ?_
    refine lskip (t := 9) (c := false) rfl (by kernel_rfl) rfl (bf q12 (by kernel_rfl)) rfl rfl ?_
    refine lskip (t := 9) (c := false) rfl (by kernel_rfl) rfl (bf q12 (by kernel_rfl)) rfl rfl ?_
    refine lv (d := 13) rfl rfl (by kernel_rfl) (e_pick_f (v := .bool false) (bf q12 (by kernel_rfl)) rfl) ?_
    refine lv (d := 14) rfl rfl (by kernel_rfl) (e_move (v := .bool false) (by kernel_rfl)) ?_
    refine lskip (t := 14) (c := false) rfl (by kernel_rfl) rfl (by kernel_rfl) rfl rfl ?_
    refine lskip (t := 14) (c := false) rfl (by kernel_rfl) rfl (by kernel_rfl) rfl rfl ?_
    refine lskip (t := 14) (c := false) rfl (by kernel_rfl) rfl (by kernel_rfl) rfl rfl ?_
    refine lskip (t := 14) (c := false) rfl (by kernel_rfl) rfl (by kernel_rfl) rfl rfl ?_
    refine lv (d := 19) rfl rfl (by kernel_rfl) (e_pick_f (v := .bool false) (by kernel_rfl) rfl) ?_
    refine lv (d := 2) rfl rfl (by kernel_rfl) (e_assign (v := .bool false) (by kernel_rfl)) ?_
    refine wpList_nil ?_
    refine then_n ?_
    refine wp_ret ?_
    refine then_r ?_
    obtain rfl := Option.some.inj M
    exact ret1 rfl rfl  (show _ = .bool false from (by kernel_rfl)) ⟨rfl, S9.chg⟩
  replace M := ifn q11 M
  refine cond_f rfl (bf q11 (by kernel_rfl)) ?_
  refine wp_skip ?_
  refine then_n ?_
  refine wp_seq ?_
  refine wp_seq ?_
  refine wp_region_lit ?_
  refine lv (d := 20) rfl rfl (by kernel_rfl) (e_fieldAddr (b := g7) (off := 0) (o := 0) Try.underlying65 rfl rfl (sz := 1) (by kernel_rfl) (by decide) (by kernel_rfl)) ?_
  refine lv (d := 21) rfl rfl (by kernel_rfl) (e_load1 (ad := ⟨g7, 0 + 0, none⟩) (v := .int .i64 x1.kind) Try.underlying3 rfl (by kernel_rfl) (blk_cell b8 rfl)) ?_
  refine lv (d := 22) rfl rfl (by kernel_rfl) (e_eql (k := .i64) (a := x1.kind) (b := 1) (by kernel_rfl) rfl) ?_
  refine wpList_nil ?_
  refine then_n ?_
  by_cases q14 : x1.kind = 1
  · replace M := ifp q14 M
    refine cond_t rfl (bt q14 (by kernel_rfl)) ?_
    refine wp_seq ?_
    refine wp_region_lit ?_
    refine lv (d := 23) rfl rfl (by kernel_rfl) (e_fieldAddr (b := g7) (off := 0) (o := 1) Try.underlying65 rfl rfl (sz := 1) (by kernel_rfl) (by decide) (by kernel_rfl)) ?_
    refine lv (d := 24) rfl rfl (by kernel_rfl) (e_load1 (ad := ⟨g7, 0 + 1, none⟩) (v := .int .i64 x1.n) Try.underlying3 rfl (by kernel_rfl) (blk_cell b8 rfl)) ?_
    refine lv (d := 25) rfl rfl (by kernel_rfl) (e_geq (k := .i64) (a := x1.n) (b := (-1000000000000000)) (by kernel_rfl) rfl) ?_
    refine lv (d := 26) rfl rfl (by kernel_rfl) (e_move (v := .bool (decide (x1.n ≥ (-1000000000000000)))) (by kernel_rfl)) ?_
    by_cases q15 : x1.n ≥ (-1000000000000000)
    · replace M := ifp q15 M
      refine lvg (d := 27) (t := 26) rfl (by kernel_rfl) rfl (bt q15 (by kernel_rfl)) rfl (by kernel_rfl) (e_fieldAddr (b := g7) (off := 0) (o := 1) Try.underlying65 rfl rfl (sz := 1) (by kernel_rfl) (by decide) (by kernel_rfl)) ?_
      refine lvg (d := 28) (t := 26) rfl (by kernel_rfl) rfl (bt q15 (by kernel_rfl)) rfl (by kernel_rfl) (e_load1 (ad := ⟨g7, 0 + 1, none⟩) (v := .int .i64 x1.n) Try.underlying3 rfl (by kernel_rfl) (blk_cell b8 rfl)) ?_
      refine lvg (d := 29) (t := 26) rfl (by kernel_rfl) rfl (bt q15 (by kernel_rfl)) rfl (by kernel_rfl) (e_leq (k := .i64) (a := x1.n) (b := 1000000000000000) (by kernel_rfl) rfl) ?_
      refine lv (d := 30) rfl rfl (by kernel_rfl) (e_pick_t (v := .bool (decide (x1.n ≤ 1000000000000000))) (bt q15 (by kernel_rfl)) (by kernel_rfl)) ?_
      refine lv (d := 31) rfl rfl (by kernel_rfl) (e_move (v := .bool (decide (x1.n ≤ 1000000000000000))) (by kernel_rfl)) ?_
      by_cases q16 : x1.n ≤ 1000000000000000
      · replace M := ifp q16 M
        refine lvg (d := 32) (t := 31) rfl (by kernel_rfl) rfl (bt q16 (by kernel_rfl)) rfl (by kernel_rfl) (e_fieldAddr (b := g7) (off := 0) (o := 2) Try.underlying65 rfl rfl (sz := 1) (by kernel_rfl) (by decide) (by kernel_rfl)) ?_
        refine lvg (d := 33) (t := 31) rfl (by kernel_rfl) rfl (bt q16 (by kernel_rfl)) rfl (by kernel_rfl) (e_load1 (ad := ⟨g7, 0 + 2, none⟩) (v := .slice A2 x1.text.length c3) Try.underlying59 rfl (by kernel_rfl) (blk_cell b8 rfl)) ?_
        refine lvg (d := 34) (t := 31) rfl (by kernel_rfl) rfl (bt q16 (by kernel_rfl)) rfl (by kernel_rfl) (e_len (A := A2) (n := x1.text.length) (c := c3) Try.underlying59 (by kernel_rfl)) ?_
        refine lvg (d := 35) (t := 31) rfl (by kernel_rfl) rfl (bt q16 (by kernel_rfl)) rfl (by kernel_rfl) (e_eql (k := .i64) (a := (x1.text.length : Int)) (b := 0) (by kernel_rfl) rfl) ?_
        refine lv (d := 36) rfl rfl (by kernel_rfl) (e_pick_t (v := .bool (decide ((x1.text.length : Int) = 0))) (bt q16 (by kernel_rfl)) (by kernel_rfl)) ?_
        refine lv (d := 2) rfl rfl (by kernel_rfl) (e_assign (v := .bool (decide ((x1.text.length : Int) = 0))) (by kernel_rfl)) ?_
        refine wpList_nil ?_
        refine then_n ?_
        refine wp_ret ?_
        refine then_r ?_
        obtain rfl := Option.some.inj M
        exact ret1 rfl rfl  (show _ = .bool (decide ((x1.text.length : Int) = 0)) from (by kernel_rfl)) ⟨rfl, S9.chg⟩
      replace M := ifn q16 M
      refine lskip (t := 31) (c := false) rfl (by kernel_rfl) rfl (bf q16 (by kernel_rfl)) rfl rfl ?_
      refine lskip (t := 31) (c := false) rfl (by kernel_rfl) rfl (bf q16 (by kernel_rfl)) rfl rfl ?_
      refine lskip (t := 31) (c := false) rfl (by kernel_rfl) rfl (bf q16 (by kernel_rfl)) rfl rfl ?_
      refine lskip (t := 31) (c := false) rfl (by kernel_rfl) rfl (bf q16 (by kernel_rfl)) rfl rfl ?_
      refine lv (d := 36) rfl rfl (by kernel_rfl) (e_pick_f (v := .bool false) (bf q16 (by kernel_rfl)) rfl) ?_
      refine lv (d := 2) rfl rfl (by kernel_rfl) (e_assign (v := .bool false) (by kernel_rfl)) ?_
      refine wpList_nil ?_
      refine then_n ?_
      refine wp_ret ?_
      refine then_r ?_
      obtain rfl := Option.some.inj M
      exact ret1 rfl rfl  (show _ = .bool false from (by kernel_rfl)) ⟨rfl, S9.chg⟩
    replace M := ifn q15 M
    refine lskip (t := 26) (c := false) rfl (by kernel_rfl) rfl (bf q15 (by kernel_rfl)) rfl rfl ?_
    refine lskip (t := 26) (c := false) rfl (by kernel_rfl) rfl (bf q15 (by kernel_rfl)) rfl rfl ?_
    refine lskip (t := 26) (c := false) rfl (by kernel_rfl) rfl (bf q15 (by kernel_rfl)) rfl rfl ?_
    refine lv (d := 30) rfl rfl (by kernel_rfl) (e_pick_f (v := .bool false) (bf q15 (by kernel_rfl)) rfl) ?_
    refine lv (d := 31) rfl rfl (by kernel_rfl) (e_move (v := .bool false) (by kernel_rfl)) ?_
    refine lskip (t := 31) (c := false) rfl (by kernel_rfl) rfl (by kernel_rfl) rfl rfl ?_
    refine lskip (t := 31) (c := false) rfl (by kernel_rfl) rfl (by kernel_rfl) rfl rfl ?_
    refine lskip (t := 31) (c := false) rfl (by kernel_rfl) rfl (by kernel_rfl) rfl rfl ?_
    refine lskip (t := 31) (c := false) rfl (by kernel_rfl) rfl (by kernel_rfl) rfl rfl ?_
    refine lv (d := 36) rfl rfl (by kernel_rfl) (e_pick_f (v := .bool false) (by kernel_rfl) rfl) ?_
    refine lv (d := 2) rfl rfl (by kernel_rfl) (e_assign (v := .bool false) (by kernel_rfl)) ?_
    refine wpList_nil ?_
    refine then_n ?_
    refine wp_ret ?_
    refine then_r ?_
    obtain rfl := Option.some.inj M
    exact ret1 rfl rfl  (show _ = .bool false from (by kernel_rfl)) ⟨rfl, S9.chg⟩
  replace M := ifn q14 M
  refine cond_f rfl (bf q14 (by kernel_rfl)) ?_
  refine wp_skip ?_
  refine then_n ?_
  refine wp_seq ?_
  refine wp_seq ?_
  refine wp_region_lit ?_
  refine lv (d := 37) rfl rfl (by kernel_rfl) (e_fieldAddr (b := g7) (off := 0) (o := 2) Try.underlying65 rfl rfl (sz := 1) (by kernel_rfl) (by decide) (by kernel_rfl)) ?_
  refine lv (d := 38) rfl rfl (by kernel_rfl) (e_load1 (ad := ⟨g7, 0 + 2, none⟩) (v := .slice A2 x1.text.length c3) Try.underlying59 rfl (by kernel_rfl) (blk_cell b8 rfl)) ?_
  refine lv (d := 39) rfl rfl (by kernel_rfl) (e_len (A := A2) (n := x1.text.length) (c := c3) Try.underlying59 (by kernel_rfl)) ?_
  refine lv (d := 40) rfl rfl (by kernel_rfl) (e_gtr (k := .i64) (a := (x1.text.length : Int)) (b := 100) (by kernel_rfl) rfl) ?_
  refine wpList_nil ?_
  refine then_n ?_
  by_cases q17 : (x1.text.length : Int) > 100
  · replace M := ifp q17 M
    refine cond_t rfl (bt q17 (by kernel_rfl)) ?_
    refine wp_seq ?_
    refine wp_region_lit ?_
    refine lv (d := 2) rfl rfl (by kernel_rfl) (e_assign (v := .bool false) rfl) ?_
    refine wpList_nil ?_
    refine then_n ?_
    refine wp_ret ?_
    refine then_r ?_
    obtain rfl := Option.some.inj M
    exact ret1 rfl rfl  (show _ = .bool false from (by kernel_rfl)) ⟨rfl, S9.chg⟩
  replace M := ifn q17 M
  refine cond_f rfl (bf q17 (by kernel_rfl)) ?_
  refine wp_skip ?_
  refine then_n ?_
  refine wp_seq ?_
  refine wp_seq ?_
  refine wp_region_lit ?_
  refine lv (d := 41) rfl rfl (by kernel_rfl) (e_fieldAddr (b := g7) (off := 0) (o := 0) Try.underlying65 rfl rfl (sz := 1) (by kernel_rfl) (by decide) (by kernel_rfl)) ?_
  refine lv (d := 42) rfl rfl (by kernel_rfl) (e_load1 (ad := ⟨g7, 0 + 0, none⟩) (v := .int .i64 x1.kind) Try.underlying3 rfl (by kernel_rfl) (blk_cell b8 rfl)) ?_
  refine lv (d := 43) rfl rfl (by kernel_rfl) (e_eql (k := .i64) (a := x1.kind) (b := 2) (by kernel_rfl) rfl) ?_
  refine wpList_nil ?_
  refine then_n ?_
  by_cases q18 : x1.kind = 2
  · replace M := ifp q18 M
    refine cond_t rfl (bt q18 (by kernel_rfl)) ?_
    refine wp_seq ?_
    refine wp_region_lit ?_
    refine lv (d := 44) rfl rfl (by kernel_rfl) (e_fieldAddr (b := g7) (off := 0) (o := 1) Try.underlying65 rfl rfl (sz := 1) (by kernel_rfl) (by decide) (by kernel_rfl)) ?_
    refine lv (d := 45) rfl rfl (by kernel_rfl) (e_load1 (ad := ⟨g7, 0 + 1, none⟩) (v := .int .i64 x1.n) Try.underlying3 rfl (by kernel_rfl) (blk_cell b8 rfl)) ?_
    refine lv (d := 46) rfl rfl (by kernel_rfl) (e_eql (k := .i64) (a := x1.n) (b := 0) (by kernel_rfl) rfl) ?_
    refine lv (d := 2) rfl rfl (by kernel_rfl) (e_assign (v := .bool (decide (x1.n = 0))) (by kernel_rfl)) ?_
    refine wpList_nil ?_
    refine then_n ?_
    refine wp_ret ?_
    refine then_r ?_
    obtain rfl := Option.some.inj M
    exact ret1 rfl rfl  (show _ = .bool (decide (x1.n = 0)) from (by kernel_rfl)) ⟨rfl, S9.chg⟩
  replace M := ifn q18 M
  refine cond_f rfl (bf q18 (by kernel_rfl)) ?_
  refine wp_skip ?_
  refine then_n ?_
  refine wp_seq ?_
  refine wp_region_lit ?_
  refine lv (d := 47) rfl rfl (by kernel_rfl) (e_fieldAddr (b := g7) (off := 0) (o := 0) Try.underlying65 rfl rfl (sz := 1) (by kernel_rfl) (by decide) (by kernel_rfl)) ?_
  refine lv (d := 48) rfl rfl (by kernel_rfl) (e_load1 (ad := ⟨g7, 0 + 0, none⟩) (v := .int .i64 x1.kind) Try.underlying3 rfl (by kernel_rfl) (blk_cell b8 rfl)) ?_
  refine lv (d := 49) rfl rfl (by kernel_rfl) (e_eql (k := .i64) (a := x1.kind) (b := 3) (by kernel_rfl) rfl) ?_
  refine lv (d := 50) rfl rfl (by kernel_rfl) (e_move (v := .bool (decide (x1.kind = 3))) (by kernel_rfl)) ?_
  by_cases q19 : x1.kind = 3
  · replace M := ifp q19 M
    refine lvg (d := 51) (t := 50) rfl (by kernel_rfl) rfl (bt q19 (by kernel_rfl)) rfl (by kernel_rfl) (e_fieldAddr (b := g7) (off := 0) (o := 1) Try.underlying65 rfl rfl (sz := 1) (by kernel_rfl) (by decide) (by kernel_rfl)) ?_
    refine lvg (d := 52) (t := 50) rfl (by kernel_rfl) rfl (bt q19 (by kernel_rfl)) rfl (by kernel_rfl) (e_load1 (ad := ⟨g7, 0 + 1, none⟩) (v := .int .i64 x1.n) Try.underlying3 rfl (by kernel_rfl) (blk_cell b8 rfl)) ?_
    refine lvg (d := 53) (t := 50) rfl (by kernel_rfl) rfl (bt q19 (by kernel_rfl)) rfl (by kernel_rfl) (e_geq (k := .i64) (a := x1.n) (b := 1) (by kernel_rfl) rfl) ?_
    refine lv (d := 54) rfl rfl (by kernel_rfl) (e_pick_t (v := .bool (decide (x1.n ≥ 1))) (bt q19 (by kernel_rfl)) (by kernel_rfl)) ?_
    refine lv (d := 55) rfl rfl (by kernel_rfl) (e_move (v := .bool (decide (x1.n ≥ 1))) (by kernel_rfl)) ?_
    by_cases q20 : x1.n ≥ 1
    · replace M := ifp q20 M
      refine lvg (d := 56) (t := 55) rfl (by kernel_rfl) rfl (bt q20 (by kernel_rfl)) rfl (by kernel_rfl) (e_fieldAddr (b := g7) (off := 0) (o := 1) Try.underlying65 rfl rfl (sz := 1) (by kernel_rfl) (by decide) (by kernel_rfl)) ?_
      refine lvg (d := 57) (t := 55) rfl (by kernel_rfl) rfl (bt q20 (by kernel_rfl)) rfl (by kernel_rfl) (e_load1 (ad := ⟨g7, 0 + 1, none⟩) (v := .int .i64 x1.n) Try.underlying3 rfl (by kernel_rfl) (blk_cell b8 rfl)) ?_
      refine lvg (d := 58) (t := 55) rfl (by kernel_rfl) rfl (bt q20 (by kernel_rfl)) rfl (by kernel_rfl) (e_leq (k := .i64) (a := x1.n) (b := 20) (by kernel_rfl) rfl) ?_
      refine lv (d := 59) rfl rfl (by kernel_rfl) (e_pick_t (v := .bool (decide (x1.n ≤ 20))) (bt q20 (by kernel_rfl)) (by kernel_rfl)) ?_
      refine lv (d := 2) rfl rfl (by kernel_rfl) (e_assign (v := .bool (decide (x1.n ≤ 20))) (by kernel_rfl)) ?_
      refine wpList_nil ?_
      refine then_n ?_
      refine wp_ret ?_
      obtain rfl := Option.some.inj M
      exact ret1 rfl rfl  (show _ = .bool (decide (x1.n ≤ 20)) from (by kernel_rfl)) ⟨rfl, S9.chg⟩
    replace M := ifn q20 M
    refine lskip (t := 55) (c := false) rfl (by kernel_rfl) rfl (bf q20 (by kernel_rfl)) rfl rfl ?_
    refine lskip (t := 55) (c := false) rfl (by kernel_rfl) rfl (bf q20 (by kernel_rfl)) rfl rfl ?_
    refine lskip (t := 55) (c := false) rfl (by kernel_rfl) rfl (bf q20 (by kernel_rfl)) rfl rfl ?_
    refine lv (d := 59) rfl rfl (by kernel_rfl) (e_pick_f (v := .bool false) (bf q20 (by kernel_rfl)) rfl) ?_
    refine lv (d := 2) rfl rfl (by kernel_rfl) (e_assign (v := .bool false) (by kernel_rfl)) ?_
    refine wpList_nil ?_
    refine then_n ?_
    refine wp_ret ?_
    obtain rfl := Option.some.inj M
    exact ret1 rfl rfl  (show _ = .bool false from (by kernel_rfl)) ⟨rfl, S9.chg⟩
  replace M := ifn q19 M
  refine lskip (t := 50) (c := false) rfl (by kernel_rfl) rfl (bf q19 (by kernel_rfl)) rfl rfl ?_
  refine lskip (t := 50) (c := false) rfl (by kernel_rfl) rfl (bf q19 (by kernel_rfl)) rfl rfl ?_
  refine lskip (t := 50) (c := false) rfl (by kernel_rfl) rfl (bf q19 (by kernel_rfl)) rfl rfl ?_
  refine lv (d := 54) rfl rfl (by kernel_rfl) (e_pick_f (v := .bool false) (bf q19 (by kernel_rfl)) rfl) ?_
  refine lv (d := 55) rfl rfl (by kernel_rfl) (e_move (v := .bool false) (by kernel_rfl)) ?_
  refine lskip (t := 55) (c := false) rfl (by kernel_rfl) rfl (by kernel_rfl) rfl rfl ?_
  refine lskip (t := 55) (c := false) rfl (by kernel_rfl) rfl (by kernel_rfl) rfl rfl ?_
  refine lskip (t := 55) (c := false) rfl (by kernel_rfl) rfl (by kernel_rfl) rfl rfl ?_
  refine lv (d := 59) rfl rfl (by kernel_rfl) (e_pick_f (v := .bool false) (by kernel_rfl) rfl) ?_
  refine lv (d := 2) rfl rfl (by kernel_rfl) (e_assign (v := .bool false) (by kernel_rfl)) ?_
  refine wpList_nil ?_
  refine then_n ?_
  refine wp_ret ?_
  obtain rfl := Option.some.inj M
  exact ret1 rfl rfl  (show _ = .bool false from (by kernel_rfl)) ⟨rfl, S9.chg⟩

/-! spec_ValidTerm -/
def spec_ValidTerm.l0 : Nat → (List Cell) → Int → Int → Option Bool
  | 0, _, _, _ => none
  | k19 + 1, x1, x9, x10 => (if x10 < (x1.length : Int) then (if x9 = 0 then some false else (if 0 ≤ x10 then ((spec_l2cell.f (x1.getD ((x10).toNat) z65)).bind fun t33 => (if ¬ (t33 = true) then some false else (if ((x1.getD ((x10).toNat) z65).kind) = 3 then (spec_ValidTerm.l0 k19 x1 (IntKind.i64.wrap ((IntKind.i64.wrap (x9 - 1)) + ((x1.getD ((x10).toNat) z65).n))) (IntKind.i64.wrap (x10 + 1))) else (spec_ValidTerm.l0 k19 x1 (IntKind.i64.wrap (x9 - 1)) (IntKind.i64.wrap (x10 + 1)))))) else none)) else some (decide (x9 = 0)))
def spec_ValidTerm.f (k : Nat) (x1 : List Cell) : Option Bool := (if (x1.length : Int) > 2000 then some false else (spec_ValidTerm.l0 k x1 1 0))
theorem spec_ValidTerm.calls (k : Nat) (w : World) (H : Hp) (x1 : List Cell) (A2 : Option Addr) (c3 : Nat) (h4 : Rd st65 H A2 x1) (l5 : x1.length ≤ c3) (S : Own [] H w) (r : Bool) (M : spec_ValidTerm.f k x1 = some r) :
    Calls Try.prog 15 #[.slice A2 x1.length c3] w (fun e e_w => e = .returned (.bool r) ∧ Chg no w e_w) := by
  rw [spec_ValidTerm.f] at M
  refine enter (l := [.slice A2 x1.length c3]) 41 Try.func15 rfl rfl rfl ?_
  have S0_ := S.st
  refine wp_seq ?_
  refine wp_region_lit ?_
  refine lv (d := 2) rfl rfl (by kernel_rfl) (e_assign (v := .bool false) rfl) ?_
  refine wpList_nil ?_
  refine then_n ?_
  refine wp_seq ?_
  refine wp_seq ?_
  refine wp_region_lit ?_
  refine lv (d := 5) rfl rfl (by kernel_rfl) (e_move (v := .slice A2 x1.length c3) (by kernel_rfl)) ?_
  refine lv (d := 6) rfl rfl (by kernel_rfl) (e_len (A := A2) (n := x1.length) (c := c3) Try.underlying25 (by kernel_rfl)) ?_
  refine lv (d := 7) rfl rfl (by kernel_rfl) (e_gtr (k := .i64) (a := (x1.length : Int)) (b := 2000) (by kernel_rfl) rfl) ?_
  refine wpList_nil ?_
  refine then_n ?_
  by_cases q6 : (x1.length : Int) > 2000
  · replace M := ifp q6 M
    refine cond_t rfl (bt q6 (by kernel_rfl)) ?_
    refine wp_seq ?_
    refine wp_region_lit ?_
    refine lv (d := 2) rfl rfl (by kernel_rfl) (e_assign (v := .bool false) rfl) ?_
    refine wpList_nil ?_
    refine then_n ?_
    refine wp_ret ?_
    refine then_r ?_
    obtain rfl := Option.some.inj M
    exact ret1 rfl rfl  (show _ = .bool false from (by kernel_rfl)) ⟨rfl, S0_.chg⟩
  replace M := ifn q6 M
  refine cond_f rfl (bf q6 (by kernel_rfl)) ?_
  refine wp_skip ?_
  refine then_n ?_
  refine wp_seq ?_
  refine wp_region_lit ?_
  refine lv (d := 3) rfl rfl (by kernel_rfl) (e_assign (v := .int .i64 1) rfl) ?_
  refine wpList_nil ?_
  refine then_n ?_
  refine wp_seq ?_
  refine wp_seq ?_
  refine wp_region_lit ?_
  refine lv (d := 4) rfl rfl (by kernel_rfl) (e_assign (v := .int .i64 0) rfl) ?_
  refine wpList_nil ?_
  refine then_n ?_
  refine wp_block ?_
  refine wp_loop_g (fun k17 a18 w7 => ∃ (f8 : Nat → Value) (x9 : Int) (x10 : Int), a18 = mk 41 f8 ∧ f8 0 = .slice A2 x1.length c3 ∧ f8 3 = .int .i64 x9 ∧ f8 4 = .int .i64 x10 ∧ St (anyOf []) H w [] H w7 ∧ spec_ValidTerm.l0 k17 x1 x9 x10 = some r) k ⟨_, 1, 0, rfl, (by kernel_rfl), (by kernel_rfl), (by kernel_rfl), S0_, M⟩ ?_
  clear M
  rintro k17 a18 w7 ⟨f8, x9, x10, rfl, e11, e12, e13, S14, M⟩
  rcases k17 with _ | k19
  · rw [spec_ValidTerm.l0] at M
    cases M
  rw [spec_ValidTerm.l0] at M
  refine wp_seq ?_
  refine wp_seq ?_
  refine wp_region_lit ?_
  refine lv (d := 8) rfl rfl (by kernel_rfl) (e_move (v := .int .i64 x10) (by exact e13)) ?_
  refine lv (d := 9) rfl rfl (by kernel_rfl) (e_move (v := .slice A2 x1.length c3) (by exact e11)) ?_
  refine lv (d := 10) rfl rfl (by kernel_rfl) (e_len (A := A2) (n := x1.length) (c := c3) Try.underlying25 (by kernel_rfl)) ?_
  refine lv (d := 11) rfl rfl (by kernel_rfl) (e_lss (k := .i64) (a := x10) (b := (x1.length : Int)) (by kernel_rfl) (by kernel_rfl)) ?_
  refine wpList_nil ?_
  refine then_n ?_
  by_cases q20 : x10 < (x1.length : Int)
  · replace M := ifp q20 M
    refine cond_t rfl (bt q20 (by kernel_rfl)) ?_
    refine wp_skip ?_
    refine then_n ?_
    refine wp_seq ?_
    refine wp_block ?_
    refine wp_seq ?_
    refine wp_seq ?_
    refine wp_region_lit ?_
    refine lv (d := 14) rfl rfl (by kernel_rfl) (e_move (v := .int .i64 x9) (by exact e12)) ?_
    refine lv (d := 15) rfl rfl (by kernel_rfl) (e_eql (k := .i64) (a := x9) (b := 0) (by kernel_rfl) rfl) ?_
    refine lv (d := 16) rfl rfl (by kernel_rfl) (e_move (v := .bool (decide (x9 = 0))) (by kernel_rfl)) ?_
    by_cases q21 : x9 = 0
    · replace M := ifp q21 M
      refine lskip (t := 16) (c := true) rfl (by kernel_rfl) rfl (bt q21 (by kernel_rfl)) rfl rfl ?_
      refine lskip (t := 16) (c := true) rfl (by kernel_rfl) rfl (bt q21 (by kernel_rfl)) rfl rfl ?_
      refine lskip (t := 16) (c := true) rfl (by kernel_rfl) rfl (bt q21 (by kernel_rfl)) rfl rfl ?_
      refine lskip (t := 16) (c := true) rfl (by kernel_rfl) rfl (bt q21 (by kernel_rfl)) rfl rfl ?_
      refine lskip (t := 16) (c := true) rfl (by kernel_rfl) rfl (bt q21 (by kernel_rfl)) rfl rfl ?_
      refine lskip (t := 16) (c := true) rfl (by kernel_rfl) rfl (bt q21 (by kernel_rfl)) rfl rfl ?_
      refine lv (d := 23) rfl rfl (by kernel_rfl) (e_pick_t (v := .bool true) (bt q21 (by kernel_rfl)) rfl) ?_
      refine wpList_nil ?_
      refine then_n ?_
      refine cond_t rfl (by kernel_rfl) ?_
      refine wp_seq ?_
      refine wp_region_lit ?_
      refine lv (d := 2) rfl rfl (by kernel_rfl) (e_assign (v := .bool false) rfl) ?_
      refine wpList_nil ?_
      refine then_n ?_
      refine wp_ret ?_
      refine then_r ?_
      refine inb_r ?_
      refine then_r ?_
      refine then_r ?_
      refine inb_r ?_
      refine then_r ?_
      obtain rfl := Option.some.inj M
      exact ret1 rfl rfl  (show _ = .bool false from (by kernel_rfl)) ⟨rfl, S14.chg⟩
    replace M := ifn q21 M
    refine lvg (d := 17) (t := 16) rfl (by kernel_rfl) rfl (bf q21 (by kernel_rfl)) rfl (by kernel_rfl) (e_move (v := .slice A2 x1.length c3) (by exact e11)) ?_
    refine lvg (d := 18) (t := 16) rfl (by kernel_rfl) rfl (bf q21 (by kernel_rfl)) rfl (by kernel_rfl) (e_move (v := .int .i64 x10) (by exact e13)) ?_
    obtain ⟨q22, M⟩ := chk M
    obtain ⟨b23, o24, e25⟩ := Rd.addr h4 (show (x10).toNat < x1.length by omega)
    obtain ⟨y26, r27, k28⟩ := Rd.at h4 e25 (getD_some z65 (show (x10).toNat < x1.length by omega))
    obtain ⟨A29, c30, rfl, l31, h32⟩ := st65_open r27
    refine lvg (d := 19) (t := 16) rfl (by kernel_rfl) rfl (bf q21 (by kernel_rfl)) rfl (by kernel_rfl) (e_indexAddr (b := b23) (off := o24) (n := x1.length) (c := c3) (sz := 3) (i := x10) (k := .i64) Try.underlying25 e25 (by kernel_rfl) (by kernel_rfl) (by kernel_rfl) q22 q20) ?_
    refine lvg (d := 20) (t := 16) rfl (by kernel_rfl) rfl (bf q21 (by kernel_rfl)) rfl (by kernel_rfl) (e_loadS (b := b23) (off := o24 + (x10 : Int).toNat * 3) (cs := [.int .i64 ((x1.getD ((x10).toNat) z65).kind), .int .i64 ((x1.getD ((x10).toNat) z65).n), .slice A29 ((x1.getD ((x10).toNat) z65).text).length c30]) Try.underlying65 rfl (by kernel_rfl) (by kernel_rfl) (fun j_ u_ e_ => (hpx (S14.inv.cell (k28 j_ u_ e_))))) ?_
    obtain ⟨t33, u34, M⟩ := bnd M
    refine lcallg (d := 21) (t := 16) rfl (by kernel_rfl) rfl (bf q21 (by kernel_rfl)) rfl (by kernel_rfl) (e_call (l := [.tmp 20]) (vs := [.agg #[.int .i64 ((x1.getD ((x10).toNat) z65).kind), .int .i64 ((x1.getD ((x10).toNat) z65).n), .slice A29 ((x1.getD ((x10).toNat) z65).text).length c30]]) Try.func56 (by kernel_rfl) rfl (by kernel_rfl) rfl) (spec_l2cell.calls w7 H (x1.getD ((x10).toNat) z65) A29 c30 h32 l31 S14.own0 t33 u34) ?_
    rintro _ w35 ⟨rfl, C36⟩
    refine ⟨_, rfl, ?_⟩
    obtain ⟨S37, K38⟩ := S14.still C36
    refine lvg (d := 22) (t := 16) rfl (by kernel_rfl) rfl (bf q21 (by kernel_rfl)) rfl (by kernel_rfl) (e_notv (c := t33) (by kernel_rfl)) ?_
    refine lv (d := 23) rfl rfl (by kernel_rfl) (e_pick_f (v := .bool (decide (¬ (t33 = true)))) (bf q21 (by kernel_rfl)) (by kernel_rfl)) ?_
    refine wpList_nil ?_
    refine then_n ?_
    by_cases q39 : ¬ (t33 = true)
    · replace M := ifp q39 M
      refine cond_t rfl (bt q39 (by kernel_rfl)) ?_
      refine wp_seq ?_
      refine wp_region_lit ?_
      refine lv (d := 2) rfl rfl (by kernel_rfl) (e_assign (v := .bool false) rfl) ?_
      refine wpList_nil ?_
      refine then_n ?_
      refine wp_ret ?_
      refine then_r ?_
      refine inb_r ?_
      refine then_r ?_
      refine then_r ?_
      refine inb_r ?_
      refine then_r ?_
      obtain rfl := Option.some.inj M
      exact ret1 rfl rfl  (show _ = .bool false from (by kernel_rfl)) ⟨rfl, S37.chg⟩
    replace M := ifn q39 M
    refine cond_f rfl (bf q39 (by kernel_rfl)) ?_
    refine wp_skip ?_
    refine then_n ?_
    refine wp_seq ?_
    refine wp_region_lit ?_
    refine lv (d := 24) rfl rfl (by kernel_rfl) (e_move (v := .int .i64 x9) (by exact e12)) ?_
    refine lv (d := 25) rfl rfl (by kernel_rfl) (e_sub (k := .i64) (a := x9) (b := 1) (by kernel_rfl) rfl) ?_
    refine lv (d := 3) rfl rfl (by kernel_rfl) (e_assign (v := .int .i64 (IntKind.i64.wrap (x9 - 1))) (by kernel_rfl)) ?_
    refine wpList_nil ?_
    refine then_n ?_
    refine wp_seq ?_
    refine wp_region_lit ?_
    refine lv (d := 26) rfl rfl (by kernel_rfl) (e_move (v := .slice A2 x1.length c3) (by exact e11)) ?_
    refine lv (d := 27) rfl rfl (by kernel_rfl) (e_move (v := .int .i64 x10) (by exact e13)) ?_
    obtain ⟨b40, o41, e42⟩ := Rd.addr h4 (show (x10).toNat < x1.length by omega)
    obtain ⟨y43, r44, k45⟩ := Rd.at h4 e42 (getD_some z65 (show (x10).toNat < x1.length by omega))
    obtain ⟨A46, c47, rfl, l48, h49⟩ := st65_open r44
    refine lv (d := 28) rfl rfl (by kernel_rfl) (e_indexAddr (b := b40) (off := o41) (n := x1.length) (c := c3) (sz := 3) (i := x10) (k := .i64) Try.underlying25 e42 (by kernel_rfl) (by kernel_rfl) (by kernel_rfl) q22 q20) ?_
    refine lv (d := 29) rfl rfl (by kernel_rfl) (e_fieldAddr (b := b40) (off := o41 + (x10 : Int).toNat * 3) (o := 0) Try.underlying65 rfl rfl (sz := 1) (by kernel_rfl) (by decide) (by kernel_rfl)) ?_
    refine lv (d := 30) rfl rfl (by kernel_rfl) (e_load1 (ad := ⟨b40, o41 + (x10 : Int).toNat * 3 + 0, none⟩) (v := .int .i64 ((x1.getD ((x10).toNat) z65).kind)) Try.underlying3 rfl (by kernel_rfl) (hpx (S37.inv.cell (k45 0 _ rfl)))) ?_
    refine lv (d := 31) rfl rfl (by kernel_rfl) (e_eql (k := .i64) (a := (x1.getD ((x10).toNat) z65).kind) (b := 3) (by kernel_rfl) rfl) ?_
    refine wpList_nil ?_
    refine then_n ?_
    by_cases q50 : ((x1.getD ((x10).toNat) z65).kind) = 3
    · replace M := ifp q50 M
      refine cond_t rfl (bt q50 (by kernel_rfl)) ?_
      refine wp_region_lit ?_
      refine lv (d := 32) rfl rfl (by kernel_rfl) (e_move (v := .int .i64 (IntKind.i64.wrap (x9 - 1))) (by kernel_rfl)) ?_
      refine lv (d := 33) rfl rfl (by kernel_rfl) (e_move (v := .slice A2 x1.length c3) (by exact e11)) ?_
      refine lv (d := 34) rfl rfl (by kernel_rfl) (e_move (v := .int .i64 x10) (by exact e13)) ?_
      obtain ⟨b51, o52, e53⟩ := Rd.addr h4 (show (x10).toNat < x1.length by omega)
      obtain ⟨y54, r55, k56⟩ := Rd.at h4 e53 (getD_some z65 (show (x10).toNat < x1.length by omega))
      obtain ⟨A57, c58, rfl, l59, h60⟩ := st65_open r55
      refine lv (d := 35) rfl rfl (by kernel_rfl) (e_indexAddr (b := b51) (off := o52) (n := x1.length) (c := c3) (sz := 3) (i := x10) (k := .i64) Try.underlying25 e53 (by kernel_rfl) (by kernel_rfl) (by kernel_rfl) q22 q20) ?_
      refine lv (d := 36) rfl rfl (by kernel_rfl) (e_fieldAddr (b := b51) (off := o52 + (x10 : Int).toNat * 3) (o := 1) Try.underlying65 rfl rfl (sz := 1) (by kernel_rfl) (by decide) (by kernel_rfl)) ?_
      refine lv (d := 37) rfl rfl (by kernel_rfl) (e_load1 (ad := ⟨b51, o52 + (x10 : Int).toNat * 3 + 1, none⟩) (v := .int .i64 ((x1.getD ((x10).toNat) z65).n)) Try.underlying3 rfl (by kernel_rfl) (hpx (S37.inv.cell (k56 1 _ rfl)))) ?_
      refine lv (d := 38) rfl rfl (by kernel_rfl) (e_add (k := .i64) (a := (IntKind.i64.wrap (x9 - 1))) (b := (x1.getD ((x10).toNat) z65).n) (by kernel_rfl) (by kernel_rfl)) ?_
      refine lv (d := 3) rfl rfl (by kernel_rfl) (e_assign (v := .int .i64 (IntKind.i64.wrap ((IntKind.i64.wrap (x9 - 1)) + ((x1.getD ((x10).toNat) z65).n)))) (by kernel_rfl)) ?_
      refine wpList_nil ?_
      refine inb_n ?_
      refine then_n ?_
      refine wp_region_lit ?_
      refine lv (d := 12) rfl rfl (by kernel_rfl) (e_move (v := .int .i64 x10) (by exact e13)) ?_
      refine lv (d := 13) rfl rfl (by kernel_rfl) (e_add (k := .i64) (a := x10) (b := 1) (by kernel_rfl) rfl) ?_
      refine lv (d := 4) rfl rfl (by kernel_rfl) (e_assign (v := .int .i64 (IntKind.i64.wrap (x10 + 1))) (by kernel_rfl)) ?_
      refine wpList_nil ?_
      refine then_n ?_
      exact ⟨k19, (by omega), _, (IntKind.i64.wrap ((IntKind.i64.wrap (x9 - 1)) + ((x1.getD ((x10).toNat) z65).n))), (IntKind.i64.wrap (x10 + 1)), rfl, (by exact e11), (by kernel_rfl), (by kernel_rfl), S37, M⟩
    replace M := ifn q50 M
    refine cond_f rfl (bf q50 (by kernel_rfl)) ?_
    refine wp_skip ?_
    refine inb_n ?_
    refine then_n ?_
    refine wp_region_lit ?_
    refine lv (d := 12) rfl rfl (by kernel_rfl) (e_move (v := .int .i64 x10) (by exact e13)) ?_
    refine lv (d := 13) rfl rfl (by kernel_rfl) (e_add (k := .i64) (a := x10) (b := 1) (by kernel_rfl) rfl) ?_
    refine lv (d := 4) rfl rfl (by kernel_rfl) (e_assign (v := .int .i64 (IntKind.i64.wrap (x10 + 1))) (by kernel_rfl)) ?_
    refine wpList_nil ?_
    refine then_n ?_
    exact ⟨k19, (by omega), _, (IntKind.i64.wrap (x9 - 1)), (IntKind.i64.wrap (x10 + 1)), rfl, (by exact e11), (by kernel_rfl), (by kernel_rfl), S37, M⟩
  replace M := ifn q20 M
  refine cond_f rfl (bf q20 (by kernel_rfl)) ?_
  refine wp_exit ?_
  refine then_e ?_
  refine then_e ?_
  refine inb_hit ?_
  refine then_n ?_
  refine wp_seq ?_
  refine wp_region_lit ?_
  refine lv (d := 39) rfl rfl (by kernel_rfl) (e_move (v := .int .i64 x9) (by exact e12)) ?_
  refine lv (d := 40) rfl rfl (by kernel_rfl) (e_eql (k := .i64) (a := x9) (b := 0) (by kernel_rfl) rfl) ?_
  refine lv (d := 2) rfl rfl (by kernel_rfl) (e_assign (v := .bool (decide (x9 = 0))) (by kernel_rfl)) ?_
  refine wpList_nil ?_
  refine then_n ?_
  refine wp_ret ?_
  obtain rfl := Option.some.inj M
  exact ret1 rfl rfl  (show _ = .bool (decide (x9 = 0)) from (by kernel_rfl)) ⟨rfl, S14.chg⟩

/-! spec_l2next -/
def spec_l2next.l0 : Nat → (List Cell) → Int → Int → Option Int
  | 0, _, _, _ => none
  | k19 + 1, x1, x9, x10 => (if x10 > 0 then (if 0 ≤ x9 then (if x9 < (x1.length : Int) then (if ((x1.getD ((x9).toNat) z65).kind) = 3 then (spec_l2next.l0 k19 x1 (IntKind.i64.wrap (x9 + 1)) (IntKind.i64.wrap ((IntKind.i64.wrap (x10 + ((x1.getD ((x9).toNat) z65).n))) - 1))) else (spec_l2next.l0 k19 x1 (IntKind.i64.wrap (x9 + 1)) (IntKind.i64.wrap (x10 - 1)))) else none) else none) else some x9)
def spec_l2next.f (k : Nat) (x1 : List Cell) (x6 : Int) : Option Int := (spec_l2next.l0 k x1 x6 1)
theorem spec_l2next.calls (k : Nat) (w : World) (H : Hp) (x1 : List Cell) (A2 : Option Addr) (c3 : Nat) (x6 : Int) (h4 : Rd st65 H A2 x1) (l5 : x1.length ≤ c3) (S : Own [] H w) (r : Int) (M : spec_l2next.f k x1 x6 = some r) :
    Calls Try.prog 70 #[.slice A2 x1.length c3, .int .i64 x6] w (fun e e_w => e = .returned (.int .i64 r) ∧ Chg no w e_w) := by
  rw [spec_l2next.f] at M
  refine enter (l := [.slice A2 x1.length c3, .int .i64 x6]) 26 Try.func70 rfl rfl rfl ?_
  have S0_ := S.st
  refine wp_seq ?_
  refine wp_region_lit ?_
  refine lv (d := 4) rfl rfl (by kernel_rfl) (e_assign (v := .int .i64 0) rfl) ?_
  refine wpList_nil ?_
  refine then_n ?_
  refine wp_seq ?_
  refine wp_region_lit ?_
  refine lv (d := 5) rfl rfl (by kernel_rfl) (e_assign (v := .int .i64 1) rfl) ?_
  refine wpList_nil ?_
  refine then_n ?_
  refine wp_seq ?_
  refine wp_block ?_
  refine wp_loop_g (fun k17 a18 w7 => ∃ (f8 : Nat → Value) (x9 : Int) (x10 : Int), a18 = mk 26 f8 ∧ f8 0 = .slice A2 x1.length c3 ∧ f8 1 = .int .i64 x9 ∧ f8 5 = .int .i64 x10 ∧ St (anyOf []) H w [] H w7 ∧ spec_l2next.l0 k17 x1 x9 x10 = some r) k ⟨_, x6, 1, rfl, (by kernel_rfl), (by kernel_rfl), (by kernel_rfl), S0_, M⟩ ?_
  clear M
  rintro k17 a18 w7 ⟨f8, x9, x10, rfl, e11, e12, e13, S14, M⟩
  rcases k17 with _ | k19
  · rw [spec_l2next.l0] at M
    cases M
  rw [spec_l2next.l0] at M
  refine wp_seq ?_
  refine wp_seq ?_
  refine wp_region_lit ?_
  refine lv (d := 6) rfl rfl (by kernel_rfl) (e_move (v := .int .i64 x10) (by exact e13)) ?_
  refine lv (d := 7) rfl rfl (by kernel_rfl) (e_gtr (k := .i64) (a := x10) (b := 0) (by kernel_rfl) rfl) ?_
  refine wpList_nil ?_
  refine then_n ?_
  by_cases q20 : x10 > 0
  · replace M := ifp q20 M
    refine cond_t rfl (bt q20 (by kernel_rfl)) ?_
    refine wp_skip ?_
    refine then_n ?_
    refine wp_block ?_
    refine wp_seq ?_
    refine wp_seq ?_
    refine wp_region_lit ?_
    refine lv (d := 8) rfl rfl (by kernel_rfl) (e_move (v := .slice A2 x1.length c3) (by exact e11)) ?_
    refine lv (d := 9) rfl rfl (by kernel_rfl) (e_move (v := .int .i64 x9) (by exact e12)) ?_
    obtain ⟨q21, M⟩ := chk M
    obtain ⟨q22, M⟩ := chk M
    obtain ⟨b23, o24, e25⟩ := Rd.addr h4 (show (x9).toNat < x1.length by omega)
    obtain ⟨y26, r27, k28⟩ := Rd.at h4 e25 (getD_some z65 (show (x9).toNat < x1.length by omega))
    obtain ⟨A29, c30, rfl, l31, h32⟩ := st65_open r27
    refine lv (d := 10) rfl rfl (by kernel_rfl) (e_indexAddr (b := b23) (off := o24) (n := x1.length) (c := c3) (sz := 3) (i := x9) (k := .i64) Try.underlying25 e25 (by kernel_rfl) (by kernel_rfl) (by kernel_rfl) q21 q22) ?_
    refine lv (d := 11) rfl rfl (by kernel_rfl) (e_fieldAddr (b := b23) (off := o24 + (x9 : Int).toNat * 3) (o := 0) Try.underlying65 rfl rfl (sz := 1) (by kernel_rfl) (by decide) (by kernel_rfl)) ?_
    refine lv (d := 12) rfl rfl (by kernel_rfl) (e_load1 (ad := ⟨b23, o24 + (x9 : Int).toNat * 3 + 0, none⟩) (v := .int .i64 ((x1.getD ((x9).toNat) z65).kind)) Try.underlying3 rfl (by kernel_rfl) (hpx (S14.inv.cell (k28 0 _ rfl)))) ?_
    refine lv (d := 13) rfl rfl (by kernel_rfl) (e_eql (k := .i64) (a := (x1.getD ((x9).toNat) z65).kind) (b := 3) (by kernel_rfl) rfl) ?_
    refine wpList_nil ?_
    refine then_n ?_
    by_cases q33 : ((x1.getD ((x9).toNat) z65).kind) = 3
    · replace M := ifp q33 M
      refine cond_t rfl (bt q33 (by kernel_rfl)) ?_
      refine wp_region_lit ?_
      refine lv (d := 14) rfl rfl (by kernel_rfl) (e_move (v := .int .i64 x10) (by exact e13)) ?_
      refine lv (d := 15) rfl rfl (by kernel_rfl) (e_move (v := .slice A2 x1.length c3) (by exact e11)) ?_
      refine lv (d := 16) rfl rfl (by kernel_rfl) (e_move (v := .int .i64 x9) (by exact e12)) ?_
      obtain ⟨b34, o35, e36⟩ := Rd.addr h4 (show (x9).toNat < x1.length by omega)
      obtain ⟨y37, r38, k39⟩ := Rd.at h4 e36 (getD_some z65 (show (x9).toNat < x1.length by omega))
      obtain ⟨A40, c41, rfl, l42, h43⟩ := st65_open r38
      refine lv (d := 17) rfl rfl (by kernel_rfl) (e_indexAddr (b := b34) (off := o35) (n := x1.length) (c := c3) (sz := 3) (i := x9) (k := .i64) Try.underlying25 e36 (by kernel_rfl) (by kernel_rfl) (by kernel_rfl) q21 q22) ?_
      refine lv (d := 18) rfl rfl (by kernel_rfl) (e_fieldAddr (b := b34) (off := o35 + (x9 : Int).toNat * 3) (o := 1) Try.underlying65 rfl rfl (sz := 1) (by kernel_rfl) (by decide) (by kernel_rfl)) ?_
      refine lv (d := 19) rfl rfl (by kernel_rfl) (e_load1 (ad := ⟨b34, o35 + (x9 : Int).toNat * 3 + 1, none⟩) (v := .int .i64 ((x1.getD ((x9).toNat) z65).n)) Try.underlying3 rfl (by kernel_rfl) (hpx (S14.inv.cell (k39 1 _ rfl)))) ?_
      refine lv (d := 20) rfl rfl (by kernel_rfl) (e_add (k := .i64) (a := x10) (b := (x1.getD ((x9).toNat) z65).n) (by kernel_rfl) (by kernel_rfl)) ?_
      refine lv (d := 5) rfl rfl (by kernel_rfl) (e_assign (v := .int .i64 (IntKind.i64.wrap (x10 + ((x1.getD ((x9).toNat) z65).n)))) (by kernel_rfl)) ?_
      refine wpList_nil ?_
      refine then_n ?_
      refine wp_seq ?_
      refine wp_region_lit ?_
      refine lv (d := 21) rfl rfl (by kernel_rfl) (e_move (v := .int .i64 (IntKind.i64.wrap (x10 + ((x1.getD ((x9).toNat) z65).n)))) (by kernel_rfl)) ?_
      refine lv (d := 22) rfl rfl (by kernel_rfl) (e_sub (k := .i64) (a := (IntKind.i64.wrap (x10 + ((x1.getD ((x9).toNat) z65).n)))) (b := 1) (by kernel_rfl) rfl) ?_
      refine lv (d := 5) rfl rfl (by kernel_rfl) (e_assign (v := .int .i64 (IntKind.i64.wrap ((IntKind.i64.wrap (x10 + ((x1.getD ((x9).toNat) z65).n))) - 1))) (by kernel_rfl)) ?_
      refine wpList_nil ?_
      refine then_n ?_
      refine wp_region_lit ?_
      refine lv (d := 23) rfl rfl (by kernel_rfl) (e_move (v := .int .i64 x9) (by exact e12)) ?_
      refine lv (d := 24) rfl rfl (by kernel_rfl) (e_add (k := .i64) (a := x9) (b := 1) (by kernel_rfl) rfl) ?_
      refine lv (d := 1) rfl rfl (by kernel_rfl) (e_assign (v := .int .i64 (IntKind.i64.wrap (x9 + 1))) (by kernel_rfl)) ?_
      refine wpList_nil ?_
      refine inb_n ?_
      refine then_n ?_
      exact ⟨k19, (by omega), _, (IntKind.i64.wrap (x9 + 1)), (IntKind.i64.wrap ((IntKind.i64.wrap (x10 + ((x1.getD ((x9).toNat) z65).n))) - 1)), rfl, (by exact e11), (by kernel_rfl), (by kernel_rfl), S14, M⟩
    replace M := ifn q33 M
    refine cond_f rfl (bf q33 (by kernel_rfl)) ?_
    refine wp_skip ?_
    refine then_n ?_
    refine wp_seq ?_
    refine wp_region_lit ?_
    refine lv (d := 21) rfl rfl (by kernel_rfl) (e_move (v := .int .i64 x10) (by exact e13)) ?_
    refine lv (d := 22) rfl rfl (by kernel_rfl) (e_sub (k := .i64) (a := x10) (b := 1) (by kernel_rfl) rfl) ?_
    refine lv (d := 5) rfl rfl (by kernel_rfl) (e_assign (v := .int .i64 (IntKind.i64.wrap (x10 - 1))) (by kernel_rfl)) ?_
    refine wpList_nil ?_
    refine then_n ?_
    refine wp_region_lit ?_
    refine lv (d := 23) rfl rfl (by kernel_rfl) (e_move (v := .int .i64 x9) (by exact e12)) ?_
    refine lv (d := 24) rfl rfl (by kernel_rfl) (e_add (k := .i64) (a := x9) (b := 1) (by kernel_rfl) rfl) ?_
    refine lv (d := 1) rfl rfl (by kernel_rfl) (e_assign (v := .int .i64 (IntKind.i64.wrap (x9 + 1))) (by kernel_rfl)) ?_
    refine wpList_nil ?_
    refine inb_n ?_
    refine then_n ?_
    exact ⟨k19, (by omega), _, (IntKind.i64.wrap (x9 + 1)), (IntKind.i64.wrap (x10 - 1)), rfl, (by exact e11), (by kernel_rfl), (by kernel_rfl), S14, M⟩
  replace M := ifn q20 M
  refine cond_f rfl (bf q20 (by kernel_rfl)) ?_
  refine wp_exit ?_
  refine then_e ?_
  refine then_e ?_
  refine inb_hit ?_
  refine then_n ?_
  refine wp_seq ?_
  refine wp_region_lit ?_
  refine lv (d := 25) rfl rfl (by kernel_rfl) (e_move (v := .int .i64 x9) (by exact e12)) ?_
  refine lv (d := 4) rfl rfl (by kernel_rfl) (e_assign (v := .int .i64 x9) (by kernel_rfl)) ?_
  refine wpList_nil ?_
  refine then_n ?_
  refine wp_ret ?_
  obtain rfl := Option.some.inj M
  exact ret1 rfl rfl  (show _ = .int .i64 x9 from (by kernel_rfl)) ⟨rfl, S14.chg⟩

/-! spec_l2find -/
def spec_l2find.l0 : Nat → (List Int) → Int → Int → Option Int
  | 0, _, _, _ => none
  | k18 + 1, x1, x6, x9 => (if x9 < (x1.length : Int) then (if 0 ≤ x9 then (if (x1.getD ((x9).toNat) (0 : Int)) = x6 then some x9 else (spec_l2find.l0 k18 x1 x6 (IntKind.i64.wrap (x9 + 1)))) else none) else some (-1))
def spec_l2find.f (k : Nat) (x1 : List Int) (x6 : Int) : Option Int := (spec_l2find.l0 k x1 x6 0)
theorem spec_l2find.calls (k : Nat) (w : World) (H : Hp) (x1 : List Int) (A2 : Option Addr) (c3 : Nat) (x6 : Int) (h4 : Rd tInt H A2 x1) (l5 : x1.length ≤ c3) (S : Own [] H w) (r : Int) (M : spec_l2find.f k x1 x6 = some r) :
    Calls Try.prog 71 #[.slice A2 x1.length c3, .int .i64 x6] w (fun e e_w => e = .returned (.int .i64 r) ∧ Chg no w e_w) := by
  rw [spec_l2find.f] at M
  refine enter (l := [.slice A2 x1.length c3, .int .i64 x6]) 19 Try.func71 rfl rfl rfl ?_
  have S0_ := S.st
  refine wp_seq ?_
  refine wp_region_lit ?_
  refine lv (d := 4) rfl rfl (by kernel_rfl) (e_assign (v := .int .i64 0) rfl) ?_
  refine wpList_nil ?_
  refine then_n ?_
  refine wp_seq ?_
  refine wp_seq ?_
  refine wp_region_lit ?_
  refine lv (d := 5) rfl rfl (by kernel_rfl) (e_assign (v := .int .i64 0) rfl) ?_
  refine wpList_nil ?_
  refine then_n ?_
  refine wp_block ?_
  refine wp_loop_g (fun k16 a17 w7 => ∃ (f8 : Nat → Value) (x9 : Int), a17 = mk 19 f8 ∧ f8 0 = .slice A2 x1.length c3 ∧ f8 1 = .int .i64 x6 ∧ f8 5 = .int .i64 x9 ∧ St (anyOf []) H w [] H w7 ∧ spec_l2find.l0 k16 x1 x6 x9 = some r) k ⟨_, 0, rfl, (by kernel_rfl), (by kernel_rfl), (by kernel_rfl), S0_, M⟩ ?_
  clear M
  rintro k16 a17 w7 ⟨f8, x9, rfl, e10, e11, e12, S13, M⟩
  rcases k16 with _ | k18
  · rw [spec_l2find.l0] at M
    cases M
  rw [spec_l2find.l0] at M
  refine wp_seq ?_
  refine wp_seq ?_
  refine wp_region_lit ?_
  refine lv (d := 6) rfl rfl (by kernel_rfl) (e_move (v := .int .i64 x9) (by exact e12)) ?_
  refine lv (d := 7) rfl rfl (by kernel_rfl) (e_move (v := .slice A2 x1.length c3) (by exact e10)) ?_
  refine lv (d := 8) rfl rfl (by kernel_rfl) (e_len (A := A2) (n := x1.length) (c := c3) Try.underlying32 (by kernel_rfl)) ?_
  refine lv (d := 9) rfl rfl (by kernel_rfl) (e_lss (k := .i64) (a := x9) (b := (x1.length : Int)) (by kernel_rfl) (by kernel_rfl)) ?_
  refine wpList_nil ?_
  refine then_n ?_
  by_cases q19 : x9 < (x1.length : Int)
  · replace M := ifp q19 M
    refine cond_t rfl (bt q19 (by kernel_rfl)) ?_
    refine wp_skip ?_
    refine then_n ?_
    refine wp_seq ?_
    refine wp_block ?_
    refine wp_seq ?_
    refine wp_region_lit ?_
    refine lv (d := 12) rfl rfl (by kernel_rfl) (e_move (v := .slice A2 x1.length c3) (by exact e10)) ?_
    refine lv (d := 13) rfl rfl (by kernel_rfl) (e_move (v := .int .i64 x9) (by exact e12)) ?_
    obtain ⟨q20, M⟩ := chk M
    obtain ⟨b21, o22, e23⟩ := Rd.addr h4 (show (x9).toNat < x1.length by omega)
    obtain ⟨y24, r25, k26⟩ := Rd.at h4 e23 (getD_some (0 : Int) (show (x9).toNat < x1.length by omega))
    obtain rfl := r25
    refine lv (d := 14) rfl rfl (by kernel_rfl) (e_indexAddr (b := b21) (off := o22) (n := x1.length) (c := c3) (sz := 1) (i := x9) (k := .i64) Try.underlying32 e23 (by kernel_rfl) (by kernel_rfl) (by kernel_rfl) q20 q19) ?_
    refine lv (d := 15) rfl rfl (by kernel_rfl) (e_load1 (ad := ⟨b21, o22 + (x9 : Int).toNat * 1, none⟩) (v := .int .i64 (x1.getD ((x9).toNat) (0 : Int))) Try.underlying3 rfl (by kernel_rfl) (hpx (S13.inv.cell (k26 0 _ rfl)))) ?_
    refine lv (d := 16) rfl rfl (by kernel_rfl) (e_move (v := .int .i64 x6) (by exact e11)) ?_
    refine lv (d := 17) rfl rfl (by kernel_rfl) (e_eql (k := .i64) (a := (x1.getD ((x9).toNat) (0 : Int))) (b := x6) (by kernel_rfl) (by kernel_rfl)) ?_
    refine wpList_nil ?_
    refine then_n ?_
    by_cases q27 : (x1.getD ((x9).toNat) (0 : Int)) = x6
    · replace M := ifp q27 M
      refine cond_t rfl (bt q27 (by kernel_rfl)) ?_
      refine wp_seq ?_
      refine wp_region_lit ?_
      refine lv (d := 18) rfl rfl (by kernel_rfl) (e_move (v := .int .i64 x9) (by exact e12)) ?_
      refine lv (d := 4) rfl rfl (by kernel_rfl) (e_assign (v := .int .i64 x9) (by kernel_rfl)) ?_
      refine wpList_nil ?_
      refine then_n ?_
      refine wp_ret ?_
      refine inb_r ?_
      refine then_r ?_
      refine then_r ?_
      refine inb_r ?_
      refine then_r ?_
      obtain rfl := Option.some.inj M
      exact ret1 rfl rfl  (show _ = .int .i64 x9 from (by kernel_rfl)) ⟨rfl, S13.chg⟩
    replace M := ifn q27 M
    refine cond_f rfl (bf q27 (by kernel_rfl)) ?_
    refine wp_skip ?_
    refine inb_n ?_
    refine then_n ?_
    refine wp_region_lit ?_
    refine lv (d := 10) rfl rfl (by kernel_rfl) (e_move (v := .int .i64 x9) (by exact e12)) ?_
    refine lv (d := 11) rfl rfl (by kernel_rfl) (e_add (k := .i64) (a := x9) (b := 1) (by kernel_rfl) rfl) ?_
    refine lv (d := 5) rfl rfl (by kernel_rfl) (e_assign (v := .int .i64 (IntKind.i64.wrap (x9 + 1))) (by kernel_rfl)) ?_
    refine wpList_nil ?_
    refine then_n ?_
    exact ⟨k18, (by omega), _, (IntKind.i64.wrap (x9 + 1)), rfl, (by exact e10), (by exact e11), (by kernel_rfl), S13, M⟩
  replace M := ifn q19 M
  refine cond_f rfl (bf q19 (by kernel_rfl)) ?_
  refine wp_exit ?_
  refine then_e ?_
  refine then_e ?_
  refine inb_hit ?_
  refine then_n ?_
  refine wp_seq ?_
  refine wp_region_lit ?_
  refine lv (d := 4) rfl rfl (by kernel_rfl) (e_assign (v := .int .i64 (-1)) rfl) ?_
  refine wpList_nil ?_
  refine then_n ?_
  refine wp_ret ?_
  obtain rfl := Option.some.inj M
  exact ret1 rfl rfl  (show _ = .int .i64 (-1) from (by kernel_rfl)) ⟨rfl, S13.chg⟩

/-! spec_l2sign -/
def sl65 : Ty (List Cell) := slice 65 st65 (by decide)
def spec_l2sign.f (x1 : Bool) : Option Int := (if x1 = true then some (-1) else some 1)
theorem spec_l2sign.calls (w : World) (H : Hp) (x1 : Bool) (S : Own [] H w) (r : Int) (M : spec_l2sign.f x1 = some r) :
    Calls Try.prog 105 #[.bool x1] w (fun e e_w => e = .returned (.int .i64 r) ∧ Chg no w e_w) := by
  rw [spec_l2sign.f] at M
  refine enter (l := [.bool x1]) 4 Try.func105 rfl rfl rfl ?_
  have S0_ := S.st
  refine wp_seq ?_
  refine wp_region_lit ?_
  refine lv (d := 2) rfl rfl (by kernel_rfl) (e_assign (v := .int .i64 0) rfl) ?_
  refine wpList_nil ?_
  refine then_n ?_
  refine wp_seq ?_
  refine wp_seq ?_
  refine wp_region_lit ?_
  refine lv (d := 3) rfl rfl (by kernel_rfl) (e_move (v := .bool x1) (by kernel_rfl)) ?_
  refine wpList_nil ?_
  refine then_n ?_
  by_cases q2 : x1 = true
  · replace M := ifp q2 M
    refine cond_t rfl (bvt q2 (by kernel_rfl)) ?_
    refine wp_seq ?_
    refine wp_region_lit ?_
    refine lv (d := 2) rfl rfl (by kernel_rfl) (e_assign (v := .int .i64 (-1)) rfl) ?_
    refine wpList_nil ?_
    refine then_n ?_
    refine wp_ret ?_
    refine then_r ?_
    obtain rfl := Option.some.inj M
    exact ret1 rfl rfl  (show _ = .int .i64 (-1) from (by kernel_rfl)) ⟨rfl, S0_.chg⟩
  replace M := ifn q2 M
  refine cond_f rfl (bvf q2 (by kernel_rfl)) ?_
  refine wp_skip ?_
  refine then_n ?_
  refine wp_seq ?_
  refine wp_region_lit ?_
  refine lv (d := 2) rfl rfl (by kernel_rfl) (e_assign (v := .int .i64 1) rfl) ?_
  refine wpList_nil ?_
  refine then_n ?_
  refine wp_ret ?_
  obtain rfl := Option.some.inj M
  exact ret1 rfl rfl  (show _ = .int .i64 1 from (by kernel_rfl)) ⟨rfl, S0_.chg⟩

/-! spec_l2compare -/
def spec_l2compare.l0 : Nat → (List Cell) → (List Cell) → Int → Option Int
  | 0, _, _, _ => none
  | k22 + 1, x1, x6, x13 => (if x13 < (x1.length : Int) then (if x13 < (x6.length : Int) then (if 0 ≤ x13 then (if ((x1.getD ((x13).toNat) z65).kind) ≠ ((x6.getD ((x13).toNat) z65).kind) then ((spec_l2sign.f (decide (((x1.getD ((x13).toNat) z65).kind) < ((x6.getD ((x13).toNat) z65).kind)))).bind fun t65 => some t65) else (if ((x1.getD ((x13).toNat) z65).n) ≠ ((x6.getD ((x13).toNat) z65).n) then ((spec_l2sign.f (decide (((x1.getD ((x13).toNat) z65).n) < ((x6.getD ((x13).toNat) z65).n)))).bind fun t72 => some t72) else (if (x1.getD ((x13).toNat) z65).text ≠ (x6.getD ((x13).toNat) z65).text then ((spec_l2sign.f (Op.bytesLess ((x1.getD ((x13).toNat) z65).text) ((x6.getD ((x13).toNat) z65).text))).bind fun t79 => some t79) else (spec_l2compare.l0 k22 x1 x6 (IntKind.i64.wrap (x13 + 1)))))) else none) else some 0) else some 0)
def spec_l2compare.f (k : Nat) (x1 : List Cell) (x6 : List Cell) : Option Int := (spec_l2compare.l0 k x1 x6 0)
theorem spec_l2compare.calls (k : Nat) (w : World) (H : Hp) (x1 : List Cell) (A2 : Option Addr) (c3 : Nat) (x6 : List Cell) (A7 : Option Addr) (c8 : Nat) (h4 : Rd st65 H A2 x1) (l5 : x1.length ≤ c3) (h9 : Rd st65 H A7 x6) (l10 : x6.length ≤ c8) (S : Own [] H w) (r : Int) (M : spec_l2compare.f k x1 x6 = some r) :
    Calls Try.prog 60 #[.slice A2 x1.length c3, .slice A7 x6.length c8] w (fun e e_w => e = .returned (.int .i64 r) ∧ Chg no w e_w) := by
  rw [spec_l2compare.f] at M
  refine enter (l := [.slice A2 x1.length c3, .slice A7 x6.length c8]) 65 Try.func60 rfl rfl rfl ?_
  have S0_ := S.st
  refine wp_seq ?_
  refine wp_region_lit ?_
  refine lv (d := 4) rfl rfl (by kernel_rfl) (e_assign (v := .int .i64 0) rfl) ?_
  refine wpList_nil ?_
  refine then_n ?_
  refine wp_seq ?_
  refine wp_seq ?_
  refine wp_region_lit ?_
  refine lv (d := 5) rfl rfl (by kernel_rfl) (e_assign (v := .int .i64 0) rfl) ?_
  refine wpList_nil ?_
  refine then_n ?_
  refine wp_block ?_
  refine wp_loop_g (fun k20 a21 w11 => ∃ (f12 : Nat → Value) (x13 : Int), a21 = mk 65 f12 ∧ f12 0 = .slice A2 x1.length c3 ∧ f12 1 = .slice A7 x6.length c8 ∧ f12 5 = .int .i64 x13 ∧ St (anyOf []) H w [] H w11 ∧ spec_l2compare.l0 k20 x1 x6 x13 = some r) k ⟨_, 0, rfl, (by kernel_rfl), (by kernel_rfl), (by kernel_rfl), S0_, M⟩ ?_
  clear M
  rintro k20 a21 w11 ⟨f12, x13, rfl, e14, e15, e16, S17, M⟩
  rcases k20 with _ | k22
  · rw [spec_l2compare.l0] at M
    cases M
  rw [spec_l2compare.l0] at M
  refine wp_seq ?_
  refine wp_seq ?_
  refine wp_region_lit ?_
  refine lv (d := 8) rfl rfl (by kernel_rfl) (e_move (v := .int .i64 x13) (by exact e16)) ?_
  refine lv (d := 9) rfl rfl (by kernel_rfl) (e_move (v := .slice A2 x1.length c3) (by exact e14)) ?_
  refine lv (d := 10) rfl rfl (by kernel_rfl) (e_len (A := A2) (n := x1.length) (c := c3) Try.underlying25 (by kernel_rfl)) ?_
  refine lv (d := 11) rfl rfl (by kernel_rfl) (e_lss (k := .i64) (a := x13) (b := (x1.length : Int)) (by kernel_rfl) (by kernel_rfl)) ?_
  refine lv (d := 12) rfl rfl (by kernel_rfl) (e_move (v := .bool (decide (x13 < (x1.length : Int)))) (by kernel_rfl)) ?_
  by_cases q23 : x13 < (x1.length : Int)
  · replace M := ifp q23 M
    refine lvg (d := 13) (t := 12) rfl (by kernel_rfl) rfl (bt q23 (by kernel_rfl)) rfl (by kernel_rfl) (e_move (v := .int .i64 x13) (by exact e16)) ?_
    refine lvg (d := 14) (t := 12) rfl (by kernel_rfl) rfl (bt q23 (by kernel_rfl)) rfl (by kernel_rfl) (e_move (v := .slice A7 x6.length c8) (by exact e15)) ?_
    refine lvg (d := 15) (t := 12) rfl (by kernel_rfl) rfl (bt q23 (by kernel_rfl)) rfl (by kernel_rfl) (e_len (A := A7) (n := x6.length) (c := c8) Try.underlying25 (by kernel_rfl)) ?_
    refine lvg (d := 16) (t := 12) rfl (by kernel_rfl) rfl (bt q23 (by kernel_rfl)) rfl (by kernel_rfl) (e_lss (k := .i64) (a := x13) (b := (x6.length : Int)) (by kernel_rfl) (by kernel_rfl)) ?_
    refine lv (d := 17) rfl rfl (by kernel_rfl) (e_pick_t (v := .bool (decide (x13 < (x6.length : Int)))) (bt q23 (by kernel_rfl)) (by kernel_rfl)) ?_
    refine wpList_nil ?_
    refine then_n ?_
    by_cases q24 : x13 < (x6.length : Int)
    · replace M := ifp q24 M
      refine cond_t rfl (bt q24 (by kernel_rfl)) ?_
      refine wp_skip ?_
      refine then_n ?_
      refine wp_seq ?_
      refine wp_block ?_
      refine wp_seq ?_
      refine wp_region_lit ?_
      refine lv (d := 20) rfl rfl (by kernel_rfl) (e_move (v := .slice A2 x1.length c3) (by exact e14)) ?_
      refine lv (d := 21) rfl rfl (by kernel_rfl) (e_move (v := .int .i64 x13) (by exact e16)) ?_
      obtain ⟨q25, M⟩ := chk M
      obtain ⟨b26, o27, e28⟩ := Rd.addr h4 (show (x13).toNat < x1.length by omega)
      obtain ⟨y29, r30, k31⟩ := Rd.at h4 e28 (getD_some z65 (show (x13).toNat < x1.length by omega))
      obtain ⟨A32, c33, rfl, l34, h35⟩ := st65_open r30
      refine lv (d := 22) rfl rfl (by kernel_rfl) (e_indexAddr (b := b26) (off := o27) (n := x1.length) (c := c3) (sz := 3) (i := x13) (k := .i64) Try.underlying25 e28 (by kernel_rfl) (by kernel_rfl) (by kernel_rfl) q25 q23) ?_
      refine lv (d := 23) rfl rfl (by kernel_rfl) (e_loadS (b := b26) (off := o27 + (x13 : Int).toNat * 3) (cs := [.int .i64 ((x1.getD ((x13).toNat) z65).kind), .int .i64 ((x1.getD ((x13).toNat) z65).n), .slice A32 ((x1.getD ((x13).toNat) z65).text).length c33]) Try.underlying65 rfl (by kernel_rfl) (by kernel_rfl) (fun j_ u_ e_ => (hpx (S17.inv.cell (k31 j_ u_ e_))))) ?_
      refine lve (d := 6) rfl rfl (by kernel_rfl) (new_blk (v := fun g_ => .pointer (some ⟨g_, 0, none⟩)) (cs := #[.int .i64 0, .int .i64 0, .slice none 0 0]) (t := 65) S17 (by kernel_rfl)) ?_
      rintro _ w36 ⟨g37, rfl, b38, S39, K40⟩
      refine lse rfl rfl (by kernel_rfl) (e_store (g := g37) (o := 0) (v := .agg #[.int .i64 ((x1.getD ((x13).toNat) z65).kind), .int .i64 ((x1.getD ((x13).toNat) z65).n), .slice A32 ((x1.getD ((x13).toNat) z65).text).length c33]) (cur' := #[.int .i64 ((x1.getD ((x13).toNat) z65).kind), .int .i64 ((x1.getD ((x13).toNat) z65).n), .slice A32 ((x1.getD ((x13).toNat) z65).text).length c33]) (vs := [.int .i64 ((x1.getD ((x13).toNat) z65).kind), .int .i64 ((x1.getD ((x13).toNat) z65).n), .slice A32 ((x1.getD ((x13).toNat) z65).text).length c33]) S39 (by kernel_rfl) (by kernel_rfl) rfl (by kernel_rfl) b38 (Nat.le_of_ble_eq_true rfl) (List.forall_mem_cons.2 ⟨rfl, (List.forall_mem_cons.2 ⟨rfl, (List.forall_mem_cons.2 ⟨rfl, (fun _ h_ => by cases h_)⟩)⟩)⟩) rfl) ?_
      rintro w41 ⟨b42, S43, K44⟩
      clear b38
      refine wpList_nil ?_
      refine then_n ?_
      refine wp_seq ?_
      refine wp_region_lit ?_
      refine lv (d := 24) rfl rfl (by kernel_rfl) (e_move (v := .slice A7 x6.length c8) (by exact e15)) ?_
      refine lv (d := 25) rfl rfl (by kernel_rfl) (e_move (v := .int .i64 x13) (by exact e16)) ?_
      obtain ⟨b45, o46, e47⟩ := Rd.addr h9 (show (x13).toNat < x6.length by omega)
      obtain ⟨y48, r49, k50⟩ := Rd.at h9 e47 (getD_some z65 (show (x13).toNat < x6.length by omega))
      obtain ⟨A51, c52, rfl, l53, h54⟩ := st65_open r49
      refine lv (d := 26) rfl rfl (by kernel_rfl) (e_indexAddr (b := b45) (off := o46) (n := x6.length) (c := c8) (sz := 3) (i := x13) (k := .i64) Try.underlying25 e47 (by kernel_rfl) (by kernel_rfl) (by kernel_rfl) q25 q24) ?_
      refine lv (d := 27) rfl rfl (by kernel_rfl) (e_loadS (b := b45) (off := o46 + (x13 : Int).toNat * 3) (cs := [.int .i64 ((x6.getD ((x13).toNat) z65).kind), .int .i64 ((x6.getD ((x13).toNat) z65).n), .slice A51 ((x6.getD ((x13).toNat) z65).text).length c52]) Try.underlying65 rfl (by kernel_rfl) (by kernel_rfl) (fun j_ u_ e_ => (hpx (S43.inv.cell (k50 j_ u_ e_))))) ?_
      refine lve (d := 7) rfl rfl (by kernel_rfl) (new_blk (v := fun g_ => .pointer (some ⟨g_, 0, none⟩)) (cs := #[.int .i64 0, .int .i64 0, .slice none 0 0]) (t := 65) S43 (by kernel_rfl)) ?_
      rintro _ w55 ⟨g56, rfl, b57, S58, K59⟩
      replace b42 := K59.blk 0 rfl b42
      refine lse rfl rfl (by kernel_rfl) (e_store (g := g56) (o := 0) (v := .agg #[.int .i64 ((x6.getD ((x13).toNat) z65).kind), .int .i64 ((x6.getD ((x13).toNat) z65).n), .slice A51 ((x6.getD ((x13).toNat) z65).text).length c52]) (cur' := #[.int .i64 ((x6.getD ((x13).toNat) z65).kind), .int .i64 ((x6.getD ((x13).toNat) z65).n), .slice A51 ((x6.getD ((x13).toNat) z65).text).length c52]) (vs := [.int .i64 ((x6.getD ((x13).toNat) z65).kind), .int .i64 ((x6.getD ((x13).toNat) z65).n), .slice A51 ((x6.getD ((x13).toNat) z65).text).length c52]) S58 (by kernel_rfl) (by kernel_rfl) rfl (by kernel_rfl) b57 (Nat.le_of_ble_eq_true rfl) (List.forall_mem_cons.2 ⟨rfl, (List.forall_mem_cons.2 ⟨rfl, (List.forall_mem_cons.2 ⟨rfl, (fun _ h_ => by cases h_)⟩)⟩)⟩) rfl) ?_
      rintro w60 ⟨b61, S62, K63⟩
      replace b42 := K63.blk 0 rfl b42
      clear b57
      refine wpList_nil ?_
      refine then_n ?_
      refine wp_seq ?_
      refine wp_seq ?_
      refine wp_region_lit ?_
      refine lv (d := 28) rfl rfl (by kernel_rfl) (e_fieldAddr (b := g37) (off := 0) (o := 0) Try.underlying65 rfl rfl (sz := 1) (by kernel_rfl) (by decide) (by kernel_rfl)) ?_
      refine lv (d := 29) rfl rfl (by kernel_rfl) (e_load1 (ad := ⟨g37, 0 + 0, none⟩) (v := .int .i64 ((x1.getD ((x13).toNat) z65).kind)) Try.underlying3 rfl (by kernel_rfl) (blk_cell b42 rfl)) ?_
      refine lv (d := 30) rfl rfl (by kernel_rfl) (e_fieldAddr (b := g56) (off := 0) (o := 0) Try.underlying65 rfl rfl (sz := 1) (by kernel_rfl) (by decide) (by kernel_rfl)) ?_
      refine lv (d := 31) rfl rfl (by kernel_rfl) (e_load1 (ad := ⟨g56, 0 + 0, none⟩) (v := .int .i64 ((x6.getD ((x13).toNat) z65).kind)) Try.underlying3 rfl (by kernel_rfl) (blk_cell b61 rfl)) ?_
      refine lv (d := 32) rfl rfl (by kernel_rfl) (e_neq (k := .i64) (a := (x1.getD ((x13).toNat) z65).kind) (b := (x6.getD ((x13).toNat) z65).kind) (by kernel_rfl) (by kernel_rfl)) ?_
      refine wpList_nil ?_
      refine then_n ?_
      by_cases q64 : ((x1.getD ((x13).toNat) z65).kind) ≠ ((x6.getD ((x13).toNat) z65).kind)
      · replace M := ifp q64 M
        refine cond_t rfl (bt q64 (by kernel_rfl)) ?_
        refine wp_seq ?_
        refine wp_region_lit ?_
        refine lv (d := 33) rfl rfl (by kernel_rfl) (e_fieldAddr (b := g37) (off := 0) (o := 0) Try.underlying65 rfl rfl (sz := 1) (by kernel_rfl) (by decide) (by kernel_rfl)) ?_
        refine lv (d := 34) rfl rfl (by kernel_rfl) (e_load1 (ad := ⟨g37, 0 + 0, none⟩) (v := .int .i64 ((x1.getD ((x13).toNat) z65).kind)) Try.underlying3 rfl (by kernel_rfl) (blk_cell b42 rfl)) ?_
        refine lv (d := 35) rfl rfl (by kernel_rfl) (e_fieldAddr (b := g56) (off := 0) (o := 0) Try.underlying65 rfl rfl (sz := 1) (by kernel_rfl) (by decide) (by kernel_rfl)) ?_
        refine lv (d := 36) rfl rfl (by kernel_rfl) (e_load1 (ad := ⟨g56, 0 + 0, none⟩) (v := .int .i64 ((x6.getD ((x13).toNat) z65).kind)) Try.underlying3 rfl (by kernel_rfl) (blk_cell b61 rfl)) ?_
        refine lv (d := 37) rfl rfl (by kernel_rfl) (e_lss (k := .i64) (a := (x1.getD ((x13).toNat) z65).kind) (b := (x6.getD ((x13).toNat) z65).kind) (by kernel_rfl) (by kernel_rfl)) ?_
        obtain ⟨t65, u66, M⟩ := bnd M
        refine lcall (d := 38) rfl rfl (by kernel_rfl) (e_call (l := [.tmp 37]) (vs := [.bool (decide (((x1.getD ((x13).toNat) z65).kind) < ((x6.getD ((x13).toNat) z65).kind)))]) Try.func105 (by kernel_rfl) rfl (by kernel_rfl) rfl) (spec_l2sign.calls w60 H (decide (((x1.getD ((x13).toNat) z65).kind) < ((x6.getD ((x13).toNat) z65).kind)))  S62.own0 t65 u66) ?_
        rintro _ w67 ⟨rfl, C68⟩
        refine ⟨_, rfl, ?_⟩
        obtain ⟨S69, K70⟩ := S62.still C68
        replace b61 := K70.blk 0 rfl b61
        replace b42 := K70.blk 1 rfl b42
        refine lv (d := 4) rfl rfl (by kernel_rfl) (e_assign (v := .int .i64 t65) (by kernel_rfl)) ?_
        refine wpList_nil ?_
        refine then_n ?_
        refine wp_ret ?_
        refine then_r ?_
        refine inb_r ?_
        refine then_r ?_
        refine then_r ?_
        refine inb_r ?_
        refine then_r ?_
        obtain rfl := Option.some.inj M
        exact ret1 rfl rfl  (show _ = .int .i64 t65 from (by kernel_rfl)) ⟨rfl, S69.chg⟩
      replace M := ifn q64 M
      refine cond_f rfl (bf q64 (by kernel_rfl)) ?_
      refine wp_skip ?_
      refine then_n ?_
      refine wp_seq ?_
      refine wp_seq ?_
      refine wp_region_lit ?_
      refine lv (d := 39) rfl rfl (by kernel_rfl) (e_fieldAddr (b := g37) (off := 0) (o := 1) Try.underlying65 rfl rfl (sz := 1) (by kernel_rfl) (by decide) (by kernel_rfl)) ?_
      refine lv (d := 40) rfl rfl (by kernel_rfl) (e_load1 (ad := ⟨g37, 0 + 1, none⟩) (v := .int .i64 ((x1.getD ((x13).toNat) z65).n)) Try.underlying3 rfl (by kernel_rfl) (blk_cell b42 rfl)) ?_
      refine lv (d := 41) rfl rfl (by kernel_rfl) (e_fieldAddr (b := g56) (off := 0) (o := 1) Try.underlying65 rfl rfl (sz := 1) (by kernel_rfl) (by decide) (by kernel_rfl)) ?_
      refine lv (d := 42) rfl rfl (by kernel_rfl) (e_load1 (ad := ⟨g56, 0 + 1, none⟩) (v := .int .i64 ((x6.getD ((x13).toNat) z65).n)) Try.underlying3 rfl (by kernel_rfl) (blk_cell b61 rfl)) ?_
      refine lv (d := 43) rfl rfl (by kernel_rfl) (e_neq (k := .i64) (a := (x1.getD ((x13).toNat) z65).n) (b := (x6.getD ((x13).toNat) z65).n) (by kernel_rfl) (by kernel_rfl)) ?_
      refine wpList_nil ?_
      refine then_n ?_
      by_cases q71 : ((x1.getD ((x13).toNat) z65).n) ≠ ((x6.getD ((x13).toNat) z65).n)
      · replace M := ifp q71 M
        refine cond_t rfl (bt q71 (by kernel_rfl)) ?_
        refine wp_seq ?_
        refine wp_region_lit ?_
        refine lv (d := 44) rfl rfl (by kernel_rfl) (e_fieldAddr (b := g37) (off := 0) (o := 1) Try.underlying65 rfl rfl (sz := 1) (by kernel_rfl) (by decide) (by kernel_rfl)) ?_
        refine lv (d := 45) rfl rfl (by kernel_rfl) (e_load1 (ad := ⟨g37, 0 + 1, none⟩) (v := .int .i64 ((x1.getD ((x13).toNat) z65).n)) Try.underlying3 rfl (by kernel_rfl) (blk_cell b42 rfl)) ?_
        refine lv (d := 46) rfl rfl (by kernel_rfl) (e_fieldAddr (b := g56) (off := 0) (o := 1) Try.underlying65 rfl rfl (sz := 1) (by kernel_rfl) (by decide) (by kernel_rfl)) ?_
        refine lv (d := 47) rfl rfl (by kernel_rfl) (e_load1 (ad := ⟨g56, 0 + 1, none⟩) (v := .int .i64 ((x6.getD ((x13).toNat) z65).n)) Try.underlying3 rfl (by kernel_rfl) (blk_cell b61 rfl)) ?_
        refine lv (d := 48) rfl rfl (by kernel_rfl) (e_lss (k := .i64) (a := (x1.getD ((x13).toNat) z65).n) (b := (x6.getD ((x13).toNat) z65).n) (by kernel_rfl) (by kernel_rfl)) ?_
        obtain ⟨t72, u73, M⟩ := bnd M
        refine lcall (d := 49) rfl rfl (by kernel_rfl) (e_call (l := [.tmp 48]) (vs := [.bool (decide (((x1.getD ((x13).toNat) z65).n) < ((x6.getD ((x13).toNat) z65).n)))]) Try.func105 (by kernel_rfl) rfl (by kernel_rfl) rfl) (spec_l2sign.calls w60 H (decide (((x1.getD ((x13).toNat) z65).n) < ((x6.getD ((x13).toNat) z65).n)))  S62.own0 t72 u73) ?_
        rintro _ w74 ⟨rfl, C75⟩
        refine ⟨_, rfl, ?_⟩
        obtain ⟨S76, K77⟩ := S62.still C75
        replace b61 := K77.blk 0 rfl b61
        replace b42 := K77.blk 1 rfl b42
        refine lv (d := 4) rfl rfl (by kernel_rfl) (e_assign (v := .int .i64 t72) (by kernel_rfl)) ?_
        refine wpList_nil ?_
        refine then_n ?_
        refine wp_ret ?_
        refine then_r ?_
        refine inb_r ?_
        refine then_r ?_
        refine then_r ?_
        refine inb_r ?_
        refine then_r ?_
        obtain rfl := Option.some.inj M
        exact ret1 rfl rfl  (show _ = .int .i64 t72 from (by kernel_rfl)) ⟨rfl, S76.chg⟩
      replace M := ifn q71 M
      refine cond_f rfl (bf q71 (by kernel_rfl)) ?_
      refine wp_skip ?_
      refine then_n ?_
      refine wp_seq ?_
      refine wp_region_lit ?_
      refine lv (d := 50) rfl rfl (by kernel_rfl) (e_fieldAddr (b := g37) (off := 0) (o := 2) Try.underlying65 rfl rfl (sz := 1) (by kernel_rfl) (by decide) (by kernel_rfl)) ?_
      refine lv (d := 51) rfl rfl (by kernel_rfl) (e_load1 (ad := ⟨g37, 0 + 2, none⟩) (v := .slice A32 ((x1.getD ((x13).toNat) z65).text).length c33) Try.underlying59 rfl (by kernel_rfl) (blk_cell b42 rfl)) ?_
      refine lv (d := 52) rfl rfl (by kernel_rfl) (e_conv_bs (A := A32) (n := ((x1.getD ((x13).toNat) z65).text).length) (c := c33) (xs := (x1.getD ((x13).toNat) z65).text) Try.underlying59 Try.underlying5 Try.underlying9 (by kernel_rfl) rfl (Rd.bytesE S62.inv h35)) ?_
      refine lv (d := 53) rfl rfl (by kernel_rfl) (e_fieldAddr (b := g56) (off := 0) (o := 2) Try.underlying65 rfl rfl (sz := 1) (by kernel_rfl) (by decide) (by kernel_rfl)) ?_
      refine lv (d := 54) rfl rfl (by kernel_rfl) (e_load1 (ad := ⟨g56, 0 + 2, none⟩) (v := .slice A51 ((x6.getD ((x13).toNat) z65).text).length c52) Try.underlying59 rfl (by kernel_rfl) (blk_cell b61 rfl)) ?_
      refine lv (d := 55) rfl rfl (by kernel_rfl) (e_conv_bs (A := A51) (n := ((x6.getD ((x13).toNat) z65).text).length) (c := c52) (xs := (x6.getD ((x13).toNat) z65).text) Try.underlying59 Try.underlying5 Try.underlying9 (by kernel_rfl) rfl (Rd.bytesE S62.inv h54)) ?_
      refine lv (d := 56) rfl rfl (by kernel_rfl) (e_sneq (p := (x1.getD ((x13).toNat) z65).text) (q := (x6.getD ((x13).toNat) z65).text) (by kernel_rfl) (by kernel_rfl)) ?_
      refine wpList_nil ?_
      refine then_n ?_
      by_cases q78 : (x1.getD ((x13).toNat) z65).text ≠ (x6.getD ((x13).toNat) z65).text
      · replace M := ifp q78 M
        refine cond_t rfl (bt q78 (by kernel_rfl)) ?_
        refine wp_seq ?_
        refine wp_region_lit ?_
        refine lv (d := 57) rfl rfl (by kernel_rfl) (e_fieldAddr (b := g37) (off := 0) (o := 2) Try.underlying65 rfl rfl (sz := 1) (by kernel_rfl) (by decide) (by kernel_rfl)) ?_
        refine lv (d := 58) rfl rfl (by kernel_rfl) (e_load1 (ad := ⟨g37, 0 + 2, none⟩) (v := .slice A32 ((x1.getD ((x13).toNat) z65).text).length c33) Try.underlying59 rfl (by kernel_rfl) (blk_cell b42 rfl)) ?_
        refine lv (d := 59) rfl rfl (by kernel_rfl) (e_conv_bs (A := A32) (n := ((x1.getD ((x13).toNat) z65).text).length) (c := c33) (xs := (x1.getD ((x13).toNat) z65).text) Try.underlying59 Try.underlying5 Try.underlying9 (by kernel_rfl) rfl (Rd.bytesE S62.inv h35)) ?_
        refine lv (d := 60) rfl rfl (by kernel_rfl) (e_fieldAddr (b := g56) (off := 0) (o := 2) Try.underlying65 rfl rfl (sz := 1) (by kernel_rfl) (by decide) (by kernel_rfl)) ?_
        refine lv (d := 61) rfl rfl (by kernel_rfl) (e_load1 (ad := ⟨g56, 0 + 2, none⟩) (v := .slice A51 ((x6.getD ((x13).toNat) z65).text).length c52) Try.underlying59 rfl (by kernel_rfl) (blk_cell b61 rfl)) ?_
        refine lv (d := 62) rfl rfl (by kernel_rfl) (e_conv_bs (A := A51) (n := ((x6.getD ((x13).toNat) z65).text).length) (c := c52) (xs := (x6.getD ((x13).toNat) z65).text) Try.underlying59 Try.underlying5 Try.underlying9 (by kernel_rfl) rfl (Rd.bytesE S62.inv h54)) ?_
        refine lv (d := 63) rfl rfl (by kernel_rfl) (e_slss (p := (x1.getD ((x13).toNat) z65).text) (q := (x6.getD ((x13).toNat) z65).text) (by kernel_rfl) (by kernel_rfl)) ?_
        obtain ⟨t79, u80, M⟩ := bnd M
        refine lcall (d := 64) rfl rfl (by kernel_rfl) (e_call (l := [.tmp 63]) (vs := [.bool (Op.bytesLess ((x1.getD ((x13).toNat) z65).text) ((x6.getD ((x13).toNat) z65).text))]) Try.func105 (by kernel_rfl) rfl (by kernel_rfl) rfl) (spec_l2sign.calls w60 H (Op.bytesLess ((x1.getD ((x13).toNat) z65).text) ((x6.getD ((x13).toNat) z65).text))  S62.own0 t79 u80) ?_
        rintro _ w81 ⟨rfl, C82⟩
        refine ⟨_, rfl, ?_⟩
        obtain ⟨S83, K84⟩ := S62.still C82
        replace b61 := K84.blk 0 rfl b61
        replace b42 := K84.blk 1 rfl b42
        refine lv (d := 4) rfl rfl (by kernel_rfl) (e_assign (v := .int .i64 t79) (by kernel_rfl)) ?_
        refine wpList_nil ?_
        refine then_n ?_
        refine wp_ret ?_
        refine inb_r ?_
        refine then_r ?_
        refine then_r ?_
        refine inb_r ?_
        refine then_r ?_
        obtain rfl := Option.some.inj M
        exact ret1 rfl rfl  (show _ = .int .i64 t79 from (by kernel_rfl)) ⟨rfl, S83.chg⟩
      replace M := ifn q78 M
      refine cond_f rfl (bf q78 (by kernel_rfl)) ?_
      refine wp_skip ?_
      refine inb_n ?_
      refine then_n ?_
      refine wp_region_lit ?_
      refine lv (d := 18) rfl rfl (by kernel_rfl) (e_move (v := .int .i64 x13) (by exact e16)) ?_
      refine lv (d := 19) rfl rfl (by kernel_rfl) (e_add (k := .i64) (a := x13) (b := 1) (by kernel_rfl) rfl) ?_
      refine lv (d := 5) rfl rfl (by kernel_rfl) (e_assign (v := .int .i64 (IntKind.i64.wrap (x13 + 1))) (by kernel_rfl)) ?_
      refine wpList_nil ?_
      refine then_n ?_
      have S85 := St.first (Fa := []) (Fr := [(is g56), (is g37)]) S62
      exact ⟨k22, (by omega), _, (IntKind.i64.wrap (x13 + 1)), rfl, (by exact e14), (by exact e15), (by kernel_rfl), S85, M⟩
    replace M := ifn q24 M
    refine cond_f rfl (bf q24 (by kernel_rfl)) ?_
    refine wp_exit ?_
    refine then_e ?_
    refine then_e ?_
    refine inb_hit ?_
    refine then_n ?_
    refine wp_seq ?_
    refine wp_region_lit ?_
    refine lv (d := 4) rfl rfl (by kernel_rfl) (e_assign (v := .int .i64 0) rfl) ?_
    refine wpList_nil ?_
    refine then_n ?_
    refine wp_ret ?_
    obtain rfl := Option.some.inj M
    exact ret1 rfl rfl  (show _ = .int .i64 0 from (by kernel_rfl)) ⟨rfl, S17.chg⟩
  replace M := ifn q23 M
  refine lskip (t := 12) (c := false) rfl (by kernel_rfl) rfl (bf q23 (by kernel_rfl)) rfl rfl ?_
  refine lskip (t := 12) (c := false) rfl (by kernel_rfl) rfl (bf q23 (by kernel_rfl)) rfl rfl ?_
  refine lskip (t := 12) (c := false) rfl (by kernel_rfl) rfl (bf q23 (by kernel_rfl)) rfl rfl ?_
  refine lskip (t := 12) (c := false) rfl (by kernel_rfl) rfl (bf q23 (by kernel_rfl)) rfl rfl ?_
  refine lv (d := 17) rfl rfl (by kernel_rfl) (e_pick_f (v := .bool false) (bf q23 (by kernel_rfl)) rfl) ?_
  refine wpList_nil ?_
  refine then_n ?_
  refine cond_f rfl (by kernel_rfl) ?_
  refine wp_exit ?_
  refine then_e ?_
  refine then_e ?_
  refine inb_hit ?_
  refine then_n ?_
  refine wp_seq ?_
  refine wp_region_lit ?_
  refine lv (d := 4) rfl rfl (by kernel_rfl) (e_assign (v := .int .i64 0) rfl) ?_
  refine wpList_nil ?_
  refine then_n ?_
  refine wp_ret ?_
  obtain rfl := Option.some.inj M
  exact ret1 rfl rfl  (show _ = .int .i64 0 from (by kernel_rfl)) ⟨rfl, S17.chg⟩

/-! spec_Subsumes -/
mutual
def spec_Subsumes.l0 : Nat → (List Cell) → (List Cell) → (List Int) → (List (List Cell)) → Int → Int → Option Bool
  | 0, _, _, _, _, _, _ => none
  | k50 + 1, x1, x6, x27, x32, x37, x38 => (if x38 < (x1.length : Int) then (if x37 ≥ (x6.length : Int) then some false else (if 0 ≤ x38 then (if ((x1.getD ((x38).toNat) z65).kind) = 0 then ((spec_l2next.f k50 x6 x37).bind fun t68 => (if 0 ≤ x37 then (if x37 ≤ t68 then (if t68 ≤ (x6.length : Int) then ((spec_l2find.f k50 x27 ((x1.getD ((x38).toNat) z65).n)).bind fun t91 => (if t91 < 0 then (if x27.length + 1 ≤ 17592186044416 then (if x32.length + 1 ≤ 5864062014805 then (spec_Subsumes.l1 k50 x1 x6 x37 x38 t68 (x27 ++ [(x1.getD ((x38).toNat) z65).n]) (x32 ++ [((x6.drop ((x37 : Int).toNat)).take ((t68 : Int).toNat - (x37 : Int).toNat))])) else none) else none) else (if 0 ≤ t91 then (if t91 < (x32.length : Int) then (if ((x32.getD ((t91).toNat) ([] : List Cell)).length : Int) ≠ (((x6.drop ((x37 : Int).toNat)).take ((t68 : Int).toNat - (x37 : Int).toNat)).length : Int) then some false else ((spec_l2compare.f k50 (x32.getD ((t91).toNat) ([] : List Cell)) ((x6.drop ((x37 : Int).toNat)).take ((t68 : Int).toNat - (x37 : Int).toNat))).bind fun t200 => (if t200 ≠ 0 then some false else (spec_Subsumes.l1 k50 x1 x6 x37 x38 t68 x27 x32)))) else none) else none))) else none) else none) else none)) else (if x38 ≤ (IntKind.i64.wrap (x38 + 1)) then (if (IntKind.i64.wrap (x38 + 1)) ≤ (x1.length : Int) then (if 0 ≤ x37 then (if x37 ≤ (IntKind.i64.wrap (x37 + 1)) then (if (IntKind.i64.wrap (x37 + 1)) ≤ (x6.length : Int) then ((spec_l2compare.f k50 ((x1.drop ((x38 : Int).toNat)).take (((IntKind.i64.wrap (x38 + 1)) : Int).toNat - (x38 : Int).toNat)) ((x6.drop ((x37 : Int).toNat)).take (((IntKind.i64.wrap (x37 + 1)) : Int).toNat - (x37 : Int).toNat))).bind fun t221 => (if t221 ≠ 0 then some false else (spec_Subsumes.l0 k50 x1 x6 x27 x32 (IntKind.i64.wrap (x37 + 1)) (IntKind.i64.wrap (x38 + 1))))) else none) else none) else none) else none) else none)) else none)) else some (decide (x37 = (x6.length : Int))))
def spec_Subsumes.l1 : Nat → (List Cell) → (List Cell) → Int → Int → Int → (List Int) → (List (List Cell)) → Option Bool
  | 0, _, _, _, _, _, _, _ => none
  | k126 + 1, x1, x6, x37, x38, t68, x105, x110 => (spec_Subsumes.l0 k126 x1 x6 x105 x110 (IntKind.i64.wrap (x37 + (((x6.drop ((x37 : Int).toNat)).take ((t68 : Int).toNat - (x37 : Int).toNat)).length : Int))) (IntKind.i64.wrap (x38 + 1)))
end
def spec_Subsumes.f (k : Nat) (x1 : List Cell) (x6 : List Cell) : Option Bool := ((spec_ValidTerm.f k x1).bind fun t11 => (if ¬ (t11 = true) then some false else ((spec_ValidTerm.f k x6).bind fun t18 => (if ¬ (t18 = true) then some false else (spec_Subsumes.l0 k x1 x6 [] [] 0 0)))))
theorem spec_Subsumes.calls (k : Nat) (w : World) (H : Hp) (x1 : List Cell) (A2 : Option Addr) (c3 : Nat) (x6 : List Cell) (A7 : Option Addr) (c8 : Nat) (h4 : Rd st65 H A2 x1) (l5 : x1.length ≤ c3) (h9 : Rd st65 H A7 x6) (l10 : x6.length ≤ c8) (S : Own [] H w) (r : Bool) (M : spec_Subsumes.f k x1 x6 = some r) :
    Calls Try.prog 30 #[.slice A2 x1.length c3, .slice A7 x6.length c8] w (fun e e_w => e = .returned (.bool r) ∧ Chg no w e_w) := by
  rw [spec_Subsumes.f] at M
  refine enter (l := [.slice A2 x1.length c3, .slice A7 x6.length c8]) 101 Try.func30 rfl rfl rfl ?_
  have S0_ := S.st
  refine wp_seq ?_
  refine wp_region_lit ?_
  refine lv (d := 4) rfl rfl (by kernel_rfl) (e_assign (v := .bool false) rfl) ?_
  refine wpList_nil ?_
  refine then_n ?_
  refine wp_seq ?_
  refine wp_seq ?_
  refine wp_region_lit ?_
  refine lv (d := 11) rfl rfl (by kernel_rfl) (e_move (v := .slice A2 x1.length c3) (by kernel_rfl)) ?_
  obtain ⟨t11, u12, M⟩ := bnd M
  refine lcall (d := 12) rfl rfl (by kernel_rfl) (e_call (l := [.tmp 11]) (vs := [.slice A2 x1.length c3]) Try.func15 (by kernel_rfl) rfl (by kernel_rfl) rfl) (spec_ValidTerm.calls k w H x1 A2 c3 h4 l5 S0_.own0 t11 u12) ?_
  rintro _ w13 ⟨rfl, C14⟩
  refine ⟨_, rfl, ?_⟩
  obtain ⟨S15, K16⟩ := S0_.still C14
  refine lv (d := 13) rfl rfl (by kernel_rfl) (e_notv (c := t11) (by kernel_rfl)) ?_
  refine lv (d := 14) rfl rfl (by kernel_rfl) (e_move (v := .bool (decide (¬ (t11 = true)))) (by kernel_rfl)) ?_
  by_cases q17 : ¬ (t11 = true)
  · replace M := ifp q17 M
    refine lskip (t := 14) (c := true) rfl (by kernel_rfl) rfl (bt q17 (by kernel_rfl)) rfl rfl ?_
    refine lskip (t := 14) (c := true) rfl (by kernel_rfl) rfl (bt q17 (by kernel_rfl)) rfl rfl ?_
    refine lskip (t := 14) (c := true) rfl (by kernel_rfl) rfl (bt q17 (by kernel_rfl)) rfl rfl ?_
    refine lv (d := 18) rfl rfl (by kernel_rfl) (e_pick_t (v := .bool true) (bt q17 (by kernel_rfl)) rfl) ?_
    refine wpList_nil ?_
    refine then_n ?_
    refine cond_t rfl (by kernel_rfl) ?_
    refine wp_seq ?_
    refine wp_region_lit ?_
    refine lv (d := 4) rfl rfl (by kernel_rfl) (e_assign (v := .bool false) rfl) ?_
    refine wpList_nil ?_
    refine then_n ?_
    refine wp_ret ?_
    refine then_r ?_
    obtain rfl := Option.some.inj M
    exact ret1 rfl rfl  (show _ = .bool false from (by kernel_rfl)) ⟨rfl, S15.chg⟩
  replace M := ifn q17 M
  refine lvg (d := 15) (t := 14) rfl (by kernel_rfl) rfl (bf q17 (by kernel_rfl)) rfl (by kernel_rfl) (e_move (v := .slice A7 x6.length c8) (by kernel_rfl)) ?_
  obtain ⟨t18, u19, M⟩ := bnd M
  refine lcallg (d := 16) (t := 14) rfl (by kernel_rfl) rfl (bf q17 (by kernel_rfl)) rfl (by kernel_rfl) (e_call (l := [.tmp 15]) (vs := [.slice A7 x6.length c8]) Try.func15 (by kernel_rfl) rfl (by kernel_rfl) rfl) (spec_ValidTerm.calls k w13 H x6 A7 c8 h9 l10 S15.own0 t18 u19) ?_
  rintro _ w20 ⟨rfl, C21⟩
  refine ⟨_, rfl, ?_⟩
  obtain ⟨S22, K23⟩ := S15.still C21
  refine lvg (d := 17) (t := 14) rfl (by kernel_rfl) rfl (bf q17 (by kernel_rfl)) rfl (by kernel_rfl) (e_notv (c := t18) (by kernel_rfl)) ?_
  refine lv (d := 18) rfl rfl (by kernel_rfl) (e_pick_f (v := .bool (decide (¬ (t18 = true)))) (bf q17 (by kernel_rfl)) (by kernel_rfl)) ?_
  refine wpList_nil ?_
  refine then_n ?_
  by_cases q24 : ¬ (t18 = true)
  · replace M := ifp q24 M
    refine cond_t rfl (bt q24 (by kernel_rfl)) ?_
    refine wp_seq ?_
    refine wp_region_lit ?_
    refine lv (d := 4) rfl rfl (by kernel_rfl) (e_assign (v := .bool false) rfl) ?_
    refine wpList_nil ?_
    refine then_n ?_
    refine wp_ret ?_
    refine then_r ?_
    obtain rfl := Option.some.inj M
    exact ret1 rfl rfl  (show _ = .bool false from (by kernel_rfl)) ⟨rfl, S22.chg⟩
  replace M := ifn q24 M
  refine cond_f rfl (bf q24 (by kernel_rfl)) ?_
  refine wp_skip ?_
  refine then_n ?_
  refine wp_seq ?_
  refine wp_region_lit ?_
  refine lv (d := 5) rfl rfl (by kernel_rfl) (e_assign (v := .slice none 0 0) rfl) ?_
  refine wpList_nil ?_
  refine then_n ?_
  refine wp_seq ?_
  refine wp_region_lit ?_
  refine lv (d := 6) rfl rfl (by kernel_rfl) (e_assign (v := .slice none 0 0) rfl) ?_
  refine wpList_nil ?_
  refine then_n ?_
  refine wp_seq ?_
  refine wp_region_lit ?_
  refine lv (d := 7) rfl rfl (by kernel_rfl) (e_assign (v := .int .i64 0) rfl) ?_
  refine wpList_nil ?_
  refine then_n ?_
  refine wp_seq ?_
  refine wp_seq ?_
  refine wp_region_lit ?_
  refine lv (d := 8) rfl rfl (by kernel_rfl) (e_assign (v := .int .i64 0) rfl) ?_
  refine wpList_nil ?_
  refine then_n ?_
  refine wp_block ?_
  have S51 := S22.unit
  have S52 := S51.unit
  have S53 := S52.pull (F := no) (Fr := [no]) 1 rfl rfl
  refine wp_loop_g (fun k48 a49 w25 => ∃ (f26 : Nat → Value) (x27 : List Int) (A28 : Option Addr) (c29 : Nat) (F30 : Foot) (x32 : List (List Cell)) (A33 : Option Addr) (c34 : Nat) (F35 : Foot) (x37 : Int) (x38 : Int), a49 = mk 101 f26 ∧ f26 0 = .slice A2 x1.length c3 ∧ f26 1 = .slice A7 x6.length c8 ∧ f26 5 = .slice A28 x27.length c29 ∧ f26 6 = .slice A33 x32.length c34 ∧ f26 7 = .int .i64 x37 ∧ f26 8 = .int .i64 x38 ∧ Row tInt 3 H (hp w25) F30 A28 c29 x27 ∧ Row (ro sl65) 25 H (hp w25) F35 A33 c34 x32 ∧ St (anyOf []) H w [F30, F35] H w25 ∧ spec_Subsumes.l0 k48 x1 x6 x27 x32 x37 x38 = some r) k ⟨_, [], none, 0, no, [], none, 0, no, 0, 0, rfl, (by kernel_rfl), (by kernel_rfl), (by kernel_rfl), (by kernel_rfl), (by kernel_rfl), (by kernel_rfl), (Row.nil _ _ _ _ _), (Row.nil _ _ _ _ _), S53, M⟩ ?_
  clear M
  rintro k48 a49 w25 ⟨f26, x27, A28, c29, F30, x32, A33, c34, F35, x37, x38, rfl, e39, e40, e41, e42, e43, e44, h31, h36, S45, M⟩
  rcases k48 with _ | k50
  · rw [spec_Subsumes.l0] at M
    cases M
  rw [spec_Subsumes.l0] at M
  refine wp_seq ?_
  refine wp_seq ?_
  refine wp_region_lit ?_
  refine lv (d := 19) rfl rfl (by kernel_rfl) (e_move (v := .int .i64 x38) (by exact e44)) ?_
  refine lv (d := 20) rfl rfl (by kernel_rfl) (e_move (v := .slice A2 x1.length c3) (by exact e39)) ?_
  refine lv (d := 21) rfl rfl (by kernel_rfl) (e_len (A := A2) (n := x1.length) (c := c3) Try.underlying25 (by kernel_rfl)) ?_
  refine lv (d := 22) rfl rfl (by kernel_rfl) (e_lss (k := .i64) (a := x38) (b := (x1.length : Int)) (by kernel_rfl) (by kernel_rfl)) ?_
  refine wpList_nil ?_
  refine then_n ?_
  by_cases q54 : x38 < (x1.length : Int)
  · replace M := ifp q54 M
    refine cond_t rfl (bt q54 (by kernel_rfl)) ?_
    refine wp_skip ?_
    refine then_n ?_
    refine wp_seq ?_
    refine wp_block ?_
    refine wp_seq ?_
    refine wp_seq ?_
    refine wp_region_lit ?_
    refine lv (d := 25) rfl rfl (by kernel_rfl) (e_move (v := .int .i64 x37) (by exact e43)) ?_
    refine lv (d := 26) rfl rfl (by kernel_rfl) (e_move (v := .slice A7 x6.length c8) (by exact e40)) ?_
    refine lv (d := 27) rfl rfl (by kernel_rfl) (e_len (A := A7) (n := x6.length) (c := c8) Try.underlying25 (by kernel_rfl)) ?_
    refine lv (d := 28) rfl rfl (by kernel_rfl) (e_geq (k := .i64) (a := x37) (b := (x6.length : Int)) (by kernel_rfl) (by kernel_rfl)) ?_
    refine wpList_nil ?_
    refine then_n ?_
    by_cases q55 : x37 ≥ (x6.length : Int)
    · replace M := ifp q55 M
      refine cond_t rfl (bt q55 (by kernel_rfl)) ?_
      refine wp_seq ?_
      refine wp_region_lit ?_
      refine lv (d := 4) rfl rfl (by kernel_rfl) (e_assign (v := .bool false) rfl) ?_
      refine wpList_nil ?_
      refine then_n ?_
      refine wp_ret ?_
      refine then_r ?_
      refine inb_r ?_
      refine then_r ?_
      refine then_r ?_
      refine inb_r ?_
      refine then_r ?_
      obtain rfl := Option.some.inj M
      exact ret1 rfl rfl  (show _ = .bool false from (by kernel_rfl)) ⟨rfl, S45.chg⟩
    replace M := ifn q55 M
    refine cond_f rfl (bf q55 (by kernel_rfl)) ?_
    refine wp_skip ?_
    refine then_n ?_
    refine wp_seq ?_
    refine wp_seq ?_
    refine wp_region_lit ?_
    refine lv (d := 29) rfl rfl (by kernel_rfl) (e_move (v := .slice A2 x1.length c3) (by exact e39)) ?_
    refine lv (d := 30) rfl rfl (by kernel_rfl) (e_move (v := .int .i64 x38) (by exact e44)) ?_
    obtain ⟨q56, M⟩ := chk M
    obtain ⟨b57, o58, e59⟩ := Rd.addr h4 (show (x38).toNat < x1.length by omega)
    obtain ⟨y60, r61, k62⟩ := Rd.at h4 e59 (getD_some z65 (show (x38).toNat < x1.length by omega))
    obtain ⟨A63, c64, rfl, l65, h66⟩ := st65_open r61
    refine lv (d := 31) rfl rfl (by kernel_rfl) (e_indexAddr (b := b57) (off := o58) (n := x1.length) (c := c3) (sz := 3) (i := x38) (k := .i64) Try.underlying25 e59 (by kernel_rfl) (by kernel_rfl) (by kernel_rfl) q56 q54) ?_
    refine lv (d := 32) rfl rfl (by kernel_rfl) (e_fieldAddr (b := b57) (off := o58 + (x38 : Int).toNat * 3) (o := 0) Try.underlying65 rfl rfl (sz := 1) (by kernel_rfl) (by decide) (by kernel_rfl)) ?_
    refine lv (d := 33) rfl rfl (by kernel_rfl) (e_load1 (ad := ⟨b57, o58 + (x38 : Int).toNat * 3 + 0, none⟩) (v := .int .i64 ((x1.getD ((x38).toNat) z65).kind)) Try.underlying3 rfl (by kernel_rfl) (hpx (S45.inv.cell (k62 0 _ rfl)))) ?_
    refine lv (d := 34) rfl rfl (by kernel_rfl) (e_eql (k := .i64) (a := (x1.getD ((x38).toNat) z65).kind) (b := 0) (by kernel_rfl) rfl) ?_
    refine wpList_nil ?_
    refine then_n ?_
    by_cases q67 : ((x1.getD ((x38).toNat) z65).kind) = 0
    · replace M := ifp q67 M
      refine cond_t rfl (bt q67 (by kernel_rfl)) ?_
      refine wp_seq ?_
      refine wp_region_lit ?_
      refine lv (d := 35) rfl rfl (by kernel_rfl) (e_move (v := .slice A7 x6.length c8) (by exact e40)) ?_
      refine lv (d := 36) rfl rfl (by kernel_rfl) (e_move (v := .int .i64 x37) (by exact e43)) ?_
      refine lv (d := 37) rfl rfl (by kernel_rfl) (e_move (v := .slice A7 x6.length c8) (by exact e40)) ?_
      refine lv (d := 38) rfl rfl (by kernel_rfl) (e_move (v := .int .i64 x37) (by exact e43)) ?_
      obtain ⟨t68, u69, M⟩ := bnd M
      refine lcall (d := 39) rfl rfl (by kernel_rfl) (e_call (l := [.tmp 37, .tmp 38]) (vs := [.slice A7 x6.length c8, .int .i64 x37]) Try.func70 (by kernel_rfl) rfl (by kernel_rfl) rfl) (spec_l2next.calls k50 w25 H x6 A7 c8 x37 h9 l10 S45.own0 t68 u69) ?_
      rintro _ w70 ⟨rfl, C71⟩
      refine ⟨_, rfl, ?_⟩
      obtain ⟨S72, K73⟩ := S45.still C71
      replace h31 := h31.move (K73.at 0 rfl)
      replace h36 := h36.move (K73.at 1 rfl)
      obtain ⟨q74, M⟩ := chk M
      obtain ⟨q75, M⟩ := chk M
      obtain ⟨q76, M⟩ := chk M
      obtain ⟨A77, h80, l79, h78⟩ := Rd.sub2 (d := st65) (n := x6.length) (m := 3) (cap := c8) (a := x37) (b := t68) rfl h9 q74 q75 q76 rfl l10
      refine lv (d := 40) rfl rfl (by kernel_rfl) (e_slice_lh (n := x6.length) (m := 3) (cap := c8) (A := A7) (a := x37) (b := t68) (k := .i64) (k2 := .i64) Try.underlying25 (by kernel_rfl) (by kernel_rfl) (by kernel_rfl) (by kernel_rfl) q74 q75 q76 l10 h80) ?_
      refine lv (d := 9) rfl rfl (by kernel_rfl) (e_assign (v := .slice A77 ((x6.drop ((x37 : Int).toNat)).take ((t68 : Int).toNat - (x37 : Int).toNat)).length (c8 - ((x37 : Int).toNat))) (by kernel_rfl)) ?_
      refine wpList_nil ?_
      refine then_n ?_
      refine wp_seq ?_
      refine wp_region_lit ?_
      refine lv (d := 41) rfl rfl (by kernel_rfl) (e_move (v := .slice A28 x27.length c29) (by exact e41)) ?_
      refine lv (d := 42) rfl rfl (by kernel_rfl) (e_move (v := .slice A2 x1.length c3) (by exact e39)) ?_
      refine lv (d := 43) rfl rfl (by kernel_rfl) (e_move (v := .int .i64 x38) (by exact e44)) ?_
      obtain ⟨b81, o82, e83⟩ := Rd.addr h4 (show (x38).toNat < x1.length by omega)
      obtain ⟨y84, r85, k86⟩ := Rd.at h4 e83 (getD_some z65 (show (x38).toNat < x1.length by omega))
      obtain ⟨A87, c88, rfl, l89, h90⟩ := st65_open r85
      refine lv (d := 44) rfl rfl (by kernel_rfl) (e_indexAddr (b := b81) (off := o82) (n := x1.length) (c := c3) (sz := 3) (i := x38) (k := .i64) Try.underlying25 e83 (by kernel_rfl) (by kernel_rfl) (by kernel_rfl) q56 q54) ?_
      refine lv (d := 45) rfl rfl (by kernel_rfl) (e_fieldAddr (b := b81) (off := o82 + (x38 : Int).toNat * 3) (o := 1) Try.underlying65 rfl rfl (sz := 1) (by kernel_rfl) (by decide) (by kernel_rfl)) ?_
      refine lv (d := 46) rfl rfl (by kernel_rfl) (e_load1 (ad := ⟨b81, o82 + (x38 : Int).toNat * 3 + 1, none⟩) (v := .int .i64 ((x1.getD ((x38).toNat) z65).n)) Try.underlying3 rfl (by kernel_rfl) (hpx (S72.inv.cell (k86 1 _ rfl)))) ?_
      obtain ⟨t91, u92, M⟩ := bnd M
      refine lcall (d := 47) rfl rfl (by kernel_rfl) (e_call (l := [.tmp 41, .tmp 46]) (vs := [.slice A28 x27.length c29, .int .i64 ((x1.getD ((x38).toNat) z65).n)]) Try.func71 (by kernel_rfl) rfl (by kernel_rfl) rfl) (by have l93 := h31.le; obtain ⟨H94, S95, E96, h97, z98⟩ := S72.frzRow h31; replace h36 := h36.ext E96; exact (spec_l2find.calls k50 w70 H94 x27 A28 c29 ((x1.getD ((x38).toNat) z65).n) h97 l93 S95.own0 t91 u92)) ?_
      rintro _ w99 ⟨rfl, C100⟩
      refine ⟨_, rfl, ?_⟩
      obtain ⟨S101, K102⟩ := S72.still C100
      replace h31 := h31.move (K102.at 0 rfl)
      replace h36 := h36.move (K102.at 1 rfl)
      refine lv (d := 10) rfl rfl (by kernel_rfl) (e_assign (v := .int .i64 t91) (by kernel_rfl)) ?_
      refine wpList_nil ?_
      refine then_n ?_
      refine wp_seq_cut (fun a125 w103 => ∃ (k127 : Nat), k127 ≤ k50 ∧ ∃ (f104 : Nat → Value) (x105 : List Int) (A106 : Option Addr) (c107 : Nat) (F108 : Foot) (x110 : List (List Cell)) (A111 : Option Addr) (c112 : Nat) (F113 : Foot), a125 = mk 101 f104 ∧ f104 0 = .slice A2 x1.length c3 ∧ f104 1 = .slice A7 x6.length c8 ∧ f104 5 = .slice A106 x105.length c107 ∧ f104 6 = .slice A111 x110.length c112 ∧ f104 7 = .int .i64 x37 ∧ f104 8 = .int .i64 x38 ∧ f104 9 = .slice A77 ((x6.drop ((x37 : Int).toNat)).take ((t68 : Int).toNat - (x37 : Int).toNat)).length (c8 - ((x37 : Int).toNat)) ∧ Row tInt 3 H (hp w103) F108 A106 c107 x105 ∧ Row (ro sl65) 25 H (hp w103) F113 A111 c112 x110 ∧ St (anyOf []) H w [F108, F113] H w103 ∧ spec_Subsumes.l1 k127 x1 x6 x37 x38 t68 x105 x110 = some r) ?_ ?_
      · refine wp_seq ?_
        refine wp_region_lit ?_
        refine lv (d := 48) rfl rfl (by kernel_rfl) (e_move (v := .int .i64 t91) (by kernel_rfl)) ?_
        refine lv (d := 49) rfl rfl (by kernel_rfl) (e_lss (k := .i64) (a := t91) (b := 0) (by kernel_rfl) rfl) ?_
        refine wpList_nil ?_
        refine then_n ?_
        by_cases q128 : t91 < 0
        · replace M := ifp q128 M
          refine cond_t rfl (bt q128 (by kernel_rfl)) ?_
          refine wp_seq ?_
          refine wp_region_lit ?_
          refine lv (d := 50) rfl rfl (by kernel_rfl) (e_move (v := .slice A28 x27.length c29) (by exact e41)) ?_
          refine lv (d := 51) rfl rfl (by kernel_rfl) (e_move (v := .slice A2 x1.length c3) (by exact e39)) ?_
          refine lv (d := 52) rfl rfl (by kernel_rfl) (e_move (v := .int .i64 x38) (by exact e44)) ?_
          obtain ⟨b129, o130, e131⟩ := Rd.addr h4 (show (x38).toNat < x1.length by omega)
          obtain ⟨y132, r133, k134⟩ := Rd.at h4 e131 (getD_some z65 (show (x38).toNat < x1.length by omega))
          obtain ⟨A135, c136, rfl, l137, h138⟩ := st65_open r133
          refine lv (d := 53) rfl rfl (by kernel_rfl) (e_indexAddr (b := b129) (off := o130) (n := x1.length) (c := c3) (sz := 3) (i := x38) (k := .i64) Try.underlying25 e131 (by kernel_rfl) (by kernel_rfl) (by kernel_rfl) q56 q54) ?_
          refine lv (d := 54) rfl rfl (by kernel_rfl) (e_fieldAddr (b := b129) (off := o130 + (x38 : Int).toNat * 3) (o := 1) Try.underlying65 rfl rfl (sz := 1) (by kernel_rfl) (by decide) (by kernel_rfl)) ?_
          refine lv (d := 55) rfl rfl (by kernel_rfl) (e_load1 (ad := ⟨b129, o130 + (x38 : Int).toNat * 3 + 1, none⟩) (v := .int .i64 ((x1.getD ((x38).toNat) z65).n)) Try.underlying3 rfl (by kernel_rfl) (hpx (S101.inv.cell (k134 1 _ rfl)))) ?_
          refine lve (d := 56) rfl rfl (by kernel_rfl) (new_blk (v := fun g_ => .slice (some ⟨g_, 0, none⟩) 1 1) (cs := #[.int .i64 ((x1.getD ((x38).toNat) z65).n)]) (t := 3) S101 (by kernel_rfl)) ?_
          rintro _ w139 ⟨g140, rfl, b141, S142, K143⟩
          replace h31 := h31.move (K143.at 0 rfl)
          replace h36 := h36.move (K143.at 1 rfl)
          obtain ⟨q144, M⟩ := chk M
          have S145 := S142.pull (F := F30) (Fr := [(is g140), F35]) 1 rfl rfl
          have S146 := S145.unit
          have S147 := S146.pull (F := F30) (Fr := [no, (is g140), F35]) 1 rfl rfl
          refine lve (d := 57) rfl rfl (by kernel_rfl) (e_append (d := tInt) (n := x27.length) (xs := x27) (cap := c29) (A := A28) (ys := [(x1.getD ((x38).toNat) z65).n]) (A2 := (some ⟨g140, 0, none⟩)) (c2 := 1) (z := .int .i64 0) (bytes := 8) S147 Try.underlying32 (by kernel_rfl) rfl (by decide) (by kernel_rfl) rfl (by kernel_rfl) h31 (elsO_one1 rfl) (.inr (blk_news b141 rfl)) (show (x27.length + [(x1.getD ((x38).toNat) z65).n].length) * 8 ≤ _ by first | omega | (simp only [List.length_cons, List.length_nil]; omega)) (by decide)) ?_
          rintro _ w148 ⟨A149, c150, F151, rfl, h152, S153, K154⟩
          replace b141 := K154.blk 0 rfl b141
          replace h36 := h36.move (K154.at 1 rfl)
          refine lv (d := 5) rfl rfl (by kernel_rfl) (e_assign (v := .slice A149 ((x27 ++ [(x1.getD ((x38).toNat) z65).n]).length) c150) (by kernel_rfl)) ?_
          refine wpList_nil ?_
          refine then_n ?_
          refine wp_region_lit ?_
          refine lv (d := 58) rfl rfl (by kernel_rfl) (e_move (v := .slice A33 x32.length c34) (by exact e42)) ?_
          refine lv (d := 59) rfl rfl (by kernel_rfl) (e_move (v := .slice A77 ((x6.drop ((x37 : Int).toNat)).take ((t68 : Int).toNat - (x37 : Int).toNat)).length (c8 - ((x37 : Int).toNat))) (by kernel_rfl)) ?_
          refine lve (d := 60) rfl rfl (by kernel_rfl) (new_blk (v := fun g_ => .slice (some ⟨g_, 0, none⟩) 1 1) (cs := #[.slice A77 ((x6.drop ((x37 : Int).toNat)).take ((t68 : Int).toNat - (x37 : Int).toNat)).length (c8 - ((x37 : Int).toNat))]) (t := 25) S153 (by kernel_rfl)) ?_
          rintro _ w155 ⟨g156, rfl, b157, S158, K159⟩
          replace h152 := h152.move (K159.at 0 rfl)
          replace b141 := K159.blk 1 rfl b141
          replace h36 := h36.move (K159.at 2 rfl)
          obtain ⟨q160, M⟩ := chk M
          have S161 := S158.pull (F := F35) (Fr := [(is g156), F151, (is g140)]) 3 rfl rfl
          have S162 := S161.unit
          have S163 := S162.pull (F := F35) (Fr := [no, (is g156), F151, (is g140)]) 1 rfl rfl
          refine lve (d := 61) rfl rfl (by kernel_rfl) (e_append (d := (ro sl65)) (n := x32.length) (xs := x32) (cap := c34) (A := A33) (ys := [((x6.drop ((x37 : Int).toNat)).take ((t68 : Int).toNat - (x37 : Int).toNat))]) (A2 := (some ⟨g156, 0, none⟩)) (c2 := 1) (z := .slice none 0 0) (bytes := 24) S163 Try.underlying38 (by kernel_rfl) rfl (by decide) (by kernel_rfl) rfl (by kernel_rfl) h36 (elsO_one1 ⟨A77, (c8 - ((x37 : Int).toNat)), rfl, l79, h78⟩) (.inr (blk_news b157 rfl)) (show (x32.length + [((x6.drop ((x37 : Int).toNat)).take ((t68 : Int).toNat - (x37 : Int).toNat))].length) * 24 ≤ _ by first | omega | (simp only [List.length_cons, List.length_nil]; omega)) (by decide)) ?_
          rintro _ w164 ⟨A165, c166, F167, rfl, h168, S169, K170⟩
          replace b157 := K170.blk 0 rfl b157
          replace h152 := h152.move (K170.at 1 rfl)
          replace b141 := K170.blk 2 rfl b141
          refine lv (d := 6) rfl rfl (by kernel_rfl) (e_assign (v := .slice A165 ((x32 ++ [((x6.drop ((x37 : Int).toNat)).take ((t68 : Int).toNat - (x37 : Int).toNat))]).length) c166) (by kernel_rfl)) ?_
          refine wpList_nil ?_
          refine then_n ?_
          have S171 := S169.pull (F := F151) (Fr := [F167, (is g156), (is g140)]) 2 rfl rfl
          have S172 := St.first (Fa := [F151, F167]) (Fr := [(is g156), (is g140)]) S171
          exact ⟨k50, (by omega), _, (x27 ++ [(x1.getD ((x38).toNat) z65).n]), A149, c150, F151, (x32 ++ [((x6.drop ((x37 : Int).toNat)).take ((t68 : Int).toNat - (x37 : Int).toNat))]), A165, c166, F167, rfl, (by exact e39), (by exact e40), (by kernel_rfl), (by kernel_rfl), (by exact e43), (by exact e44), (by kernel_rfl), h152, h168, S172, M⟩
        replace M := ifn q128 M
        refine cond_f rfl (bf q128 (by kernel_rfl)) ?_
        refine wp_seq ?_
        refine wp_region_lit ?_
        refine lv (d := 62) rfl rfl (by kernel_rfl) (e_move (v := .slice A33 x32.length c34) (by exact e42)) ?_
        refine lv (d := 63) rfl rfl (by kernel_rfl) (e_move (v := .int .i64 t91) (by kernel_rfl)) ?_
        obtain ⟨q173, M⟩ := chk M
        obtain ⟨q174, M⟩ := chk M
        obtain ⟨b175, e177⟩ := Row.addr h36 (show (t91).toNat < x32.length by omega)
        refine lv (d := 64) rfl rfl (by kernel_rfl) (e_indexAddr (b := b175) (off := 0) (n := x32.length) (c := c34) (sz := 1) (i := t91) (k := .i64) Try.underlying38 e177 (by kernel_rfl) (by kernel_rfl) (by kernel_rfl) q173 q174) ?_
        obtain ⟨y178, F179, r180, s181, k182⟩ := Row.at h36 e177 (getD_some ([] : List Cell) (show (t91).toNat < x32.length by omega))
        obtain ⟨A183, c184, rfl, l185, h186⟩ := r180
        refine lv (d := 65) rfl rfl (by kernel_rfl) (e_load1 (ad := ⟨b175, 0 + (t91 : Int).toNat * 1, none⟩) (v := .slice A183 (x32.getD ((t91).toNat) ([] : List Cell)).length c184) Try.underlying25 rfl (by kernel_rfl) (hpx (k182 0 _ rfl))) ?_
        refine lv (d := 66) rfl rfl (by kernel_rfl) (e_len (A := A183) (n := (x32.getD ((t91).toNat) ([] : List Cell)).length) (c := c184) Try.underlying25 (by kernel_rfl)) ?_
        refine lv (d := 67) rfl rfl (by kernel_rfl) (e_move (v := .slice A77 ((x6.drop ((x37 : Int).toNat)).take ((t68 : Int).toNat - (x37 : Int).toNat)).length (c8 - ((x37 : Int).toNat))) (by kernel_rfl)) ?_
        refine lv (d := 68) rfl rfl (by kernel_rfl) (e_len (A := A77) (n := ((x6.drop ((x37 : Int).toNat)).take ((t68 : Int).toNat - (x37 : Int).toNat)).length) (c := (c8 - ((x37 : Int).toNat))) Try.underlying25 (by kernel_rfl)) ?_
        refine lv (d := 69) rfl rfl (by kernel_rfl) (e_neq (k := .i64) (a := ((x32.getD ((t91).toNat) ([] : List Cell)).length : Int)) (b := (((x6.drop ((x37 : Int).toNat)).take ((t68 : Int).toNat - (x37 : Int).toNat)).length : Int)) (by kernel_rfl) (by kernel_rfl)) ?_
        refine lv (d := 70) rfl rfl (by kernel_rfl) (e_move (v := .bool (decide (((x32.getD ((t91).toNat) ([] : List Cell)).length : Int) ≠ (((x6.drop ((x37 : Int).toNat)).take ((t68 : Int).toNat - (x37 : Int).toNat)).length : Int)))) (by kernel_rfl)) ?_
        by_cases q187 : ((x32.getD ((t91).toNat) ([] : List Cell)).length : Int) ≠ (((x6.drop ((x37 : Int).toNat)).take ((t68 : Int).toNat - (x37 : Int).toNat)).length : Int)
        · replace M := ifp q187 M
          refine lskip (t := 70) (c := true) rfl (by kernel_rfl) rfl (bt q187 (by kernel_rfl)) rfl rfl ?_
          refine lskip (t := 70) (c := true) rfl (by kernel_rfl) rfl (bt q187 (by kernel_rfl)) rfl rfl ?_
          refine lskip (t := 70) (c := true) rfl (by kernel_rfl) rfl (bt q187 (by kernel_rfl)) rfl rfl ?_
          refine lskip (t := 70) (c := true) rfl (by kernel_rfl) rfl (bt q187 (by kernel_rfl)) rfl rfl ?_
          refine lskip (t := 70) (c := true) rfl (by kernel_rfl) rfl (bt q187 (by kernel_rfl)) rfl rfl ?_
          refine lskip (t := 70) (c := true) rfl (by kernel_rfl) rfl (bt q187 (by kernel_rfl)) rfl rfl ?_
          refine lskip (t := 70) (c := true) rfl (by kernel_rfl) rfl (bt q187 (by kernel_rfl)) rfl rfl ?_
          refine lv (d := 78) rfl rfl (by kernel_rfl) (e_pick_t (v := .bool true) (bt q187 (by kernel_rfl)) rfl) ?_
          refine wpList_nil ?_
          refine then_n ?_
          refine cond_t rfl (by kernel_rfl) ?_
          refine wp_seq ?_
          refine wp_region_lit ?_
          refine lv (d := 4) rfl rfl (by kernel_rfl) (e_assign (v := .bool false) rfl) ?_
          refine wpList_nil ?_
          refine then_n ?_
          refine wp_ret ?_
          refine then_r ?_
          refine then_r ?_
          refine inb_r ?_
          refine then_r ?_
          refine then_r ?_
          refine inb_r ?_
          refine then_r ?_
          obtain rfl := Option.some.inj M
          exact ret1 rfl rfl  (show _ = .bool false from (by kernel_rfl)) ⟨rfl, S101.chg⟩
        replace M := ifn q187 M
        refine lvg (d := 71) (t := 70) rfl (by kernel_rfl) rfl (bf q187 (by kernel_rfl)) rfl (by kernel_rfl) (e_move (v := .slice A33 x32.length c34) (by exact e42)) ?_
        refine lvg (d := 72) (t := 70) rfl (by kernel_rfl) rfl (bf q187 (by kernel_rfl)) rfl (by kernel_rfl) (e_move (v := .int .i64 t91) (by kernel_rfl)) ?_
        obtain ⟨b188, e190⟩ := Row.addr h36 (show (t91).toNat < x32.length by omega)
        refine lvg (d := 73) (t := 70) rfl (by kernel_rfl) rfl (bf q187 (by kernel_rfl)) rfl (by kernel_rfl) (e_indexAddr (b := b188) (off := 0) (n := x32.length) (c := c34) (sz := 1) (i := t91) (k := .i64) Try.underlying38 e190 (by kernel_rfl) (by kernel_rfl) (by kernel_rfl) q173 q174) ?_
        obtain ⟨y191, F192, r193, s194, k195⟩ := Row.at h36 e190 (getD_some ([] : List Cell) (show (t91).toNat < x32.length by omega))
        obtain ⟨A196, c197, rfl, l198, h199⟩ := r193
        refine lvg (d := 74) (t := 70) rfl (by kernel_rfl) rfl (bf q187 (by kernel_rfl)) rfl (by kernel_rfl) (e_load1 (ad := ⟨b188, 0 + (t91 : Int).toNat * 1, none⟩) (v := .slice A196 (x32.getD ((t91).toNat) ([] : List Cell)).length c197) Try.underlying25 rfl (by kernel_rfl) (hpx (k195 0 _ rfl))) ?_
        refine lvg (d := 75) (t := 70) rfl (by kernel_rfl) rfl (bf q187 (by kernel_rfl)) rfl (by kernel_rfl) (e_move (v := .slice A77 ((x6.drop ((x37 : Int).toNat)).take ((t68 : Int).toNat - (x37 : Int).toNat)).length (c8 - ((x37 : Int).toNat))) (by kernel_rfl)) ?_
        obtain ⟨t200, u201, M⟩ := bnd M
        refine lcallg (d := 76) (t := 70) rfl (by kernel_rfl) rfl (bf q187 (by kernel_rfl)) rfl (by kernel_rfl) (e_call (l := [.tmp 74, .tmp 75]) (vs := [.slice A196 (x32.getD ((t91).toNat) ([] : List Cell)).length c197, .slice A77 ((x6.drop ((x37 : Int).toNat)).take ((t68 : Int).toNat - (x37 : Int).toNat)).length (c8 - ((x37 : Int).toNat))]) Try.func60 (by kernel_rfl) rfl (by kernel_rfl) rfl) (spec_l2compare.calls k50 w99 H (x32.getD ((t91).toNat) ([] : List Cell)) A196 c197 ((x6.drop ((x37 : Int).toNat)).take ((t68 : Int).toNat - (x37 : Int).toNat)) A77 (c8 - ((x37 : Int).toNat)) h199 l198 h78 l79 S101.own0 t200 u201) ?_
        rintro _ w202 ⟨rfl, C203⟩
        refine ⟨_, rfl, ?_⟩
        obtain ⟨S204, K205⟩ := S101.still C203
        replace h31 := h31.move (K205.at 0 rfl)
        replace h36 := h36.move (K205.at 1 rfl)
        refine lvg (d := 77) (t := 70) rfl (by kernel_rfl) rfl (bf q187 (by kernel_rfl)) rfl (by kernel_rfl) (e_neq (k := .i64) (a := t200) (b := 0) (by kernel_rfl) rfl) ?_
        refine lv (d := 78) rfl rfl (by kernel_rfl) (e_pick_f (v := .bool (decide (t200 ≠ 0))) (bf q187 (by kernel_rfl)) (by kernel_rfl)) ?_
        refine wpList_nil ?_
        refine then_n ?_
        by_cases q206 : t200 ≠ 0
        · replace M := ifp q206 M
          refine cond_t rfl (bt q206 (by kernel_rfl)) ?_
          refine wp_seq ?_
          refine wp_region_lit ?_
          refine lv (d := 4) rfl rfl (by kernel_rfl) (e_assign (v := .bool false) rfl) ?_
          refine wpList_nil ?_
          refine then_n ?_
          refine wp_ret ?_
          refine then_r ?_
          refine then_r ?_
          refine inb_r ?_
          refine then_r ?_
          refine then_r ?_
          refine inb_r ?_
          refine then_r ?_
          obtain rfl := Option.some.inj M
          exact ret1 rfl rfl  (show _ = .bool false from (by kernel_rfl)) ⟨rfl, S204.chg⟩
        replace M := ifn q206 M
        refine cond_f rfl (bf q206 (by kernel_rfl)) ?_
        refine wp_skip ?_
        refine then_n ?_
        exact ⟨k50, (by omega), _, x27, A28, c29, F30, x32, A33, c34, F35, rfl, (by exact e39), (by exact e40), (by exact e41), (by exact e42), (by exact e43), (by exact e44), (by kernel_rfl), h31, h36, S204, M⟩
      clear M
      rintro a125 w103 ⟨k127, z207, f104, x105, A106, c107, F108, x110, A111, c112, F113, rfl, e115, e116, e117, e118, e119, e120, e121, h109, h114, S122, M⟩
      rcases k127 with _ | k126
      · rw [spec_Subsumes.l1] at M
        cases M
      rw [spec_Subsumes.l1] at M
      refine wp_seq ?_
      refine wp_region_lit ?_
      refine lv (d := 79) rfl rfl (by kernel_rfl) (e_move (v := .int .i64 x37) (by exact e119)) ?_
      refine lv (d := 80) rfl rfl (by kernel_rfl) (e_move (v := .slice A77 ((x6.drop ((x37 : Int).toNat)).take ((t68 : Int).toNat - (x37 : Int).toNat)).length (c8 - ((x37 : Int).toNat))) (by exact e121)) ?_
      refine lv (d := 81) rfl rfl (by kernel_rfl) (e_len (A := A77) (n := ((x6.drop ((x37 : Int).toNat)).take ((t68 : Int).toNat - (x37 : Int).toNat)).length) (c := (c8 - ((x37 : Int).toNat))) Try.underlying25 (by kernel_rfl)) ?_
      refine lv (d := 82) rfl rfl (by kernel_rfl) (e_add (k := .i64) (a := x37) (b := (((x6.drop ((x37 : Int).toNat)).take ((t68 : Int).toNat - (x37 : Int).toNat)).length : Int)) (by kernel_rfl) (by kernel_rfl)) ?_
      refine lv (d := 7) rfl rfl (by kernel_rfl) (e_assign (v := .int .i64 (IntKind.i64.wrap (x37 + (((x6.drop ((x37 : Int).toNat)).take ((t68 : Int).toNat - (x37 : Int).toNat)).length : Int)))) (by kernel_rfl)) ?_
      refine wpList_nil ?_
      refine then_n ?_
      refine wp_exit ?_
      refine then_e ?_
      refine inb_hit ?_
      refine then_n ?_
      refine wp_region_lit ?_
      refine lv (d := 23) rfl rfl (by kernel_rfl) (e_move (v := .int .i64 x38) (by exact e120)) ?_
      refine lv (d := 24) rfl rfl (by kernel_rfl) (e_add (k := .i64) (a := x38) (b := 1) (by kernel_rfl) rfl) ?_
      refine lv (d := 8) rfl rfl (by kernel_rfl) (e_assign (v := .int .i64 (IntKind.i64.wrap (x38 + 1))) (by kernel_rfl)) ?_
      refine wpList_nil ?_
      refine then_n ?_
      exact ⟨k126, (by omega), _, x105, A106, c107, F108, x110, A111, c112, F113, (IntKind.i64.wrap (x37 + (((x6.drop ((x37 : Int).toNat)).take ((t68 : Int).toNat - (x37 : Int).toNat)).length : Int))), (IntKind.i64.wrap (x38 + 1)), rfl, (by exact e115), (by exact e116), (by exact e117), (by exact e118), (by kernel_rfl), (by kernel_rfl), h109, h114, S122, M⟩
    replace M := ifn q67 M
    refine cond_f rfl (bf q67 (by kernel_rfl)) ?_
    refine wp_skip ?_
    refine then_n ?_
    refine wp_seq ?_
    refine wp_seq ?_
    refine region_quiet (by kernel_rfl) (by kernel_rfl) ?_
    refine qv (d := 83) rfl rfl (by kernel_rfl) (fun wq_ hq_ => e_move (v := .slice A2 x1.length c3) (by exact e39)) ?_
    refine qv (d := 84) rfl rfl (by kernel_rfl) (fun wq_ hq_ => e_move (v := .int .i64 x38) (by exact e44)) ?_
    refine qv (d := 85) rfl rfl (by kernel_rfl) (fun wq_ hq_ => e_move (v := .int .i64 x38) (by exact e44)) ?_
    refine qv (d := 86) rfl rfl (by kernel_rfl) (fun wq_ hq_ => e_add (k := .i64) (a := x38) (b := 1) (by kernel_rfl) rfl) ?_
    obtain ⟨q208, M⟩ := chk M
    obtain ⟨q209, M⟩ := chk M
    obtain ⟨A210, h213, l212, h211⟩ := Rd.sub2 (d := st65) (n := x1.length) (m := 3) (cap := c3) (a := x38) (b := (IntKind.i64.wrap (x38 + 1))) rfl h4 q56 q208 q209 rfl l5
    refine qv (d := 87) rfl rfl (by kernel_rfl) (fun wq_ hq_ => e_slice_lh (n := x1.length) (m := 3) (cap := c3) (A := A2) (a := x38) (b := (IntKind.i64.wrap (x38 + 1))) (k := .i64) (k2 := .i64) Try.underlying25 (by kernel_rfl) (by kernel_rfl) (by kernel_rfl) (by kernel_rfl) q56 q208 q209 l5 h213) ?_
    refine qv (d := 88) rfl rfl (by kernel_rfl) (fun wq_ hq_ => e_move (v := .slice A7 x6.length c8) (by exact e40)) ?_
    refine qv (d := 89) rfl rfl (by kernel_rfl) (fun wq_ hq_ => e_move (v := .int .i64 x37) (by exact e43)) ?_
    refine qv (d := 90) rfl rfl (by kernel_rfl) (fun wq_ hq_ => e_move (v := .int .i64 x37) (by exact e43)) ?_
    refine qv (d := 91) rfl rfl (by kernel_rfl) (fun wq_ hq_ => e_add (k := .i64) (a := x37) (b := 1) (by kernel_rfl) rfl) ?_
    obtain ⟨q214, M⟩ := chk M
    obtain ⟨q215, M⟩ := chk M
    obtain ⟨q216, M⟩ := chk M
    obtain ⟨A217, h220, l219, h218⟩ := Rd.sub2 (d := st65) (n := x6.length) (m := 3) (cap := c8) (a := x37) (b := (IntKind.i64.wrap (x37 + 1))) rfl h9 q214 q215 q216 rfl l10
    refine qv (d := 92) rfl rfl (by kernel_rfl) (fun wq_ hq_ => e_slice_lh (n := x6.length) (m := 3) (cap := c8) (A := A7) (a := x37) (b := (IntKind.i64.wrap (x37 + 1))) (k := .i64) (k2 := .i64) Try.underlying25 (by kernel_rfl) (by kernel_rfl) (by kernel_rfl) (by kernel_rfl) q214 q215 q216 l10 h220) ?_
    obtain ⟨t221, u222, M⟩ := bnd M
    refine qcall (v := .int .i64 t221) (d := 93) rfl rfl (by kernel_rfl) (fun w_ => e_call (l := [.tmp 87, .tmp 92]) (vs := [.slice A210 ((x1.drop ((x38 : Int).toNat)).take (((IntKind.i64.wrap (x38 + 1)) : Int).toNat - (x38 : Int).toNat)).length (c3 - ((x38 : Int).toNat)), .slice A217 ((x6.drop ((x37 : Int).toNat)).take (((IntKind.i64.wrap (x37 + 1)) : Int).toNat - (x37 : Int).toNat)).length (c8 - ((x37 : Int).toNat))]) Try.func60 (by kernel_rfl) rfl (by kernel_rfl) rfl) (fun wq_ hq_ => (by obtain ⟨S_, K_⟩ := S45.still hq_; replace h31 := h31.move (K_.at 0 rfl); replace h36 := h36.move (K_.at 1 rfl); exact (spec_l2compare.calls k50 wq_ H ((x1.drop ((x38 : Int).toNat)).take (((IntKind.i64.wrap (x38 + 1)) : Int).toNat - (x38 : Int).toNat)) A210 (c3 - ((x38 : Int).toNat)) ((x6.drop ((x37 : Int).toNat)).take (((IntKind.i64.wrap (x37 + 1)) : Int).toNat - (x37 : Int).toNat)) A217 (c8 - ((x37 : Int).toNat)) h211 l212 h218 l219 S_.own0 t221 u222))) ?_
    refine qv (d := 94) rfl rfl (by kernel_rfl) (fun wq_ hq_ => e_neq (k := .i64) (a := t221) (b := 0) (by kernel_rfl) rfl) ?_
    refine wpQuiet_nil ?_
    intro w223 C226
    obtain ⟨S224, K225⟩ := S45.still C226
    replace h31 := h31.move (K225.at 0 rfl)
    replace h36 := h36.move (K225.at 1 rfl)
    refine then_n ?_
    by_cases q227 : t221 ≠ 0
    · replace M := ifp q227 M
      refine cond_t rfl (bt q227 (by kernel_rfl)) ?_
      refine wp_seq ?_
      refine wp_region_lit ?_
      refine lv (d := 4) rfl rfl (by kernel_rfl) (e_assign (v := .bool false) rfl) ?_
      refine wpList_nil ?_
      refine then_n ?_
      refine wp_ret ?_
      refine then_r ?_
      refine inb_r ?_
      refine then_r ?_
      refine then_r ?_
      refine inb_r ?_
      refine then_r ?_
      obtain rfl := Option.some.inj M
      exact ret1 rfl rfl  (show _ = .bool false from (by kernel_rfl)) ⟨rfl, S224.chg⟩
    replace M := ifn q227 M
    refine cond_f rfl (bf q227 (by kernel_rfl)) ?_
    refine wp_skip ?_
    refine then_n ?_
    refine wp_region_lit ?_
    refine lv (d := 95) rfl rfl (by kernel_rfl) (e_move (v := .int .i64 x37) (by exact e43)) ?_
    refine lv (d := 96) rfl rfl (by kernel_rfl) (e_add (k := .i64) (a := x37) (b := 1) (by kernel_rfl) rfl) ?_
    refine lv (d := 7) rfl rfl (by kernel_rfl) (e_assign (v := .int .i64 (IntKind.i64.wrap (x37 + 1))) (by kernel_rfl)) ?_
    refine wpList_nil ?_
    refine inb_n ?_
    refine then_n ?_
    refine wp_region_lit ?_
    refine lv (d := 23) rfl rfl (by kernel_rfl) (e_move (v := .int .i64 x38) (by exact e44)) ?_
    refine lv (d := 24) rfl rfl (by kernel_rfl) (e_add (k := .i64) (a := x38) (b := 1) (by kernel_rfl) rfl) ?_
    refine lv (d := 8) rfl rfl (by kernel_rfl) (e_assign (v := .int .i64 (IntKind.i64.wrap (x38 + 1))) (by kernel_rfl)) ?_
    refine wpList_nil ?_
    refine then_n ?_
    exact ⟨k50, (by omega), _, x27, A28, c29, F30, x32, A33, c34, F35, (IntKind.i64.wrap (x37 + 1)), (IntKind.i64.wrap (x38 + 1)), rfl, (by exact e39), (by exact e40), (by exact e41), (by exact e42), (by kernel_rfl), (by kernel_rfl), h31, h36, S224, M⟩
  replace M := ifn q54 M
  refine cond_f rfl (bf q54 (by kernel_rfl)) ?_
  refine wp_exit ?_
  refine then_e ?_
  refine then_e ?_
  refine inb_hit ?_
  refine then_n ?_
  refine wp_seq ?_
  refine wp_region_lit ?_
  refine lv (d := 97) rfl rfl (by kernel_rfl) (e_move (v := .int .i64 x37) (by exact e43)) ?_
  refine lv (d := 98) rfl rfl (by kernel_rfl) (e_move (v := .slice A7 x6.length c8) (by exact e40)) ?_
  refine lv (d := 99) rfl rfl (by kernel_rfl) (e_len (A := A7) (n := x6.length) (c := c8) Try.underlying25 (by kernel_rfl)) ?_
  refine lv (d := 100) rfl rfl (by kernel_rfl) (e_eql (k := .i64) (a := x37) (b := (x6.length : Int)) (by kernel_rfl) (by kernel_rfl)) ?_
  refine lv (d := 4) rfl rfl (by kernel_rfl) (e_assign (v := .bool (decide (x37 = (x6.length : Int)))) (by kernel_rfl)) ?_
  refine wpList_nil ?_
  refine then_n ?_
  refine wp_ret ?_
  obtain rfl := Option.some.inj M
  exact ret1 rfl rfl  (show _ = .bool (decide (x37 = (x6.length : Int))) from (by kernel_rfl)) ⟨rfl, S45.chg⟩

/-! impl_cellOk -/
def impl_cellOk.f (x1 : Cell) : Option Bool := (if x1.kind = 0 then (if x1.n ≥ 0 then (if x1.n ≤ 1000000 then some (decide ((x1.text.length : Int) = 0)) else some false) else some false) else (if x1.kind = 1 then (if x1.n ≥ (-1000000000000000) then (if x1.n ≤ 1000000000000000 then some (decide ((x1.text.length : Int) = 0)) else some false) else some false) else (if x1.kind = 2 then (if x1.n = 0 then some (decide ((x1.text.length : Int) ≤ 100)) else some false) else (if x1.kind = 3 then (if x1.n ≥ 1 then (if x1.n ≤ 20 then some (decide ((x1.text.length : Int) ≤ 100)) else some false) else some false) else some false))))
theorem impl_cellOk.calls (w : World) (H : Hp) (x1 : Cell) (A2 : Option Addr) (c3 : Nat) (h4 : Rd tByte H A2 x1.text) (l5 : x1.text.length ≤ c3) (S : Own [] H w) (r : Bool) (M : impl_cellOk.f x1 = some r) :
    Calls Try.prog 58 #[.agg #[.int .i64 x1.kind, .int .i64 x1.n, .slice A2 x1.text.length c3]] w (fun e e_w => e = .returned (.bool r) ∧ Chg no w e_w) := by
  rw [impl_cellOk.f] at M
  refine enter (l := [.agg #[.int .i64 x1.kind, .int .i64 x1.n, .slice A2 x1.text.length c3]]) 64 Try.func58 rfl rfl rfl ?_
  have S0_ := S.st
  refine wp_seq ?_
  refine wp_region_lit ?_
  refine lve (d := 1) rfl rfl (by kernel_rfl) (new_blk (v := fun g_ => .pointer (some ⟨g_, 0, none⟩)) (cs := #[.int .i64 x1.kind, .int .i64 x1.n, .slice A2 x1.text.length c3]) (t := 65) S0_ (by kernel_rfl)) ?_
  rintro _ w6 ⟨g7, rfl, b8, S9, K10⟩
  refine lv (d := 2) rfl rfl (by kernel_rfl) (e_assign (v := .bool false) rfl) ?_
  refine wpList_nil ?_
  refine then_n ?_
  refine wp_seq ?_
  refine wp_seq ?_
  refine wp_region_lit ?_
  refine lv (d := 3) rfl rfl (by kernel_rfl) (e_fieldAddr (b := g7) (off := 0) (o := 0) Try.underlying65 rfl rfl (sz := 1) (by kernel_rfl) (by decide) (by kernel_rfl)) ?_
  refine lv (d := 4) rfl rfl (by kernel_rfl) (e_load1 (ad := ⟨g7, 0 + 0, none⟩) (v := .int .i64 x1.kind) Try.underlying3 rfl (by kernel_rfl) (blk_cell b8 rfl)) ?_
  refine wpList_nil ?_
  refine then_n ?_
  refine wp_block ?_
  refine wp_seq ?_
  refine wp_region_lit ?_
  refine lv (d := 6) rfl rfl (by kernel_rfl) (e_eql (k := .i64) (a := x1.kind) (b := 0) (by kernel_rfl) rfl) ?_
  refine lv (d := 5) rfl rfl (by kernel_rfl) (e_assign (v := .bool (decide (x1.kind = 0))) (by kernel_rfl)) ?_
  refine wpList_nil ?_
  refine then_n ?_
  by_cases q11 : x1.kind = 0
  · replace M := ifp q11 M
    refine cond_t rfl (bt q11 (by kernel_rfl)) ?_
    refine wp_seq ?_
    refine wp_region_lit ?_
    refine lv (d := 7) rfl rfl (by kernel_rfl) (e_fieldAddr (b := g7) (off := 0) (o := 1) Try.underlying65 rfl rfl (sz := 1) (by kernel_rfl) (by decide) (by kernel_rfl)) ?_
    refine lv (d := 8) rfl rfl (by kernel_rfl) (e_load1 (ad := ⟨g7, 0 + 1, none⟩) (v := .int .i64 x1.n) Try.underlying3 rfl (by kernel_rfl) (blk_cell b8 rfl)) ?_
    refine lv (d := 9) rfl rfl (by kernel_rfl) (e_geq (k := .i64) (a := x1.n) (b := 0) (by kernel_rfl) rfl) ?_
    refine lv (d := 10) rfl rfl (by kernel_rfl) (e_move (v := .bool (decide (x1.n ≥ 0))) (by kernel_rfl)) ?_
    by_cases q12 : x1.n ≥ 0
    · replace M := ifp q12 M
      refine lvg (d := 11) (t := 10) rfl (by kernel_rfl) rfl (bt q12 (by kernel_rfl)) rfl (by kernel_rfl) (e_fieldAddr (b := g7) (off := 0) (o := 1) Try.underlying65 rfl rfl (sz := 1) (by kernel_rfl) (by decide) (by kernel_rfl)) ?_
      refine lvg (d := 12) (t := 10) rfl (by kernel_rfl) rfl (bt q12 (by kernel_rfl)) rfl (by kernel_rfl) (e_load1 (ad := ⟨g7, 0 + 1, none⟩) (v := .int .i64 x1.n) Try.underlying3 rfl (by kernel_rfl) (blk_cell b8 rfl)) ?_
      refine lvg (d := 13) (t := 10) rfl (by kernel_rfl) rfl (bt q12 (by kernel_rfl)) rfl (by kernel_rfl) (e_leq (k := .i64) (a := x1.n) (b := 1000000) (by kernel_rfl) rfl) ?_
      refine lv (d := 14) rfl rfl (by kernel_rfl) (e_pick_t (v := .bool (decide (x1.n ≤ 1000000))) (bt q12 (by kernel_rfl)) (by kernel_rfl)) ?_
      refine lv (d := 15) rfl rfl (by kernel_rfl) (e_move (v := .bool (decide (x1.n ≤ 1000000))) (by kernel_rfl)) ?_
      by_cases q13 : x1.n ≤ 1000000
      · replace M := ifp q13 M
        refine lvg (d := 16) (t := 15) rfl (by kernel_rfl) rfl (bt q13 (by kernel_rfl)) rfl (by kernel_rfl) (e_fieldAddr (b := g7) (off := 0) (o := 2) Try.underlying65 rfl rfl (sz := 1) (by kernel_rfl) (by decide) (by kernel_rfl)) ?_
        refine lvg (d := 17) (t := 15) rfl (by kernel_rfl) rfl (bt q13 (by kernel_rfl)) rfl (by kernel_rfl) (e_load1 (ad := ⟨g7, 0 + 2, none⟩) (v := .slice A2 x1.text.length c3) Try.underlying59 rfl (by kernel_rfl) (blk_cell b8 rfl)) ?_
        refine lvg (d := 18) (t := 15) rfl (by kernel_rfl) rfl (bt q13 (by kernel_rfl)) rfl (by kernel_rfl) (e_len (A := A2) (n := x1.text.length) (c := c3) Try.underlying59 (by kernel_rfl)) ?_
        refine lvg (d := 19) (t := 15) rfl (by kernel_rfl) rfl (bt q13 (by kernel_rfl)) rfl (by kernel_rfl) (e_eql (k := .i64) (a := (x1.text.length : Int)) (b := 0) (by kernel_rfl) rfl) ?_
        refine lv (d := 20) rfl rfl (by kernel_rfl) (e_pick_t (v := .bool (decide ((x1.text.length : Int) = 0))) (bt q13 (by kernel_rfl)) (by kernel_rfl)) ?_
        refine lv (d := 2) rfl rfl (by kernel_rfl) (e_assign (v := .bool (decide ((x1.text.length : Int) = 0))) (by kernel_rfl)) ?_
        refine wpList_nil ?_
        refine then_n ?_
        refine wp_ret ?_
        refine inb_r ?_
        refine then_r ?_
        obtain rfl := Option.some.inj M
        exact ret1 rfl rfl  (show _ = .bool (decide ((x1.text.length : Int) = 0)) from (by kernel_rfl)) ⟨rfl, S9.chg⟩
      replace M := ifn q13 M
      refine lskip (t := 15) (c := false) rfl (by kernel_rfl) rfl (bf q13 (by kernel_rfl)) rfl rfl ?_
      refine lskip (t := 15) (c := false) rfl (by kernel_rfl) rfl (bf q13 (by kernel_rfl)) rfl rfl ?_
      refine lskip (t := 15) (c := false) rfl (by kernel_rfl) rfl (bf q13 (by kernel_rfl)) rfl rfl ?_
      refine lskip (t := 15) (c := false) rfl (by kernel_rfl) rfl (bf q13 (by kernel_rfl)) rfl rfl ?_
      refine lv (d := 20) rfl rfl (by kernel_rfl) (e_pick_f (v := .bool false) (bf q13 (by kernel_rfl)) rfl) ?_
      refine lv (d := 2) rfl rfl (by kernel_rfl) (e_assign (v := .bool false) (by kernel_rfl)) ?_
      refine wpList_nil ?_
      refine then_n ?_
      refine wp_ret ?_
      refine inb_r ?_
      refine then_r ?_
      obtain rfl := Option.some.inj M
      exact ret1 rfl rfl  (show _ = .bool false from (by kernel_rfl)) ⟨rfl, S9.chg⟩
    replace M := ifn q12 M
    refine lskip (t := 10) (c := false) rfl (by kernel_rfl) rfl (bf q12 (by kernel_rfl)) rfl rfl ?_
    refine lskip (t := 10) (c := false) rfl (by kernel_rfl) rfl (bf q12 (by kernel_rfl)) rfl rfl ?_
    refine lskip (t := 10) (c := false) rfl (by kernel_rfl) rfl (bf q12 (by kernel_rfl)) rfl rfl ?_
    refine lv (d := 14) rfl rfl (by kernel_rfl) (e_pick_f (v := .bool false) (bf q12 (by kernel_rfl)) rfl) ?_
    refine lv (d := 15) rfl rfl (by kernel_rfl) (e_move (v := .bool false) (by kernel_rfl)) ?_
    refine lskip (t := 15) (c := false) rfl (by kernel_rfl) rfl (by kernel_rfl) rfl rfl ?_
    refine lskip (t := 15) (c := false) rfl (by kernel_rfl) rfl (by kernel_rfl) rfl rfl ?_
    refine lskip (t := 15) (c := false) rfl (by kernel_rfl) rfl (by kernel_rfl) rfl rfl ?_
    refine lskip (t := 15) (c := false) rfl (by kernel_rfl) rfl (by kernel_rfl) rfl rfl ?_
    refine lv (d := 20) rfl rfl (by kernel_rfl) (e_pick_f (v := .bool false) (by kernel_rfl) rfl) ?_
    refine lv (d := 2) rfl rfl (by kernel_rfl) (e_assign (v := .bool false) (by kernel_rfl)) ?_
    refine wpList_nil ?_
    refine then_n ?_
    refine wp_ret ?_
    refine inb_r ?_
    refine then_r ?_
    obtain rfl := Option.some.inj M
    exact ret1 rfl rfl  (show _ = .bool false from (by kernel_rfl)) ⟨rfl, S9.chg⟩
  replace M := ifn q11 M
  refine cond_f rfl (bf q11 (by kernel_rfl)) ?_
  refine wp_seq ?_
  refine wp_region_lit ?_
  refine lv (d := 22) rfl rfl (by kernel_rfl) (e_eql (k := .i64) (a := x1.kind) (b := 1) (by kernel_rfl) rfl) ?_
  refine lv (d := 21) rfl rfl (by kernel_rfl) (e_assign (v := .bool (decide (x1.kind = 1))) (by kernel_rfl)) ?_
  refine wpList_nil ?_
  refine then_n ?_
  by_cases q14 : x1.kind = 1
  · replace M := ifp q14 M
    refine cond_t rfl (bt q14 (by kernel_rfl)) ?_
    refine wp_seq ?_
    refine wp_region_lit ?_
    refine lv (d := 23) rfl rfl (by kernel_rfl) (e_fieldAddr (b := g7) (off := 0) (o := 1) Try.underlying65 rfl rfl (sz := 1) (by kernel_rfl) (by decide) (by kernel_rfl)) ?_
    refine lv (d := 24) rfl rfl (by kernel_rfl) (e_load1 (ad := ⟨g7, 0 + 1, none⟩) (v := .int .i64 x1.n) Try.underlying3 rfl (by kernel_rfl) (blk_cell b8 rfl)) ?_
    refine lv (d := 25) rfl rfl (by kernel_rfl) (e_geq (k := .i64) (a := x1.n) (b := (-1000000000000000)) (by kernel_rfl) rfl) ?_
    refine lv (d := 26) rfl rfl (by kernel_rfl) (e_move (v := .bool (decide (x1.n ≥ (-1000000000000000)))) (by kernel_rfl)) ?_
    by_cases q15 : x1.n ≥ (-1000000000000000)
    · replace M := ifp q15 M
      refine lvg (d := 27) (t := 26) rfl (by kernel_rfl) rfl (bt q15 (by kernel_rfl)) rfl (by kernel_rfl) (e_fieldAddr (b := g7) (off := 0) (o := 1) Try.underlying65 rfl rfl (sz := 1) (by kernel_rfl) (by decide) (by kernel_rfl)) ?_
      refine lvg (d := 28) (t := 26) rfl (by kernel_rfl) rfl (bt q15 (by kernel_rfl)) rfl (by kernel_rfl) (e_load1 (ad := ⟨g7, 0 + 1, none⟩) (v := .int .i64 x1.n) Try.underlying3 rfl (by kernel_rfl) (blk_cell b8 rfl)) ?_
      refine lvg (d := 29) (t := 26) rfl (by kernel_rfl) rfl (bt q15 (by kernel_rfl)) rfl (by kernel_rfl) (e_leq (k := .i64) (a := x1.n) (b := 1000000000000000) (by kernel_rfl) rfl) ?_
      refine lv (d := 30) rfl rfl (by kernel_rfl) (e_pick_t (v := .bool (decide (x1.n ≤ 1000000000000000))) (bt q15 (by kernel_rfl)) (by kernel_rfl)) ?_
      refine lv (d := 31) rfl rfl (by kernel_rfl) (e_move (v := .bool (decide (x1.n ≤ 1000000000000000))) (by kernel_rfl)) ?_
      by_cases q16 : x1.n ≤ 1000000000000000
      · replace M := ifp q16 M
        refine lvg (d := 32) (t := 31) rfl (by kernel_rfl) rfl (bt q16 (by kernel_rfl)) rfl (by kernel_rfl) (e_fieldAddr (b := g7) (off := 0) (o := 2) Try.underlying65 rfl rfl (sz := 1) (by kernel_rfl) (by decide) (by kernel_rfl)) ?_
        refine lvg (d := 33) (t := 31) rfl (by kernel_rfl) rfl (bt q16 (by kernel_rfl)) rfl (by kernel_rfl) (e_load1 (ad := ⟨g7, 0 + 2, none⟩) (v := .slice A2 x1.text.length c3) Try.underlying59 rfl (by kernel_rfl) (blk_cell b8 rfl)) ?_
        refine lvg (d := 34) (t := 31) rfl (by kernel_rfl) rfl (bt q16 (by kernel_rfl)) rfl (by kernel_rfl) (e_len (A := A2) (n := x1.text.length) (c := c3) Try.underlying59 (by kernel_rfl)) ?_
        refine lvg (d := 35) (t := 31) rfl (by kernel_rfl) rfl (bt q16 (by kernel_rfl)) rfl (by kernel_rfl) (e_eql (k := .i64) (a := (x1.text.length : Int)) (b := 0) (by kernel_rfl) rfl) ?_
        refine lv (d := 36) rfl rfl (by kernel_rfl) (e_pick_t (v := .bool (decide ((x1.text.length : Int) = 0))) (bt q16 (by kernel_rfl)) (by kernel_rfl)) ?_
        refine lv (d := 2) rfl rfl (by kernel_rfl) (e_assign (v := .bool (decide ((x1.text.length : Int) = 0))) (by kernel_rfl)) ?_
        refine wpList_nil ?_
        refine then_n ?_
        refine wp_ret ?_
        refine inb_r ?_
        refine then_r ?_
        obtain rfl := Option.some.inj M
        exact ret1 rfl rfl  (show _ = .bool (decide ((x1.text.length : Int) = 0)) from (by kernel_rfl)) ⟨rfl, S9.chg⟩
      replace M := ifn q16 M
      refine lskip (t := 31) (c := false) rfl (by kernel_rfl) rfl (bf q16 (by kernel_rfl)) rfl rfl ?_
      refine lskip (t := 31) (c := false) rfl (by kernel_rfl) rfl (bf q16 (by kernel_rfl)) rfl rfl ?_
      refine lskip (t := 31) (c := false) rfl (by kernel_rfl) rfl (bf q16 (by kernel_rfl)) rfl rfl ?_
      refine lskip (t := 31) (c := false) rfl (by kernel_rfl) rfl (bf q16 (by kernel_rfl)) rfl rfl ?_
      refine lv (d := 36) rfl rfl (by kernel_rfl) (e_pick_f (v := .bool false) (bf q16 (by kernel_rfl)) rfl) ?_
      refine lv (d := 2) rfl rfl (by kernel_rfl) (e_assign (v := .bool false) (by kernel_rfl)) ?_
      refine wpList_nil ?_
      refine then_n ?_
      refine wp_ret ?_
      refine inb_r ?_
      refine then_r ?_
      obtain rfl := Option.some.inj M
      exact ret1 rfl rfl  (show _ = .bool false from (by kernel_rfl)) ⟨rfl, S9.chg⟩
    replace M := ifn q15 M
    refine lskip (t := 26) (c := false) rfl (by kernel_rfl) rfl (bf q15 (by kernel_rfl)) rfl rfl ?_
    refine lskip (t := 26) (c := false) rfl (by kernel_rfl) rfl (bf q15 (by kernel_rfl)) rfl rfl ?_
    refine lskip (t := 26) (c := false) rfl (by kernel_rfl) rfl (bf q15 (by kernel_rfl)) rfl rfl ?_
    refine lv (d := 30) rfl rfl (by kernel_rfl) (e_pick_f (v := .bool false) (bf q15 (by kernel_rfl)) rfl) ?_
    refine lv (d := 31) rfl rfl (by kernel_rfl) (e_move (v := .bool false) (by kernel_rfl)) ?_
    refine lskip (t := 31) (c := false) rfl (by kernel_rfl) rfl (by kernel_rfl) rfl rfl ?_
    refine lskip (t := 31) (c := false) rfl (by kernel_rfl) rfl (by kernel_rfl) rfl rfl ?_
    refine lskip (t := 31) (c := false) rfl (by kernel_rfl) rfl (by kernel_rfl) rfl rfl ?_
    refine lskip (t := 31) (c := false) rfl (by kernel_rfl) rfl (by kernel_rfl) rfl rfl ?_
    refine lv (d := 36) rfl rfl (by kernel_rfl) (e_pick_f (v := .bool false) (by kernel_rfl) rfl) ?_
    refine lv (d := 2) rfl rfl (by kernel_rfl) (e_assign (v := .bool false) (by kernel_rfl)) ?_
    refine wpList_nil ?_
    refine then_n ?_
    refine wp_ret ?_
    refine inb_r ?_
    refine then_r ?_
    obtain rfl := Option.some.inj M
    exact ret1 rfl rfl  (show _ = .bool false from (by kernel_rfl)) ⟨rfl, S9.chg⟩
  replace M := ifn q14 M
  refine cond_f rfl (bf q14 (by kernel_rfl)) ?_
  refine wp_seq ?_
  refine wp_region_lit ?_
  refine lv (d := 38) rfl rfl (by kernel_rfl) (e_eql (k := .i64) (a := x1.kind) (b := 2) (by kernel_rfl) rfl) ?_
  refine lv (d := 37) rfl rfl (by kernel_rfl) (e_assign (v := .bool (decide (x1.kind = 2))) (by kernel_rfl)) ?_
  refine wpList_nil ?_
  refine then_n ?_
  by_cases q17 : x1.kind = 2
  · replace M := ifp q17 M
    refine cond_t rfl (bt q17 (by kernel_rfl)) ?_
    refine wp_seq ?_
    refine wp_region_lit ?_
    refine lv (d := 39) rfl rfl (by kernel_rfl) (e_fieldAddr (b := g7) (off := 0) (o := 1) Try.underlying65 rfl rfl (sz := 1) (by kernel_rfl) (by decide) (by kernel_rfl)) ?_
    refine lv (d := 40) rfl rfl (by kernel_rfl) (e_load1 (ad := ⟨g7, 0 + 1, none⟩) (v := .int .i64 x1.n) Try.underlying3 rfl (by kernel_rfl) (blk_cell b8 rfl)) ?_
    refine lv (d := 41) rfl rfl (by kernel_rfl) (e_eql (k := .i64) (a := x1.n) (b := 0) (by kernel_rfl) rfl) ?_
    refine lv (d := 42) rfl rfl (by kernel_rfl) (e_move (v := .bool (decide (x1.n = 0))) (by kernel_rfl)) ?_
    by_cases q18 : x1.n = 0
    · replace M := ifp q18 M
      refine lvg (d := 43) (t := 42) rfl (by kernel_rfl) rfl (bt q18 (by kernel_rfl)) rfl (by kernel_rfl) (e_fieldAddr (b := g7) (off := 0) (o := 2) Try.underlying65 rfl rfl (sz := 1) (by kernel_rfl) (by decide) (by kernel_rfl)) ?_
      refine lvg (d := 44) (t := 42) rfl (by kernel_rfl) rfl (bt q18 (by kernel_rfl)) rfl (by kernel_rfl) (e_load1 (ad := ⟨g7, 0 + 2, none⟩) (v := .slice A2 x1.text.length c3) Try.underlying59 rfl (by kernel_rfl) (blk_cell b8 rfl)) ?_
      refine lvg (d := 45) (t := 42) rfl (by kernel_rfl) rfl (bt q18 (by kernel_rfl)) rfl (by kernel_rfl) (e_len (A := A2) (n := x1.text.length) (c := c3) Try.underlying59 (by kernel_rfl)) ?_
      refine lvg (d := 46) (t := 42) rfl (by kernel_rfl) rfl (bt q18 (by kernel_rfl)) rfl (by kernel_rfl) (e_leq (k := .i64) (a := (x1.text.length : Int)) (b := 100) (by kernel_rfl) rfl) ?_
      refine lv (d := 47) rfl rfl (by kernel_rfl) (e_pick_t (v := .bool (decide ((x1.text.length : Int) ≤ 100))) (bt q18 (by kernel_rfl)) (by kernel_rfl)) ?_
      refine lv (d := 2) rfl rfl (by kernel_rfl) (e_assign (v := .bool (decide ((x1.text.length : Int) ≤ 100))) (by kernel_rfl)) ?_
      refine wpList_nil ?_
      refine then_n ?_
      refine wp_ret ?_
      refine inb_r ?_
      refine then_r ?_
      obtain rfl := Option.some.inj M
      exact ret1 rfl rfl  (show _ = .bool (decide ((x1.text.length : Int) ≤ 100)) from (by kernel_rfl)) ⟨rfl, S9.chg⟩
    replace M := ifn q18 M
    refine lskip (t := 42) (c := false) rfl (by kernel_rfl) rfl (bf q18 (by kernel_rfl)) rfl rfl ?_
    refine lskip (t := 42) (c := false) rfl (by kernel_rfl) rfl (bf q18 (by kernel_rfl)) rfl rfl ?_
    refine lskip (t := 42) (c := false) rfl (by kernel_rfl) rfl (bf q18 (by kernel_rfl)) rfl rfl ?_
    refine lskip (t := 42) (c := false) rfl (by kernel_rfl) rfl (bf q18 (by kernel_rfl)) rfl rfl ?_
    refine lv (d := 47) rfl rfl (by kernel_rfl) (e_pick_f (v := .bool false) (bf q18 (by kernel_rfl)) rfl) ?_
    refine lv (d := 2) rfl rfl (by kernel_rfl) (e_assign (v := .bool false) (by kernel_rfl)) ?_
    refine wpList_nil ?_
    refine then_n ?_
    refine wp_ret ?_
    refine inb_r ?_
    refine then_r ?_
    obtain rfl := Option.some.inj M
    exact ret1 rfl rfl  (show _ = .bool false from (by kernel_rfl)) ⟨rfl, S9.chg⟩
  replace M := ifn q17 M
  refine cond_f rfl (bf q17 (by kernel_rfl)) ?_
  refine wp_seq ?_
  refine wp_region_lit ?_
  refine lv (d := 49) rfl rfl (by kernel_rfl) (e_eql (k := .i64) (a := x1.kind) (b := 3) (by kernel_rfl) rfl) ?_
  refine lv (d := 48) rfl rfl (by kernel_rfl) (e_assign (v := .bool (decide (x1.kind = 3))) (by kernel_rfl)) ?_
  refine wpList_nil ?_
  refine then_n ?_
  by_cases q19 : x1.kind = 3
  · replace M := ifp q19 M
    refine cond_t rfl (bt q19 (by kernel_rfl)) ?_
    refine wp_seq ?_
    refine wp_region_lit ?_
    refine lv (d := 50) rfl rfl (by kernel_rfl) (e_fieldAddr (b := g7) (off := 0) (o := 1) Try.underlying65 rfl rfl (sz := 1) (by kernel_rfl) (by decide) (by kernel_rfl)) ?_
    refine lv (d := 51) rfl rfl (by kernel_rfl) (e_load1 (ad := ⟨g7, 0 + 1, none⟩) (v := .int .i64 x1.n) Try.underlying3 rfl (by kernel_rfl) (blk_cell b8 rfl)) ?_
    refine lv (d := 52) rfl rfl (by kernel_rfl) (e_geq (k := .i64) (a := x1.n) (b := 1) (by kernel_rfl) rfl) ?_
    refine lv (d := 53) rfl rfl (by kernel_rfl) (e_move (v := .bool (decide (x1.n ≥ 1))) (by kernel_rfl)) ?_
    by_cases q20 : x1.n ≥ 1
    · replace M := ifp q20 M
      refine lvg (d := 54) (t := 53) rfl (by kernel_rfl) rfl (bt q20 (by kernel_rfl)) rfl (by kernel_rfl) (e_fieldAddr (b := g7) (off := 0) (o := 1) Try.underlying65 rfl rfl (sz := 1) (by kernel_rfl) (by decide) (by kernel_rfl)) ?_
      refine lvg (d := 55) (t := 53) rfl (by kernel_rfl) rfl (bt q20 (by kernel_rfl)) rfl (by kernel_rfl) (e_load1 (ad := ⟨g7, 0 + 1, none⟩) (v := .int .i64 x1.n) Try.underlying3 rfl (by kernel_rfl) (blk_cell b8 rfl)) ?_
      refine lvg (d := 56) (t := 53) rfl (by kernel_rfl) rfl (bt q20 (by kernel_rfl)) rfl (by kernel_rfl) (e_leq (k := .i64) (a := x1.n) (b := 20) (by kernel_rfl) rfl) ?_
      refine lv (d := 57) rfl rfl (by kernel_rfl) (e_pick_t (v := .bool (decide (x1.n ≤ 20))) (bt q20 (by kernel_rfl)) (by kernel_rfl)) ?_
      refine lv (d := 58) rfl rfl (by kernel_rfl) (e_move (v := .bool (decide (x1.n ≤ 20))) (by kernel_rfl)) ?_
      by_cases q21 : x1.n ≤ 20
      · replace M := ifp q21 M
        refine lvg (d := 59) (t := 58) rfl (by kernel_rfl) rfl (bt q21 (by kernel_rfl)) rfl (by kernel_rfl) (e_fieldAddr (b := g7) (off := 0) (o := 2) Try.underlying65 rfl rfl (sz := 1) (by kernel_rfl) (by decide) (by kernel_rfl)) ?_
        refine lvg (d := 60) (t := 58) rfl (by kernel_rfl) rfl (bt q21 (by kernel_rfl)) rfl (by kernel_rfl) (e_load1 (ad := ⟨g7, 0 + 2, none⟩) (v := .slice A2 x1.text.length c3) Try.underlying59 rfl (by kernel_rfl) (blk_cell b8 rfl)) ?_
        refine lvg (d := 61) (t := 58) rfl (by kernel_rfl) rfl (bt q21 (by kernel_rfl)) rfl (by kernel_rfl) (e_len (A := A2) (n := x1.text.length) (c := c3) Try.underlying59 (by kernel_rfl)) ?_
        refine lvg (d := 62) (t := 58) rfl (by kernel_rfl) rfl (bt q21 (by kernel_rfl)) rfl (by kernel_rfl) (e_leq (k := .i64) (a := (x1.text.length : Int)) (b := 100) (by kernel_rfl) rfl) ?_
        refine lv (d := 63) rfl rfl (by kernel_rfl) (e_pick_t (v := .bool (decide ((x1.text.length : Int) ≤ 100))) (bt q21 (by kernel_rfl)) (by kernel_rfl)) ?_
        refine lv (d := 2) rfl rfl (by kernel_rfl) (e_assign (v := .bool (decide ((x1.text.length : Int) ≤ 100))) (by kernel_rfl)) ?_
        refine wpList_nil ?_
        refine then_n ?_
        refine wp_ret ?_
        refine inb_r ?_
        refine then_r ?_
        obtain rfl := Option.some.inj M
        exact ret1 rfl rfl  (show _ = .bool (decide ((x1.text.length : Int) ≤ 100)) from (by kernel_rfl)) ⟨rfl, S9.chg⟩
      replace M := ifn q21 M
      refine lskip (t := 58) (c := false) rfl (by kernel_rfl) rfl (bf q21 (by kernel_rfl)) rfl rfl ?_
      refine lskip (t := 58) (c := false) rfl (by kernel_rfl) rfl (bf q21 (by kernel_rfl)) rfl rfl ?_
      refine lskip (t := 58) (c := false) rfl (by kernel_rfl) rfl (bf q21 (by kernel_rfl)) rfl rfl ?_
      refine lskip (t := 58) (c := false) rfl (by kernel_rfl) rfl (bf q21 (by kernel_rfl)) rfl rfl ?_
      refine lv (d := 63) rfl rfl (by kernel_rfl) (e_pick_f (v := .bool false) (bf q21 (by kernel_rfl)) rfl) ?_
      refine lv (d := 2) rfl rfl (by kernel_rfl) (e_assign (v := .bool false) (by kernel_rfl)) ?_
      refine wpList_nil ?_
      refine then_n ?_
      refine wp_ret ?_
      refine inb_r ?_
      refine then_r ?_
      obtain rfl := Option.some.inj M
      exact ret1 rfl rfl  (show _ = .bool false from (by kernel_rfl)) ⟨rfl, S9.chg⟩
    replace M := ifn q20 M
    refine lskip (t := 53) (c := false) rfl (by kernel_rfl) rfl (bf q20 (by kernel_rfl)) rfl rfl ?_
    refine lskip (t := 53) (c := false) rfl (by kernel_rfl) rfl (bf q20 (by kernel_rfl)) rfl rfl ?_
    refine lskip (t := 53) (c := false) rfl (by kernel_rfl) rfl (bf q20 (by kernel_rfl)) rfl rfl ?_
    refine lv (d := 57) rfl rfl (by kernel_rfl) (e_pick_f (v := .bool false) (bf q20 (by kernel_rfl)) rfl) ?_
    refine lv (d := 58) rfl rfl (by kernel_rfl) (e_move (v := .bool false) (by kernel_rfl)) ?_
    refine lskip (t := 58) (c := false) rfl (by kernel_rfl) rfl (by kernel_rfl) rfl rfl ?_
    refine lskip (t := 58) (c := false) rfl (by kernel_rfl) rfl (by kernel_rfl) rfl rfl ?_
    refine lskip (t := 58) (c := false) rfl (by kernel_rfl) rfl (by kernel_rfl) rfl rfl ?_
    refine lskip (t := 58) (c := false) rfl (by kernel_rfl) rfl (by kernel_rfl) rfl rfl ?_
    refine lv (d := 63) rfl rfl (by kernel_rfl) (e_pick_f (v := .bool false) (by kernel_rfl) rfl) ?_
    refine lv (d := 2) rfl rfl (by kernel_rfl) (e_assign (v := .bool false) (by kernel_rfl)) ?_
    refine wpList_nil ?_
    refine then_n ?_
    refine wp_ret ?_
    refine inb_r ?_
    refine then_r ?_
    obtain rfl := Option.some.inj M
    exact ret1 rfl rfl  (show _ = .bool false from (by kernel_rfl)) ⟨rfl, S9.chg⟩
  replace M := ifn q19 M
  refine cond_f rfl (bf q19 (by kernel_rfl)) ?_
  refine wp_skip ?_
  refine inb_n ?_
  refine then_n ?_
  refine wp_seq ?_
  refine wp_region_lit ?_
  refine lv (d := 2) rfl rfl (by kernel_rfl) (e_assign (v := .bool false) rfl) ?_
  refine wpList_nil ?_
  refine then_n ?_
  refine wp_ret ?_
  obtain rfl := Option.some.inj M
  exact ret1 rfl rfl  (show _ = .bool false from (by kernel_rfl)) ⟨rfl, S9.chg⟩

/-! impl_ValidTerm -/
def impl_ValidTerm.l0 : Nat → (List Cell) → Int → Int → Option Bool
  | 0, _, _, _ => none
  | k20 + 1, x1, x9, x10 => (if x10 < (x1.length : Int) then (if 0 ≤ x10 then (if x9 = 0 then some false else ((impl_cellOk.f (x1.getD ((x10).toNat) z65)).bind fun t43 => (if ¬ (t43 = true) then some false else (if ((x1.getD ((x10).toNat) z65).kind) = 3 then (impl_ValidTerm.l0 k20 x1 (IntKind.i64.wrap ((IntKind.i64.wrap (x9 - 1)) + ((x1.getD ((x10).toNat) z65).n))) (IntKind.i64.wrap (x10 + 1))) else (impl_ValidTerm.l0 k20 x1 (IntKind.i64.wrap (x9 - 1)) (IntKind.i64.wrap (x10 + 1))))))) else none) else some (decide (x9 = 0)))
def impl_ValidTerm.f (k : Nat) (x1 : List Cell) : Option Bool := (if (x1.length : Int) > 2000 then some false else (impl_ValidTerm.l0 k x1 1 0))
theorem impl_ValidTerm.calls (k : Nat) (w : World) (H : Hp) (x1 : List Cell) (A2 : Option Addr) (c3 : Nat) (h4 : Rd st65 H A2 x1) (l5 : x1.length ≤ c3) (S : Own [] H w) (r : Bool) (M : impl_ValidTerm.f k x1 = some r) :
    Calls Try.prog 17 #[.slice A2 x1.length c3] w (fun e e_w => e = .returned (.bool r) ∧ Chg no w e_w) := by
  rw [impl_ValidTerm.f] at M
  refine enter (l := [.slice A2 x1.length c3]) 34 Try.func17 rfl rfl rfl ?_
  have S0_ := S.st
  refine wp_seq ?_
  refine wp_region_lit ?_
  refine lv (d := 2) rfl rfl (by kernel_rfl) (e_assign (v := .bool false) rfl) ?_
  refine wpList_nil ?_
  refine then_n ?_
  refine wp_seq ?_
  refine wp_seq ?_
  refine wp_region_lit ?_
  refine lv (d := 6) rfl rfl (by kernel_rfl) (e_move (v := .slice A2 x1.length c3) (by kernel_rfl)) ?_
  refine lv (d := 7) rfl rfl (by kernel_rfl) (e_len (A := A2) (n := x1.length) (c := c3) Try.underlying25 (by kernel_rfl)) ?_
  refine lv (d := 8) rfl rfl (by kernel_rfl) (e_gtr (k := .i64) (a := (x1.length : Int)) (b := 2000) (by kernel_rfl) rfl) ?_
  refine wpList_nil ?_
  refine then_n ?_
  by_cases q6 : (x1.length : Int) > 2000
  · replace M := ifp q6 M
    refine cond_t rfl (bt q6 (by kernel_rfl)) ?_
    refine wp_seq ?_
    refine wp_region_lit ?_
    refine lv (d := 2) rfl rfl (by kernel_rfl) (e_assign (v := .bool false) rfl) ?_
    refine wpList_nil ?_
    refine then_n ?_
    refine wp_ret ?_
    refine then_r ?_
    obtain rfl := Option.some.inj M
    exact ret1 rfl rfl  (show _ = .bool false from (by kernel_rfl)) ⟨rfl, S0_.chg⟩
  replace M := ifn q6 M
  refine cond_f rfl (bf q6 (by kernel_rfl)) ?_
  refine wp_skip ?_
  refine then_n ?_
  refine wp_seq ?_
  refine wp_region_lit ?_
  refine lv (d := 3) rfl rfl (by kernel_rfl) (e_assign (v := .int .i64 1) rfl) ?_
  refine wpList_nil ?_
  refine then_n ?_
  refine wp_seq ?_
  refine wp_seq ?_
  refine wp_region_lit ?_
  refine lv (d := 9) rfl rfl (by kernel_rfl) (e_move (v := .slice A2 x1.length c3) (by kernel_rfl)) ?_
  refine lv (d := 10) rfl rfl (by kernel_rfl) (e_len (A := A2) (n := x1.length) (c := c3) Try.underlying25 (by kernel_rfl)) ?_
  refine lv (d := 11) rfl rfl (by kernel_rfl) (e_move (v := .int .i64 0) rfl) ?_
  refine wpList_nil ?_
  refine then_n ?_
  refine wp_block ?_
  refine wp_loop_g (fun k18 a19 w7 => ∃ (f8 : Nat → Value) (x9 : Int) (x10 : Int), a19 = mk 34 f8 ∧ f8 3 = .int .i64 x9 ∧ f8 9 = .slice A2 x1.length c3 ∧ f8 10 = .int .i64 (x1.length : Int) ∧ f8 11 = .int .i64 x10 ∧ St (anyOf []) H w [] H w7 ∧ impl_ValidTerm.l0 k18 x1 x9 x10 = some r) k ⟨_, 1, 0, rfl, (by kernel_rfl), (by kernel_rfl), (by kernel_rfl), (by kernel_rfl), S0_, M⟩ ?_
  clear M
  rintro k18 a19 w7 ⟨f8, x9, x10, rfl, e11, e12, e13, e14, S15, M⟩
  rcases k18 with _ | k20
  · rw [impl_ValidTerm.l0] at M
    cases M
  rw [impl_ValidTerm.l0] at M
  refine wp_seq ?_
  refine wp_region_lit ?_
  refine lv (d := 12) rfl rfl (by kernel_rfl) (e_lss (k := .i64) (a := x10) (b := (x1.length : Int)) (by exact e14) (by exact e13)) ?_
  refine wpList_nil ?_
  refine then_n ?_
  refine wp_seq ?_
  by_cases q21 : x10 < (x1.length : Int)
  · replace M := ifp q21 M
    refine cond_t rfl (bt q21 (by kernel_rfl)) ?_
    refine wp_skip ?_
    refine then_n ?_
    refine wp_seq ?_
    refine wp_block ?_
    refine wp_seq ?_
    refine wp_region_lit ?_
    obtain ⟨q22, M⟩ := chk M
    obtain ⟨b23, o24, e25⟩ := Rd.addr h4 (show (x10).toNat < x1.length by omega)
    obtain ⟨y26, r27, k28⟩ := Rd.at h4 e25 (getD_some z65 (show (x10).toNat < x1.length by omega))
    obtain ⟨A29, c30, rfl, l31, h32⟩ := st65_open r27
    refine lv (d := 13) rfl rfl (by kernel_rfl) (e_indexAddr (b := b23) (off := o24) (n := x1.length) (c := c3) (sz := 3) (i := x10) (k := .i64) Try.underlying25 e25 (by kernel_rfl) (by exact e12) (by exact e14) q22 q21) ?_
    refine lv (d := 14) rfl rfl (by kernel_rfl) (e_loadS (b := b23) (off := o24 + (x10 : Int).toNat * 3) (cs := [.int .i64 ((x1.getD ((x10).toNat) z65).kind), .int .i64 ((x1.getD ((x10).toNat) z65).n), .slice A29 ((x1.getD ((x10).toNat) z65).text).length c30]) Try.underlying65 rfl (by kernel_rfl) (by kernel_rfl) (fun j_ u_ e_ => (hpx (S15.inv.cell (k28 j_ u_ e_))))) ?_
    refine lve (d := 5) rfl rfl (by kernel_rfl) (new_blk (v := fun g_ => .pointer (some ⟨g_, 0, none⟩)) (cs := #[.int .i64 0, .int .i64 0, .slice none 0 0]) (t := 65) S15 (by kernel_rfl)) ?_
    rintro _ w33 ⟨g34, rfl, b35, S36, K37⟩
    refine lse rfl rfl (by kernel_rfl) (e_store (g := g34) (o := 0) (v := .agg #[.int .i64 ((x1.getD ((x10).toNat) z65).kind), .int .i64 ((x1.getD ((x10).toNat) z65).n), .slice A29 ((x1.getD ((x10).toNat) z65).text).length c30]) (cur' := #[.int .i64 ((x1.getD ((x10).toNat) z65).kind), .int .i64 ((x1.getD ((x10).toNat) z65).n), .slice A29 ((x1.getD ((x10).toNat) z65).text).length c30]) (vs := [.int .i64 ((x1.getD ((x10).toNat) z65).kind), .int .i64 ((x1.getD ((x10).toNat) z65).n), .slice A29 ((x1.getD ((x10).toNat) z65).text).length c30]) S36 (by kernel_rfl) (by kernel_rfl) rfl (by kernel_rfl) b35 (Nat.le_of_ble_eq_true rfl) (List.forall_mem_cons.2 ⟨rfl, (List.forall_mem_cons.2 ⟨rfl, (List.forall_mem_cons.2 ⟨rfl, (fun _ h_ => by cases h_)⟩)⟩)⟩) rfl) ?_
    rintro w38 ⟨b39, S40, K41⟩
    clear b35
    refine wpList_nil ?_
    refine then_n ?_
    refine wp_seq ?_
    refine wp_seq ?_
    refine wp_region_lit ?_
    refine lv (d := 15) rfl rfl (by kernel_rfl) (e_move (v := .int .i64 x9) (by exact e11)) ?_
    refine lv (d := 16) rfl rfl (by kernel_rfl) (e_eql (k := .i64) (a := x9) (b := 0) (by kernel_rfl) rfl) ?_
    refine lv (d := 17) rfl rfl (by kernel_rfl) (e_move (v := .bool (decide (x9 = 0))) (by kernel_rfl)) ?_
    by_cases q42 : x9 = 0
    · replace M := ifp q42 M
      refine lskip (t := 17) (c := true) rfl (by kernel_rfl) rfl (bt q42 (by kernel_rfl)) rfl rfl ?_
      refine lskip (t := 17) (c := true) rfl (by kernel_rfl) rfl (bt q42 (by kernel_rfl)) rfl rfl ?_
      refine lskip (t := 17) (c := true) rfl (by kernel_rfl) rfl (bt q42 (by kernel_rfl)) rfl rfl ?_
      refine lv (d := 21) rfl rfl (by kernel_rfl) (e_pick_t (v := .bool true) (bt q42 (by kernel_rfl)) rfl) ?_
      refine wpList_nil ?_
      refine then_n ?_
      refine cond_t rfl (by kernel_rfl) ?_
      refine wp_seq ?_
      refine wp_region_lit ?_
      refine lv (d := 2) rfl rfl (by kernel_rfl) (e_assign (v := .bool false) rfl) ?_
      refine wpList_nil ?_
      refine then_n ?_
      refine wp_ret ?_
      refine then_r ?_
      refine inb_r ?_
      refine then_r ?_
      refine then_r ?_
      refine inb_r ?_
      refine then_r ?_
      obtain rfl := Option.some.inj M
      exact ret1 rfl rfl  (show _ = .bool false from (by kernel_rfl)) ⟨rfl, S40.chg⟩
    replace M := ifn q42 M
    refine lvg (d := 18) (t := 17) rfl (by kernel_rfl) rfl (bf q42 (by kernel_rfl)) rfl (by kernel_rfl) (e_loadS (b := g34) (off := 0) (cs := [.int .i64 ((x1.getD ((x10).toNat) z65).kind), .int .i64 ((x1.getD ((x10).toNat) z65).n), .slice A29 ((x1.getD ((x10).toNat) z65).text).length c30]) Try.underlying65 rfl (by kernel_rfl) (by kernel_rfl) (blk_cells b39 rfl)) ?_
    obtain ⟨t43, u44, M⟩ := bnd M
    refine lcallg (d := 19) (t := 17) rfl (by kernel_rfl) rfl (bf q42 (by kernel_rfl)) rfl (by kernel_rfl) (e_call (l := [.tmp 18]) (vs := [.agg #[.int .i64 ((x1.getD ((x10).toNat) z65).kind), .int .i64 ((x1.getD ((x10).toNat) z65).n), .slice A29 ((x1.getD ((x10).toNat) z65).text).length c30]]) Try.func58 (by kernel_rfl) rfl (by kernel_rfl) rfl) (impl_cellOk.calls w38 H (x1.getD ((x10).toNat) z65) A29 c30 h32 l31 S40.own0 t43 u44) ?_
    rintro _ w45 ⟨rfl, C46⟩
    refine ⟨_, rfl, ?_⟩
    obtain ⟨S47, K48⟩ := S40.still C46
    replace b39 := K48.blk 0 rfl b39
    refine lvg (d := 20) (t := 17) rfl (by kernel_rfl) rfl (bf q42 (by kernel_rfl)) rfl (by kernel_rfl) (e_notv (c := t43) (by kernel_rfl)) ?_
    refine lv (d := 21) rfl rfl (by kernel_rfl) (e_pick_f (v := .bool (decide (¬ (t43 = true)))) (bf q42 (by kernel_rfl)) (by kernel_rfl)) ?_
    refine wpList_nil ?_
    refine then_n ?_
    by_cases q49 : ¬ (t43 = true)
    · replace M := ifp q49 M
      refine cond_t rfl (bt q49 (by kernel_rfl)) ?_
      refine wp_seq ?_
      refine wp_region_lit ?_
      refine lv (d := 2) rfl rfl (by kernel_rfl) (e_assign (v := .bool false) rfl) ?_
      refine wpList_nil ?_
      refine then_n ?_
      refine wp_ret ?_
      refine then_r ?_
      refine inb_r ?_
      refine then_r ?_
      refine then_r ?_
      refine inb_r ?_
      refine then_r ?_
      obtain rfl := Option.some.inj M
      exact ret1 rfl rfl  (show _ = .bool false from (by kernel_rfl)) ⟨rfl, S47.chg⟩
    replace M := ifn q49 M
    refine cond_f rfl (bf q49 (by kernel_rfl)) ?_
    refine wp_skip ?_
    refine then_n ?_
    refine wp_seq ?_
    refine wp_region_lit ?_
    refine lv (d := 22) rfl rfl (by kernel_rfl) (e_move (v := .int .i64 x9) (by exact e11)) ?_
    refine lv (d := 23) rfl rfl (by kernel_rfl) (e_sub (k := .i64) (a := x9) (b := 1) (by kernel_rfl) rfl) ?_
    refine lv (d := 3) rfl rfl (by kernel_rfl) (e_assign (v := .int .i64 (IntKind.i64.wrap (x9 - 1))) (by kernel_rfl)) ?_
    refine wpList_nil ?_
    refine then_n ?_
    refine wp_seq ?_
    refine wp_region_lit ?_
    refine lv (d := 24) rfl rfl (by kernel_rfl) (e_fieldAddr (b := g34) (off := 0) (o := 0) Try.underlying65 rfl rfl (sz := 1) (by kernel_rfl) (by decide) (by kernel_rfl)) ?_
    refine lv (d := 25) rfl rfl (by kernel_rfl) (e_load1 (ad := ⟨g34, 0 + 0, none⟩) (v := .int .i64 ((x1.getD ((x10).toNat) z65).kind)) Try.underlying3 rfl (by kernel_rfl) (blk_cell b39 rfl)) ?_
    refine lv (d := 26) rfl rfl (by kernel_rfl) (e_eql (k := .i64) (a := (x1.getD ((x10).toNat) z65).kind) (b := 3) (by kernel_rfl) rfl) ?_
    refine wpList_nil ?_
    refine then_n ?_
    by_cases q50 : ((x1.getD ((x10).toNat) z65).kind) = 3
    · replace M := ifp q50 M
      refine cond_t rfl (bt q50 (by kernel_rfl)) ?_
      refine wp_region_lit ?_
      refine lv (d := 27) rfl rfl (by kernel_rfl) (e_move (v := .int .i64 (IntKind.i64.wrap (x9 - 1))) (by kernel_rfl)) ?_
      refine lv (d := 28) rfl rfl (by kernel_rfl) (e_fieldAddr (b := g34) (off := 0) (o := 1) Try.underlying65 rfl rfl (sz := 1) (by kernel_rfl) (by decide) (by kernel_rfl)) ?_
      refine lv (d := 29) rfl rfl (by kernel_rfl) (e_load1 (ad := ⟨g34, 0 + 1, none⟩) (v := .int .i64 ((x1.getD ((x10).toNat) z65).n)) Try.underlying3 rfl (by kernel_rfl) (blk_cell b39 rfl)) ?_
      refine lv (d := 30) rfl rfl (by kernel_rfl) (e_add (k := .i64) (a := (IntKind.i64.wrap (x9 - 1))) (b := (x1.getD ((x10).toNat) z65).n) (by kernel_rfl) (by kernel_rfl)) ?_
      refine lv (d := 3) rfl rfl (by kernel_rfl) (e_assign (v := .int .i64 (IntKind.i64.wrap ((IntKind.i64.wrap (x9 - 1)) + ((x1.getD ((x10).toNat) z65).n)))) (by kernel_rfl)) ?_
      refine wpList_nil ?_
      refine inb_n ?_
      refine then_n ?_
      refine wp_region_lit ?_
      refine lv (d := 31) rfl rfl (by kernel_rfl) (e_add (k := .i64) (a := x10) (b := 1) (by exact e14) rfl) ?_
      refine lv (d := 11) rfl rfl (by kernel_rfl) (e_move (v := .int .i64 (IntKind.i64.wrap (x10 + 1))) (by kernel_rfl)) ?_
      refine wpList_nil ?_
      refine then_n ?_
      have S51 := St.first (Fa := []) (Fr := [(is g34)]) S47
      exact ⟨k20, (by omega), _, (IntKind.i64.wrap ((IntKind.i64.wrap (x9 - 1)) + ((x1.getD ((x10).toNat) z65).n))), (IntKind.i64.wrap (x10 + 1)), rfl, (by kernel_rfl), (by exact e12), (by exact e13), (by kernel_rfl), S51, M⟩
    replace M := ifn q50 M
    refine cond_f rfl (bf q50 (by kernel_rfl)) ?_
    refine wp_skip ?_
    refine inb_n ?_
    refine then_n ?_
    refine wp_region_lit ?_
    refine lv (d := 31) rfl rfl (by kernel_rfl) (e_add (k := .i64) (a := x10) (b := 1) (by exact e14) rfl) ?_
    refine lv (d := 11) rfl rfl (by kernel_rfl) (e_move (v := .int .i64 (IntKind.i64.wrap (x10 + 1))) (by kernel_rfl)) ?_
    refine wpList_nil ?_
    refine then_n ?_
    have S52 := St.first (Fa := []) (Fr := [(is g34)]) S47
    exact ⟨k20, (by omega), _, (IntKind.i64.wrap (x9 - 1)), (IntKind.i64.wrap (x10 + 1)), rfl, (by kernel_rfl), (by exact e12), (by exact e13), (by kernel_rfl), S52, M⟩
  replace M := ifn q21 M
  refine cond_f rfl (bf q21 (by kernel_rfl)) ?_
  refine wp_exit ?_
  refine then_e ?_
  refine then_e ?_
  refine inb_hit ?_
  refine then_n ?_
  refine wp_seq ?_
  refine wp_region_lit ?_
  refine lv (d := 32) rfl rfl (by kernel_rfl) (e_move (v := .int .i64 x9) (by exact e11)) ?_
  refine lv (d := 33) rfl rfl (by kernel_rfl) (e_eql (k := .i64) (a := x9) (b := 0) (by kernel_rfl) rfl) ?_
  refine lv (d := 2) rfl rfl (by kernel_rfl) (e_assign (v := .bool (decide (x9 = 0))) (by kernel_rfl)) ?_
  refine wpList_nil ?_
  refine then_n ?_
  refine wp_ret ?_
  obtain rfl := Option.some.inj M
  exact ret1 rfl rfl  (show _ = .bool (decide (x9 = 0)) from (by kernel_rfl)) ⟨rfl, S15.chg⟩

/-! impl_fromCells -/
mutual
def impl_fromCells.l0 : Nat → (List Cell) → (List Cell) → Int → (List Tm) → Option (Tm × (List Cell))
  | 0, _, _, _, _ => none
  | k61 + 1, x1, x41, x46, x47 => (if x46 < ((x1.getD 0 z65).n) then ((impl_fromCells.f k61 x41).bind fun t66 => (if x47.length + 1 ≤ 17592186044416 then (impl_fromCells.l0 k61 x1 t66.2 (IntKind.i64.wrap (x46 + 1)) (x47 ++ [t66.1])) else none)) else some ((Tm.mk ((x1.getD 0 z65).kind) ((x1.getD 0 z65).n) ((x1.getD 0 z65).text) x47), x41))
def impl_fromCells.f : Nat → (List Cell) → Option (Tm × (List Cell))
  | 0, _ => none
  | k1_ + 1, x1 => (if 0 < (x1.length : Int) then (if 1 ≤ (x1.length : Int) then (if ((x1.getD 0 z65).kind) = 3 then (impl_fromCells.l0 k1_ x1 (x1.drop ((1 : Int).toNat)) 0 []) else some ((Tm.mk ((x1.getD 0 z65).kind) ((x1.getD 0 z65).n) ((x1.getD 0 z65).text) []), (x1.drop ((1 : Int).toNat)))) else none) else none)
end
theorem impl_fromCells.all : ∀ (K : Nat), (∀ (k : Nat), k < K → ∀ (w : World) (H : Hp) (x1 : List Cell) (A2 : Option Addr) (c3 : Nat) (h4 : Rd st65 H A2 x1) (l5 : x1.length ≤ c3) (S : Own [] H w) (r : Tm × (List Cell)) (M : impl_fromCells.f k x1 = some r), Calls Try.prog 108 #[.slice A2 x1.length c3] w (fun e e_w => ∃ (g_1 : Nat) (A_1 : Option Addr) (c_1 : Nat) (H_ : Hp), e = .returned (.tuple #[.pointer (some ⟨g_1, 0, none⟩), .slice A_1 r.2.length c_1]) ∧ NodeR 125 H_ r.1 (.pointer (some ⟨g_1, 0, none⟩)) ∧ Rd st65 H_ A_1 r.2 ∧ r.2.length ≤ c_1 ∧ St (anyOf []) H w [] H_ e_w)) := by
  intro K
  induction K with
  | zero => intro k hk; omega
  | succ K ih =>
    intro k hk w H x1 A2 c3 h4 l5 S r M
    rcases k with _ | k1_
    · rw [impl_fromCells.f] at M
      cases M
    rw [impl_fromCells.f] at M
    refine enter (l := [.slice A2 x1.length c3]) 48 Try.func108 rfl rfl rfl ?_
    have S0_ := S.st
    refine wp_seq ?_
    refine wp_region_lit ?_
    refine lv (d := 2) rfl rfl (by kernel_rfl) (e_assign (v := .pointer none) rfl) ?_
    refine lv (d := 3) rfl rfl (by kernel_rfl) (e_assign (v := .slice none 0 0) rfl) ?_
    refine wpList_nil ?_
    refine then_n ?_
    refine wp_seq ?_
    refine wp_region_lit ?_
    refine lv (d := 8) rfl rfl (by kernel_rfl) (e_move (v := .slice A2 x1.length c3) (by kernel_rfl)) ?_
    obtain ⟨q6, M⟩ := chk M
    obtain ⟨b7, o8, e9⟩ := Rd.addr h4 (show 0 < x1.length by omega)
    obtain ⟨y10, r11, k12⟩ := Rd.at h4 e9 (getD_some z65 (show 0 < x1.length by omega))
    obtain ⟨A13, c14, rfl, l15, h16⟩ := st65_open r11
    refine lv (d := 9) rfl rfl (by kernel_rfl) (e_indexAddr (b := b7) (off := o8) (n := x1.length) (c := c3) (sz := 3) (i := 0) (k := .i64) Try.underlying25 e9 (by kernel_rfl) (by kernel_rfl) rfl (by omega) q6) ?_
    refine lv (d := 10) rfl rfl (by kernel_rfl) (e_loadS (b := b7) (off := o8 + (0 : Int).toNat * 3) (cs := [.int .i64 ((x1.getD 0 z65).kind), .int .i64 ((x1.getD 0 z65).n), .slice A13 ((x1.getD 0 z65).text).length c14]) Try.underlying65 rfl (by kernel_rfl) (by kernel_rfl) (fun j_ u_ e_ => (hpx (S0_.inv.cell (k12 j_ u_ e_))))) ?_
    refine lve (d := 4) rfl rfl (by kernel_rfl) (new_blk (v := fun g_ => .pointer (some ⟨g_, 0, none⟩)) (cs := #[.int .i64 0, .int .i64 0, .slice none 0 0]) (t := 65) S0_ (by kernel_rfl)) ?_
    rintro _ w17 ⟨g18, rfl, b19, S20, K21⟩
    refine lse rfl rfl (by kernel_rfl) (e_store (g := g18) (o := 0) (v := .agg #[.int .i64 ((x1.getD 0 z65).kind), .int .i64 ((x1.getD 0 z65).n), .slice A13 ((x1.getD 0 z65).text).length c14]) (cur' := #[.int .i64 ((x1.getD 0 z65).kind), .int .i64 ((x1.getD 0 z65).n), .slice A13 ((x1.getD 0 z65).text).length c14]) (vs := [.int .i64 ((x1.getD 0 z65).kind), .int .i64 ((x1.getD 0 z65).n), .slice A13 ((x1.getD 0 z65).text).length c14]) S20 (by kernel_rfl) (by kernel_rfl) rfl (by kernel_rfl) b19 (Nat.le_of_ble_eq_true rfl) (List.forall_mem_cons.2 ⟨rfl, (List.forall_mem_cons.2 ⟨rfl, (List.forall_mem_cons.2 ⟨rfl, (fun _ h_ => by cases h_)⟩)⟩)⟩) rfl) ?_
    rintro w22 ⟨b23, S24, K25⟩
    clear b19
    refine wpList_nil ?_
    refine then_n ?_
    refine wp_seq ?_
    refine wp_region_lit ?_
    refine lv (d := 11) rfl rfl (by kernel_rfl) (e_move (v := .slice A2 x1.length c3) (by kernel_rfl)) ?_
    obtain ⟨q26, M⟩ := chk M
    obtain ⟨A27, h30, l29, h28⟩ := Rd.sub1 (d := st65) (n := x1.length) (m := 3) (cap := c3) (a := 1) rfl h4 (by decide) q26 rfl l5
    refine lv (d := 12) rfl rfl (by kernel_rfl) (e_slice_l (n := x1.length) (m := 3) (cap := c3) (A := A2) (a := 1) (k := .i64) Try.underlying25 (by kernel_rfl) (by kernel_rfl) rfl (by decide) q26 l5 h30) ?_
    refine lv (d := 0) rfl rfl (by kernel_rfl) (e_assign (v := .slice A27 (x1.drop ((1 : Int).toNat)).length (c3 - ((1 : Int).toNat))) (by kernel_rfl)) ?_
    refine wpList_nil ?_
    refine then_n ?_
    refine wp_seq ?_
    refine wp_region_lit ?_
    refine lv (d := 13) rfl rfl (by kernel_rfl) (e_fieldAddr (b := g18) (off := 0) (o := 0) Try.underlying65 rfl rfl (sz := 1) (by kernel_rfl) (by decide) (by kernel_rfl)) ?_
    refine lv (d := 14) rfl rfl (by kernel_rfl) (e_load1 (ad := ⟨g18, 0 + 0, none⟩) (v := .int .i64 ((x1.getD 0 z65).kind)) Try.underlying3 rfl (by kernel_rfl) (blk_cell b23 rfl)) ?_
    refine lv (d := 15) rfl rfl (by kernel_rfl) (e_fieldAddr (b := g18) (off := 0) (o := 1) Try.underlying65 rfl rfl (sz := 1) (by kernel_rfl) (by decide) (by kernel_rfl)) ?_
    refine lv (d := 16) rfl rfl (by kernel_rfl) (e_load1 (ad := ⟨g18, 0 + 1, none⟩) (v := .int .i64 ((x1.getD 0 z65).n)) Try.underlying3 rfl (by kernel_rfl) (blk_cell b23 rfl)) ?_
    refine lv (d := 17) rfl rfl (by kernel_rfl) (e_fieldAddr (b := g18) (off := 0) (o := 2) Try.underlying65 rfl rfl (sz := 1) (by kernel_rfl) (by decide) (by kernel_rfl)) ?_
    refine lv (d := 18) rfl rfl (by kernel_rfl) (e_load1 (ad := ⟨g18, 0 + 2, none⟩) (v := .slice A13 ((x1.getD 0 z65).text).length c14) Try.underlying59 rfl (by kernel_rfl) (blk_cell b23 rfl)) ?_
    refine lv (d := 19) rfl rfl (by kernel_rfl) (e_conv_bs (A := A13) (n := ((x1.getD 0 z65).text).length) (c := c14) (xs := (x1.getD 0 z65).text) Try.underlying59 Try.underlying5 Try.underlying9 (by kernel_rfl) rfl (Rd.bytesE S24.inv h16)) ?_
    refine lv (d := 20) rfl rfl (by kernel_rfl) (show _ = Result.ok (Next.value (.agg #[.int .i64 ((x1.getD 0 z65).kind), .int .i64 ((x1.getD 0 z65).n), str ((x1.getD 0 z65).text), .slice none 0 0])) w22 from by kernel_rfl) ?_
    refine lve (d := 21) rfl rfl (by kernel_rfl) (new_blk (v := fun g_ => .pointer (some ⟨g_, 0, none⟩)) (cs := #[.int .i64 ((x1.getD 0 z65).kind), .int .i64 ((x1.getD 0 z65).n), str ((x1.getD 0 z65).text), .slice none 0 0]) (t := 125) S24 (by kernel_rfl)) ?_
    rintro _ w31 ⟨g32, rfl, b33, S34, K35⟩
    replace b23 := K35.blk 0 rfl b23
    refine lv (d := 5) rfl rfl (by kernel_rfl) (e_assign (v := .pointer (some ⟨g32, 0, none⟩)) (by kernel_rfl)) ?_
    refine wpList_nil ?_
    refine then_n ?_
    refine wp_seq ?_
    refine wp_seq ?_
    refine wp_region_lit ?_
    refine lv (d := 22) rfl rfl (by kernel_rfl) (e_fieldAddr (b := g18) (off := 0) (o := 0) Try.underlying65 rfl rfl (sz := 1) (by kernel_rfl) (by decide) (by kernel_rfl)) ?_
    refine lv (d := 23) rfl rfl (by kernel_rfl) (e_load1 (ad := ⟨g18, 0 + 0, none⟩) (v := .int .i64 ((x1.getD 0 z65).kind)) Try.underlying3 rfl (by kernel_rfl) (blk_cell b23 rfl)) ?_
    refine lv (d := 24) rfl rfl (by kernel_rfl) (e_eql (k := .i64) (a := (x1.getD 0 z65).kind) (b := 3) (by kernel_rfl) rfl) ?_
    refine wpList_nil ?_
    refine then_n ?_
    by_cases q36 : ((x1.getD 0 z65).kind) = 3
    · replace M := ifp q36 M
      refine cond_t rfl (bt q36 (by kernel_rfl)) ?_
      refine wp_seq ?_
      refine wp_region_lit ?_
      refine lv (d := 6) rfl rfl (by kernel_rfl) (e_assign (v := .int .i64 0) rfl) ?_
      refine wpList_nil ?_
      refine then_n ?_
      refine wp_block ?_
      have S62 := S34.unit
      have S63 := S62.pull (F := (is g18)) (Fr := [no, (is g32)]) 2 rfl rfl
      have S64 := S63.pull (F := (is g32)) (Fr := [(is g18), no]) 2 rfl rfl
      refine wp_loop_g (fun k59 a60 w37 => ∃ (f38 : Nat → Value) (H39 : Hp) (x41 : List Cell) (A42 : Option Addr) (c43 : Nat) (x46 : Int) (x47 : List Tm) (A48 : Option Addr) (c49 : Nat) (F50 : Foot), k59 < K ∧ a60 = mk 48 f38 ∧ f38 0 = .slice A42 x41.length c43 ∧ f38 4 = .pointer (some ⟨g18, 0, none⟩) ∧ f38 5 = .pointer (some ⟨g32, 0, none⟩) ∧ f38 6 = .int .i64 x46 ∧ w37.heap[g32]? = some (.cells #[.int .i64 ((x1.getD 0 z65).kind), .int .i64 ((x1.getD 0 z65).n), str ((x1.getD 0 z65).text), .slice A48 x47.length c49] 125 (0, 0)) ∧ w37.heap[g18]? = some (.cells #[.int .i64 ((x1.getD 0 z65).kind), .int .i64 ((x1.getD 0 z65).n), .slice A13 ((x1.getD 0 z65).text).length c14] 65 (0, 0)) ∧ Row (node 125) 74 H39 (hp w37) F50 A48 c49 x47 ∧ Rd st65 H39 A42 x41 ∧ x41.length ≤ c43 ∧ Ext H H39 ∧ St (anyOf []) H w [(is g32), (is g18), F50] H39 w37 ∧ impl_fromCells.l0 k59 x1 x41 x46 x47 = some r) k1_ ⟨_, H, (x1.drop ((1 : Int).toNat)), A27, (c3 - ((1 : Int).toNat)), 0, [], none, 0, no, (by omega), rfl, (by kernel_rfl), (by kernel_rfl), (by kernel_rfl), (by kernel_rfl), b33, b23, (Row.nil _ _ _ _ _), h28, l29, (Ext.refl _), S64, M⟩ ?_
      clear M
      rintro k59 a60 w37 ⟨f38, H39, x41, A42, c43, x46, x47, A48, c49, F50, z57, rfl, e52, e53, e54, e55, b33, b23, h51, h44, l45, Y40, S56, M⟩
      rcases k59 with _ | k61
      · rw [impl_fromCells.l0] at M
        cases M
      rw [impl_fromCells.l0] at M
      refine wp_seq ?_
      refine wp_seq ?_
      refine wp_region_lit ?_
      refine lv (d := 25) rfl rfl (by kernel_rfl) (e_move (v := .int .i64 x46) (by exact e55)) ?_
      refine lv (d := 26) rfl rfl (by kernel_rfl) (e_fieldAddr (b := g18) (off := 0) (o := 1) Try.underlying65 rfl rfl (sz := 1) (by kernel_rfl) (by decide) (by exact e53)) ?_
      refine lv (d := 27) rfl rfl (by kernel_rfl) (e_load1 (ad := ⟨g18, 0 + 1, none⟩) (v := .int .i64 ((x1.getD 0 z65).n)) Try.underlying3 rfl (by kernel_rfl) (blk_cell b23 rfl)) ?_
      refine lv (d := 28) rfl rfl (by kernel_rfl) (e_lss (k := .i64) (a := x46) (b := (x1.getD 0 z65).n) (by kernel_rfl) (by kernel_rfl)) ?_
      refine wpList_nil ?_
      refine then_n ?_
      by_cases q65 : x46 < ((x1.getD 0 z65).n)
      · replace M := ifp q65 M
        refine cond_t rfl (bt q65 (by kernel_rfl)) ?_
        refine wp_skip ?_
        refine then_n ?_
        refine wp_seq ?_
        refine wp_block ?_
        refine wp_seq ?_
        refine wp_region_lit ?_
        refine lv (d := 7) rfl rfl (by kernel_rfl) (e_assign (v := .pointer none) rfl) ?_
        refine wpList_nil ?_
        refine then_n ?_
        refine wp_seq ?_
        refine wp_region_lit ?_
        refine lv (d := 32) rfl rfl (by kernel_rfl) (e_move (v := .slice A42 x41.length c43) (by exact e52)) ?_
        obtain ⟨t66, u67, M⟩ := bnd M
        refine lcall (d := 33) rfl rfl (by kernel_rfl) (e_call (l := [.tmp 32]) (vs := [.slice A42 x41.length c43]) Try.func108 (by kernel_rfl) rfl (by kernel_rfl) rfl) (ih k61 (by omega) w37 H39 x41 A42 c43 h44 l45 (St.own' (Fa := []) (Fr := [(is g32), (is g18), F50]) S56) t66 u67) ?_
        rintro _ w68 ⟨g71, A73, c74, H69, rfl, h72, h75, l76, T70⟩
        refine ⟨_, rfl, ?_⟩
        obtain ⟨S77, K78⟩ := St.call (Fa := []) (Fr := [(is g32), (is g18), F50]) S56 T70
        replace b33 := K78.blk 0 rfl b33
        replace b23 := K78.blk 1 rfl b23
        replace h51 := h51.move (K78.at 2 rfl)
        have E79 := T70.ext
        replace h51 := h51.ext E79
        refine lv (d := 31) rfl rfl (by kernel_rfl) (e_move (v := .tuple #[.pointer (some ⟨g71, 0, none⟩), .slice A73 t66.2.length c74]) (by kernel_rfl)) ?_
        refine lv (d := 34) rfl rfl (by kernel_rfl) (e_extract (vs := #[.pointer (some ⟨g71, 0, none⟩), .slice A73 t66.2.length c74]) (v := .pointer (some ⟨g71, 0, none⟩)) (by kernel_rfl) rfl) ?_
        refine lv (d := 35) rfl rfl (by kernel_rfl) (e_extract (vs := #[.pointer (some ⟨g71, 0, none⟩), .slice A73 t66.2.length c74]) (v := .slice A73 t66.2.length c74) (by kernel_rfl) rfl) ?_
        refine lv (d := 7) rfl rfl (by kernel_rfl) (e_assign (v := .pointer (some ⟨g71, 0, none⟩)) (by kernel_rfl)) ?_
        refine lv (d := 0) rfl rfl (by kernel_rfl) (e_assign (v := .slice A73 t66.2.length c74) (by kernel_rfl)) ?_
        refine wpList_nil ?_
        refine then_n ?_
        refine wp_region_lit ?_
        refine lv (d := 36) rfl rfl (by kernel_rfl) (e_move (v := .pointer (some ⟨g32, 0, none⟩)) (by exact e54)) ?_
        refine lv (d := 37) rfl rfl (by kernel_rfl) (e_move (v := .pointer (some ⟨g32, 0, none⟩)) (by exact e54)) ?_
        refine lv (d := 38) rfl rfl (by kernel_rfl) (e_nilCheck (ad := ⟨g32, 0, none⟩) (by kernel_rfl)) ?_
        refine lv (d := 39) rfl rfl (by kernel_rfl) (e_fieldAddr (b := g32) (off := 0) (o := 3) Try.underlying125 rfl rfl (sz := 1) (by kernel_rfl) (by decide) (by kernel_rfl)) ?_
        refine lv (d := 40) rfl rfl (by kernel_rfl) (e_load1 (ad := ⟨g32, 0 + 3, none⟩) (v := .slice A48 x47.length c49) Try.underlying87 rfl (by kernel_rfl) (blk_cell b33 rfl)) ?_
        refine lv (d := 41) rfl rfl (by kernel_rfl) (e_move (v := .pointer (some ⟨g71, 0, none⟩)) (by kernel_rfl)) ?_
        refine lve (d := 42) rfl rfl (by kernel_rfl) (new_blk (v := fun g_ => .slice (some ⟨g_, 0, none⟩) 1 1) (cs := #[.pointer (some ⟨g71, 0, none⟩)]) (t := 74) S77 (by kernel_rfl)) ?_
        rintro _ w80 ⟨g81, rfl, b82, S83, K84⟩
        replace b33 := K84.blk 0 rfl b33
        replace b23 := K84.blk 1 rfl b23
        replace h51 := h51.move (K84.at 2 rfl)
        obtain ⟨q85, M⟩ := chk M
        have S86 := S83.pull (F := F50) (Fr := [(is g81), (is g32), (is g18)]) 3 rfl rfl
        have S87 := S86.unit
        have S88 := S87.pull (F := F50) (Fr := [no, (is g81), (is g32), (is g18)]) 1 rfl rfl
        refine lve (d := 43) rfl rfl (by kernel_rfl) (e_append (d := (node 125)) (n := x47.length) (xs := x47) (cap := c49) (A := A48) (ys := [t66.1]) (A2 := (some ⟨g81, 0, none⟩)) (c2 := 1) (z := .pointer none) (bytes := 8) S88 Try.underlying87 (by kernel_rfl) rfl (by decide) (by kernel_rfl) rfl (by kernel_rfl) h51 (elsO_one1 ⟨_, rfl, h72⟩) (.inr (blk_news b82 rfl)) (show (x47.length + [t66.1].length) * 8 ≤ _ by first | omega | (simp only [List.length_cons, List.length_nil]; omega)) (by decide)) ?_
        rintro _ w89 ⟨A90, c91, F92, rfl, h93, S94, K95⟩
        replace b82 := K95.blk 0 rfl b82
        replace b33 := K95.blk 1 rfl b33
        replace b23 := K95.blk 2 rfl b23
        refine lv (d := 44) rfl rfl (by kernel_rfl) (e_nilCheck (ad := ⟨g32, 0, none⟩) (by kernel_rfl)) ?_
        refine lv (d := 45) rfl rfl (by kernel_rfl) (e_fieldAddr (b := g32) (off := 0) (o := 3) Try.underlying125 rfl rfl (sz := 1) (by kernel_rfl) (by decide) (by kernel_rfl)) ?_
        have S96 := S94.pull (F := (is g32)) (Fr := [F92, (is g81), (is g18)]) 2 rfl rfl
        refine lse rfl rfl (by kernel_rfl) (e_store (g := g32) (o := 0 + 3) (v := .slice A90 ((x47 ++ [t66.1]).length) c91) (cur' := #[.int .i64 ((x1.getD 0 z65).kind), .int .i64 ((x1.getD 0 z65).n), str ((x1.getD 0 z65).text), .slice A90 ((x47 ++ [t66.1]).length) c91]) (vs := [.slice A90 ((x47 ++ [t66.1]).length) c91]) S96 (by kernel_rfl) (by kernel_rfl) rfl (by kernel_rfl) b33 (Nat.le_of_ble_eq_true rfl) (List.forall_mem_cons.2 ⟨rfl, (fun _ h_ => by cases h_)⟩) rfl) ?_
        rintro w97 ⟨b98, S99, K100⟩
        replace h93 := h93.move (K100.at 0 rfl)
        replace b82 := K100.blk 1 rfl b82
        replace b23 := K100.blk 2 rfl b23
        clear b33
        refine wpList_nil ?_
        refine inb_n ?_
        refine then_n ?_
        refine wp_region_lit ?_
        refine lv (d := 29) rfl rfl (by kernel_rfl) (e_move (v := .int .i64 x46) (by exact e55)) ?_
        refine lv (d := 30) rfl rfl (by kernel_rfl) (e_add (k := .i64) (a := x46) (b := 1) (by kernel_rfl) rfl) ?_
        refine lv (d := 6) rfl rfl (by kernel_rfl) (e_assign (v := .int .i64 (IntKind.i64.wrap (x46 + 1))) (by kernel_rfl)) ?_
        refine wpList_nil ?_
        refine then_n ?_
        have S101 := S99.pull (F := F92) (Fr := [(is g32), (is g81), (is g18)]) 1 rfl rfl
        have S102 := S101.pull (F := (is g18)) (Fr := [F92, (is g32), (is g81)]) 3 rfl rfl
        have S103 := S102.pull (F := (is g32)) (Fr := [(is g18), F92, (is g81)]) 2 rfl rfl
        have S104 := St.first (Fa := [(is g32), (is g18), F92]) (Fr := [(is g81)]) S103
        exact ⟨k61, (by omega), _, H69, t66.2, A73, c74, (IntKind.i64.wrap (x46 + 1)), (x47 ++ [t66.1]), A90, c91, F92, (by omega), rfl, (by kernel_rfl), (by exact e53), (by exact e54), (by kernel_rfl), b98, b23, h93, h75, l76, (Y40.trans E79), S104, M⟩
      replace M := ifn q65 M
      refine cond_f rfl (bf q65 (by kernel_rfl)) ?_
      refine wp_exit ?_
      refine then_e ?_
      refine then_e ?_
      refine inb_hit ?_
      refine then_n ?_
      refine wp_seq ?_
      refine wp_region_lit ?_
      refine lv (d := 46) rfl rfl (by kernel_rfl) (e_move (v := .pointer (some ⟨g32, 0, none⟩)) (by exact e54)) ?_
      refine lv (d := 47) rfl rfl (by kernel_rfl) (e_move (v := .slice A42 x41.length c43) (by exact e52)) ?_
      refine lv (d := 2) rfl rfl (by kernel_rfl) (e_assign (v := .pointer (some ⟨g32, 0, none⟩)) (by kernel_rfl)) ?_
      refine lv (d := 3) rfl rfl (by kernel_rfl) (e_assign (v := .slice A42 x41.length c43) (by kernel_rfl)) ?_
      refine wpList_nil ?_
      refine then_n ?_
      refine wp_ret ?_
      have l105 := h51.le
      have S106 := S56.pull (F := F50) (Fr := [(is g32), (is g18)]) 2 rfl rfl
      obtain ⟨H107, S108, E109, h110, z111⟩ := S106.frzRow h51
      obtain ⟨H112, S113, E114, h115, z116⟩ := S108.frzBlk b33
      have h117 : NodeR 125 H112 (Tm.mk ((x1.getD 0 z65).kind) ((x1.getD 0 z65).n) ((x1.getD 0 z65).text) x47) (.pointer (some ⟨g32, 0, none⟩)) := node_mk (A := A48) (c := c49) h115 rfl l105 (h110.ext E114)
      obtain rfl := Option.some.inj M
      have S118 := St.first (Fa := []) (Fr := [(is g18)]) S113
      exact ret2 rfl rfl rfl (show _ = .pointer (some ⟨g32, 0, none⟩) from (by kernel_rfl)) (show _ = .slice A42 x41.length c43 from (by kernel_rfl)) ⟨g32, A42, c43, H112, rfl, h117, (h44.ext (E109.trans E114)), l45, S118⟩
    replace M := ifn q36 M
    refine cond_f rfl (bf q36 (by kernel_rfl)) ?_
    refine wp_skip ?_
    refine then_n ?_
    refine wp_seq ?_
    refine wp_region_lit ?_
    refine lv (d := 46) rfl rfl (by kernel_rfl) (e_move (v := .pointer (some ⟨g32, 0, none⟩)) (by kernel_rfl)) ?_
    refine lv (d := 47) rfl rfl (by kernel_rfl) (e_move (v := .slice A27 (x1.drop ((1 : Int).toNat)).length (c3 - ((1 : Int).toNat))) (by kernel_rfl)) ?_
    refine lv (d := 2) rfl rfl (by kernel_rfl) (e_assign (v := .pointer (some ⟨g32, 0, none⟩)) (by kernel_rfl)) ?_
    refine lv (d := 3) rfl rfl (by kernel_rfl) (e_assign (v := .slice A27 (x1.drop ((1 : Int).toNat)).length (c3 - ((1 : Int).toNat))) (by kernel_rfl)) ?_
    refine wpList_nil ?_
    refine then_n ?_
    refine wp_ret ?_
    obtain ⟨H119, S120, E121, h122, z123⟩ := S34.frzBlk b33
    have h124 : NodeR 125 H119 (Tm.mk ((x1.getD 0 z65).kind) ((x1.getD 0 z65).n) ((x1.getD 0 z65).text) []) (.pointer (some ⟨g32, 0, none⟩)) := node_mk (A := none) (c := 0) h122 rfl (Nat.le_refl _) (Rd.nil _ _ _)
    obtain rfl := Option.some.inj M
    have S125 := St.first (Fa := []) (Fr := [(is g18)]) S120
    exact ret2 rfl rfl rfl (show _ = .pointer (some ⟨g32, 0, none⟩) from (by kernel_rfl)) (show _ = .slice A27 (x1.drop ((1 : Int).toNat)).length (c3 - ((1 : Int).toNat)) from (by kernel_rfl)) ⟨g32, A27, (c3 - ((1 : Int).toNat)), H119, rfl, h124, (h28.ext E121), l29, S125⟩
theorem impl_fromCells.calls (k : Nat) (w : World) (H : Hp) (x1 : List Cell) (A2 : Option Addr) (c3 : Nat) (h4 : Rd st65 H A2 x1) (l5 : x1.length ≤ c3) (S : Own [] H w) (r : Tm × (List Cell)) (M : impl_fromCells.f k x1 = some r) :
    Calls Try.prog 108 #[.slice A2 x1.length c3] w (fun e e_w => ∃ (g_1 : Nat) (A_1 : Option Addr) (c_1 : Nat) (H_ : Hp), e = .returned (.tuple #[.pointer (some ⟨g_1, 0, none⟩), .slice A_1 r.2.length c_1]) ∧ NodeR 125 H_ r.1 (.pointer (some ⟨g_1, 0, none⟩)) ∧ Rd st65 H_ A_1 r.2 ∧ r.2.length ≤ c_1 ∧ St (anyOf []) H w [] H_ e_w) := (impl_fromCells.all (k + 1)) k (Nat.lt_succ_self k) w H x1 A2 c3 h4 l5 S r M

/-! impl_tree -/
def impl_tree.f (k : Nat) (x1 : List Cell) : Option Tm := ((impl_fromCells.f k x1).bind fun t6 => some t6.1)
theorem impl_tree.calls (k : Nat) (w : World) (H : Hp) (x1 : List Cell) (A2 : Option Addr) (c3 : Nat) (h4 : Rd st65 H A2 x1) (l5 : x1.length ≤ c3) (S : Own [] H w) (r : Tm) (M : impl_tree.f k x1 = some r) :
    Calls Try.prog 62 #[.slice A2 x1.length c3] w (fun e e_w => ∃ (g_1 : Nat) (H_ : Hp), e = .returned (.pointer (some ⟨g_1, 0, none⟩)) ∧ NodeR 125 H_ r (.pointer (some ⟨g_1, 0, none⟩)) ∧ St (anyOf []) H w [] H_ e_w) := by
  rw [impl_tree.f] at M
  refine enter (l := [.slice A2 x1.length c3]) 11 Try.func62 rfl rfl rfl ?_
  have S0_ := S.st
  refine wp_seq ?_
  refine wp_region_lit ?_
  refine lv (d := 2) rfl rfl (by kernel_rfl) (e_assign (v := .pointer none) rfl) ?_
  refine wpList_nil ?_
  refine then_n ?_
  refine wp_seq ?_
  refine wp_region_lit ?_
  refine lv (d := 6) rfl rfl (by kernel_rfl) (e_move (v := .slice A2 x1.length c3) (by kernel_rfl)) ?_
  obtain ⟨t6, u7, M⟩ := bnd M
  refine lcall (d := 7) rfl rfl (by kernel_rfl) (e_call (l := [.tmp 6]) (vs := [.slice A2 x1.length c3]) Try.func108 (by kernel_rfl) rfl (by kernel_rfl) rfl) (impl_fromCells.calls k w H x1 A2 c3 h4 l5 (St.own' (Fa := []) (Fr := []) S0_) t6 u7) ?_
  rintro _ w8 ⟨g11, A13, c14, H9, rfl, h12, h15, l16, T10⟩
  refine ⟨_, rfl, ?_⟩
  obtain ⟨S17, K18⟩ := St.call (Fa := []) (Fr := []) S0_ T10
  have E19 := T10.ext
  refine lv (d := 5) rfl rfl (by kernel_rfl) (e_move (v := .tuple #[.pointer (some ⟨g11, 0, none⟩), .slice A13 t6.2.length c14]) (by kernel_rfl)) ?_
  refine lv (d := 8) rfl rfl (by kernel_rfl) (e_extract (vs := #[.pointer (some ⟨g11, 0, none⟩), .slice A13 t6.2.length c14]) (v := .pointer (some ⟨g11, 0, none⟩)) (by kernel_rfl) rfl) ?_
  refine lv (d := 9) rfl rfl (by kernel_rfl) (e_extract (vs := #[.pointer (some ⟨g11, 0, none⟩), .slice A13 t6.2.length c14]) (v := .slice A13 t6.2.length c14) (by kernel_rfl) rfl) ?_
  refine lv (d := 3) rfl rfl (by kernel_rfl) (e_assign (v := .pointer (some ⟨g11, 0, none⟩)) (by kernel_rfl)) ?_
  refine lv (d := 4) rfl rfl (by kernel_rfl) (e_assign (v := .slice A13 t6.2.length c14) (by kernel_rfl)) ?_
  refine wpList_nil ?_
  refine then_n ?_
  refine wp_seq ?_
  refine wp_region_lit ?_
  refine lv (d := 10) rfl rfl (by kernel_rfl) (e_move (v := .pointer (some ⟨g11, 0, none⟩)) (by kernel_rfl)) ?_
  refine lv (d := 2) rfl rfl (by kernel_rfl) (e_assign (v := .pointer (some ⟨g11, 0, none⟩)) (by kernel_rfl)) ?_
  refine wpList_nil ?_
  refine then_n ?_
  refine wp_ret ?_
  obtain rfl := Option.some.inj M
  exact ret1 rfl rfl  (show _ = .pointer (some ⟨g11, 0, none⟩) from (by kernel_rfl)) ⟨g11, H9, rfl, h12, S17⟩

/-! impl_compareInt -/
def impl_compareInt.f (x1 : Int) (x2 : Int) : Option Int := (if x1 < x2 then some (-1) else (if x1 > x2 then some 1 else some 0))
theorem impl_compareInt.calls (w : World) (H : Hp) (x1 : Int) (x2 : Int) (S : Own [] H w) (r : Int) (M : impl_compareInt.f x1 x2 = some r) :
    Calls Try.prog 106 #[.int .i64 x1, .int .i64 x2] w (fun e e_w => e = .returned (.int .i64 r) ∧ Chg no w e_w) := by
  rw [impl_compareInt.f] at M
  refine enter (l := [.int .i64 x1, .int .i64 x2]) 13 Try.func106 rfl rfl rfl ?_
  have S0_ := S.st
  refine wp_seq ?_
  refine wp_region_lit ?_
  refine lv (d := 4) rfl rfl (by kernel_rfl) (e_assign (v := .int .i64 0) rfl) ?_
  refine wpList_nil ?_
  refine then_n ?_
  refine wp_seq ?_
  refine wp_block ?_
  refine wp_seq ?_
  refine wp_region_lit ?_
  refine lv (d := 6) rfl rfl (by kernel_rfl) (e_move (v := .int .i64 x1) (by kernel_rfl)) ?_
  refine lv (d := 7) rfl rfl (by kernel_rfl) (e_move (v := .int .i64 x2) (by kernel_rfl)) ?_
  refine lv (d := 8) rfl rfl (by kernel_rfl) (e_lss (k := .i64) (a := x1) (b := x2) (by kernel_rfl) (by kernel_rfl)) ?_
  refine lv (d := 5) rfl rfl (by kernel_rfl) (e_assign (v := .bool (decide (x1 < x2))) (by kernel_rfl)) ?_
  refine wpList_nil ?_
  refine then_n ?_
  by_cases q3 : x1 < x2
  · replace M := ifp q3 M
    refine cond_t rfl (bt q3 (by kernel_rfl)) ?_
    refine wp_seq ?_
    refine wp_region_lit ?_
    refine lv (d := 4) rfl rfl (by kernel_rfl) (e_assign (v := .int .i64 (-1)) rfl) ?_
    refine wpList_nil ?_
    refine then_n ?_
    refine wp_ret ?_
    refine inb_r ?_
    refine then_r ?_
    obtain rfl := Option.some.inj M
    exact ret1 rfl rfl  (show _ = .int .i64 (-1) from (by kernel_rfl)) ⟨rfl, S0_.chg⟩
  replace M := ifn q3 M
  refine cond_f rfl (bf q3 (by kernel_rfl)) ?_
  refine wp_seq ?_
  refine wp_region_lit ?_
  refine lv (d := 10) rfl rfl (by kernel_rfl) (e_move (v := .int .i64 x1) (by kernel_rfl)) ?_
  refine lv (d := 11) rfl rfl (by kernel_rfl) (e_move (v := .int .i64 x2) (by kernel_rfl)) ?_
  refine lv (d := 12) rfl rfl (by kernel_rfl) (e_gtr (k := .i64) (a := x1) (b := x2) (by kernel_rfl) (by kernel_rfl)) ?_
  refine lv (d := 9) rfl rfl (by kernel_rfl) (e_assign (v := .bool (decide (x1 > x2))) (by kernel_rfl)) ?_
  refine wpList_nil ?_
  refine then_n ?_
  by_cases q4 : x1 > x2
  · replace M := ifp q4 M
    refine cond_t rfl (bt q4 (by kernel_rfl)) ?_
    refine wp_seq ?_
    refine wp_region_lit ?_
    refine lv (d := 4) rfl rfl (by kernel_rfl) (e_assign (v := .int .i64 1) rfl) ?_
    refine wpList_nil ?_
    refine then_n ?_
    refine wp_ret ?_
    refine inb_r ?_
    refine then_r ?_
    obtain rfl := Option.some.inj M
    exact ret1 rfl rfl  (show _ = .int .i64 1 from (by kernel_rfl)) ⟨rfl, S0_.chg⟩
  replace M := ifn q4 M
  refine cond_f rfl (bf q4 (by kernel_rfl)) ?_
  refine wp_skip ?_
  refine inb_n ?_
  refine then_n ?_
  refine wp_seq ?_
  refine wp_region_lit ?_
  refine lv (d := 4) rfl rfl (by kernel_rfl) (e_assign (v := .int .i64 0) rfl) ?_
  refine wpList_nil ?_
  refine then_n ?_
  refine wp_ret ?_
  obtain rfl := Option.some.inj M
  exact ret1 rfl rfl  (show _ = .int .i64 0 from (by kernel_rfl)) ⟨rfl, S0_.chg⟩

/-! impl_compareText -/
def impl_compareText.f (x1 : List UInt8) (x2 : List UInt8) : Option Int := (if (Op.bytesLess x1 x2) = true then some (-1) else (if (!(Op.bytesLess x1 x2 || x1 == x2)) = true then some 1 else some 0))
theorem impl_compareText.calls (w : World) (H : Hp) (x1 : List UInt8) (x2 : List UInt8) (S : Own [] H w) (r : Int) (M : impl_compareText.f x1 x2 = some r) :
    Calls Try.prog 107 #[str x1, str x2] w (fun e e_w => e = .returned (.int .i64 r) ∧ Chg no w e_w) := by
  rw [impl_compareText.f] at M
  refine enter (l := [str x1, str x2]) 13 Try.func107 rfl rfl rfl ?_
  have S0_ := S.st
  refine wp_seq ?_
  refine wp_region_lit ?_
  refine lv (d := 4) rfl rfl (by kernel_rfl) (e_assign (v := .int .i64 0) rfl) ?_
  refine wpList_nil ?_
  refine then_n ?_
  refine wp_seq ?_
  refine wp_block ?_
  refine wp_seq ?_
  refine wp_region_lit ?_
  refine lv (d := 6) rfl rfl (by kernel_rfl) (e_move (v := str x1) (by kernel_rfl)) ?_
  refine lv (d := 7) rfl rfl (by kernel_rfl) (e_move (v := str x2) (by kernel_rfl)) ?_
  refine lv (d := 8) rfl rfl (by kernel_rfl) (e_slss (p := x1) (q := x2) (by kernel_rfl) (by kernel_rfl)) ?_
  refine lv (d := 5) rfl rfl (by kernel_rfl) (e_assign (v := .bool (Op.bytesLess x1 x2)) (by kernel_rfl)) ?_
  refine wpList_nil ?_
  refine then_n ?_
  by_cases q3 : (Op.bytesLess x1 x2) = true
  · replace M := ifp q3 M
    refine cond_t rfl (bvt q3 (by kernel_rfl)) ?_
    refine wp_seq ?_
    refine wp_region_lit ?_
    refine lv (d := 4) rfl rfl (by kernel_rfl) (e_assign (v := .int .i64 (-1)) rfl) ?_
    refine wpList_nil ?_
    refine then_n ?_
    refine wp_ret ?_
    refine inb_r ?_
    refine then_r ?_
    obtain rfl := Option.some.inj M
    exact ret1 rfl rfl  (show _ = .int .i64 (-1) from (by kernel_rfl)) ⟨rfl, S0_.chg⟩
  replace M := ifn q3 M
  refine cond_f rfl (bvf q3 (by kernel_rfl)) ?_
  refine wp_seq ?_
  refine wp_region_lit ?_
  refine lv (d := 10) rfl rfl (by kernel_rfl) (e_move (v := str x1) (by kernel_rfl)) ?_
  refine lv (d := 11) rfl rfl (by kernel_rfl) (e_move (v := str x2) (by kernel_rfl)) ?_
  refine lv (d := 12) rfl rfl (by kernel_rfl) (e_sgtr (p := x1) (q := x2) (by kernel_rfl) (by kernel_rfl)) ?_
  refine lv (d := 9) rfl rfl (by kernel_rfl) (e_assign (v := .bool (!(Op.bytesLess x1 x2 || x1 == x2))) (by kernel_rfl)) ?_
  refine wpList_nil ?_
  refine then_n ?_
  by_cases q4 : (!(Op.bytesLess x1 x2 || x1 == x2)) = true
  · replace M := ifp q4 M
    refine cond_t rfl (bvt q4 (by kernel_rfl)) ?_
    refine wp_seq ?_
    refine wp_region_lit ?_
    refine lv (d := 4) rfl rfl (by kernel_rfl) (e_assign (v := .int .i64 1) rfl) ?_
    refine wpList_nil ?_
    refine then_n ?_
    refine wp_ret ?_
    refine inb_r ?_
    refine then_r ?_
    obtain rfl := Option.some.inj M
    exact ret1 rfl rfl  (show _ = .int .i64 1 from (by kernel_rfl)) ⟨rfl, S0_.chg⟩
  replace M := ifn q4 M
  refine cond_f rfl (bvf q4 (by kernel_rfl)) ?_
  refine wp_skip ?_
  refine inb_n ?_
  refine then_n ?_
  refine wp_seq ?_
  refine wp_region_lit ?_
  refine lv (d := 4) rfl rfl (by kernel_rfl) (e_assign (v := .int .i64 0) rfl) ?_
  refine wpList_nil ?_
  refine then_n ?_
  refine wp_ret ?_
  obtain rfl := Option.some.inj M
  exact ret1 rfl rfl  (show _ = .int .i64 0 from (by kernel_rfl)) ⟨rfl, S0_.chg⟩

/-! impl_compare -/
mutual
def impl_compare.l0 : Nat → Tm → Tm → Bool → Option Int
  | 0, _, _, _ => none
  | k44 + 1, x1, x4, x35 => (if x35 = true then ((impl_compareInt.f x1.n x4.n).bind fun t48 => some t48) else (if x1.kind = 2 then ((impl_compareText.f x1.text x4.text).bind fun t55 => some t55) else (if x1.n ≠ x4.n then ((impl_compareInt.f x1.n x4.n).bind fun t65 => some t65) else (if x1.text ≠ x4.text then ((impl_compareText.f x1.text x4.text).bind fun t75 => some t75) else (impl_compare.l1 k44 x1 x4 0)))))
def impl_compare.l1 : Nat → Tm → Tm → Int → Option Int
  | 0, _, _, _ => none
  | k93 + 1, x1, x4, x83 => (if x83 < (x1.args.length : Int) then (if 0 ≤ x83 then (if x83 < (x4.args.length : Int) then ((impl_compare.f k93 (x1.args.getD ((x83).toNat) (Tm.mk 0 0 [] [])) (x4.args.getD ((x83).toNat) (Tm.mk 0 0 [] []))).bind fun t115 => (if t115 ≠ 0 then some t115 else (impl_compare.l1 k93 x1 x4 (IntKind.i64.wrap (x83 + 1))))) else none) else none) else some 0)
def impl_compare.f : Nat → Tm → Tm → Option Int
  | 0, _, _ => none
  | k1_ + 1, x1, x4 => (if x1.kind ≠ x4.kind then ((impl_compareInt.f x1.kind x4.kind).bind fun t27 => some t27) else (if x1.kind = 0 then (impl_compare.l0 k1_ x1 x4 (decide (x1.kind = 0))) else (impl_compare.l0 k1_ x1 x4 (decide (x1.kind = 1)))))
end
theorem impl_compare.all : ∀ (K : Nat), (∀ (k : Nat), k < K → ∀ (w : World) (H : Hp) (x1 : Tm) (g2 : Nat) (x4 : Tm) (g5 : Nat) (h3 : NodeR 125 H x1 (.pointer (some ⟨g2, 0, none⟩))) (h6 : NodeR 125 H x4 (.pointer (some ⟨g5, 0, none⟩))) (S : Own [] H w) (r : Int) (M : impl_compare.f k x1 x4 = some r), Calls Try.prog 61 #[.pointer (some ⟨g2, 0, none⟩), .pointer (some ⟨g5, 0, none⟩)] w (fun e e_w => e = .returned (.int .i64 r) ∧ Chg no w e_w)) := by
  intro K
  induction K with
  | zero => intro k hk; omega
  | succ K ih =>
    intro k hk w H x1 g2 x4 g5 h3 h6 S r M
    rcases k with _ | k1_
    · rw [impl_compare.f] at M
      cases M
    rw [impl_compare.f] at M
    refine enter (l := [.pointer (some ⟨g2, 0, none⟩), .pointer (some ⟨g5, 0, none⟩)]) 115 Try.func61 rfl rfl rfl ?_
    have S0_ := S.st
    refine wp_seq ?_
    refine wp_region_lit ?_
    refine lv (d := 4) rfl rfl (by kernel_rfl) (e_assign (v := .int .i64 0) rfl) ?_
    refine wpList_nil ?_
    refine then_n ?_
    refine wp_seq ?_
    refine wp_seq ?_
    refine region_still (by kernel_rfl) (by kernel_rfl) S0_ ?_
    intro w7 S8 K9
    refine sv (d := 7) rfl rfl (by kernel_rfl) (e_move (v := .pointer (some ⟨g2, 0, none⟩)) (by kernel_rfl)) ?_
    refine sv (d := 8) rfl rfl (by kernel_rfl) (e_nilCheck (ad := ⟨g2, 0, none⟩) (by kernel_rfl)) ?_
    refine sv (d := 9) rfl rfl (by kernel_rfl) (e_fieldAddr (b := g2) (off := 0) (o := 0) Try.underlying125 rfl rfl (sz := 1) (by kernel_rfl) (by decide) (by kernel_rfl)) ?_
    obtain ⟨A10, c11, y12, q13, h14, h15, l16, h17⟩ := node_open h3
    refine sv (d := 10) rfl rfl (by kernel_rfl) (e_load1 (ad := ⟨g2, 0 + 0, none⟩) (v := .int .i64 x1.kind) Try.underlying3 rfl (by kernel_rfl) (blk_cells (S8.inv _ _ h14) h15 0 _ rfl)) ?_
    refine sv (d := 11) rfl rfl (by kernel_rfl) (e_move (v := .pointer (some ⟨g5, 0, none⟩)) (by kernel_rfl)) ?_
    refine sv (d := 12) rfl rfl (by kernel_rfl) (e_nilCheck (ad := ⟨g5, 0, none⟩) (by kernel_rfl)) ?_
    refine sv (d := 13) rfl rfl (by kernel_rfl) (e_fieldAddr (b := g5) (off := 0) (o := 0) Try.underlying125 rfl rfl (sz := 1) (by kernel_rfl) (by decide) (by kernel_rfl)) ?_
    obtain ⟨A18, c19, y20, q21, h22, h23, l24, h25⟩ := node_open h6
    refine sv (d := 14) rfl rfl (by kernel_rfl) (e_load1 (ad := ⟨g5, 0 + 0, none⟩) (v := .int .i64 x4.kind) Try.underlying3 rfl (by kernel_rfl) (blk_cells (S8.inv _ _ h22) h23 0 _ rfl)) ?_
    refine sv (d := 15) rfl rfl (by kernel_rfl) (e_neq (k := .i64) (a := x1.kind) (b := x4.kind) (by kernel_rfl) (by kernel_rfl)) ?_
    refine wpStill_nil ?_
    refine then_n ?_
    by_cases q26 : x1.kind ≠ x4.kind
    · replace M := ifp q26 M
      refine cond_t rfl (bt q26 (by kernel_rfl)) ?_
      refine wp_seq ?_
      refine region_quiet (by kernel_rfl) (by kernel_rfl) ?_
      refine qv (d := 16) rfl rfl (by kernel_rfl) (fun wq_ hq_ => e_move (v := .pointer (some ⟨g2, 0, none⟩)) (by kernel_rfl)) ?_
      refine qv (d := 17) rfl rfl (by kernel_rfl) (fun wq_ hq_ => e_nilCheck (ad := ⟨g2, 0, none⟩) (by kernel_rfl)) ?_
      refine qv (d := 18) rfl rfl (by kernel_rfl) (fun wq_ hq_ => e_fieldAddr (b := g2) (off := 0) (o := 0) Try.underlying125 rfl rfl (sz := 1) (by kernel_rfl) (by decide) (by kernel_rfl)) ?_
      refine qv (d := 19) rfl rfl (by kernel_rfl) (fun wq_ hq_ => e_load1 (ad := ⟨g2, 0 + 0, none⟩) (v := .int .i64 x1.kind) Try.underlying3 rfl (by kernel_rfl) (blk_cells ((S8.still hq_).1.inv _ _ h14) h15 0 _ rfl)) ?_
      refine qv (d := 20) rfl rfl (by kernel_rfl) (fun wq_ hq_ => e_move (v := .pointer (some ⟨g5, 0, none⟩)) (by kernel_rfl)) ?_
      refine qv (d := 21) rfl rfl (by kernel_rfl) (fun wq_ hq_ => e_nilCheck (ad := ⟨g5, 0, none⟩) (by kernel_rfl)) ?_
      refine qv (d := 22) rfl rfl (by kernel_rfl) (fun wq_ hq_ => e_fieldAddr (b := g5) (off := 0) (o := 0) Try.underlying125 rfl rfl (sz := 1) (by kernel_rfl) (by decide) (by kernel_rfl)) ?_
      refine qv (d := 23) rfl rfl (by kernel_rfl) (fun wq_ hq_ => e_load1 (ad := ⟨g5, 0 + 0, none⟩) (v := .int .i64 x4.kind) Try.underlying3 rfl (by kernel_rfl) (blk_cells ((S8.still hq_).1.inv _ _ h22) h23 0 _ rfl)) ?_
      obtain ⟨t27, u28, M⟩ := bnd M
      refine qcall (v := .int .i64 t27) (d := 24) rfl rfl (by kernel_rfl) (fun w_ => e_call (l := [.tmp 19, .tmp 23]) (vs := [.int .i64 x1.kind, .int .i64 x4.kind]) Try.func106 (by kernel_rfl) rfl (by kernel_rfl) rfl) (fun wq_ hq_ => (by obtain ⟨S_, K_⟩ := S8.still hq_; exact (impl_compareInt.calls wq_ H x1.kind x4.kind  S_.own0 t27 u28))) ?_
      refine qv (d := 4) rfl rfl (by kernel_rfl) (fun wq_ hq_ => e_assign (v := .int .i64 t27) (by kernel_rfl)) ?_
      refine wpQuiet_nil ?_
      intro w29 C32
      obtain ⟨S30, K31⟩ := S8.still C32
      refine then_n ?_
      refine wp_ret ?_
      refine then_r ?_
      obtain rfl := Option.some.inj M
      exact ret1 rfl rfl  (show _ = .int .i64 t27 from (by kernel_rfl)) ⟨rfl, S30.chg⟩
    replace M := ifn q26 M
    refine cond_f rfl (bf q26 (by kernel_rfl)) ?_
    refine wp_skip ?_
    refine then_n ?_
    refine wp_seq ?_
    refine wp_seq ?_
    refine wp_region_lit ?_
    refine lv (d := 25) rfl rfl (by kernel_rfl) (e_move (v := .pointer (some ⟨g2, 0, none⟩)) (by kernel_rfl)) ?_
    refine lv (d := 26) rfl rfl (by kernel_rfl) (e_nilCheck (ad := ⟨g2, 0, none⟩) (by kernel_rfl)) ?_
    refine lv (d := 27) rfl rfl (by kernel_rfl) (e_fieldAddr (b := g2) (off := 0) (o := 0) Try.underlying125 rfl rfl (sz := 1) (by kernel_rfl) (by decide) (by kernel_rfl)) ?_
    refine lv (d := 28) rfl rfl (by kernel_rfl) (e_load1 (ad := ⟨g2, 0 + 0, none⟩) (v := .int .i64 x1.kind) Try.underlying3 rfl (by kernel_rfl) (blk_cells (S8.inv _ _ h14) h15 0 _ rfl)) ?_
    refine wpList_nil ?_
    refine then_n ?_
    refine wp_block ?_
    refine wp_seq_cut (fun a43 w33 => ∃ (k45 : Nat), k45 ≤ k1_ ∧ ∃ (f34 : Nat → Value) (x35 : Bool), k45 < K ∧ a43 = mk 115 f34 ∧ f34 0 = .pointer (some ⟨g2, 0, none⟩) ∧ f34 1 = .pointer (some ⟨g5, 0, none⟩) ∧ f34 28 = .int .i64 x1.kind ∧ f34 29 = .bool x35 ∧ St (anyOf []) H w [] H w33 ∧ impl_compare.l0 k45 x1 x4 x35 = some r) ?_ ?_
    · refine wp_seq ?_
      refine wp_region_lit ?_
      refine lv (d := 30) rfl rfl (by kernel_rfl) (e_eql (k := .i64) (a := x1.kind) (b := 0) (by kernel_rfl) rfl) ?_
      refine lv (d := 29) rfl rfl (by kernel_rfl) (e_assign (v := .bool (decide (x1.kind = 0))) (by kernel_rfl)) ?_
      refine wpList_nil ?_
      refine then_n ?_
      by_cases q46 : x1.kind = 0
      · replace M := ifp q46 M
        refine cond_t rfl (bt q46 (by kernel_rfl)) ?_
        refine wp_skip ?_
        refine then_n ?_
        exact ⟨k1_, (by omega), _, (decide (x1.kind = 0)), (by omega), rfl, (by kernel_rfl), (by kernel_rfl), (by kernel_rfl), (by kernel_rfl), S8, M⟩
      replace M := ifn q46 M
      refine cond_f rfl (bf q46 (by kernel_rfl)) ?_
      refine wp_region_lit ?_
      refine lv (d := 31) rfl rfl (by kernel_rfl) (e_eql (k := .i64) (a := x1.kind) (b := 1) (by kernel_rfl) rfl) ?_
      refine lv (d := 29) rfl rfl (by kernel_rfl) (e_assign (v := .bool (decide (x1.kind = 1))) (by kernel_rfl)) ?_
      refine wpList_nil ?_
      refine then_n ?_
      exact ⟨k1_, (by omega), _, (decide (x1.kind = 1)), (by omega), rfl, (by kernel_rfl), (by kernel_rfl), (by kernel_rfl), (by kernel_rfl), S8, M⟩
    clear M
    rintro a43 w33 ⟨k45, z122, f34, x35, z41, rfl, e36, e37, e38, e39, S40, M⟩
    rcases k45 with _ | k44
    · rw [impl_compare.l0] at M
      cases M
    rw [impl_compare.l0] at M
    by_cases q47 : x35 = true
    · replace M := ifp q47 M
      refine cond_t rfl (bvt q47 (by exact e39)) ?_
      refine wp_seq ?_
      refine region_quiet (by kernel_rfl) (by kernel_rfl) ?_
      refine qv (d := 32) rfl rfl (by kernel_rfl) (fun wq_ hq_ => e_move (v := .pointer (some ⟨g2, 0, none⟩)) (by exact e36)) ?_
      refine qv (d := 33) rfl rfl (by kernel_rfl) (fun wq_ hq_ => e_nilCheck (ad := ⟨g2, 0, none⟩) (by kernel_rfl)) ?_
      refine qv (d := 34) rfl rfl (by kernel_rfl) (fun wq_ hq_ => e_fieldAddr (b := g2) (off := 0) (o := 1) Try.underlying125 rfl rfl (sz := 1) (by kernel_rfl) (by decide) (by kernel_rfl)) ?_
      refine qv (d := 35) rfl rfl (by kernel_rfl) (fun wq_ hq_ => e_load1 (ad := ⟨g2, 0 + 1, none⟩) (v := .int .i64 x1.n) Try.underlying3 rfl (by kernel_rfl) (blk_cells ((S40.still hq_).1.inv _ _ h14) h15 1 _ rfl)) ?_
      refine qv (d := 36) rfl rfl (by kernel_rfl) (fun wq_ hq_ => e_move (v := .pointer (some ⟨g5, 0, none⟩)) (by exact e37)) ?_
      refine qv (d := 37) rfl rfl (by kernel_rfl) (fun wq_ hq_ => e_nilCheck (ad := ⟨g5, 0, none⟩) (by kernel_rfl)) ?_
      refine qv (d := 38) rfl rfl (by kernel_rfl) (fun wq_ hq_ => e_fieldAddr (b := g5) (off := 0) (o := 1) Try.underlying125 rfl rfl (sz := 1) (by kernel_rfl) (by decide) (by kernel_rfl)) ?_
      refine qv (d := 39) rfl rfl (by kernel_rfl) (fun wq_ hq_ => e_load1 (ad := ⟨g5, 0 + 1, none⟩) (v := .int .i64 x4.n) Try.underlying3 rfl (by kernel_rfl) (blk_cells ((S40.still hq_).1.inv _ _ h22) h23 1 _ rfl)) ?_
      obtain ⟨t48, u49, M⟩ := bnd M
      refine qcall (v := .int .i64 t48) (d := 40) rfl rfl (by kernel_rfl) (fun w_ => e_call (l := [.tmp 35, .tmp 39]) (vs := [.int .i64 x1.n, .int .i64 x4.n]) Try.func106 (by kernel_rfl) rfl (by kernel_rfl) rfl) (fun wq_ hq_ => (by obtain ⟨S_, K_⟩ := S40.still hq_; exact (impl_compareInt.calls wq_ H x1.n x4.n  S_.own0 t48 u49))) ?_
      refine qv (d := 4) rfl rfl (by kernel_rfl) (fun wq_ hq_ => e_assign (v := .int .i64 t48) (by kernel_rfl)) ?_
      refine wpQuiet_nil ?_
      intro w50 C53
      obtain ⟨S51, K52⟩ := S40.still C53
      refine then_n ?_
      refine wp_ret ?_
      refine inb_r ?_
      refine then_r ?_
      obtain rfl := Option.some.inj M
      exact ret1 rfl rfl  (show _ = .int .i64 t48 from (by kernel_rfl)) ⟨rfl, S51.chg⟩
    replace M := ifn q47 M
    refine cond_f rfl (bvf q47 (by exact e39)) ?_
    refine wp_seq ?_
    refine wp_region_lit ?_
    refine lv (d := 42) rfl rfl (by kernel_rfl) (e_eql (k := .i64) (a := x1.kind) (b := 2) (by exact e38) rfl) ?_
    refine lv (d := 41) rfl rfl (by kernel_rfl) (e_assign (v := .bool (decide (x1.kind = 2))) (by kernel_rfl)) ?_
    refine wpList_nil ?_
    refine then_n ?_
    by_cases q54 : x1.kind = 2
    · replace M := ifp q54 M
      refine cond_t rfl (bt q54 (by kernel_rfl)) ?_
      refine wp_seq ?_
      refine region_quiet (by kernel_rfl) (by kernel_rfl) ?_
      refine qv (d := 43) rfl rfl (by kernel_rfl) (fun wq_ hq_ => e_move (v := .pointer (some ⟨g2, 0, none⟩)) (by exact e36)) ?_
      refine qv (d := 44) rfl rfl (by kernel_rfl) (fun wq_ hq_ => e_nilCheck (ad := ⟨g2, 0, none⟩) (by kernel_rfl)) ?_
      refine qv (d := 45) rfl rfl (by kernel_rfl) (fun wq_ hq_ => e_fieldAddr (b := g2) (off := 0) (o := 2) Try.underlying125 rfl rfl (sz := 1) (by kernel_rfl) (by decide) (by kernel_rfl)) ?_
      refine qv (d := 46) rfl rfl (by kernel_rfl) (fun wq_ hq_ => e_load1 (ad := ⟨g2, 0 + 2, none⟩) (v := str x1.text) Try.underlying9 rfl (by kernel_rfl) (blk_cells ((S40.still hq_).1.inv _ _ h14) h15 2 _ rfl)) ?_
      refine qv (d := 47) rfl rfl (by kernel_rfl) (fun wq_ hq_ => e_move (v := .pointer (some ⟨g5, 0, none⟩)) (by exact e37)) ?_
      refine qv (d := 48) rfl rfl (by kernel_rfl) (fun wq_ hq_ => e_nilCheck (ad := ⟨g5, 0, none⟩) (by kernel_rfl)) ?_
      refine qv (d := 49) rfl rfl (by kernel_rfl) (fun wq_ hq_ => e_fieldAddr (b := g5) (off := 0) (o := 2) Try.underlying125 rfl rfl (sz := 1) (by kernel_rfl) (by decide) (by kernel_rfl)) ?_
      refine qv (d := 50) rfl rfl (by kernel_rfl) (fun wq_ hq_ => e_load1 (ad := ⟨g5, 0 + 2, none⟩) (v := str x4.text) Try.underlying9 rfl (by kernel_rfl) (blk_cells ((S40.still hq_).1.inv _ _ h22) h23 2 _ rfl)) ?_
      obtain ⟨t55, u56, M⟩ := bnd M
      refine qcall (v := .int .i64 t55) (d := 51) rfl rfl (by kernel_rfl) (fun w_ => e_call (l := [.tmp 46, .tmp 50]) (vs := [str x1.text, str x4.text]) Try.func107 (by kernel_rfl) rfl (by kernel_rfl) rfl) (fun wq_ hq_ => (by obtain ⟨S_, K_⟩ := S40.still hq_; exact (impl_compareText.calls wq_ H x1.text x4.text  S_.own0 t55 u56))) ?_
      refine qv (d := 4) rfl rfl (by kernel_rfl) (fun wq_ hq_ => e_assign (v := .int .i64 t55) (by kernel_rfl)) ?_
      refine wpQuiet_nil ?_
      intro w57 C60
      obtain ⟨S58, K59⟩ := S40.still C60
      refine then_n ?_
      refine wp_ret ?_
      refine inb_r ?_
      refine then_r ?_
      obtain rfl := Option.some.inj M
      exact ret1 rfl rfl  (show _ = .int .i64 t55 from (by kernel_rfl)) ⟨rfl, S58.chg⟩
    replace M := ifn q54 M
    refine cond_f rfl (bf q54 (by kernel_rfl)) ?_
    refine wp_skip ?_
    refine inb_n ?_
    refine then_n ?_
    refine wp_seq ?_
    refine wp_seq ?_
    refine region_still (by kernel_rfl) (by kernel_rfl) S40 ?_
    intro w61 S62 K63
    refine sv (d := 52) rfl rfl (by kernel_rfl) (e_move (v := .pointer (some ⟨g2, 0, none⟩)) (by exact e36)) ?_
    refine sv (d := 53) rfl rfl (by kernel_rfl) (e_nilCheck (ad := ⟨g2, 0, none⟩) (by kernel_rfl)) ?_
    refine sv (d := 54) rfl rfl (by kernel_rfl) (e_fieldAddr (b := g2) (off := 0) (o := 1) Try.underlying125 rfl rfl (sz := 1) (by kernel_rfl) (by decide) (by kernel_rfl)) ?_
    refine sv (d := 55) rfl rfl (by kernel_rfl) (e_load1 (ad := ⟨g2, 0 + 1, none⟩) (v := .int .i64 x1.n) Try.underlying3 rfl (by kernel_rfl) (blk_cells (S62.inv _ _ h14) h15 1 _ rfl)) ?_
    refine sv (d := 56) rfl rfl (by kernel_rfl) (e_move (v := .pointer (some ⟨g5, 0, none⟩)) (by exact e37)) ?_
    refine sv (d := 57) rfl rfl (by kernel_rfl) (e_nilCheck (ad := ⟨g5, 0, none⟩) (by kernel_rfl)) ?_
    refine sv (d := 58) rfl rfl (by kernel_rfl) (e_fieldAddr (b := g5) (off := 0) (o := 1) Try.underlying125 rfl rfl (sz := 1) (by kernel_rfl) (by decide) (by kernel_rfl)) ?_
    refine sv (d := 59) rfl rfl (by kernel_rfl) (e_load1 (ad := ⟨g5, 0 + 1, none⟩) (v := .int .i64 x4.n) Try.underlying3 rfl (by kernel_rfl) (blk_cells (S62.inv _ _ h22) h23 1 _ rfl)) ?_
    refine sv (d := 60) rfl rfl (by kernel_rfl) (e_neq (k := .i64) (a := x1.n) (b := x4.n) (by kernel_rfl) (by kernel_rfl)) ?_
    refine wpStill_nil ?_
    refine then_n ?_
    by_cases q64 : x1.n ≠ x4.n
    · replace M := ifp q64 M
      refine cond_t rfl (bt q64 (by kernel_rfl)) ?_
      refine wp_seq ?_
      refine region_quiet (by kernel_rfl) (by kernel_rfl) ?_
      refine qv (d := 61) rfl rfl (by kernel_rfl) (fun wq_ hq_ => e_move (v := .pointer (some ⟨g2, 0, none⟩)) (by exact e36)) ?_
      refine qv (d := 62) rfl rfl (by kernel_rfl) (fun wq_ hq_ => e_nilCheck (ad := ⟨g2, 0, none⟩) (by kernel_rfl)) ?_
      refine qv (d := 63) rfl rfl (by kernel_rfl) (fun wq_ hq_ => e_fieldAddr (b := g2) (off := 0) (o := 1) Try.underlying125 rfl rfl (sz := 1) (by kernel_rfl) (by decide) (by kernel_rfl)) ?_
      refine qv (d := 64) rfl rfl (by kernel_rfl) (fun wq_ hq_ => e_load1 (ad := ⟨g2, 0 + 1, none⟩) (v := .int .i64 x1.n) Try.underlying3 rfl (by kernel_rfl) (blk_cells ((S62.still hq_).1.inv _ _ h14) h15 1 _ rfl)) ?_
      refine qv (d := 65) rfl rfl (by kernel_rfl) (fun wq_ hq_ => e_move (v := .pointer (some ⟨g5, 0, none⟩)) (by exact e37)) ?_
      refine qv (d := 66) rfl rfl (by kernel_rfl) (fun wq_ hq_ => e_nilCheck (ad := ⟨g5, 0, none⟩) (by kernel_rfl)) ?_
      refine qv (d := 67) rfl rfl (by kernel_rfl) (fun wq_ hq_ => e_fieldAddr (b := g5) (off := 0) (o := 1) Try.underlying125 rfl rfl (sz := 1) (by kernel_rfl) (by decide) (by kernel_rfl)) ?_
      refine qv (d := 68) rfl rfl (by kernel_rfl) (fun wq_ hq_ => e_load1 (ad := ⟨g5, 0 + 1, none⟩) (v := .int .i64 x4.n) Try.underlying3 rfl (by kernel_rfl) (blk_cells ((S62.still hq_).1.inv _ _ h22) h23 1 _ rfl)) ?_
      obtain ⟨t65, u66, M⟩ := bnd M
      refine qcall (v := .int .i64 t65) (d := 69) rfl rfl (by kernel_rfl) (fun w_ => e_call (l := [.tmp 64, .tmp 68]) (vs := [.int .i64 x1.n, .int .i64 x4.n]) Try.func106 (by kernel_rfl) rfl (by kernel_rfl) rfl) (fun wq_ hq_ => (by obtain ⟨S_, K_⟩ := S62.still hq_; exact (impl_compareInt.calls wq_ H x1.n x4.n  S_.own0 t65 u66))) ?_
      refine qv (d := 4) rfl rfl (by kernel_rfl) (fun wq_ hq_ => e_assign (v := .int .i64 t65) (by kernel_rfl)) ?_
      refine wpQuiet_nil ?_
      intro w67 C70
      obtain ⟨S68, K69⟩ := S62.still C70
      refine then_n ?_
      refine wp_ret ?_
      refine then_r ?_
      obtain rfl := Option.some.inj M
      exact ret1 rfl rfl  (show _ = .int .i64 t65 from (by kernel_rfl)) ⟨rfl, S68.chg⟩
    replace M := ifn q64 M
    refine cond_f rfl (bf q64 (by kernel_rfl)) ?_
    refine wp_skip ?_
    refine then_n ?_
    refine wp_seq ?_
    refine wp_seq ?_
    refine region_still (by kernel_rfl) (by kernel_rfl) S62 ?_
    intro w71 S72 K73
    refine sv (d := 70) rfl rfl (by kernel_rfl) (e_move (v := .pointer (some ⟨g2, 0, none⟩)) (by exact e36)) ?_
    refine sv (d := 71) rfl rfl (by kernel_rfl) (e_nilCheck (ad := ⟨g2, 0, none⟩) (by kernel_rfl)) ?_
    refine sv (d := 72) rfl rfl (by kernel_rfl) (e_fieldAddr (b := g2) (off := 0) (o := 2) Try.underlying125 rfl rfl (sz := 1) (by kernel_rfl) (by decide) (by kernel_rfl)) ?_
    refine sv (d := 73) rfl rfl (by kernel_rfl) (e_load1 (ad := ⟨g2, 0 + 2, none⟩) (v := str x1.text) Try.underlying9 rfl (by kernel_rfl) (blk_cells (S72.inv _ _ h14) h15 2 _ rfl)) ?_
    refine sv (d := 74) rfl rfl (by kernel_rfl) (e_move (v := .pointer (some ⟨g5, 0, none⟩)) (by exact e37)) ?_
    refine sv (d := 75) rfl rfl (by kernel_rfl) (e_nilCheck (ad := ⟨g5, 0, none⟩) (by kernel_rfl)) ?_
    refine sv (d := 76) rfl rfl (by kernel_rfl) (e_fieldAddr (b := g5) (off := 0) (o := 2) Try.underlying125 rfl rfl (sz := 1) (by kernel_rfl) (by decide) (by kernel_rfl)) ?_
    refine sv (d := 77) rfl rfl (by kernel_rfl) (e_load1 (ad := ⟨g5, 0 + 2, none⟩) (v := str x4.text) Try.underlying9 rfl (by kernel_rfl) (blk_cells (S72.inv _ _ h22) h23 2 _ rfl)) ?_
    refine sv (d := 78) rfl rfl (by kernel_rfl) (e_sneq (p := x1.text) (q := x4.text) (by kernel_rfl) (by kernel_rfl)) ?_
    refine wpStill_nil ?_
    refine then_n ?_
    by_cases q74 : x1.text ≠ x4.text
    · replace M := ifp q74 M
      refine cond_t rfl (bt q74 (by kernel_rfl)) ?_
      refine wp_seq ?_
      refine region_quiet (by kernel_rfl) (by kernel_rfl) ?_
      refine qv (d := 79) rfl rfl (by kernel_rfl) (fun wq_ hq_ => e_move (v := .pointer (some ⟨g2, 0, none⟩)) (by exact e36)) ?_
      refine qv (d := 80) rfl rfl (by kernel_rfl) (fun wq_ hq_ => e_nilCheck (ad := ⟨g2, 0, none⟩) (by kernel_rfl)) ?_
      refine qv (d := 81) rfl rfl (by kernel_rfl) (fun wq_ hq_ => e_fieldAddr (b := g2) (off := 0) (o := 2) Try.underlying125 rfl rfl (sz := 1) (by kernel_rfl) (by decide) (by kernel_rfl)) ?_
      refine qv (d := 82) rfl rfl (by kernel_rfl) (fun wq_ hq_ => e_load1 (ad := ⟨g2, 0 + 2, none⟩) (v := str x1.text) Try.underlying9 rfl (by kernel_rfl) (blk_cells ((S72.still hq_).1.inv _ _ h14) h15 2 _ rfl)) ?_
      refine qv (d := 83) rfl rfl (by kernel_rfl) (fun wq_ hq_ => e_move (v := .pointer (some ⟨g5, 0, none⟩)) (by exact e37)) ?_
      refine qv (d := 84) rfl rfl (by kernel_rfl) (fun wq_ hq_ => e_nilCheck (ad := ⟨g5, 0, none⟩) (by kernel_rfl)) ?_
      refine qv (d := 85) rfl rfl (by kernel_rfl) (fun wq_ hq_ => e_fieldAddr (b := g5) (off := 0) (o := 2) Try.underlying125 rfl rfl (sz := 1) (by kernel_rfl) (by decide) (by kernel_rfl)) ?_
      refine qv (d := 86) rfl rfl (by kernel_rfl) (fun wq_ hq_ => e_load1 (ad := ⟨g5, 0 + 2, none⟩) (v := str x4.text) Try.underlying9 rfl (by kernel_rfl) (blk_cells ((S72.still hq_).1.inv _ _ h22) h23 2 _ rfl)) ?_
      obtain ⟨t75, u76, M⟩ := bnd M
      refine qcall (v := .int .i64 t75) (d := 87) rfl rfl (by kernel_rfl) (fun w_ => e_call (l := [.tmp 82, .tmp 86]) (vs := [str x1.text, str x4.text]) Try.func107 (by kernel_rfl) rfl (by kernel_rfl) rfl) (fun wq_ hq_ => (by obtain ⟨S_, K_⟩ := S72.still hq_; exact (impl_compareText.calls wq_ H x1.text x4.text  S_.own0 t75 u76))) ?_
      refine qv (d := 4) rfl rfl (by kernel_rfl) (fun wq_ hq_ => e_assign (v := .int .i64 t75) (by kernel_rfl)) ?_
      refine wpQuiet_nil ?_
      intro w77 C80
      obtain ⟨S78, K79⟩ := S72.still C80
      refine then_n ?_
      refine wp_ret ?_
      refine then_r ?_
      obtain rfl := Option.some.inj M
      exact ret1 rfl rfl  (show _ = .int .i64 t75 from (by kernel_rfl)) ⟨rfl, S78.chg⟩
    replace M := ifn q74 M
    refine cond_f rfl (bf q74 (by kernel_rfl)) ?_
    refine wp_skip ?_
    refine then_n ?_
    refine wp_seq ?_
    refine wp_seq ?_
    refine wp_region_lit ?_
    refine lv (d := 88) rfl rfl (by kernel_rfl) (e_move (v := .pointer (some ⟨g2, 0, none⟩)) (by exact e36)) ?_
    refine lv (d := 89) rfl rfl (by kernel_rfl) (e_nilCheck (ad := ⟨g2, 0, none⟩) (by kernel_rfl)) ?_
    refine lv (d := 90) rfl rfl (by kernel_rfl) (e_fieldAddr (b := g2) (off := 0) (o := 3) Try.underlying125 rfl rfl (sz := 1) (by kernel_rfl) (by decide) (by kernel_rfl)) ?_
    refine lv (d := 91) rfl rfl (by kernel_rfl) (e_load1 (ad := ⟨g2, 0 + 3, none⟩) (v := .slice A10 x1.args.length c11) Try.underlying87 rfl (by kernel_rfl) (blk_cells (S72.inv _ _ h14) h15 3 _ rfl)) ?_
    refine lv (d := 92) rfl rfl (by kernel_rfl) (e_len (A := A10) (n := x1.args.length) (c := c11) Try.underlying87 (by kernel_rfl)) ?_
    refine lv (d := 93) rfl rfl (by kernel_rfl) (e_move (v := .int .i64 0) rfl) ?_
    refine wpList_nil ?_
    refine then_n ?_
    refine wp_block ?_
    refine wp_loop_g (fun k91 a92 w81 => ∃ (f82 : Nat → Value) (x83 : Int), k91 < K ∧ a92 = mk 115 f82 ∧ f82 0 = .pointer (some ⟨g2, 0, none⟩) ∧ f82 1 = .pointer (some ⟨g5, 0, none⟩) ∧ f82 92 = .int .i64 (x1.args.length : Int) ∧ f82 93 = .int .i64 x83 ∧ St (anyOf []) H w [] H w81 ∧ impl_compare.l1 k91 x1 x4 x83 = some r) k44 ⟨_, 0, (by omega), rfl, (by exact e36), (by exact e37), (by kernel_rfl), (by kernel_rfl), S72, M⟩ ?_
    clear M
    rintro k91 a92 w81 ⟨f82, x83, z89, rfl, e84, e85, e86, e87, S88, M⟩
    rcases k91 with _ | k93
    · rw [impl_compare.l1] at M
      cases M
    rw [impl_compare.l1] at M
    refine wp_seq ?_
    refine wp_region_lit ?_
    refine lv (d := 94) rfl rfl (by kernel_rfl) (e_lss (k := .i64) (a := x83) (b := (x1.args.length : Int)) (by exact e87) (by exact e86)) ?_
    refine wpList_nil ?_
    refine then_n ?_
    refine wp_seq ?_
    by_cases q94 : x83 < (x1.args.length : Int)
    · replace M := ifp q94 M
      refine cond_t rfl (bt q94 (by kernel_rfl)) ?_
      refine wp_skip ?_
      refine then_n ?_
      refine wp_seq ?_
      refine wp_block ?_
      refine wp_seq ?_
      refine wp_region_lit ?_
      refine lv (d := 95) rfl rfl (by kernel_rfl) (e_move (v := .int .i64 x83) (by exact e87)) ?_
      refine lv (d := 5) rfl rfl (by kernel_rfl) (e_assign (v := .int .i64 x83) (by kernel_rfl)) ?_
      refine wpList_nil ?_
      refine then_n ?_
      refine wp_seq ?_
      refine region_quiet (by kernel_rfl) (by kernel_rfl) ?_
      refine qv (d := 96) rfl rfl (by kernel_rfl) (fun wq_ hq_ => e_move (v := .pointer (some ⟨g2, 0, none⟩)) (by exact e84)) ?_
      refine qv (d := 97) rfl rfl (by kernel_rfl) (fun wq_ hq_ => e_nilCheck (ad := ⟨g2, 0, none⟩) (by kernel_rfl)) ?_
      refine qv (d := 98) rfl rfl (by kernel_rfl) (fun wq_ hq_ => e_fieldAddr (b := g2) (off := 0) (o := 3) Try.underlying125 rfl rfl (sz := 1) (by kernel_rfl) (by decide) (by kernel_rfl)) ?_
      refine qv (d := 99) rfl rfl (by kernel_rfl) (fun wq_ hq_ => e_load1 (ad := ⟨g2, 0 + 3, none⟩) (v := .slice A10 x1.args.length c11) Try.underlying87 rfl (by kernel_rfl) (blk_cells ((S88.still hq_).1.inv _ _ h14) h15 3 _ rfl)) ?_
      refine qv (d := 100) rfl rfl (by kernel_rfl) (fun wq_ hq_ => e_move (v := .int .i64 x83) (by kernel_rfl)) ?_
      obtain ⟨q95, M⟩ := chk M
      obtain ⟨b96, o97, e98⟩ := Rd.addr h17 (show (x83).toNat < x1.args.length by omega)
      obtain ⟨y99, r100, k101⟩ := Rd.at h17 e98 (getD_some (Tm.mk 0 0 [] []) (show (x83).toNat < x1.args.length by omega))
      obtain ⟨v102, rfl, h103⟩ := r100
      obtain ⟨g104, rfl⟩ := node_ptr h103
      refine qv (d := 101) rfl rfl (by kernel_rfl) (fun wq_ hq_ => e_indexAddr (b := b96) (off := o97) (n := x1.args.length) (c := c11) (sz := 1) (i := x83) (k := .i64) Try.underlying87 e98 (by kernel_rfl) (by kernel_rfl) (by kernel_rfl) q95 q94) ?_
      refine qv (d := 102) rfl rfl (by kernel_rfl) (fun wq_ hq_ => e_load1 (ad := ⟨b96, o97 + (x83 : Int).toNat * 1, none⟩) (v := .pointer (some ⟨g104, 0, none⟩)) Try.underlying74 rfl (by kernel_rfl) (hpx ((S88.still hq_).1.inv.cell (k101 0 _ rfl)))) ?_
      refine qv (d := 103) rfl rfl (by kernel_rfl) (fun wq_ hq_ => e_move (v := .pointer (some ⟨g5, 0, none⟩)) (by exact e85)) ?_
      refine qv (d := 104) rfl rfl (by kernel_rfl) (fun wq_ hq_ => e_nilCheck (ad := ⟨g5, 0, none⟩) (by kernel_rfl)) ?_
      refine qv (d := 105) rfl rfl (by kernel_rfl) (fun wq_ hq_ => e_fieldAddr (b := g5) (off := 0) (o := 3) Try.underlying125 rfl rfl (sz := 1) (by kernel_rfl) (by decide) (by kernel_rfl)) ?_
      refine qv (d := 106) rfl rfl (by kernel_rfl) (fun wq_ hq_ => e_load1 (ad := ⟨g5, 0 + 3, none⟩) (v := .slice A18 x4.args.length c19) Try.underlying87 rfl (by kernel_rfl) (blk_cells ((S88.still hq_).1.inv _ _ h22) h23 3 _ rfl)) ?_
      refine qv (d := 107) rfl rfl (by kernel_rfl) (fun wq_ hq_ => e_move (v := .int .i64 x83) (by kernel_rfl)) ?_
      obtain ⟨q105, M⟩ := chk M
      obtain ⟨b106, o107, e108⟩ := Rd.addr h25 (show (x83).toNat < x4.args.length by omega)
      obtain ⟨y109, r110, k111⟩ := Rd.at h25 e108 (getD_some (Tm.mk 0 0 [] []) (show (x83).toNat < x4.args.length by omega))
      obtain ⟨v112, rfl, h113⟩ := r110
      obtain ⟨g114, rfl⟩ := node_ptr h113
      refine qv (d := 108) rfl rfl (by kernel_rfl) (fun wq_ hq_ => e_indexAddr (b := b106) (off := o107) (n := x4.args.length) (c := c19) (sz := 1) (i := x83) (k := .i64) Try.underlying87 e108 (by kernel_rfl) (by kernel_rfl) (by kernel_rfl) q95 q105) ?_
      refine qv (d := 109) rfl rfl (by kernel_rfl) (fun wq_ hq_ => e_load1 (ad := ⟨b106, o107 + (x83 : Int).toNat * 1, none⟩) (v := .pointer (some ⟨g114, 0, none⟩)) Try.underlying74 rfl (by kernel_rfl) (hpx ((S88.still hq_).1.inv.cell (k111 0 _ rfl)))) ?_
      obtain ⟨t115, u116, M⟩ := bnd M
      refine qcall (v := .int .i64 t115) (d := 110) rfl rfl (by kernel_rfl) (fun w_ => e_call (l := [.tmp 102, .tmp 109]) (vs := [.pointer (some ⟨g104, 0, none⟩), .pointer (some ⟨g114, 0, none⟩)]) Try.func61 (by kernel_rfl) rfl (by kernel_rfl) rfl) (fun wq_ hq_ => (by obtain ⟨S_, K_⟩ := S88.still hq_; exact (ih k93 (by omega) wq_ H (x1.args.getD ((x83).toNat) (Tm.mk 0 0 [] [])) g104 (x4.args.getD ((x83).toNat) (Tm.mk 0 0 [] [])) g114 h103 h113 S_.own0 t115 u116))) ?_
      refine qv (d := 6) rfl rfl (by kernel_rfl) (fun wq_ hq_ => e_assign (v := .int .i64 t115) (by kernel_rfl)) ?_
      refine wpQuiet_nil ?_
      intro w117 C120
      obtain ⟨S118, K119⟩ := S88.still C120
      refine then_n ?_
      refine wp_seq ?_
      refine wp_region_lit ?_
      refine lv (d := 111) rfl rfl (by kernel_rfl) (e_move (v := .int .i64 t115) (by kernel_rfl)) ?_
      refine lv (d := 112) rfl rfl (by kernel_rfl) (e_neq (k := .i64) (a := t115) (b := 0) (by kernel_rfl) rfl) ?_
      refine wpList_nil ?_
      refine then_n ?_
      by_cases q121 : t115 ≠ 0
      · replace M := ifp q121 M
        refine cond_t rfl (bt q121 (by kernel_rfl)) ?_
        refine wp_seq ?_
        refine wp_region_lit ?_
        refine lv (d := 113) rfl rfl (by kernel_rfl) (e_move (v := .int .i64 t115) (by kernel_rfl)) ?_
        refine lv (d := 4) rfl rfl (by kernel_rfl) (e_assign (v := .int .i64 t115) (by kernel_rfl)) ?_
        refine wpList_nil ?_
        refine then_n ?_
        refine wp_ret ?_
        refine inb_r ?_
        refine then_r ?_
        refine then_r ?_
        refine inb_r ?_
        refine then_r ?_
        obtain rfl := Option.some.inj M
        exact ret1 rfl rfl  (show _ = .int .i64 t115 from (by kernel_rfl)) ⟨rfl, S118.chg⟩
      replace M := ifn q121 M
      refine cond_f rfl (bf q121 (by kernel_rfl)) ?_
      refine wp_skip ?_
      refine inb_n ?_
      refine then_n ?_
      refine wp_region_lit ?_
      refine lv (d := 114) rfl rfl (by kernel_rfl) (e_add (k := .i64) (a := x83) (b := 1) (by exact e87) rfl) ?_
      refine lv (d := 93) rfl rfl (by kernel_rfl) (e_move (v := .int .i64 (IntKind.i64.wrap (x83 + 1))) (by kernel_rfl)) ?_
      refine wpList_nil ?_
      refine then_n ?_
      exact ⟨k93, (by omega), _, (IntKind.i64.wrap (x83 + 1)), (by omega), rfl, (by exact e84), (by exact e85), (by exact e86), (by kernel_rfl), S118, M⟩
    replace M := ifn q94 M
    refine cond_f rfl (bf q94 (by kernel_rfl)) ?_
    refine wp_exit ?_
    refine then_e ?_
    refine then_e ?_
    refine inb_hit ?_
    refine then_n ?_
    refine wp_seq ?_
    refine wp_region_lit ?_
    refine lv (d := 4) rfl rfl (by kernel_rfl) (e_assign (v := .int .i64 0) rfl) ?_
    refine wpList_nil ?_
    refine then_n ?_
    refine wp_ret ?_
    obtain rfl := Option.some.inj M
    exact ret1 rfl rfl  (show _ = .int .i64 0 from (by kernel_rfl)) ⟨rfl, S88.chg⟩
theorem impl_compare.calls (k : Nat) (w : World) (H : Hp) (x1 : Tm) (g2 : Nat) (x4 : Tm) (g5 : Nat) (h3 : NodeR 125 H x1 (.pointer (some ⟨g2, 0, none⟩))) (h6 : NodeR 125 H x4 (.pointer (some ⟨g5, 0, none⟩))) (S : Own [] H w) (r : Int) (M : impl_compare.f k x1 x4 = some r) :
    Calls Try.prog 61 #[.pointer (some ⟨g2, 0, none⟩), .pointer (some ⟨g5, 0, none⟩)] w (fun e e_w => e = .returned (.int .i64 r) ∧ Chg no w e_w) := (impl_compare.all (k + 1)) k (Nat.lt_succ_self k) w H x1 g2 x4 g5 h3 h6 S r M
end Go.Proofs.Ytognefkopbbdnaa
