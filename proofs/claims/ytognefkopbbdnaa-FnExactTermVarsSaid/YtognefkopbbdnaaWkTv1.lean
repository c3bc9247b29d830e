import Derived.Test.YtognefkopbbdnaaProg
import Derived.Test.YtognefkopbbdnaaY11
namespace Go.Proofs.Ytognefkopbbdnaa
open Go.Sx Go.Sy
attribute [local irreducible] Go.wpList Go.wpStill Go.wpQuiet Go.Code.wp
set_option maxRecDepth 100000
set_option maxHeartbeats 1000000
set_option linter.unusedVariables false
set_option linter.unusedSimpArgs false

/-! laws_szByteS -/
def sl5 : Ty (List UInt8) := slice 5 tByte (by decide)
def st68 : Ty Cell := iso (pair tInt (pair tInt sl5)) (fun x => (x.kind, x.n, x.text))
theorem st68_open {H : Hp} {x : Cell} {cs : List Value} (h : st68.R H x cs) : ∃ (A2 : Option Addr) (c2 : Nat), cs = [.int .i64 x.kind, .int .i64 x.n, .slice A2 x.text.length c2] ∧ x.text.length ≤ c2 ∧ Rd tByte H A2 x.text := by
  obtain ⟨_, _, rfl, rfl, ⟨_, _, rfl, rfl, ⟨A2, c2, rfl, l2, h2⟩⟩⟩ := h
  exact ⟨A2, c2, rfl, l2, h2⟩
theorem st68_mkR {H : Hp} {x : Cell} {A2 : Option Addr} {c2 : Nat} (l2 : x.text.length ≤ c2) (h2 : Rd tByte H A2 x.text) : st68.R H x [.int .i64 x.kind, .int .i64 x.n, .slice A2 x.text.length c2] := ⟨[.int .i64 x.kind], [.int .i64 x.n, .slice A2 x.text.length c2], rfl, rfl, ⟨[.int .i64 x.n], [.slice A2 x.text.length c2], rfl, rfl, ⟨A2, c2, rfl, l2, h2⟩⟩⟩
theorem st68_mkO {H X : Hp} {F2 : Foot} {x : Cell} {A2 : Option Addr} {c2 : Nat} (h2 : Row tByte 5 H X F2 A2 c2 x.text) : st68.O H X F2 x [.int .i64 x.kind, .int .i64 x.n, .slice A2 x.text.length c2] := (pairO0 (a := tInt) (b := (pair tInt sl5)) (x := (x.kind, (x.n, x.text))) (c0 := [.int .i64 x.kind]) (c1 := [.int .i64 x.n, .slice A2 x.text.length c2]) rfl (pairO0 (a := tInt) (b := sl5) (x := (x.n, x.text)) (c0 := [.int .i64 x.n]) (c1 := [.slice A2 x.text.length c2]) rfl ⟨A2, c2, rfl, h2⟩))
theorem st68_openO {H X : Hp} {F : Foot} {x : Cell} {cs : List Value} (h : st68.O H X F x cs) : ∃ (A2 : Option Addr) (c2 : Nat) (F2 : Foot), cs = [.int .i64 x.kind, .int .i64 x.n, .slice A2 x.text.length c2] ∧ Row tByte 5 H X F2 A2 c2 x.text ∧ (∀ b, F2 b → F b) := by
  obtain ⟨_, _, K1, L1, rfl, rfl, ⟨_, _, K0, L0, rfl, rfl, ⟨A2, c2, rfl, h2⟩, d0, s0⟩, d1, s1⟩ := h
  exact ⟨A2, c2, _, rfl, h2, fun b hb => s1 b (.inr (s0 b (.inr (hb))))⟩
theorem st68_c0 {H X : Hp} {F : Foot} {x : Cell} {cs : List Value} (h : st68.O H X F x cs) : cs[0]? = some (.int .i64 x.kind) := by obtain ⟨_, _, _, rfl, _, _⟩ := st68_openO h; rfl
theorem st68_r0 {H : Hp} {x : Cell} {cs : List Value} (h : st68.R H x cs) : cs[0]? = some (.int .i64 x.kind) := by obtain ⟨_, _, rfl, _, _⟩ := st68_open h; rfl
theorem st68_c1 {H X : Hp} {F : Foot} {x : Cell} {cs : List Value} (h : st68.O H X F x cs) : cs[1]? = some (.int .i64 x.n) := by obtain ⟨_, _, _, rfl, _, _⟩ := st68_openO h; rfl
theorem st68_r1 {H : Hp} {x : Cell} {cs : List Value} (h : st68.R H x cs) : cs[1]? = some (.int .i64 x.n) := by obtain ⟨_, _, rfl, _, _⟩ := st68_open h; rfl
theorem st68_u0 {H X : Hp} {F1 F2 : Foot} {x : Cell} (y : Int) {cs : List Value} (h : st68.O H X F1 x cs) : st68.O H X (or2 F1 F2) {x with kind := y} (cs.take 0 ++ [.int .i64 y] ++ cs.drop 1) := by
  obtain ⟨_, _, _, rfl, h2, s2⟩ := st68_openO h
  exact st68_mkO (x := {x with kind := y}) (h2.mono fun b hb => .inl (s2 b hb))
theorem st68_u1 {H X : Hp} {F1 F2 : Foot} {x : Cell} (y : Int) {cs : List Value} (h : st68.O H X F1 x cs) : st68.O H X (or2 F1 F2) {x with n := y} (cs.take 1 ++ [.int .i64 y] ++ cs.drop 2) := by
  obtain ⟨_, _, _, rfl, h2, s2⟩ := st68_openO h
  exact st68_mkO (x := {x with n := y}) (h2.mono fun b hb => .inl (s2 b hb))
theorem st68_u2 {H X : Hp} {F1 F2 : Foot} {x : Cell} {y : List UInt8} {A : Option Addr} {c : Nat} {cs : List Value} (hy : Row tByte 5 H X F2 A c y) (h : st68.O H X F1 x cs) : st68.O H X (or2 F1 F2) {x with text := y} (cs.take 2 ++ [.slice A y.length c] ++ cs.drop 3) := by
  obtain ⟨_, _, _, rfl, h2, _⟩ := st68_openO h
  exact st68_mkO (x := {x with text := y}) (hy.mono fun b hb => .inr hb)
def z68 : Cell := ⟨(0 : Int), (0 : Int), ([] : List UInt8)⟩
theorem z68_O (H X : Hp) : st68.O H X no z68 [.int .i64 (0 : Int), .int .i64 (0 : Int), .slice none 0 0] := st68_mkO (x := z68) (Row.nil _ _ _ _ no)
theorem z68_R (H : Hp) : st68.R H z68 [.int .i64 (0 : Int), .int .i64 (0 : Int), .slice none 0 0] := st68_mkR (x := z68) (Nat.le_refl _) (Rd.nil _ _ _)
def laws_szByteS.f (x1 : List UInt8) (x6 : Int) : Option Int := (if (IntKind.i64.wrap (x6 - (x1.length : Int))) < 0 then some (-1) else some (IntKind.i64.wrap (x6 - (x1.length : Int))))
theorem laws_szByteS.calls (w : World) (H : Hp) (x1 : List UInt8) (A2 : Option Addr) (c3 : Nat) (x6 : Int) (h4 : Rd tByte H A2 x1) (l5 : x1.length ≤ c3) (S : Own [] H w) (r : Int) (M : laws_szByteS.f x1 x6 = some r) :
    Calls Try.prog 102 #[.slice A2 x1.length c3, .int .i64 x6] w (fun e e_w => e = .returned (.int .i64 r) ∧ Chg no w e_w) := by
  rw [laws_szByteS.f] at M
  refine enter (l := [.slice A2 x1.length c3, .int .i64 x6]) 12 Try.func102 rfl rfl rfl ?_
  have S0_ := S.st
  refine wp_seq ?_
  refine wp_region_lit ?_
  refine lv (d := 4) rfl rfl (by kernel_rfl) (e_assign (v := .int .i64 0) rfl) ?_
  refine wpList_nil ?_
  refine then_n ?_
  refine wp_seq ?_
  refine wp_region_lit ?_
  refine lv (d := 5) rfl rfl (by kernel_rfl) (e_move (v := .int .i64 x6) (by kernel_rfl)) ?_
  refine lv (d := 6) rfl rfl (by kernel_rfl) (e_move (v := .slice A2 x1.length c3) (by kernel_rfl)) ?_
  refine lv (d := 7) rfl rfl (by kernel_rfl) (e_len (A := A2) (n := x1.length) (c := c3) Try.underlying59 (by kernel_rfl)) ?_
  refine lv (d := 8) rfl rfl (by kernel_rfl) (e_sub (k := .i64) (a := x6) (b := (x1.length : Int)) (by kernel_rfl) (by kernel_rfl)) ?_
  refine lv (d := 1) rfl rfl (by kernel_rfl) (e_assign (v := .int .i64 (IntKind.i64.wrap (x6 - (x1.length : Int)))) (by kernel_rfl)) ?_
  refine wpList_nil ?_
  refine then_n ?_
  refine wp_seq ?_
  refine wp_seq ?_
  refine wp_region_lit ?_
  refine lv (d := 9) rfl rfl (by kernel_rfl) (e_move (v := .int .i64 (IntKind.i64.wrap (x6 - (x1.length : Int)))) (by kernel_rfl)) ?_
  refine lv (d := 10) rfl rfl (by kernel_rfl) (e_lss (k := .i64) (a := (IntKind.i64.wrap (x6 - (x1.length : Int)))) (b := 0) (by kernel_rfl) rfl) ?_
  refine wpList_nil ?_
  refine then_n ?_
  by_cases q7 : (IntKind.i64.wrap (x6 - (x1.length : Int))) < 0
  · replace M := ifp q7 M
    refine cond_t rfl (bt q7 (by kernel_rfl)) ?_
    refine wp_seq ?_
    refine wp_region_lit ?_
    refine lv (d := 4) rfl rfl (by kernel_rfl) (e_assign (v := .int .i64 (-1)) rfl) ?_
    refine wpList_nil ?_
    refine then_n ?_
    refine wp_ret ?_
    refine then_r ?_
    obtain rfl := Option.some.inj M
    exact ret1 rfl rfl  (show _ = .int .i64 (-1) from (by kernel_rfl)) ⟨rfl, S0_.chg⟩
  replace M := ifn q7 M
  refine cond_f rfl (bf q7 (by kernel_rfl)) ?_
  refine wp_skip ?_
  refine then_n ?_
  refine wp_seq ?_
  refine wp_region_lit ?_
  refine lv (d := 11) rfl rfl (by kernel_rfl) (e_move (v := .int .i64 (IntKind.i64.wrap (x6 - (x1.length : Int)))) (by kernel_rfl)) ?_
  refine lv (d := 4) rfl rfl (by kernel_rfl) (e_assign (v := .int .i64 (IntKind.i64.wrap (x6 - (x1.length : Int)))) (by kernel_rfl)) ?_
  refine wpList_nil ?_
  refine then_n ?_
  refine wp_ret ?_
  obtain rfl := Option.some.inj M
  exact ret1 rfl rfl  (show _ = .int .i64 (IntKind.i64.wrap (x6 - (x1.length : Int))) from (by kernel_rfl)) ⟨rfl, S0_.chg⟩

/-! laws_szCell -/
def laws_szCell.f (x1 : Cell) (x6 : Int) : Option Int := ((laws_szByteS.f x1.text x6).bind fun t12 => (if t12 < 0 then some (-1) else some t12))
theorem laws_szCell.calls (w : World) (H : Hp) (x1 : Cell) (A2 : Option Addr) (c3 : Nat) (x6 : Int) (h4 : Rd tByte H A2 x1.text) (l5 : x1.text.length ≤ c3) (S : Own [] H w) (r : Int) (M : laws_szCell.f x1 x6 = some r) :
    Calls Try.prog 55 #[.agg #[.int .i64 x1.kind, .int .i64 x1.n, .slice A2 x1.text.length c3], .int .i64 x6] w (fun e e_w => e = .returned (.int .i64 r) ∧ Chg no w e_w) := by
  rw [laws_szCell.f] at M
  refine enter (l := [.agg #[.int .i64 x1.kind, .int .i64 x1.n, .slice A2 x1.text.length c3], .int .i64 x6]) 12 Try.func55 rfl rfl rfl ?_
  have S0_ := S.st
  refine wp_seq ?_
  refine wp_region_lit ?_
  refine lve (d := 2) rfl rfl (by kernel_rfl) (new_blk (v := fun g_ => .pointer (some ⟨g_, 0, none⟩)) (cs := #[.int .i64 x1.kind, .int .i64 x1.n, .slice A2 x1.text.length c3]) (t := 68) S0_ (by kernel_rfl)) ?_
  rintro _ w7 ⟨g8, rfl, b9, S10, K11⟩
  refine lv (d := 4) rfl rfl (by kernel_rfl) (e_assign (v := .int .i64 0) rfl) ?_
  refine wpList_nil ?_
  refine then_n ?_
  refine wp_seq ?_
  refine wp_region_lit ?_
  refine lv (d := 5) rfl rfl (by kernel_rfl) (e_fieldAddr (b := g8) (off := 0) (o := 2) Try.underlying68 rfl rfl (sz := 1) (by kernel_rfl) (by decide) (by kernel_rfl)) ?_
  refine lv (d := 6) rfl rfl (by kernel_rfl) (e_load1 (ad := ⟨g8, 0 + 2, none⟩) (v := .slice A2 x1.text.length c3) Try.underlying59 rfl (by kernel_rfl) (blk_cell b9 rfl)) ?_
  refine lv (d := 7) rfl rfl (by kernel_rfl) (e_move (v := .int .i64 x6) (by kernel_rfl)) ?_
  obtain ⟨t12, u13, M⟩ := bnd M
  refine lcall (d := 8) rfl rfl (by kernel_rfl) (e_call (l := [.tmp 6, .tmp 7]) (vs := [.slice A2 x1.text.length c3, .int .i64 x6]) Try.func102 (by kernel_rfl) rfl (by kernel_rfl) rfl) (laws_szByteS.calls w7 H x1.text A2 c3 x6 h4 l5 S10.own0 t12 u13) ?_
  rintro _ w14 ⟨rfl, C15⟩
  refine ⟨_, rfl, ?_⟩
  obtain ⟨S16, K17⟩ := S10.still C15
  replace b9 := K17.blk 0 rfl b9
  refine lv (d := 1) rfl rfl (by kernel_rfl) (e_assign (v := .int .i64 t12) (by kernel_rfl)) ?_
  refine wpList_nil ?_
  refine then_n ?_
  refine wp_seq ?_
  refine wp_seq ?_
  refine wp_region_lit ?_
  refine lv (d := 9) rfl rfl (by kernel_rfl) (e_move (v := .int .i64 t12) (by kernel_rfl)) ?_
  refine lv (d := 10) rfl rfl (by kernel_rfl) (e_lss (k := .i64) (a := t12) (b := 0) (by kernel_rfl) rfl) ?_
  refine wpList_nil ?_
  refine then_n ?_
  by_cases q18 : t12 < 0
  · replace M := ifp q18 M
    refine cond_t rfl (bt q18 (by kernel_rfl)) ?_
    refine wp_seq ?_
    refine wp_region_lit ?_
    refine lv (d := 4) rfl rfl (by kernel_rfl) (e_assign (v := .int .i64 (-1)) rfl) ?_
    refine wpList_nil ?_
    refine then_n ?_
    refine wp_ret ?_
    refine then_r ?_
    obtain rfl := Option.some.inj M
    exact ret1 rfl rfl  (show _ = .int .i64 (-1) from (by kernel_rfl)) ⟨rfl, S16.chg⟩
  replace M := ifn q18 M
  refine cond_f rfl (bf q18 (by kernel_rfl)) ?_
  refine wp_skip ?_
  refine then_n ?_
  refine wp_seq ?_
  refine wp_region_lit ?_
  refine lv (d := 11) rfl rfl (by kernel_rfl) (e_move (v := .int .i64 t12) (by kernel_rfl)) ?_
  refine lv (d := 4) rfl rfl (by kernel_rfl) (e_assign (v := .int .i64 t12) (by kernel_rfl)) ?_
  refine wpList_nil ?_
  refine then_n ?_
  refine wp_ret ?_
  obtain rfl := Option.some.inj M
  exact ret1 rfl rfl  (show _ = .int .i64 t12 from (by kernel_rfl)) ⟨rfl, S16.chg⟩

/-! laws_szCellS -/
def laws_szCellS.l0 : Nat → (List Cell) → Int → Int → Option Int
  | 0, _, _, _ => none
  | k20 + 1, x1, x10, x11 => (if x11 < (x1.length : Int) then (if 0 ≤ x11 then ((laws_szCell.f (x1.getD ((x11).toNat) z68) x10).bind fun t33 => (if t33 < 0 then some (-1) else (laws_szCellS.l0 k20 x1 t33 (IntKind.i64.wrap (x11 + 1))))) else none) else some x10)
def laws_szCellS.f (k : Nat) (x1 : List Cell) (x6 : Int) : Option Int := (if (IntKind.i64.wrap (x6 - (x1.length : Int))) < 0 then some (-1) else (laws_szCellS.l0 k x1 (IntKind.i64.wrap (x6 - (x1.length : Int))) 0))
theorem laws_szCellS.calls (k : Nat) (w : World) (H : Hp) (x1 : List Cell) (A2 : Option Addr) (c3 : Nat) (x6 : Int) (h4 : Rd st68 H A2 x1) (l5 : x1.length ≤ c3) (S : Own [] H w) (r : Int) (M : laws_szCellS.f k x1 x6 = some r) :
    Calls Try.prog 14 #[.slice A2 x1.length c3, .int .i64 x6] w (fun e e_w => e = .returned (.int .i64 r) ∧ Chg no w e_w) := by
  rw [laws_szCellS.f] at M
  refine enter (l := [.slice A2 x1.length c3, .int .i64 x6]) 27 Try.func14 rfl rfl rfl ?_
  have S0_ := S.st
  refine wp_seq ?_
  refine wp_region_lit ?_
  refine lv (d := 4) rfl rfl (by kernel_rfl) (e_assign (v := .int .i64 0) rfl) ?_
  refine wpList_nil ?_
  refine then_n ?_
  refine wp_seq ?_
  refine wp_region_lit ?_
  refine lv (d := 6) rfl rfl (by kernel_rfl) (e_move (v := .int .i64 x6) (by kernel_rfl)) ?_
  refine lv (d := 7) rfl rfl (by kernel_rfl) (e_move (v := .slice A2 x1.length c3) (by kernel_rfl)) ?_
  refine lv (d := 8) rfl rfl (by kernel_rfl) (e_len (A := A2) (n := x1.length) (c := c3) Try.underlying22 (by kernel_rfl)) ?_
  refine lv (d := 9) rfl rfl (by kernel_rfl) (e_sub (k := .i64) (a := x6) (b := (x1.length : Int)) (by kernel_rfl) (by kernel_rfl)) ?_
  refine lv (d := 1) rfl rfl (by kernel_rfl) (e_assign (v := .int .i64 (IntKind.i64.wrap (x6 - (x1.length : Int)))) (by kernel_rfl)) ?_
  refine wpList_nil ?_
  refine then_n ?_
  refine wp_seq ?_
  refine wp_seq ?_
  refine wp_region_lit ?_
  refine lv (d := 10) rfl rfl (by kernel_rfl) (e_move (v := .int .i64 (IntKind.i64.wrap (x6 - (x1.length : Int)))) (by kernel_rfl)) ?_
  refine lv (d := 11) rfl rfl (by kernel_rfl) (e_lss (k := .i64) (a := (IntKind.i64.wrap (x6 - (x1.length : Int)))) (b := 0) (by kernel_rfl) rfl) ?_
  refine wpList_nil ?_
  refine then_n ?_
  by_cases q7 : (IntKind.i64.wrap (x6 - (x1.length : Int))) < 0
  · replace M := ifp q7 M
    refine cond_t rfl (bt q7 (by kernel_rfl)) ?_
    refine wp_seq ?_
    refine wp_region_lit ?_
    refine lv (d := 4) rfl rfl (by kernel_rfl) (e_assign (v := .int .i64 (-1)) rfl) ?_
    refine wpList_nil ?_
    refine then_n ?_
    refine wp_ret ?_
    refine then_r ?_
    obtain rfl := Option.some.inj M
    exact ret1 rfl rfl  (show _ = .int .i64 (-1) from (by kernel_rfl)) ⟨rfl, S0_.chg⟩
  replace M := ifn q7 M
  refine cond_f rfl (bf q7 (by kernel_rfl)) ?_
  refine wp_skip ?_
  refine then_n ?_
  refine wp_seq ?_
  refine wp_seq ?_
  refine wp_region_lit ?_
  refine lv (d := 5) rfl rfl (by kernel_rfl) (e_assign (v := .int .i64 0) rfl) ?_
  refine wpList_nil ?_
  refine then_n ?_
  refine wp_block ?_
  refine wp_loop_g (fun k18 a19 w8 => ∃ (f9 : Nat → Value) (x10 : Int) (x11 : Int), a19 = mk 27 f9 ∧ f9 0 = .slice A2 x1.length c3 ∧ f9 1 = .int .i64 x10 ∧ f9 5 = .int .i64 x11 ∧ St (anyOf []) H w [] H w8 ∧ laws_szCellS.l0 k18 x1 x10 x11 = some r) k ⟨_, (IntKind.i64.wrap (x6 - (x1.length : Int))), 0, rfl, (by kernel_rfl), (by kernel_rfl), (by kernel_rfl), S0_, M⟩ ?_
  clear M
  rintro k18 a19 w8 ⟨f9, x10, x11, rfl, e12, e13, e14, S15, M⟩
  rcases k18 with _ | k20
  · rw [laws_szCellS.l0] at M
    cases M
  rw [laws_szCellS.l0] at M
  refine wp_seq ?_
  refine wp_seq ?_
  refine wp_region_lit ?_
  refine lv (d := 12) rfl rfl (by kernel_rfl) (e_move (v := .int .i64 x11) (by exact e14)) ?_
  refine lv (d := 13) rfl rfl (by kernel_rfl) (e_move (v := .slice A2 x1.length c3) (by exact e12)) ?_
  refine lv (d := 14) rfl rfl (by kernel_rfl) (e_len (A := A2) (n := x1.length) (c := c3) Try.underlying22 (by kernel_rfl)) ?_
  refine lv (d := 15) rfl rfl (by kernel_rfl) (e_lss (k := .i64) (a := x11) (b := (x1.length : Int)) (by kernel_rfl) (by kernel_rfl)) ?_
  refine wpList_nil ?_
  refine then_n ?_
  by_cases q21 : x11 < (x1.length : Int)
  · replace M := ifp q21 M
    refine cond_t rfl (bt q21 (by kernel_rfl)) ?_
    refine wp_skip ?_
    refine then_n ?_
    refine wp_seq ?_
    refine wp_block ?_
    refine wp_seq ?_
    refine wp_region_lit ?_
    refine lv (d := 18) rfl rfl (by kernel_rfl) (e_move (v := .slice A2 x1.length c3) (by exact e12)) ?_
    refine lv (d := 19) rfl rfl (by kernel_rfl) (e_move (v := .int .i64 x11) (by exact e14)) ?_
    obtain ⟨q22, M⟩ := chk M
    obtain ⟨b23, o24, e25⟩ := Rd.addr h4 (show (x11).toNat < x1.length by omega)
    obtain ⟨y26, r27, k28⟩ := Rd.at h4 e25 (getD_some z68 (show (x11).toNat < x1.length by omega))
    obtain ⟨A29, c30, rfl, l31, h32⟩ := st68_open r27
    refine lv (d := 20) rfl rfl (by kernel_rfl) (e_indexAddr (b := b23) (off := o24) (n := x1.length) (c := c3) (sz := 3) (i := x11) (k := .i64) Try.underlying22 e25 (by kernel_rfl) (by kernel_rfl) (by kernel_rfl) q22 q21) ?_
    refine lv (d := 21) rfl rfl (by kernel_rfl) (e_loadS (b := b23) (off := o24 + (x11 : Int).toNat * 3) (cs := [.int .i64 ((x1.getD ((x11).toNat) z68).kind), .int .i64 ((x1.getD ((x11).toNat) z68).n), .slice A29 ((x1.getD ((x11).toNat) z68).text).length c30]) Try.underlying68 rfl (by kernel_rfl) (by kernel_rfl) (fun j_ u_ e_ => (hpx (S15.inv.cell (k28 j_ u_ e_))))) ?_
    refine lv (d := 22) rfl rfl (by kernel_rfl) (e_move (v := .int .i64 x10) (by exact e13)) ?_
    obtain ⟨t33, u34, M⟩ := bnd M
    refine lcall (d := 23) rfl rfl (by kernel_rfl) (e_call (l := [.tmp 21, .tmp 22]) (vs := [.agg #[.int .i64 ((x1.getD ((x11).toNat) z68).kind), .int .i64 ((x1.getD ((x11).toNat) z68).n), .slice A29 ((x1.getD ((x11).toNat) z68).text).length c30], .int .i64 x10]) Try.func55 (by kernel_rfl) rfl (by kernel_rfl) rfl) (laws_szCell.calls w8 H (x1.getD ((x11).toNat) z68) A29 c30 x10 h32 l31 S15.own0 t33 u34) ?_
    rintro _ w35 ⟨rfl, C36⟩
    refine ⟨_, rfl, ?_⟩
    obtain ⟨S37, K38⟩ := S15.still C36
    refine lv (d := 1) rfl rfl (by kernel_rfl) (e_assign (v := .int .i64 t33) (by kernel_rfl)) ?_
    refine wpList_nil ?_
    refine then_n ?_
    refine wp_seq ?_
    refine wp_region_lit ?_
    refine lv (d := 24) rfl rfl (by kernel_rfl) (e_move (v := .int .i64 t33) (by kernel_rfl)) ?_
    refine lv (d := 25) rfl rfl (by kernel_rfl) (e_lss (k := .i64) (a := t33) (b := 0) (by kernel_rfl) rfl) ?_
    refine wpList_nil ?_
    refine then_n ?_
    by_cases q39 : t33 < 0
    · replace M := ifp q39 M
      refine cond_t rfl (bt q39 (by kernel_rfl)) ?_
      refine wp_seq ?_
      refine wp_region_lit ?_
      refine lv (d := 4) rfl rfl (by kernel_rfl) (e_assign (v := .int .i64 (-1)) rfl) ?_
      refine wpList_nil ?_
      refine then_n ?_
      refine wp_ret ?_
      refine inb_r ?_
      refine then_r ?_
      refine then_r ?_
      refine inb_r ?_
      refine then_r ?_
      obtain rfl := Option.some.inj M
      exact ret1 rfl rfl  (show _ = .int .i64 (-1) from (by kernel_rfl)) ⟨rfl, S37.chg⟩
    replace M := ifn q39 M
    refine cond_f rfl (bf q39 (by kernel_rfl)) ?_
    refine wp_skip ?_
    refine inb_n ?_
    refine then_n ?_
    refine wp_region_lit ?_
    refine lv (d := 16) rfl rfl (by kernel_rfl) (e_move (v := .int .i64 x11) (by exact e14)) ?_
    refine lv (d := 17) rfl rfl (by kernel_rfl) (e_add (k := .i64) (a := x11) (b := 1) (by kernel_rfl) rfl) ?_
    refine lv (d := 5) rfl rfl (by kernel_rfl) (e_assign (v := .int .i64 (IntKind.i64.wrap (x11 + 1))) (by kernel_rfl)) ?_
    refine wpList_nil ?_
    refine then_n ?_
    exact ⟨k20, (by omega), _, t33, (IntKind.i64.wrap (x11 + 1)), rfl, (by exact e12), (by kernel_rfl), (by kernel_rfl), S37, M⟩
  replace M := ifn q21 M
  refine cond_f rfl (bf q21 (by kernel_rfl)) ?_
  refine wp_exit ?_
  refine then_e ?_
  refine then_e ?_
  refine inb_hit ?_
  refine then_n ?_
  refine wp_seq ?_
  refine wp_region_lit ?_
  refine lv (d := 26) rfl rfl (by kernel_rfl) (e_move (v := .int .i64 x10) (by exact e13)) ?_
  refine lv (d := 4) rfl rfl (by kernel_rfl) (e_assign (v := .int .i64 x10) (by kernel_rfl)) ?_
  refine wpList_nil ?_
  refine then_n ?_
  refine wp_ret ?_
  obtain rfl := Option.some.inj M
  exact ret1 rfl rfl  (show _ = .int .i64 x10 from (by kernel_rfl)) ⟨rfl, S15.chg⟩

/-! laws_toByteS -/
def st65 : Ty Cell := iso (pair tInt (pair tInt sl5)) (fun x => (x.kind, x.n, x.text))
theorem st65_open {H : Hp} {x : Cell} {cs : List Value} (h : st65.R H x cs) : ∃ (A2 : Option Addr) (c2 : Nat), cs = [.int .i64 x.kind, .int .i64 x.n, .slice A2 x.text.length c2] ∧ x.text.length ≤ c2 ∧ Rd tByte H A2 x.text := by
  obtain ⟨_, _, rfl, rfl, ⟨_, _, rfl, rfl, ⟨A2, c2, rfl, l2, h2⟩⟩⟩ := h
  exact ⟨A2, c2, rfl, l2, h2⟩
theorem st65_mkR {H : Hp} {x : Cell} {A2 : Option Addr} {c2 : Nat} (l2 : x.text.length ≤ c2) (h2 : Rd tByte H A2 x.text) : st65.R H x [.int .i64 x.kind, .int .i64 x.n, .slice A2 x.text.length c2] := ⟨[.int .i64 x.kind], [.int .i64 x.n, .slice A2 x.text.length c2], rfl, rfl, ⟨[.int .i64 x.n], [.slice A2 x.text.length c2], rfl, rfl, ⟨A2, c2, rfl, l2, h2⟩⟩⟩
theorem st65_mkO {H X : Hp} {F2 : Foot} {x : Cell} {A2 : Option Addr} {c2 : Nat} (h2 : Row tByte 5 H X F2 A2 c2 x.text) : st65.O H X F2 x [.int .i64 x.kind, .int .i64 x.n, .slice A2 x.text.length c2] := (pairO0 (a := tInt) (b := (pair tInt sl5)) (x := (x.kind, (x.n, x.text))) (c0 := [.int .i64 x.kind]) (c1 := [.int .i64 x.n, .slice A2 x.text.length c2]) rfl (pairO0 (a := tInt) (b := sl5) (x := (x.n, x.text)) (c0 := [.int .i64 x.n]) (c1 := [.slice A2 x.text.length c2]) rfl ⟨A2, c2, rfl, h2⟩))
theorem st65_openO {H X : Hp} {F : Foot} {x : Cell} {cs : List Value} (h : st65.O H X F x cs) : ∃ (A2 : Option Addr) (c2 : Nat) (F2 : Foot), cs = [.int .i64 x.kind, .int .i64 x.n, .slice A2 x.text.length c2] ∧ Row tByte 5 H X F2 A2 c2 x.text ∧ (∀ b, F2 b → F b) := by
  obtain ⟨_, _, K1, L1, rfl, rfl, ⟨_, _, K0, L0, rfl, rfl, ⟨A2, c2, rfl, h2⟩, d0, s0⟩, d1, s1⟩ := h
  exact ⟨A2, c2, _, rfl, h2, fun b hb => s1 b (.inr (s0 b (.inr (hb))))⟩
theorem st65_c0 {H X : Hp} {F : Foot} {x : Cell} {cs : List Value} (h : st65.O H X F x cs) : cs[0]? = some (.int .i64 x.kind) := by obtain ⟨_, _, _, rfl, _, _⟩ := st65_openO h; rfl
theorem st65_r0 {H : Hp} {x : Cell} {cs : List Value} (h : st65.R H x cs) : cs[0]? = some (.int .i64 x.kind) := by obtain ⟨_, _, rfl, _, _⟩ := st65_open h; rfl
theorem st65_c1 {H X : Hp} {F : Foot} {x : Cell} {cs : List Value} (h : st65.O H X F x cs) : cs[1]? = some (.int .i64 x.n) := by obtain ⟨_, _, _, rfl, _, _⟩ := st65_openO h; rfl
theorem st65_r1 {H : Hp} {x : Cell} {cs : List Value} (h : st65.R H x cs) : cs[1]? = some (.int .i64 x.n) := by obtain ⟨_, _, rfl, _, _⟩ := st65_open h; rfl
theorem st65_u0 {H X : Hp} {F1 F2 : Foot} {x : Cell} (y : Int) {cs : List Value} (h : st65.O H X F1 x cs) : st65.O H X (or2 F1 F2) {x with kind := y} (cs.take 0 ++ [.int .i64 y] ++ cs.drop 1) := by
  obtain ⟨_, _, _, rfl, h2, s2⟩ := st65_openO h
  exact st65_mkO (x := {x with kind := y}) (h2.mono fun b hb => .inl (s2 b hb))
theorem st65_u1 {H X : Hp} {F1 F2 : Foot} {x : Cell} (y : Int) {cs : List Value} (h : st65.O H X F1 x cs) : st65.O H X (or2 F1 F2) {x with n := y} (cs.take 1 ++ [.int .i64 y] ++ cs.drop 2) := by
  obtain ⟨_, _, _, rfl, h2, s2⟩ := st65_openO h
  exact st65_mkO (x := {x with n := y}) (h2.mono fun b hb => .inl (s2 b hb))
theorem st65_u2 {H X : Hp} {F1 F2 : Foot} {x : Cell} {y : List UInt8} {A : Option Addr} {c : Nat} {cs : List Value} (hy : Row tByte 5 H X F2 A c y) (h : st65.O H X F1 x cs) : st65.O H X (or2 F1 F2) {x with text := y} (cs.take 2 ++ [.slice A y.length c] ++ cs.drop 3) := by
  obtain ⟨_, _, _, rfl, h2, _⟩ := st65_openO h
  exact st65_mkO (x := {x with text := y}) (hy.mono fun b hb => .inr hb)
def z65 : Cell := ⟨(0 : Int), (0 : Int), ([] : List UInt8)⟩
theorem z65_O (H X : Hp) : st65.O H X no z65 [.int .i64 (0 : Int), .int .i64 (0 : Int), .slice none 0 0] := st65_mkO (x := z65) (Row.nil _ _ _ _ no)
theorem z65_R (H : Hp) : st65.R H z65 [.int .i64 (0 : Int), .int .i64 (0 : Int), .slice none 0 0] := st65_mkR (x := z65) (Nat.le_refl _) (Rd.nil _ _ _)
def laws_toByteS.l0 : Nat → (List UInt8) → Int → (List UInt8) → Option (List UInt8)
  | 0, _, _, _ => none
  | k29 + 1, x1, x17, x19 => (if x17 < (x1.length : Int) then (if 0 ≤ x17 then (if x17 < (((x1.length : Int)).toNat : Int) then (laws_toByteS.l0 k29 x1 (IntKind.i64.wrap (x17 + 1)) (x19.set ((x17).toNat) (x1.getD ((x17).toNat) (0 : UInt8)))) else none) else none) else some x19)
def laws_toByteS.f (k : Nat) (x1 : List UInt8) : Option (List UInt8) := (if 0 ≤ (x1.length : Int) then (if ((x1.length : Int)).toNat ≤ 281474976710656 then (laws_toByteS.l0 k x1 0 (List.replicate ((x1.length : Int)).toNat (0 : UInt8))) else none) else none)
theorem laws_toByteS.calls (k : Nat) (w : World) (H : Hp) (x1 : List UInt8) (A2 : Option Addr) (c3 : Nat) (h4 : Rd tByte H A2 x1) (l5 : x1.length ≤ c3) (S : Own [] H w) (r : List UInt8) (M : laws_toByteS.f k x1 = some r) :
    Calls Try.prog 103 #[.slice A2 x1.length c3] w (fun e e_w => ∃ (A_1 : Option Addr) (c_1 : Nat) (F_1 : Foot) (H_ : Hp), e = .returned (.slice A_1 r.length c_1) ∧ Row tByte 5 H_ (hp e_w) F_1 A_1 c_1 r ∧ St (anyOf []) H w [F_1] H_ e_w) := by
  rw [laws_toByteS.f] at M
  refine enter (l := [.slice A2 x1.length c3]) 22 Try.func103 rfl rfl rfl ?_
  have S0_ := S.st
  refine wp_seq ?_
  refine wp_region_lit ?_
  refine lv (d := 2) rfl rfl (by kernel_rfl) (e_assign (v := .slice none 0 0) rfl) ?_
  refine wpList_nil ?_
  refine then_n ?_
  refine wp_seq ?_
  refine wp_region_lit ?_
  refine lv (d := 5) rfl rfl (by kernel_rfl) (e_move (v := .slice A2 x1.length c3) (by kernel_rfl)) ?_
  refine lv (d := 6) rfl rfl (by kernel_rfl) (e_len (A := A2) (n := x1.length) (c := c3) Try.underlying59 (by kernel_rfl)) ?_
  obtain ⟨q6, M⟩ := chk M
  obtain ⟨q7, M⟩ := chk M
  refine lve (d := 7) rfl rfl (by kernel_rfl) (e_make (d := tByte) (k := .i64) (k2 := .i64) (n := (x1.length : Int)) (z := .int .u8 0) (zx := (0 : UInt8)) (bytes := 1) S0_ Try.underlying59 (by kernel_rfl) rfl (by decide) (fun _ => rfl) (by kernel_rfl) (by kernel_rfl) q6 (by omega) (by omega)) ?_
  rintro _ w8 ⟨A9, c10, F11, rfl, h12, S13, K14⟩
  refine lv (d := 3) rfl rfl (by kernel_rfl) (e_assign (v := .slice A9 (((x1.length : Int)).toNat) c10) (by kernel_rfl)) ?_
  refine wpList_nil ?_
  refine then_n ?_
  refine wp_seq ?_
  refine wp_seq ?_
  refine wp_region_lit ?_
  refine lv (d := 4) rfl rfl (by kernel_rfl) (e_assign (v := .int .i64 0) rfl) ?_
  refine wpList_nil ?_
  refine then_n ?_
  refine wp_block ?_
  refine wp_loop_g (fun k27 a28 w15 => ∃ (f16 : Nat → Value) (x17 : Int) (F18 : Foot) (x19 : List UInt8), a28 = mk 22 f16 ∧ f16 0 = .slice A2 x1.length c3 ∧ f16 3 = .slice A9 (((x1.length : Int)).toNat) c10 ∧ f16 4 = .int .i64 x17 ∧ Row tByte 5 H (hp w15) F18 A9 c10 x19 ∧ x19.length = ((x1.length : Int)).toNat ∧ St (anyOf []) H w [F18] H w15 ∧ laws_toByteS.l0 k27 x1 x17 x19 = some r) k ⟨_, 0, F11, (List.replicate ((x1.length : Int)).toNat (0 : UInt8)), rfl, (by kernel_rfl), (by kernel_rfl), (by kernel_rfl), h12, List.length_replicate, S13, M⟩ ?_
  clear M
  rintro k27 a28 w15 ⟨f16, x17, F18, x19, rfl, e21, e22, e23, h12, n20, S24, M⟩
  rcases k27 with _ | k29
  · rw [laws_toByteS.l0] at M
    cases M
  rw [laws_toByteS.l0] at M
  refine wp_seq ?_
  refine wp_seq ?_
  refine wp_region_lit ?_
  refine lv (d := 8) rfl rfl (by kernel_rfl) (e_move (v := .int .i64 x17) (by exact e23)) ?_
  refine lv (d := 9) rfl rfl (by kernel_rfl) (e_move (v := .slice A2 x1.length c3) (by exact e21)) ?_
  refine lv (d := 10) rfl rfl (by kernel_rfl) (e_len (A := A2) (n := x1.length) (c := c3) Try.underlying59 (by kernel_rfl)) ?_
  refine lv (d := 11) rfl rfl (by kernel_rfl) (e_lss (k := .i64) (a := x17) (b := (x1.length : Int)) (by kernel_rfl) (by kernel_rfl)) ?_
  refine wpList_nil ?_
  refine then_n ?_
  by_cases q30 : x17 < (x1.length : Int)
  · replace M := ifp q30 M
    refine cond_t rfl (bt q30 (by kernel_rfl)) ?_
    refine wp_skip ?_
    refine then_n ?_
    refine wp_seq ?_
    refine wp_block ?_
    refine wp_region_lit ?_
    refine lv (d := 14) rfl rfl (by kernel_rfl) (e_move (v := .slice A9 (((x1.length : Int)).toNat) c10) (by exact e22)) ?_
    refine lv (d := 15) rfl rfl (by kernel_rfl) (e_move (v := .int .i64 x17) (by exact e23)) ?_
    refine lv (d := 16) rfl rfl (by kernel_rfl) (e_move (v := .slice A2 x1.length c3) (by exact e21)) ?_
    refine lv (d := 17) rfl rfl (by kernel_rfl) (e_move (v := .int .i64 x17) (by exact e23)) ?_
    obtain ⟨q31, M⟩ := chk M
    obtain ⟨b32, o33, e34⟩ := Rd.addr h4 (show (x17).toNat < x1.length by omega)
    obtain ⟨y35, r36, k37⟩ := Rd.at h4 e34 (getD_some (0 : UInt8) (show (x17).toNat < x1.length by omega))
    obtain rfl := r36
    refine lv (d := 18) rfl rfl (by kernel_rfl) (e_indexAddr (b := b32) (off := o33) (n := x1.length) (c := c3) (sz := 1) (i := x17) (k := .i64) Try.underlying59 e34 (by kernel_rfl) (by kernel_rfl) (by kernel_rfl) q31 q30) ?_
    refine lv (d := 19) rfl rfl (by kernel_rfl) (e_load1 (ad := ⟨b32, o33 + (x17 : Int).toNat * 1, none⟩) (v := .int .u8 ((x1.getD ((x17).toNat) (0 : UInt8)).toNat : Int)) Try.underlying5 rfl (by kernel_rfl) (hpx (S24.inv.cell (k37 0 _ rfl)))) ?_
    obtain ⟨q38, M⟩ := chk M
    obtain ⟨b39, e41⟩ := Row.addr h12 (show (x17).toNat < x19.length by have : x19.length = ((x1.length : Int)).toNat := n20; omega)
    refine lv (d := 20) rfl rfl (by kernel_rfl) (e_indexAddr (b := b39) (off := 0) (n := ((x1.length : Int)).toNat) (c := c10) (sz := 1) (i := x17) (k := .i64) Try.underlying59 e41 (by kernel_rfl) (by kernel_rfl) (by kernel_rfl) q31 q38) ?_
    have S42 := S24.unit
    have S43 := S42.pull (F := F18) (Fr := [no]) 1 rfl rfl
    refine lse rfl rfl (by kernel_rfl) (e_setel (d := tByte) (b := b39) (i := (x17).toNat) (v := .int .u8 ((x1.getD ((x17).toNat) (0 : UInt8)).toNat : Int)) (vs := [.int .u8 ((x1.getD ((x17).toNat) (0 : UInt8)).toNat : Int)]) (yv := (x1.getD ((x17).toNat) (0 : UInt8))) S43 (by kernel_rfl) e41 (by kernel_rfl) rfl (by kernel_rfl) h12 (show (x17).toNat < x19.length by have : x19.length = ((x1.length : Int)).toNat := n20; omega) rfl) ?_
    rintro w44 ⟨F46, h45, S47, K48⟩
    clear h12
    refine wpList_nil ?_
    refine inb_n ?_
    refine then_n ?_
    refine wp_region_lit ?_
    refine lv (d := 12) rfl rfl (by kernel_rfl) (e_move (v := .int .i64 x17) (by exact e23)) ?_
    refine lv (d := 13) rfl rfl (by kernel_rfl) (e_add (k := .i64) (a := x17) (b := 1) (by kernel_rfl) rfl) ?_
    refine lv (d := 4) rfl rfl (by kernel_rfl) (e_assign (v := .int .i64 (IntKind.i64.wrap (x17 + 1))) (by kernel_rfl)) ?_
    refine wpList_nil ?_
    refine then_n ?_
    exact ⟨k29, (by omega), _, (IntKind.i64.wrap (x17 + 1)), F46, (x19.set ((x17).toNat) (x1.getD ((x17).toNat) (0 : UInt8))), rfl, (by exact e21), (by exact e22), (by kernel_rfl), h45, (List.length_set.trans n20), S47, M⟩
  replace M := ifn q30 M
  refine cond_f rfl (bf q30 (by kernel_rfl)) ?_
  refine wp_exit ?_
  refine then_e ?_
  refine then_e ?_
  refine inb_hit ?_
  refine then_n ?_
  refine wp_seq ?_
  refine wp_region_lit ?_
  refine lv (d := 21) rfl rfl (by kernel_rfl) (e_move (v := .slice A9 (((x1.length : Int)).toNat) c10) (by exact e22)) ?_
  refine lv (d := 2) rfl rfl (by kernel_rfl) (e_assign (v := .slice A9 (((x1.length : Int)).toNat) c10) (by kernel_rfl)) ?_
  refine wpList_nil ?_
  refine then_n ?_
  refine wp_ret ?_
  obtain rfl := Option.some.inj M
  exact ret1 rfl rfl  (show _ = .slice A9 (((x1.length : Int)).toNat) c10 from (by kernel_rfl)) ⟨A9, c10, F18, H, (by rw [(show x19.length = ((x1.length : Int)).toNat from n20)]), h12, S24⟩

/-! laws_toCell -/
def laws_toCell.f (k : Nat) (x1 : Cell) : Option Cell := ((laws_toByteS.f k x1.text).bind fun t29 => some (⟨x1.kind, x1.n, t29⟩ : Cell))
theorem laws_toCell.calls (k : Nat) (w : World) (H : Hp) (x1 : Cell) (A2 : Option Addr) (c3 : Nat) (h4 : Rd tByte H A2 x1.text) (l5 : x1.text.length ≤ c3) (S : Own [] H w) (r : Cell) (M : laws_toCell.f k x1 = some r) :
    Calls Try.prog 57 #[.agg #[.int .i64 x1.kind, .int .i64 x1.n, .slice A2 x1.text.length c3]] w (fun e e_w => ∃ (A_1 : Option Addr) (c_1 : Nat) (F_1 : Foot) (H_ : Hp), e = .returned (.agg #[.int .i64 r.kind, .int .i64 r.n, .slice A_1 r.text.length c_1]) ∧ Row tByte 5 H_ (hp e_w) F_1 A_1 c_1 r.text ∧ St (anyOf []) H w [F_1] H_ e_w) := by
  rw [laws_toCell.f] at M
  refine enter (l := [.agg #[.int .i64 x1.kind, .int .i64 x1.n, .slice A2 x1.text.length c3]]) 15 Try.func57 rfl rfl rfl ?_
  have S0_ := S.st
  refine wp_seq ?_
  refine wp_region_lit ?_
  refine lve (d := 1) rfl rfl (by kernel_rfl) (new_blk (v := fun g_ => .pointer (some ⟨g_, 0, none⟩)) (cs := #[.int .i64 x1.kind, .int .i64 x1.n, .slice A2 x1.text.length c3]) (t := 68) S0_ (by kernel_rfl)) ?_
  rintro _ w6 ⟨g7, rfl, b8, S9, K10⟩
  refine lve (d := 2) rfl rfl (by kernel_rfl) (new_blk (v := fun g_ => .pointer (some ⟨g_, 0, none⟩)) (cs := #[.int .i64 0, .int .i64 0, .slice none 0 0]) (t := 65) S9 (by kernel_rfl)) ?_
  rintro _ w11 ⟨g12, rfl, b13, S14, K15⟩
  replace b8 := K15.blk 0 rfl b8
  refine wpList_nil ?_
  refine then_n ?_
  refine wp_seq ?_
  refine wp_region_lit ?_
  refine lve (d := 3) rfl rfl (by kernel_rfl) (new_blk (v := fun g_ => .pointer (some ⟨g_, 0, none⟩)) (cs := #[.int .i64 0, .int .i64 0, .slice none 0 0]) (t := 65) S14 (by kernel_rfl)) ?_
  rintro _ w16 ⟨g17, rfl, b18, S19, K20⟩
  replace b13 := K20.blk 0 rfl b13
  replace b8 := K20.blk 1 rfl b8
  refine wpList_nil ?_
  refine then_n ?_
  refine wp_seq ?_
  refine wp_region_lit ?_
  refine lv (d := 4) rfl rfl (by kernel_rfl) (e_fieldAddr (b := g7) (off := 0) (o := 0) Try.underlying68 rfl rfl (sz := 1) (by kernel_rfl) (by decide) (by kernel_rfl)) ?_
  refine lv (d := 5) rfl rfl (by kernel_rfl) (e_load1 (ad := ⟨g7, 0 + 0, none⟩) (v := .int .i64 x1.kind) Try.underlying3 rfl (by kernel_rfl) (blk_cell b8 rfl)) ?_
  refine lv (d := 6) rfl rfl (by kernel_rfl) (e_fieldAddr (b := g17) (off := 0) (o := 0) Try.underlying65 rfl rfl (sz := 1) (by kernel_rfl) (by decide) (by kernel_rfl)) ?_
  refine lse rfl rfl (by kernel_rfl) (e_store (g := g17) (o := 0 + 0) (v := .int .i64 x1.kind) (cur' := #[.int .i64 x1.kind, .int .i64 0, .slice none 0 0]) (vs := [.int .i64 x1.kind]) S19 (by kernel_rfl) (by kernel_rfl) rfl (by kernel_rfl) b18 (Nat.le_of_ble_eq_true rfl) (List.forall_mem_cons.2 ⟨rfl, (fun _ h_ => by cases h_)⟩) rfl) ?_
  rintro w21 ⟨b22, S23, K24⟩
  replace b13 := K24.blk 0 rfl b13
  replace b8 := K24.blk 1 rfl b8
  clear b18
  refine wpList_nil ?_
  refine then_n ?_
  refine wp_seq ?_
  refine wp_region_lit ?_
  refine lv (d := 7) rfl rfl (by kernel_rfl) (e_fieldAddr (b := g7) (off := 0) (o := 1) Try.underlying68 rfl rfl (sz := 1) (by kernel_rfl) (by decide) (by kernel_rfl)) ?_
  refine lv (d := 8) rfl rfl (by kernel_rfl) (e_load1 (ad := ⟨g7, 0 + 1, none⟩) (v := .int .i64 x1.n) Try.underlying3 rfl (by kernel_rfl) (blk_cell b8 rfl)) ?_
  refine lv (d := 9) rfl rfl (by kernel_rfl) (e_fieldAddr (b := g17) (off := 0) (o := 1) Try.underlying65 rfl rfl (sz := 1) (by kernel_rfl) (by decide) (by kernel_rfl)) ?_
  refine lse rfl rfl (by kernel_rfl) (e_store (g := g17) (o := 0 + 1) (v := .int .i64 x1.n) (cur' := #[.int .i64 x1.kind, .int .i64 x1.n, .slice none 0 0]) (vs := [.int .i64 x1.n]) S23 (by kernel_rfl) (by kernel_rfl) rfl (by kernel_rfl) b22 (Nat.le_of_ble_eq_true rfl) (List.forall_mem_cons.2 ⟨rfl, (fun _ h_ => by cases h_)⟩) rfl) ?_
  rintro w25 ⟨b26, S27, K28⟩
  replace b13 := K28.blk 0 rfl b13
  replace b8 := K28.blk 1 rfl b8
  clear b22
  refine wpList_nil ?_
  refine then_n ?_
  refine wp_seq ?_
  refine wp_region_lit ?_
  refine lv (d := 10) rfl rfl (by kernel_rfl) (e_fieldAddr (b := g7) (off := 0) (o := 2) Try.underlying68 rfl rfl (sz := 1) (by kernel_rfl) (by decide) (by kernel_rfl)) ?_
  refine lv (d := 11) rfl rfl (by kernel_rfl) (e_load1 (ad := ⟨g7, 0 + 2, none⟩) (v := .slice A2 x1.text.length c3) Try.underlying59 rfl (by kernel_rfl) (blk_cell b8 rfl)) ?_
  obtain ⟨t29, u30, M⟩ := bnd M
  refine lcall (d := 12) rfl rfl (by kernel_rfl) (e_call (l := [.tmp 11]) (vs := [.slice A2 x1.text.length c3]) Try.func103 (by kernel_rfl) rfl (by kernel_rfl) rfl) (laws_toByteS.calls k w25 H x1.text A2 c3 h4 l5 (St.own' (Fa := []) (Fr := [(is g17), (is g12), (is g7)]) S27) t29 u30) ?_
  rintro _ w31 ⟨A34, c35, F37, H32, rfl, h36, T33⟩
  refine ⟨_, rfl, ?_⟩
  obtain ⟨S38, K39⟩ := St.call (Fa := []) (Fr := [(is g17), (is g12), (is g7)]) S27 T33
  replace b26 := K39.blk 0 rfl b26
  replace b13 := K39.blk 1 rfl b13
  replace b8 := K39.blk 2 rfl b8
  have E40 := T33.ext
  refine lv (d := 13) rfl rfl (by kernel_rfl) (e_fieldAddr (b := g17) (off := 0) (o := 2) Try.underlying65 rfl rfl (sz := 1) (by kernel_rfl) (by decide) (by kernel_rfl)) ?_
  have S41 := S38.pull (F := (is g17)) (Fr := [F37, (is g12), (is g7)]) 1 rfl rfl
  refine lse rfl rfl (by kernel_rfl) (e_store (g := g17) (o := 0 + 2) (v := .slice A34 t29.length c35) (cur' := #[.int .i64 x1.kind, .int .i64 x1.n, .slice A34 t29.length c35]) (vs := [.slice A34 t29.length c35]) S41 (by kernel_rfl) (by kernel_rfl) rfl (by kernel_rfl) b26 (Nat.le_of_ble_eq_true rfl) (List.forall_mem_cons.2 ⟨rfl, (fun _ h_ => by cases h_)⟩) rfl) ?_
  rintro w42 ⟨b43, S44, K45⟩
  replace h36 := h36.move (K45.at 0 rfl)
  replace b13 := K45.blk 1 rfl b13
  replace b8 := K45.blk 2 rfl b8
  clear b26
  refine wpList_nil ?_
  refine then_n ?_
  refine wp_seq ?_
  refine wp_region_lit ?_
  refine lv (d := 14) rfl rfl (by kernel_rfl) (e_loadS (b := g17) (off := 0) (cs := [.int .i64 x1.kind, .int .i64 x1.n, .slice A34 t29.length c35]) Try.underlying65 rfl (by kernel_rfl) (by kernel_rfl) (blk_cells b43 rfl)) ?_
  have S46 := S44.pull (F := (is g12)) (Fr := [(is g17), F37, (is g7)]) 2 rfl rfl
  refine lse rfl rfl (by kernel_rfl) (e_store (g := g12) (o := 0) (v := .agg #[.int .i64 x1.kind, .int .i64 x1.n, .slice A34 t29.length c35]) (cur' := #[.int .i64 x1.kind, .int .i64 x1.n, .slice A34 t29.length c35]) (vs := [.int .i64 x1.kind, .int .i64 x1.n, .slice A34 t29.length c35]) S46 (by kernel_rfl) (by kernel_rfl) rfl (by kernel_rfl) b13 (Nat.le_of_ble_eq_true rfl) (List.forall_mem_cons.2 ⟨rfl, (List.forall_mem_cons.2 ⟨rfl, (List.forall_mem_cons.2 ⟨rfl, (fun _ h_ => by cases h_)⟩)⟩)⟩) rfl) ?_
  rintro w47 ⟨b48, S49, K50⟩
  replace b43 := K50.blk 0 rfl b43
  replace h36 := h36.move (K50.at 1 rfl)
  replace b8 := K50.blk 2 rfl b8
  clear b13
  refine wpList_nil ?_
  refine then_n ?_
  refine wp_ret ?_
  obtain rfl := Option.some.inj M
  have S51 := S49.pull (F := F37) (Fr := [(is g12), (is g17), (is g7)]) 2 rfl rfl
  have S52 := St.first (Fa := [F37]) (Fr := [(is g12), (is g17), (is g7)]) S51
  exact retS (ty := 65) (cur := #[.int .i64 x1.kind, .int .i64 x1.n, .slice A34 t29.length c35]) rfl rfl (by kernel_rfl) b48 Try.underlying65 rfl (by kernel_rfl) ⟨A34, c35, F37, H32, rfl, h36, S52⟩

/-! laws_toCellS -/
def laws_toCellS.l0 : Nat → (List Cell) → Int → (List Cell) → Option (List Cell)
  | 0, _, _, _ => none
  | k31 + 1, x1, x19, x21 => (if x19 < (x1.length : Int) then (if 0 ≤ x19 then ((laws_toCell.f k31 (x1.getD ((x19).toNat) z68)).bind fun t44 => (if x19 < (((x1.length : Int)).toNat : Int) then (laws_toCellS.l0 k31 x1 (IntKind.i64.wrap (x19 + 1)) (x21.set ((x19).toNat) t44)) else none)) else none) else some x21)
def laws_toCellS.f (k : Nat) (x1 : List Cell) : Option (List Cell) := (if 0 ≤ (x1.length : Int) then (if ((x1.length : Int)).toNat ≤ 7036874417766 then (laws_toCellS.l0 k x1 0 (List.replicate ((x1.length : Int)).toNat z65)) else none) else none)
theorem laws_toCellS.calls (k : Nat) (w : World) (H : Hp) (x1 : List Cell) (A2 : Option Addr) (c3 : Nat) (h4 : Rd st68 H A2 x1) (l5 : x1.length ≤ c3) (S : Own [] H w) (r : List Cell) (M : laws_toCellS.f k x1 = some r) :
    Calls Try.prog 16 #[.slice A2 x1.length c3] w (fun e e_w => ∃ (A_1 : Option Addr) (c_1 : Nat) (F_1 : Foot) (H_ : Hp), e = .returned (.slice A_1 r.length c_1) ∧ Row st65 65 H_ (hp e_w) F_1 A_1 c_1 r ∧ St (anyOf []) H w [F_1] H_ e_w) := by
  rw [laws_toCellS.f] at M
  refine enter (l := [.slice A2 x1.length c3]) 23 Try.func16 rfl rfl rfl ?_
  have S0_ := S.st
  refine wp_seq ?_
  refine wp_region_lit ?_
  refine lv (d := 2) rfl rfl (by kernel_rfl) (e_assign (v := .slice none 0 0) rfl) ?_
  refine wpList_nil ?_
  refine then_n ?_
  refine wp_seq ?_
  refine wp_region_lit ?_
  refine lv (d := 5) rfl rfl (by kernel_rfl) (e_move (v := .slice A2 x1.length c3) (by kernel_rfl)) ?_
  refine lv (d := 6) rfl rfl (by kernel_rfl) (e_len (A := A2) (n := x1.length) (c := c3) Try.underlying22 (by kernel_rfl)) ?_
  obtain ⟨q6, M⟩ := chk M
  obtain ⟨q7, M⟩ := chk M
  refine lve (d := 7) rfl rfl (by kernel_rfl) (e_make (d := st65) (k := .i64) (k2 := .i64) (n := (x1.length : Int)) (z := .agg #[.int .i64 0, .int .i64 0, .slice none 0 0]) (zx := z65) (bytes := 40) S0_ Try.underlying25 (by kernel_rfl) rfl (by decide) (z65_O _) (by kernel_rfl) (by kernel_rfl) q6 (by omega) (by omega)) ?_
  rintro _ w8 ⟨A9, c10, F11, rfl, h12, S13, K14⟩
  refine lv (d := 3) rfl rfl (by kernel_rfl) (e_assign (v := .slice A9 (((x1.length : Int)).toNat) c10) (by kernel_rfl)) ?_
  refine wpList_nil ?_
  refine then_n ?_
  refine wp_seq ?_
  refine wp_seq ?_
  refine wp_region_lit ?_
  refine lv (d := 4) rfl rfl (by kernel_rfl) (e_assign (v := .int .i64 0) rfl) ?_
  refine wpList_nil ?_
  refine then_n ?_
  refine wp_block ?_
  refine wp_loop_g (fun k29 a30 w15 => ∃ (f16 : Nat → Value) (H17 : Hp) (x19 : Int) (F20 : Foot) (x21 : List Cell), a30 = mk 23 f16 ∧ f16 0 = .slice A2 x1.length c3 ∧ f16 3 = .slice A9 (((x1.length : Int)).toNat) c10 ∧ f16 4 = .int .i64 x19 ∧ Row st65 65 H17 (hp w15) F20 A9 c10 x21 ∧ x21.length = ((x1.length : Int)).toNat ∧ Ext H H17 ∧ St (anyOf []) H w [F20] H17 w15 ∧ laws_toCellS.l0 k29 x1 x19 x21 = some r) k ⟨_, H, 0, F11, (List.replicate ((x1.length : Int)).toNat z65), rfl, (by kernel_rfl), (by kernel_rfl), (by kernel_rfl), h12, List.length_replicate, (Ext.refl _), S13, M⟩ ?_
  clear M
  rintro k29 a30 w15 ⟨f16, H17, x19, F20, x21, rfl, e23, e24, e25, h12, n22, Y18, S26, M⟩
  rcases k29 with _ | k31
  · rw [laws_toCellS.l0] at M
    cases M
  rw [laws_toCellS.l0] at M
  refine wp_seq ?_
  refine wp_seq ?_
  refine wp_region_lit ?_
  refine lv (d := 8) rfl rfl (by kernel_rfl) (e_move (v := .int .i64 x19) (by exact e25)) ?_
  refine lv (d := 9) rfl rfl (by kernel_rfl) (e_move (v := .slice A2 x1.length c3) (by exact e23)) ?_
  refine lv (d := 10) rfl rfl (by kernel_rfl) (e_len (A := A2) (n := x1.length) (c := c3) Try.underlying22 (by kernel_rfl)) ?_
  refine lv (d := 11) rfl rfl (by kernel_rfl) (e_lss (k := .i64) (a := x19) (b := (x1.length : Int)) (by kernel_rfl) (by kernel_rfl)) ?_
  refine wpList_nil ?_
  refine then_n ?_
  by_cases q32 : x19 < (x1.length : Int)
  · replace M := ifp q32 M
    refine cond_t rfl (bt q32 (by kernel_rfl)) ?_
    refine wp_skip ?_
    refine then_n ?_
    refine wp_seq ?_
    refine wp_block ?_
    refine wp_region_lit ?_
    refine lv (d := 14) rfl rfl (by kernel_rfl) (e_move (v := .slice A9 (((x1.length : Int)).toNat) c10) (by exact e24)) ?_
    refine lv (d := 15) rfl rfl (by kernel_rfl) (e_move (v := .int .i64 x19) (by exact e25)) ?_
    refine lv (d := 16) rfl rfl (by kernel_rfl) (e_move (v := .slice A2 x1.length c3) (by exact e23)) ?_
    refine lv (d := 17) rfl rfl (by kernel_rfl) (e_move (v := .int .i64 x19) (by exact e25)) ?_
    obtain ⟨q33, M⟩ := chk M
    obtain ⟨b34, o35, e36⟩ := Rd.addr h4 (show (x19).toNat < x1.length by omega)
    obtain ⟨y37, r38, k39⟩ := Rd.at h4 e36 (getD_some z68 (show (x19).toNat < x1.length by omega))
    obtain ⟨A40, c41, rfl, l42, h43⟩ := st68_open r38
    refine lv (d := 18) rfl rfl (by kernel_rfl) (e_indexAddr (b := b34) (off := o35) (n := x1.length) (c := c3) (sz := 3) (i := x19) (k := .i64) Try.underlying22 e36 (by kernel_rfl) (by kernel_rfl) (by kernel_rfl) q33 q32) ?_
    refine lv (d := 19) rfl rfl (by kernel_rfl) (e_loadS (b := b34) (off := o35 + (x19 : Int).toNat * 3) (cs := [.int .i64 ((x1.getD ((x19).toNat) z68).kind), .int .i64 ((x1.getD ((x19).toNat) z68).n), .slice A40 ((x1.getD ((x19).toNat) z68).text).length c41]) Try.underlying68 rfl (by kernel_rfl) (by kernel_rfl) (fun j_ u_ e_ => (hpx (S26.inv.cell (Y18.cell (k39 j_ u_ e_)))))) ?_
    obtain ⟨t44, u45, M⟩ := bnd M
    refine lcall (d := 20) rfl rfl (by kernel_rfl) (e_call (l := [.tmp 19]) (vs := [.agg #[.int .i64 ((x1.getD ((x19).toNat) z68).kind), .int .i64 ((x1.getD ((x19).toNat) z68).n), .slice A40 ((x1.getD ((x19).toNat) z68).text).length c41]]) Try.func57 (by kernel_rfl) rfl (by kernel_rfl) rfl) (laws_toCell.calls k31 w15 H17 (x1.getD ((x19).toNat) z68) A40 c41 (h43.ext Y18) l42 (St.own' (Fa := []) (Fr := [F20]) S26) t44 u45) ?_
    rintro _ w46 ⟨A49, c50, F52, H47, rfl, h51, T48⟩
    refine ⟨_, rfl, ?_⟩
    obtain ⟨S53, K54⟩ := St.call (Fa := []) (Fr := [F20]) S26 T48
    replace h12 := h12.move (K54.at 0 rfl)
    have E55 := T48.ext
    replace h12 := h12.ext E55
    obtain ⟨q56, M⟩ := chk M
    obtain ⟨b57, e59⟩ := Row.addr h12 (show (x19).toNat < x21.length by have : x21.length = ((x1.length : Int)).toNat := n22; omega)
    refine lv (d := 21) rfl rfl (by kernel_rfl) (e_indexAddr (b := b57) (off := 0) (n := ((x1.length : Int)).toNat) (c := c10) (sz := 3) (i := x19) (k := .i64) Try.underlying25 e59 (by kernel_rfl) (by kernel_rfl) (by kernel_rfl) q33 q56) ?_
    have S60 := S53.pull (F := F20) (Fr := [F52]) 1 rfl rfl
    refine lse rfl rfl (by kernel_rfl) (e_setel (d := st65) (b := b57) (i := (x19).toNat) (v := .agg #[.int .i64 t44.kind, .int .i64 t44.n, .slice A49 t44.text.length c50]) (vs := [.int .i64 t44.kind, .int .i64 t44.n, .slice A49 t44.text.length c50]) (yv := t44) S60 (by kernel_rfl) e59 (by kernel_rfl) rfl (by kernel_rfl) h12 (show (x19).toNat < x21.length by have : x21.length = ((x1.length : Int)).toNat := n22; omega) (st65_mkO (x := t44) h51)) ?_
    rintro w61 ⟨F63, h62, S64, K65⟩
    clear h12
    refine wpList_nil ?_
    refine inb_n ?_
    refine then_n ?_
    refine wp_region_lit ?_
    refine lv (d := 12) rfl rfl (by kernel_rfl) (e_move (v := .int .i64 x19) (by exact e25)) ?_
    refine lv (d := 13) rfl rfl (by kernel_rfl) (e_add (k := .i64) (a := x19) (b := 1) (by kernel_rfl) rfl) ?_
    refine lv (d := 4) rfl rfl (by kernel_rfl) (e_assign (v := .int .i64 (IntKind.i64.wrap (x19 + 1))) (by kernel_rfl)) ?_
    refine wpList_nil ?_
    refine then_n ?_
    exact ⟨k31, (by omega), _, H47, (IntKind.i64.wrap (x19 + 1)), F63, (x21.set ((x19).toNat) t44), rfl, (by exact e23), (by exact e24), (by kernel_rfl), h62, (List.length_set.trans n22), (Y18.trans E55), S64, M⟩
  replace M := ifn q32 M
  refine cond_f rfl (bf q32 (by kernel_rfl)) ?_
  refine wp_exit ?_
  refine then_e ?_
  refine then_e ?_
  refine inb_hit ?_
  refine then_n ?_
  refine wp_seq ?_
  refine wp_region_lit ?_
  refine lv (d := 22) rfl rfl (by kernel_rfl) (e_move (v := .slice A9 (((x1.length : Int)).toNat) c10) (by exact e24)) ?_
  refine lv (d := 2) rfl rfl (by kernel_rfl) (e_assign (v := .slice A9 (((x1.length : Int)).toNat) c10) (by kernel_rfl)) ?_
  refine wpList_nil ?_
  refine then_n ?_
  refine wp_ret ?_
  obtain rfl := Option.some.inj M
  exact ret1 rfl rfl  (show _ = .slice A9 (((x1.length : Int)).toNat) c10 from (by kernel_rfl)) ⟨A9, c10, F20, H17, (by rw [(show x21.length = ((x1.length : Int)).toNat from n22)]), h12, S26⟩

/-! spec_l2cell -/
def spec_l2cell.f (x1 : Cell) : Option Bool := (if x1.kind = 0 then (if x1.n ≥ 0 then (if x1.n ≤ 1000000 then some (decide ((x1.text.length : Int) = 0)) else some false) else some false) else (if x1.kind = 1 then (if x1.n ≥ (-1000000000000000) then (if x1.n ≤ 1000000000000000 then some (decide ((x1.text.length : Int) = 0)) else some false) else some false) else (if (x1.text.length : Int) > 100 then some false else (if x1.kind = 2 then some (decide (x1.n = 0)) else (if x1.kind = 3 then (if x1.n ≥ 1 then some (decide (x1.n ≤ 20)) else some false) else some false)))))
theorem spec_l2cell.calls (w : World) (H : Hp) (x1 : Cell) (A2 : Option Addr) (c3 : Nat) (h4 : Rd tByte H A2 x1.text) (l5 : x1.text.length ≤ c3) (S : Own [] H w) (r : Bool) (M : spec_l2cell.f x1 = some r) :
    Calls Try.prog 56 #[.agg #[.int .i64 x1.kind, .int .i64 x1.n, .slice A2 x1.text.length c3]] w (fun e e_w => e = .returned (.bool r) ∧ Chg no w e_w) := by
  rw [spec_l2cell.f] at M
  refine enter (l := [.agg #[.int .i64 x1.kind, .int .i64 x1.n, .slice A2 x1.text.length c3]]) 60 Try.func56 rfl rfl rfl ?_
  have S0_ := S.st
  refine wp_seq ?_
  refine wp_region_lit ?_
  refine lve (d := 1) rfl rfl (by kernel_rfl) (new_blk (v := fun g_ => .pointer (some ⟨g_, 0, none⟩)) (cs := #[.int .i64 x1.kind, .int .i64 x1.n, .slice A2 x1.text.length c3]) (t := 65) S0_ (by kernel_rfl)) ?_
  rintro _ w6 ⟨g7, rfl, b8, S9, K10⟩
  refine lv (d := 2) rfl rfl (by kernel_rfl) (e_assign (v := .bool false) rfl) ?_
  refine wpList_nil ?_
  refine then_n ?_
  refine wp_seq ?_
  refine wp_seq ?_
  refine wp_region_lit ?_
  refine lv (d := 3) rfl rfl (by kernel_rfl) (e_fieldAddr (b := g7) (off := 0) (o := 0) Try.underlying65 rfl rfl (sz := 1) (by kernel_rfl) (by decide) (by kernel_rfl)) ?_
  refine lv (d := 4) rfl rfl (by kernel_rfl) (e_load1 (ad := ⟨g7, 0 + 0, none⟩) (v := .int .i64 x1.kind) Try.underlying3 rfl (by kernel_rfl) (blk_cell b8 rfl)) ?_
  refine lv (d := 5) rfl rfl (by kernel_rfl) (e_eql (k := .i64) (a := x1.kind) (b := 0) (by kernel_rfl) rfl) ?_
  refine wpList_nil ?_
  refine then_n ?_
  by_cases q11 : x1.kind = 0
  · replace M := ifp q11 M
    refine cond_t rfl (bt q11 (by kernel_rfl)) ?_
    refine wp_seq ?_
    refine wp_region_lit ?_
    refine lv (d := 6) rfl rfl (by kernel_rfl) (e_fieldAddr (b := g7) (off := 0) (o := 1) Try.underlying65 rfl rfl (sz := 1) (by kernel_rfl) (by decide) (by kernel_rfl)) ?_
    refine lv (d := 7) rfl rfl (by kernel_rfl) (e_load1 (ad := ⟨g7, 0 + 1, none⟩) (v := .int .i64 x1.n) Try.underlying3 rfl (by kernel_rfl) (blk_cell b8 rfl)) ?_
    refine lv (d := 8) rfl rfl (by kernel_rfl) (e_geq (k := .i64) (a := x1.n) (b := 0) (by kernel_rfl) rfl) ?_
    refine lv (d := 9) rfl rfl (by kernel_rfl) (e_move (v := .bool (decide (x1.n ≥ 0))) (by kernel_rfl)) ?_
    by_cases q12 : x1.n ≥ 0
    · replace M := ifp q12 M
      refine lvg (d := 10) (t := 9) rfl (by kernel_rfl) rfl (bt q12 (by kernel_rfl)) rfl (by kernel_rfl) (e_fieldAddr (b := g7) (off := 0) (o := 1) Try.underlying65 rfl rfl (sz := 1) (by kernel_rfl) (by decide) (by kernel_rfl)) ?_
      refine lvg (d := 11) (t := 9) rfl (by kernel_rfl) rfl (bt q12 (by kernel_rfl)) rfl (by kernel_rfl) (e_load1 (ad := ⟨g7, 0 + 1, none⟩) (v := .int .i64 x1.n) Try.underlying3 rfl (by kernel_rfl) (blk_cell b8 rfl)) ?_
      refine lvg (d := 12) (t := 9) rfl (by kernel_rfl) rfl (bt q12 (by kernel_rfl)) rfl (by kernel_rfl) (e_leq (k := .i64) (a := x1.n) (b := 1000000) (by kernel_rfl) rfl) ?_
      refine lv (d := 13) rfl rfl (by kernel_rfl) (e_pick_t (v := .bool (decide (x1.n ≤ 1000000))) (bt q12 (by kernel_rfl)) (by kernel_rfl)) ?_
      refine lv (d := 14) rfl rfl (by kernel_rfl) (e_move (v := .bool (decide (x1.n ≤ 1000000))) (by kernel_rfl)) ?_
      by_cases q13 : x1.n ≤ 1000000
      · replace M := ifp q13 M
        refine lvg (d := 15) (t := 14) rfl (by kernel_rfl) rfl (bt q13 (by kernel_rfl)) rfl (by kernel_rfl) (e_fieldAddr (b := g7) (off := 0) (o := 2) Try.underlying65 rfl rfl (sz := 1) (by kernel_rfl) (by decide) (by kernel_rfl)) ?_
        refine lvg (d := 16) (t := 14) rfl (by kernel_rfl) rfl (bt q13 (by kernel_rfl)) rfl (by kernel_rfl) (e_load1 (ad := ⟨g7, 0 + 2, none⟩) (v := .slice A2 x1.text.length c3) Try.underlying59 rfl (by kernel_rfl) (blk_cell b8 rfl)) ?_
        refine lvg (d := 17) (t := 14) rfl (by kernel_rfl) rfl (bt q13 (by kernel_rfl)) rfl (by kernel_rfl) (e_len (A := A2) (n := x1.text.length) (c := c3) Try.underlying59 (by kernel_rfl)) ?_
        refine lvg (d := 18) (t := 14) rfl (by kernel_rfl) rfl (bt q13 (by kernel_rfl)) rfl (by kernel_rfl) (e_eql (k := .i64) (a := (x1.text.length : Int)) (b := 0) (by kernel_rfl) rfl) ?_
        refine lv (d := 19) rfl rfl (by kernel_rfl) (e_pick_t (v := .bool (decide ((x1.text.length : Int) = 0))) (bt q13 (by kernel_rfl)) (by kernel_rfl)) ?_
        refine lv (d := 2) rfl rfl (by kernel_rfl) (e_assign (v := .bool (decide ((x1.text.length : Int) = 0))) (by kernel_rfl)) ?_
        refine wpList_nil ?_
        refine then_n ?_
        refine wp_ret ?_
        refine then_r ?_
        obtain rfl := Option.some.inj M
        exact ret1 rfl rfl  (show _ = .bool (decide ((x1.text.length : Int) = 0)) from (by kernel_rfl)) ⟨rfl, S9.chg⟩
      replace M := ifn q13 M
      refine lskip (t := 14) (c := false) rfl (by kernel_rfl) rfl (bf q13 (by kernel_rfl)) rfl rfl ?_
      refine lskip (t := 14) (c := false) rfl (by kernel_rfl) rfl (bf q13 (by kernel_rfl)) rfl rfl ?_
      refine lskip (t := 14) (c := false) rfl (by kernel_rfl) rfl (bf q13 (by kernel_rfl)) rfl rfl ?_
      refine lskip (t := 14) (c := false) rfl (by kernel_rfl) rfl (bf q13 (by kernel_rfl)) rfl rfl ?_
      refine lv (d := 19) rfl rfl (by kernel_rfl) (e_pick_f (v := .bool false) (bf q13 (by kernel_rfl)) rfl) ?_
      refine lv (d := 2) rfl rfl (by kernel_rfl) (e_assign (v := .bool false) (by kernel_rfl)) ?_
      refine wpList_nil ?_
      refine then_n ?_
      refine wp_ret ?_
      refine then_r ?_
      obtain rfl := Option.some.inj M
      exact ret1 rfl rfl  (show _ = .bool false from (by kernel_rfl)) ⟨rfl, S9.chg⟩
    replace M := ifn q12 M
    refine lskip (t := 9) (c := false) rfl (by kernel_rfl) rfl (bf q12 (by kernel_rfl)) rfl rfl ?_
    refine lskip (t := 9) (c := false) rfl (by kernel_rfl) rfl (bf q12 (by kernel_rfl)) rfl rfl ?_
    refine lskip (t := 9) (c := false) rfl (by kernel_rfl) rfl (bf q12 (by kernel_rfl)) rfl rfl ?_
    refine lv (d := 13) rfl rfl (by kernel_rfl) (e_pick_f (v := .bool false) (bf q12 (by kernel_rfl)) rfl) ?_
    refine lv (d := 14) rfl rfl (by kernel_rfl) (e_move (v := .bool false) (by kernel_rfl)) ?_
    refine lskip (t := 14) (c := false) rfl (by kernel_rfl) rfl (by kernel_rfl) rfl rfl ?_
    refine lskip (t := 14) (c := false) rfl (by kernel_rfl) rfl (by kernel_rfl) rfl rfl ?_
    refine lskip (t := 14) (c := false) rfl (by kernel_rfl) rfl (by kernel_rfl) rfl rfl ?_
    refine lskip (t := 14) (c := false) rfl (by kernel_rfl) rfl (by kernel_rfl) rfl rfl ?_
    refine lv (d := 19) rfl rfl (by kernel_rfl) (e_pick_f (v := .bool false) (by kernel_rfl) rfl) ?_
    refine lv (d := 2) rfl rfl (by kernel_rfl) (e_assign (v := .bool false) (by kernel_rfl)) ?_
    refine wpList_nil ?_
    refine then_n ?_
    refine wp_ret ?_
    refine then_r ?_
    obtain rfl := Option.some.inj M
    exact ret1 rfl rfl  (show _ = .bool false from (by kernel_rfl)) ⟨rfl, S9.chg⟩
  replace M := ifn q11 M
  refine cond_f rfl (bf q11 (by kernel_rfl)) ?_
  refine wp_skip ?_
  refine then_n ?_
  refine wp_seq ?_
  refine wp_seq ?_
  refine wp_region_lit ?_
  refine lv (d := 20) rfl rfl (by kernel_rfl) (e_fieldAddr (b := g7) (off := 0) (o := 0) Try.underlying65 rfl rfl (sz := 1) (by kernel_rfl) (by decide) (by kernel_rfl)) ?_
  refine lv (d := 21) rfl rfl (by kernel_rfl) (e_load1 (ad := ⟨g7, 0 + 0, none⟩) (v := .int .i64 x1.kind) Try.underlying3 rfl (by kernel_rfl) (blk_cell b8 rfl)) ?_
  refine lv (d := 22) rfl rfl (by kernel_rfl) (e_eql (k := .i64) (a := x1.kind) (b := 1) (by kernel_rfl) rfl) ?_
  refine wpList_nil ?_
  refine then_n ?_
  by_cases q14 : x1.kind = 1
  · replace M := ifp q14 M
    refine cond_t rfl (bt q14 (by kernel_rfl)) ?_
    refine wp_seq ?_
    refine wp_region_lit ?_
    refine lv (d := 23) rfl rfl (by kernel_rfl) (e_fieldAddr (b := g7) (off := 0) (o := 1) Try.underlying65 rfl rfl (sz := 1) (by kernel_rfl) (by decide) (by kernel_rfl)) ?_
    refine lv (d := 24) rfl rfl (by kernel_rfl) (e_load1 (ad := ⟨g7, 0 + 1, none⟩) (v := .int .i64 x1.n) Try.underlying3 rfl (by kernel_rfl) (blk_cell b8 rfl)) ?_
    refine lv (d := 25) rfl rfl (by kernel_rfl) (e_geq (k := .i64) (a := x1.n) (b := (-1000000000000000)) (by kernel_rfl) rfl) ?_
    refine lv (d := 26) rfl rfl (by kernel_rfl) (e_move (v := .bool (decide (x1.n ≥ (-1000000000000000)))) (by kernel_rfl)) ?_
    by_cases q15 : x1.n ≥ (-1000000000000000)
    · replace M := ifp q15 M
      refine lvg (d := 27) (t := 26) rfl (by kernel_rfl) rfl (bt q15 (by kernel_rfl)) rfl (by kernel_rfl) (e_fieldAddr (b := g7) (off := 0) (o := 1) Try.underlying65 rfl rfl (sz := 1) (by kernel_rfl) (by decide) (by kernel_rfl)) ?_
      refine lvg (d := 28) (t := 26) rfl (by kernel_rfl) rfl (bt q15 (by kernel_rfl)) rfl (by kernel_rfl) (e_load1 (ad := ⟨g7, 0 + 1, none⟩) (v := .int .i64 x1.n) Try.underlying3 rfl (by kernel_rfl) (blk_cell b8 rfl)) ?_
      refine lvg (d := 29) (t := 26) rfl (by kernel_rfl) rfl (bt q15 (by kernel_rfl)) rfl (by kernel_rfl) (e_leq (k := .i64) (a := x1.n) (b := 1000000000000000) (by kernel_rfl) rfl) ?_
      refine lv (d := 30) rfl rfl (by kernel_rfl) (e_pick_t (v := .bool (decide (x1.n ≤ 1000000000000000))) (bt q15 (by kernel_rfl)) (by kernel_rfl)) ?_
      refine lv (d := 31) rfl rfl (by kernel_rfl) (e_move (v := .bool (decide (x1.n ≤ 1000000000000000))) (by kernel_rfl)) ?_
      by_cases q16 : x1.n ≤ 1000000000000000
      · replace M := ifp q16 M
        refine lvg (d := 32) (t := 31) rfl (by kernel_rfl) rfl (bt q16 (by kernel_rfl)) rfl (by kernel_rfl) (e_fieldAddr (b := g7) (off := 0) (o := 2) Try.underlying65 rfl rfl (sz := 1) (by kernel_rfl) (by decide) (by kernel_rfl)) ?_
        refine lvg (d := 33) (t := 31) rfl (by kernel_rfl) rfl (bt q16 (by kernel_rfl)) rfl (by kernel_rfl) (e_load1 (ad := ⟨g7, 0 + 2, none⟩) (v := .slice A2 x1.text.length c3) Try.underlying59 rfl (by kernel_rfl) (blk_cell b8 rfl)) ?_
        refine lvg (d := 34) (t := 31) rfl (by kernel_rfl) rfl (bt q16 (by kernel_rfl)) rfl (by kernel_rfl) (e_len (A := A2) (n := x1.text.length) (c := c3) Try.underlying59 (by kernel_rfl)) ?_
        refine lvg (d := 35) (t := 31) rfl (by kernel_rfl) rfl (bt q16 (by kernel_rfl)) rfl (by kernel_rfl) (e_eql (k := .i64) (a := (x1.text.length : Int)) (b := 0) (by kernel_rfl) rfl) ?_
        refine lv (d := 36) rfl rfl (by kernel_rfl) (e_pick_t (v := .bool (decide ((x1.text.length : Int) = 0))) (bt q16 (by kernel_rfl)) (by kernel_rfl)) ?_
        refine lv (d := 2) rfl rfl (by kernel_rfl) (e_assign (v := .bool (decide ((x1.text.length : Int) = 0))) (by kernel_rfl)) ?_
        refine wpList_nil ?_
        refine then_n ?_
        refine wp_ret ?_
        refine then_r ?_
        obtain rfl := Option.some.inj M
        exact ret1 rfl rfl  (show _ = .bool (decide ((x1.text.length : Int) = 0)) from (by kernel_rfl)) ⟨rfl, S9.chg⟩
      replace M := ifn q16 M
      refine lskip (t := 31) (c := false) rfl (by kernel_rfl) rfl (bf q16 (by kernel_rfl)) rfl rfl ?_
      refine lskip (t := 31) (c := false) rfl (by kernel_rfl) rfl (bf q16 (by kernel_rfl)) rfl rfl ?_
      refine lskip (t := 31) (c := false) rfl (by kernel_rfl) rfl (bf q16 (by kernel_rfl)) rfl rfl ?_
      refine lskip (t := 31) (c := false) rfl (by kernel_rfl) rfl (bf q16 (by kernel_rfl)) rfl rfl ?_
      refine lv (d := 36) rfl rfl (by kernel_rfl) (e_pick_f (v := .bool false) (bf q16 (by kernel_rfl)) rfl) ?_
      refine lv (d := 2) rfl rfl (by kernel_rfl) (e_assign (v := .bool false) (by kernel_rfl)) ?_
      refine wpList_nil ?_
      refine then_n ?_
      refine wp_ret ?_
      refine then_r ?_
      obtain rfl := Option.some.inj M
      exact ret1 rfl rfl  (show _ = .bool false from (by kernel_rfl)) ⟨rfl, S9.chg⟩
    replace M := ifn q15 M
    refine lskip (t := 26) (c := false) rfl (by kernel_rfl) rfl (bf q15 (by kernel_rfl)) rfl rfl ?_
    refine lskip (t := 26) (c := false) rfl (by kernel_rfl) rfl (bf q15 (by kernel_rfl)) rfl rfl ?_
    refine lskip (t := 26) (c := false) rfl (by kernel_rfl) rfl (bf q15 (by kernel_rfl)) rfl rfl ?_
    refine lv (d := 30) rfl rfl (by kernel_rfl) (e_pick_f (v := .bool false) (bf q15 (by kernel_rfl)) rfl) ?_
    refine lv (d := 31) rfl rfl (by kernel_rfl) (e_move (v := .bool false) (by kernel_rfl)) ?_
    refine lskip (t := 31) (c := false) rfl (by kernel_rfl) rfl (by kernel_rfl) rfl rfl ?_
    refine lskip (t := 31) (c := false) rfl (by kernel_rfl) rfl (by kernel_rfl) rfl rfl ?_
    refine lskip (t := 31) (c := false) rfl (by kernel_rfl) rfl (by kernel_rfl) rfl rfl ?_
    refine lskip (t := 31) (c := false) rfl (by kernel_rfl) rfl (by kernel_rfl) rfl rfl ?_
    refine lv (d := 36) rfl rfl (by kernel_rfl) (e_pick_f (v := .bool false) (by kernel_rfl) rfl) ?_
    refine lv (d := 2) rfl rfl (by kernel_rfl) (e_assign (v := .bool false) (by kernel_rfl)) ?_
    refine wpList_nil ?_
    refine then_n ?_
    refine wp_ret ?_
    refine then_r ?_
    obtain rfl := Option.some.inj M
    exact ret1 rfl rfl  (show _ = .bool false from (by kernel_rfl)) ⟨rfl, S9.chg⟩
  replace M := ifn q14 M
  refine cond_f rfl (bf q14 (by kernel_rfl)) ?_
  refine wp_skip ?_
  refine then_n ?_
  refine wp_seq ?_
  refine wp_seq ?_
  refine wp_region_lit ?_
  refine lv (d := 37) rfl rfl (by kernel_rfl) (e_fieldAddr (b := g7) (off := 0) (o := 2) Try.underlying65 rfl rfl (sz := 1) (by kernel_rfl) (by decide) (by kernel_rfl)) ?_
  refine lv (d := 38) rfl rfl (by kernel_rfl) (e_load1 (ad := ⟨g7, 0 + 2, none⟩) (v := .slice A2 x1.text.length c3) Try.underlying59 rfl (by kernel_rfl) (blk_cell b8 rfl)) ?_
  refine lv (d := 39) rfl rfl (by kernel_rfl) (e_len (A := A2) (n := x1.text.length) (c := c3) Try.underlying59 (by kernel_rfl)) ?_
  refine lv (d := 40) rfl rfl (by kernel_rfl) (e_gtr (k := .i64) (a := (x1.text.length : Int)) (b := 100) (by kernel_rfl) rfl) ?_
  refine wpList_nil ?_
  refine then_n ?_
  by_cases q17 : (x1.text.length : Int) > 100
  · replace M := ifp q17 M
    refine cond_t rfl (bt q17 (by kernel_rfl)) ?_
    refine wp_seq ?_
    refine wp_region_lit ?_
    refine lv (d := 2) rfl rfl (by kernel_rfl) (e_assign (v := .bool false) rfl) ?_
    refine wpList_nil ?_
    refine then_n ?_
    refine wp_ret ?_
    refine then_r ?_
    obtain rfl := Option.some.inj M
    exact ret1 rfl rfl  (show _ = .bool false from (by kernel_rfl)) ⟨rfl, S9.chg⟩
  replace M := ifn q17 M
  refine cond_f rfl (bf q17 (by kernel_rfl)) ?_
  refine wp_skip ?_
  refine then_n ?_
  refine wp_seq ?_
  refine wp_seq ?_
  refine wp_region_lit ?_
  refine lv (d := 41) rfl rfl (by kernel_rfl) (e_fieldAddr (b := g7) (off := 0) (o := 0) Try.underlying65 rfl rfl (sz := 1) (by kernel_rfl) (by decide) (by kernel_rfl)) ?_
  refine lv (d := 42) rfl rfl (by kernel_rfl) (e_load1 (ad := ⟨g7, 0 + 0, none⟩) (v := .int .i64 x1.kind) Try.underlying3 rfl (by kernel_rfl) (blk_cell b8 rfl)) ?_
  refine lv (d := 43) rfl rfl (by kernel_rfl) (e_eql (k := .i64) (a := x1.kind) (b := 2) (by kernel_rfl) rfl) ?_
  refine wpList_nil ?_
  refine then_n ?_
  by_cases q18 : x1.kind = 2
  · replace M := ifp q18 M
    refine cond_t rfl (bt q18 (by kernel_rfl)) ?_
    refine wp_seq ?_
    refine wp_region_lit ?_
    refine lv (d := 44) rfl rfl (by kernel_rfl) (e_fieldAddr (b := g7) (off := 0) (o := 1) Try.underlying65 rfl rfl (sz := 1) (by kernel_rfl) (by decide) (by kernel_rfl)) ?_
    refine lv (d := 45) rfl rfl (by kernel_rfl) (e_load1 (ad := ⟨g7, 0 + 1, none⟩) (v := .int .i64 x1.n) Try.underlying3 rfl (by kernel_rfl) (blk_cell b8 rfl)) ?_
    refine lv (d := 46) rfl rfl (by kernel_rfl) (e_eql (k := .i64) (a := x1.n) (b := 0) (by kernel_rfl) rfl) ?_
    refine lv (d := 2) rfl rfl (by kernel_rfl) (e_assign (v := .bool (decide (x1.n = 0))) (by kernel_rfl)) ?_
    refine wpList_nil ?_
    refine then_n ?_
    refine wp_ret ?_
    refine then_r ?_
    obtain rfl := Option.some.inj M
    exact ret1 rfl rfl  (show _ = .bool (decide (x1.n = 0)) from (by kernel_rfl)) ⟨rfl, S9.chg⟩
  replace M := ifn q18 M
  refine cond_f rfl (bf q18 (by kernel_rfl)) ?_
  refine wp_skip ?_
  refine then_n ?_
  refine wp_seq ?_
  refine wp_region_lit ?_
  refine lv (d := 47) rfl rfl (by kernel_rfl) (e_fieldAddr (b := g7) (off := 0) (o := 0) Try.underlying65 rfl rfl (sz := 1) (by kernel_rfl) (by decide) (by kernel_rfl)) ?_
  refine lv (d := 48) rfl rfl (by kernel_rfl) (e_load1 (ad := ⟨g7, 0 + 0, none⟩) (v := .int .i64 x1.kind) Try.underlying3 rfl (by kernel_rfl) (blk_cell b8 rfl)) ?_
  refine lv (d := 49) rfl rfl (by kernel_rfl) (e_eql (k := .i64) (a := x1.kind) (b := 3) (by kernel_rfl) rfl) ?_
  refine lv (d := 50) rfl rfl (by kernel_rfl) (e_move (v := .bool (decide (x1.kind = 3))) (by kernel_rfl)) ?_
  by_cases q19 : x1.kind = 3
  · replace M := ifp q19 M
    refine lvg (d := 51) (t := 50) rfl (by kernel_rfl) rfl (bt q19 (by kernel_rfl)) rfl (by kernel_rfl) (e_fieldAddr (b := g7) (off := 0) (o := 1) Try.underlying65 rfl rfl (sz := 1) (by kernel_rfl) (by decide) (by kernel_rfl)) ?_
    refine lvg (d := 52) (t := 50) rfl (by kernel_rfl) rfl (bt q19 (by kernel_rfl)) rfl (by kernel_rfl) (e_load1 (ad := ⟨g7, 0 + 1, none⟩) (v := .int .i64 x1.n) Try.underlying3 rfl (by kernel_rfl) (blk_cell b8 rfl)) ?_
    refine lvg (d := 53) (t := 50) rfl (by kernel_rfl) rfl (bt q19 (by kernel_rfl)) rfl (by kernel_rfl) (e_geq (k := .i64) (a := x1.n) (b := 1) (by kernel_rfl) rfl) ?_
    refine lv (d := 54) rfl rfl (by kernel_rfl) (e_pick_t (v := .bool (decide (x1.n ≥ 1))) (bt q19 (by kernel_rfl)) (by kernel_rfl)) ?_
    refine lv (d := 55) rfl rfl (by kernel_rfl) (e_move (v := .bool (decide (x1.n ≥ 1))) (by kernel_rfl)) ?_
    by_cases q20 : x1.n ≥ 1
    · replace M := ifp q20 M
      refine lvg (d := 56) (t := 55) rfl (by kernel_rfl) rfl (bt q20 (by kernel_rfl)) rfl (by kernel_rfl) (e_fieldAddr (b := g7) (off := 0) (o := 1) Try.underlying65 rfl rfl (sz := 1) (by kernel_rfl) (by decide) (by kernel_rfl)) ?_
      refine lvg (d := 57) (t := 55) rfl (by kernel_rfl) rfl (bt q20 (by kernel_rfl)) rfl (by kernel_rfl) (e_load1 (ad := ⟨g7, 0 + 1, none⟩) (v := .int .i64 x1.n) Try.underlying3 rfl (by kernel_rfl) (blk_cell b8 rfl)) ?_
      refine lvg (d := 58) (t := 55) rfl (by kernel_rfl) rfl (bt q20 (by kernel_rfl)) rfl (by kernel_rfl) (e_leq (k := .i64) (a := x1.n) (b := 20) (by kernel_rfl) rfl) ?_
      refine lv (d := 59) rfl rfl (by kernel_rfl) (e_pick_t (v := .bool (decide (x1.n ≤ 20))) (bt q20 (by kernel_rfl)) (by kernel_rfl)) ?_
      refine lv (d := 2) rfl rfl (by kernel_rfl) (e_assign (v := .bool (decide (x1.n ≤ 20))) (by kernel_rfl)) ?_
      refine wpList_nil ?_
      refine then_n ?_
      refine wp_ret ?_
      obtain rfl := Option.some.inj M
      exact ret1 rfl rfl  (show _ = .bool (decide (x1.n ≤ 20)) from (by kernel_rfl)) ⟨rfl, S9.chg⟩
    replace M := ifn q20 M
    refine lskip (t := 55) (c := false) rfl (by kernel_rfl) rfl (bf q20 (by kernel_rfl)) rfl rfl ?_
    refine lskip (t := 55) (c := false) rfl (by kernel_rfl) rfl (bf q20 (by kernel_rfl)) rfl rfl ?_
    refine lskip (t := 55) (c := false) rfl (by kernel_rfl) rfl (bf q20 (by kernel_rfl)) rfl rfl ?_
    refine lv (d := 59) rfl rfl (by kernel_rfl) (e_pick_f (v := .bool false) (bf q20 (by kernel_rfl)) rfl) ?_
    refine lv (d := 2) rfl rfl (by kernel_rfl) (e_assign (v := .bool false) (by kernel_rfl)) ?_
    refine wpList_nil ?_
    refine then_n ?_
    refine wp_ret ?_
    obtain rfl := Option.some.inj M
    exact ret1 rfl rfl  (show _ = .bool false from (by kernel_rfl)) ⟨rfl, S9.chg⟩
  replace M := ifn q19 M
  refine lskip (t := 50) (c := false) rfl (by kernel_rfl) rfl (bf q19 (by kernel_rfl)) rfl rfl ?_
  refine lskip (t := 50) (c := false) rfl (by kernel_rfl) rfl (bf q19 (by kernel_rfl)) rfl rfl ?_
  refine lskip (t := 50) (c := false) rfl (by kernel_rfl) rfl (bf q19 (by kernel_rfl)) rfl rfl ?_
  refine lv (d := 54) rfl rfl (by kernel_rfl) (e_pick_f (v := .bool false) (bf q19 (by kernel_rfl)) rfl) ?_
  refine lv (d := 55) rfl rfl (by kernel_rfl) (e_move (v := .bool false) (by kernel_rfl)) ?_
  refine lskip (t := 55) (c := false) rfl (by kernel_rfl) rfl (by kernel_rfl) rfl rfl ?_
  refine lskip (t := 55) (c := false) rfl (by kernel_rfl) rfl (by kernel_rfl) rfl rfl ?_
  refine lskip (t := 55) (c := false) rfl (by kernel_rfl) rfl (by kernel_rfl) rfl rfl ?_
  refine lv (d := 59) rfl rfl (by kernel_rfl) (e_pick_f (v := .bool false) (by kernel_rfl) rfl) ?_
  refine lv (d := 2) rfl rfl (by kernel_rfl) (e_assign (v := .bool false) (by kernel_rfl)) ?_
  refine wpList_nil ?_
  refine then_n ?_
  refine wp_ret ?_
  obtain rfl := Option.some.inj M
  exact ret1 rfl rfl  (show _ = .bool false from (by kernel_rfl)) ⟨rfl, S9.chg⟩

/-! spec_ValidTerm -/
def spec_ValidTerm.l0 : Nat → (List Cell) → Int → Int → Option Bool
  | 0, _, _, _ => none
  | k19 + 1, x1, x9, x10 => (if x10 < (x1.length : Int) then (if x9 = 0 then some false else (if 0 ≤ x10 then ((spec_l2cell.f (x1.getD ((x10).toNat) z65)).bind fun t33 => (if ¬ (t33 = true) then some false else (if ((x1.getD ((x10).toNat) z65).kind) = 3 then (spec_ValidTerm.l0 k19 x1 (IntKind.i64.wrap ((IntKind.i64.wrap (x9 - 1)) + ((x1.getD ((x10).toNat) z65).n))) (IntKind.i64.wrap (x10 + 1))) else (spec_ValidTerm.l0 k19 x1 (IntKind.i64.wrap (x9 - 1)) (IntKind.i64.wrap (x10 + 1)))))) else none)) else some (decide (x9 = 0)))
def spec_ValidTerm.f (k : Nat) (x1 : List Cell) : Option Bool := (if (x1.length : Int) > 2000 then some false else (spec_ValidTerm.l0 k x1 1 0))
theorem spec_ValidTerm.calls (k : Nat) (w : World) (H : Hp) (x1 : List Cell) (A2 : Option Addr) (c3 : Nat) (h4 : Rd st65 H A2 x1) (l5 : x1.length ≤ c3) (S : Own [] H w) (r : Bool) (M : spec_ValidTerm.f k x1 = some r) :
    Calls Try.prog 15 #[.slice A2 x1.length c3] w (fun e e_w => e = .returned (.bool r) ∧ Chg no w e_w) := by
  rw [spec_ValidTerm.f] at M
  refine enter (l := [.slice A2 x1.length c3]) 41 Try.func15 rfl rfl rfl ?_
  have S0_ := S.st
  refine wp_seq ?_
  refine wp_region_lit ?_
  refine lv (d := 2) rfl rfl (by kernel_rfl) (e_assign (v := .bool false) rfl) ?_
  refine wpList_nil ?_
  refine then_n ?_
  refine wp_seq ?_
  refine wp_seq ?_
  refine wp_region_lit ?_
  refine lv (d := 5) rfl rfl (by kernel_rfl) (e_move (v := .slice A2 x1.length c3) (by kernel_rfl)) ?_
  refine lv (d := 6) rfl rfl (by kernel_rfl) (e_len (A := A2) (n := x1.length) (c := c3) Try.underlying25 (by kernel_rfl)) ?_
  refine lv (d := 7) rfl rfl (by kernel_rfl) (e_gtr (k := .i64) (a := (x1.length : Int)) (b := 2000) (by kernel_rfl) rfl) ?_
  refine wpList_nil ?_
  refine then_n ?_
  by_cases q6 : (x1.length : Int) > 2000
  · replace M := ifp q6 M
    refine cond_t rfl (bt q6 (by kernel_rfl)) ?_
    refine wp_seq ?_
    refine wp_region_lit ?_
    refine lv (d := 2) rfl rfl (by kernel_rfl) (e_assign (v := .bool false) rfl) ?_
    refine wpList_nil ?_
    refine then_n ?_
    refine wp_ret ?_
    refine then_r ?_
    obtain rfl := Option.some.inj M
    exact ret1 rfl rfl  (show _ = .bool false from (by kernel_rfl)) ⟨rfl, S0_.chg⟩
  replace M := ifn q6 M
  refine cond_f rfl (bf q6 (by kernel_rfl)) ?_
  refine wp_skip ?_
  refine then_n ?_
  refine wp_seq ?_
  refine wp_region_lit ?_
  refine lv (d := 3) rfl rfl (by kernel_rfl) (e_assign (v := .int .i64 1) rfl) ?_
  refine wpList_nil ?_
  refine then_n ?_
  refine wp_seq ?_
  refine wp_seq ?_
  refine wp_region_lit ?_
  refine lv (d := 4) rfl rfl (by kernel_rfl) (e_assign (v := .int .i64 0) rfl) ?_
  refine wpList_nil ?_
  refine then_n ?_
  refine wp_block ?_
  refine wp_loop_g (fun k17 a18 w7 => ∃ (f8 : Nat → Value) (x9 : Int) (x10 : Int), a18 = mk 41 f8 ∧ f8 0 = .slice A2 x1.length c3 ∧ f8 3 = .int .i64 x9 ∧ f8 4 = .int .i64 x10 ∧ St (anyOf []) H w [] H w7 ∧ spec_ValidTerm.l0 k17 x1 x9 x10 = some r) k ⟨_, 1, 0, rfl, (by kernel_rfl), (by kernel_rfl), (by kernel_rfl), S0_, M⟩ ?_
  clear M
  rintro k17 a18 w7 ⟨f8, x9, x10, rfl, e11, e12, e13, S14, M⟩
  rcases k17 with _ | k19
  · rw [spec_ValidTerm.l0] at M
    cases M
  rw [spec_ValidTerm.l0] at M
  refine wp_seq ?_
  refine wp_seq ?_
  refine wp_region_lit ?_
  refine lv (d := 8) rfl rfl (by kernel_rfl) (e_move (v := .int .i64 x10) (by exact e13)) ?_
  refine lv (d := 9) rfl rfl (by kernel_rfl) (e_move (v := .slice A2 x1.length c3) (by exact e11)) ?_
  refine lv (d := 10) rfl rfl (by kernel_rfl) (e_len (A := A2) (n := x1.length) (c := c3) Try.underlying25 (by kernel_rfl)) ?_
  refine lv (d := 11) rfl rfl (by kernel_rfl) (e_lss (k := .i64) (a := x10) (b := (x1.length : Int)) (by kernel_rfl) (by kernel_rfl)) ?_
  refine wpList_nil ?_
  refine then_n ?_
  by_cases q20 : x10 < (x1.length : Int)
  · replace M := ifp q20 M
    refine cond_t rfl (bt q20 (by kernel_rfl)) ?_
    refine wp_skip ?_
    refine then_n ?_
    refine wp_seq ?_
    refine wp_block ?_
    refine wp_seq ?_
    refine wp_seq ?_
    refine wp_region_lit ?_
    refine lv (d := 14) rfl rfl (by kernel_rfl) (e_move (v := .int .i64 x9) (by exact e12)) ?_
    refine lv (d := 15) rfl rfl (by kernel_rfl) (e_eql (k := .i64) (a := x9) (b := 0) (by kernel_rfl) rfl) ?_
    refine lv (d := 16) rfl rfl (by kernel_rfl) (e_move (v := .bool (decide (x9 = 0))) (by kernel_rfl)) ?_
    by_cases q21 : x9 = 0
    · replace M := ifp q21 M
      refine lskip (t := 16) (c := true) rfl (by kernel_rfl) rfl (bt q21 (by kernel_rfl)) rfl rfl ?_
      refine lskip (t := 16) (c := true) rfl (by kernel_rfl) rfl (bt q21 (by kernel_rfl)) rfl rfl ?_
      refine lskip (t := 16) (c := true) rfl (by kernel_rfl) rfl (bt q21 (by kernel_rfl)) rfl rfl ?_
      refine lskip (t := 16) (c := true) rfl (by kernel_rfl) rfl (bt q21 (by kernel_rfl)) rfl rfl ?_
      refine lskip (t := 16) (c := true) rfl (by kernel_rfl) rfl (bt q21 (by kernel_rfl)) rfl rfl ?_
      refine lskip (t := 16) (c := true) rfl (by kernel_rfl) rfl (bt q21 (by kernel_rfl)) rfl rfl ?_
      refine lv (d := 23) rfl rfl (by kernel_rfl) (e_pick_t (v := .bool true) (bt q21 (by kernel_rfl)) rfl) ?_
      refine wpList_nil ?_
      refine then_n ?_
      refine cond_t rfl (by kernel_rfl) ?_
      refine wp_seq ?_
      refine wp_region_lit ?_
      refine lv (d := 2) rfl rfl (by kernel_rfl) (e_assign (v := .bool false) rfl) ?_
      refine wpList_nil ?_
      refine then_n ?_
      refine wp_ret ?_
      refine then_r ?_
      refine inb_r ?_
      refine then_r ?_
      refine then_r ?_
      refine inb_r ?_
      refine then_r ?_
      obtain rfl := Option.some.inj M
      exact ret1 rfl rfl  (show _ = .bool false from (by kernel_rfl)) ⟨rfl, S14.chg⟩
    replace M := ifn q21 M
    refine lvg (d := 17) (t := 16) rfl (by kernel_rfl) rfl (bf q21 (by kernel_rfl)) rfl (by kernel_rfl) (e_move (v := .slice A2 x1.length c3) (by exact e11)) ?_
    refine lvg (d := 18) (t := 16) rfl (by kernel_rfl) rfl (bf q21 (by kernel_rfl)) rfl (by kernel_rfl) (e_move (v := .int .i64 x10) (by exact e13)) ?_
    obtain ⟨q22, M⟩ := chk M
    obtain ⟨b23, o24, e25⟩ := Rd.addr h4 (show (x10).toNat < x1.length by omega)
    obtain ⟨y26, r27, k28⟩ := Rd.at h4 e25 (getD_some z65 (show (x10).toNat < x1.length by omega))
    obtain ⟨A29, c30, rfl, l31, h32⟩ := st65_open r27
    refine lvg (d := 19) (t := 16) rfl (by kernel_rfl) rfl (bf q21 (by kernel_rfl)) rfl (by kernel_rfl) (e_indexAddr (b := b23) (off := o24) (n := x1.length) (c := c3) (sz := 3) (i := x10) (k := .i64) Try.underlying25 e25 (by kernel_rfl) (by kernel_rfl) (by kernel_rfl) q22 q20) ?_
    refine lvg (d := 20) (t := 16) rfl (by kernel_rfl) rfl (bf q21 (by kernel_rfl)) rfl (by kernel_rfl) (e_loadS (b := b23) (off := o24 + (x10 : Int).toNat * 3) (cs := [.int .i64 ((x1.getD ((x10).toNat) z65).kind), .int .i64 ((x1.getD ((x10).toNat) z65).n), .slice A29 ((x1.getD ((x10).toNat) z65).text).length c30]) Try.underlying65 rfl (by kernel_rfl) (by kernel_rfl) (fun j_ u_ e_ => (hpx (S14.inv.cell (k28 j_ u_ e_))))) ?_
    obtain ⟨t33, u34, M⟩ := bnd M
    refine lcallg (d := 21) (t := 16) rfl (by kernel_rfl) rfl (bf q21 (by kernel_rfl)) rfl (by kernel_rfl) (e_call (l := [.tmp 20]) (vs := [.agg #[.int .i64 ((x1.getD ((x10).toNat) z65).kind), .int .i64 ((x1.getD ((x10).toNat) z65).n), .slice A29 ((x1.getD ((x10).toNat) z65).text).length c30]]) Try.func56 (by kernel_rfl) rfl (by kernel_rfl) rfl) (spec_l2cell.calls w7 H (x1.getD ((x10).toNat) z65) A29 c30 h32 l31 S14.own0 t33 u34) ?_
    rintro _ w35 ⟨rfl, C36⟩
    refine ⟨_, rfl, ?_⟩
    obtain ⟨S37, K38⟩ := S14.still C36
    refine lvg (d := 22) (t := 16) rfl (by kernel_rfl) rfl (bf q21 (by kernel_rfl)) rfl (by kernel_rfl) (e_notv (c := t33) (by kernel_rfl)) ?_
    refine lv (d := 23) rfl rfl (by kernel_rfl) (e_pick_f (v := .bool (decide (¬ (t33 = true)))) (bf q21 (by kernel_rfl)) (by kernel_rfl)) ?_
    refine wpList_nil ?_
    refine then_n ?_
    by_cases q39 : ¬ (t33 = true)
    · replace M := ifp q39 M
      refine cond_t rfl (bt q39 (by kernel_rfl)) ?_
      refine wp_seq ?_
      refine wp_region_lit ?_
      refine lv (d := 2) rfl rfl (by kernel_rfl) (e_assign (v := .bool false) rfl) ?_
      refine wpList_nil ?_
      refine then_n ?_
      refine wp_ret ?_
      refine then_r ?_
      refine inb_r ?_
      refine then_r ?_
      refine then_r ?_
      refine inb_r ?_
      refine then_r ?_
      obtain rfl := Option.some.inj M
      exact ret1 rfl rfl  (show _ = .bool false from (by kernel_rfl)) ⟨rfl, S37.chg⟩
    replace M := ifn q39 M
    refine cond_f rfl (bf q39 (by kernel_rfl)) ?_
    refine wp_skip ?_
    refine then_n ?_
    refine wp_seq ?_
    refine wp_region_lit ?_
    refine lv (d := 24) rfl rfl (by kernel_rfl) (e_move (v := .int .i64 x9) (by exact e12)) ?_
    refine lv (d := 25) rfl rfl (by kernel_rfl) (e_sub (k := .i64) (a := x9) (b := 1) (by kernel_rfl) rfl) ?_
    refine lv (d := 3) rfl rfl (by kernel_rfl) (e_assign (v := .int .i64 (IntKind.i64.wrap (x9 - 1))) (by kernel_rfl)) ?_
    refine wpList_nil ?_
    refine then_n ?_
    refine wp_seq ?_
    refine wp_region_lit ?_
    refine lv (d := 26) rfl rfl (by kernel_rfl) (e_move (v := .slice A2 x1.length c3) (by exact e11)) ?_
    refine lv (d := 27) rfl rfl (by kernel_rfl) (e_move (v := .int .i64 x10) (by exact e13)) ?_
    obtain ⟨b40, o41, e42⟩ := Rd.addr h4 (show (x10).toNat < x1.length by omega)
    obtain ⟨y43, r44, k45⟩ := Rd.at h4 e42 (getD_some z65 (show (x10).toNat < x1.length by omega))
    obtain ⟨A46, c47, rfl, l48, h49⟩ := st65_open r44
    refine lv (d := 28) rfl rfl (by kernel_rfl) (e_indexAddr (b := b40) (off := o41) (n := x1.length) (c := c3) (sz := 3) (i := x10) (k := .i64) Try.underlying25 e42 (by kernel_rfl) (by kernel_rfl) (by kernel_rfl) q22 q20) ?_
    refine lv (d := 29) rfl rfl (by kernel_rfl) (e_fieldAddr (b := b40) (off := o41 + (x10 : Int).toNat * 3) (o := 0) Try.underlying65 rfl rfl (sz := 1) (by kernel_rfl) (by decide) (by kernel_rfl)) ?_
    refine lv (d := 30) rfl rfl (by kernel_rfl) (e_load1 (ad := ⟨b40, o41 + (x10 : Int).toNat * 3 + 0, none⟩) (v := .int .i64 ((x1.getD ((x10).toNat) z65).kind)) Try.underlying3 rfl (by kernel_rfl) (hpx (S37.inv.cell (k45 0 _ rfl)))) ?_
    refine lv (d := 31) rfl rfl (by kernel_rfl) (e_eql (k := .i64) (a := (x1.getD ((x10).toNat) z65).kind) (b := 3) (by kernel_rfl) rfl) ?_
    refine wpList_nil ?_
    refine then_n ?_
    by_cases q50 : ((x1.getD ((x10).toNat) z65).kind) = 3
    · replace M := ifp q50 M
      refine cond_t rfl (bt q50 (by kernel_rfl)) ?_
      refine wp_region_lit ?_
      refine lv (d := 32) rfl rfl (by kernel_rfl) (e_move (v := .int .i64 (IntKind.i64.wrap (x9 - 1))) (by kernel_rfl)) ?_
      refine lv (d := 33) rfl rfl (by kernel_rfl) (e_move (v := .slice A2 x1.length c3) (by exact e11)) ?_
      refine lv (d := 34) rfl rfl (by kernel_rfl) (e_move (v := .int .i64 x10) (by exact e13)) ?_
      obtain ⟨b51, o52, e53⟩ := Rd.addr h4 (show (x10).toNat < x1.length by omega)
      obtain ⟨y54, r55, k56⟩ := Rd.at h4 e53 (getD_some z65 (show (x10).toNat < x1.length by omega))
      obtain ⟨A57, c58, rfl, l59, h60⟩ := st65_open r55
      refine lv (d := 35) rfl rfl (by kernel_rfl) (e_indexAddr (b := b51) (off := o52) (n := x1.length) (c := c3) (sz := 3) (i := x10) (k := .i64) Try.underlying25 e53 (by kernel_rfl) (by kernel_rfl) (by kernel_rfl) q22 q20) ?_
      refine lv (d := 36) rfl rfl (by kernel_rfl) (e_fieldAddr (b := b51) (off := o52 + (x10 : Int).toNat * 3) (o := 1) Try.underlying65 rfl rfl (sz := 1) (by kernel_rfl) (by decide) (by kernel_rfl)) ?_
      refine lv (d := 37) rfl rfl (by kernel_rfl) (e_load1 (ad := ⟨b51, o52 + (x10 : Int).toNat * 3 + 1, none⟩) (v := .int .i64 ((x1.getD ((x10).toNat) z65).n)) Try.underlying3 rfl (by kernel_rfl) (hpx (S37.inv.cell (k56 1 _ rfl)))) ?_
      refine lv (d := 38) rfl rfl (by kernel_rfl) (e_add (k := .i64) (a := (IntKind.i64.wrap (x9 - 1))) (b := (x1.getD ((x10).toNat) z65).n) (by kernel_rfl) (by kernel_rfl)) ?_
      refine lv (d := 3) rfl rfl (by kernel_rfl) (e_assign (v := .int .i64 (IntKind.i64.wrap ((IntKind.i64.wrap (x9 - 1)) + ((x1.getD ((x10).toNat) z65).n)))) (by kernel_rfl)) ?_
      refine wpList_nil ?_
      refine inb_n ?_
      refine then_n ?_
      refine wp_region_lit ?_
      refine lv (d := 12) rfl rfl (by kernel_rfl) (e_move (v := .int .i64 x10) (by exact e13)) ?_
      refine lv (d := 13) rfl rfl (by kernel_rfl) (e_add (k := .i64) (a := x10) (b := 1) (by kernel_rfl) rfl) ?_
      refine lv (d := 4) rfl rfl (by kernel_rfl) (e_assign (v := .int .i64 (IntKind.i64.wrap (x10 + 1))) (by kernel_rfl)) ?_
      refine wpList_nil ?_
      refine then_n ?_
      exact ⟨k19, (by omega), _, (IntKind.i64.wrap ((IntKind.i64.wrap (x9 - 1)) + ((x1.getD ((x10).toNat) z65).n))), (IntKind.i64.wrap (x10 + 1)), rfl, (by exact e11), (by kernel_rfl), (by kernel_rfl), S37, M⟩
    replace M := ifn q50 M
    refine cond_f rfl (bf q50 (by kernel_rfl)) ?_
    refine wp_skip ?_
    refine inb_n ?_
    refine then_n ?_
    refine wp_region_lit ?_
    refine lv (d := 12) rfl rfl (by kernel_rfl) (e_move (v := .int .i64 x10) (by exact e13)) ?_
    refine lv (d := 13) rfl rfl (by kernel_rfl) (e_add (k := .i64) (a := x10) (b := 1) (by kernel_rfl) rfl) ?_
    refine lv (d := 4) rfl rfl (by kernel_rfl) (e_assign (v := .int .i64 (IntKind.i64.wrap (x10 + 1))) (by kernel_rfl)) ?_
    refine wpList_nil ?_
    refine then_n ?_
    exact ⟨k19, (by omega), _, (IntKind.i64.wrap (x9 - 1)), (IntKind.i64.wrap (x10 + 1)), rfl, (by exact e11), (by kernel_rfl), (by kernel_rfl), S37, M⟩
  replace M := ifn q20 M
  refine cond_f rfl (bf q20 (by kernel_rfl)) ?_
  refine wp_exit ?_
  refine then_e ?_
  refine then_e ?_
  refine inb_hit ?_
  refine then_n ?_
  refine wp_seq ?_
  refine wp_region_lit ?_
  refine lv (d := 39) rfl rfl (by kernel_rfl) (e_move (v := .int .i64 x9) (by exact e12)) ?_
  refine lv (d := 40) rfl rfl (by kernel_rfl) (e_eql (k := .i64) (a := x9) (b := 0) (by kernel_rfl) rfl) ?_
  refine lv (d := 2) rfl rfl (by kernel_rfl) (e_assign (v := .bool (decide (x9 = 0))) (by kernel_rfl)) ?_
  refine wpList_nil ?_
  refine then_n ?_
  refine wp_ret ?_
  obtain rfl := Option.some.inj M
  exact ret1 rfl rfl  (show _ = .bool (decide (x9 = 0)) from (by kernel_rfl)) ⟨rfl, S14.chg⟩

/-! spec_l2find -/
def spec_l2find.l0 : Nat → (List Int) → Int → Int → Option Int
  | 0, _, _, _ => none
  | k18 + 1, x1, x6, x9 => (if x9 < (x1.length : Int) then (if 0 ≤ x9 then (if (x1.getD ((x9).toNat) (0 : Int)) = x6 then some x9 else (spec_l2find.l0 k18 x1 x6 (IntKind.i64.wrap (x9 + 1)))) else none) else some (-1))
def spec_l2find.f (k : Nat) (x1 : List Int) (x6 : Int) : Option Int := (spec_l2find.l0 k x1 x6 0)
theorem spec_l2find.calls (k : Nat) (w : World) (H : Hp) (x1 : List Int) (A2 : Option Addr) (c3 : Nat) (x6 : Int) (h4 : Rd tInt H A2 x1) (l5 : x1.length ≤ c3) (S : Own [] H w) (r : Int) (M : spec_l2find.f k x1 x6 = some r) :
    Calls Try.prog 71 #[.slice A2 x1.length c3, .int .i64 x6] w (fun e e_w => e = .returned (.int .i64 r) ∧ Chg no w e_w) := by
  rw [spec_l2find.f] at M
  refine enter (l := [.slice A2 x1.length c3, .int .i64 x6]) 19 Try.func71 rfl rfl rfl ?_
  have S0_ := S.st
  refine wp_seq ?_
  refine wp_region_lit ?_
  refine lv (d := 4) rfl rfl (by kernel_rfl) (e_assign (v := .int .i64 0) rfl) ?_
  refine wpList_nil ?_
  refine then_n ?_
  refine wp_seq ?_
  refine wp_seq ?_
  refine wp_region_lit ?_
  refine lv (d := 5) rfl rfl (by kernel_rfl) (e_assign (v := .int .i64 0) rfl) ?_
  refine wpList_nil ?_
  refine then_n ?_
  refine wp_block ?_
  refine wp_loop_g (fun k16 a17 w7 => ∃ (f8 : Nat → Value) (x9 : Int), a17 = mk 19 f8 ∧ f8 0 = .slice A2 x1.length c3 ∧ f8 1 = .int .i64 x6 ∧ f8 5 = .int .i64 x9 ∧ St (anyOf []) H w [] H w7 ∧ spec_l2find.l0 k16 x1 x6 x9 = some r) k ⟨_, 0, rfl, (by kernel_rfl), (by kernel_rfl), (by kernel_rfl), S0_, M⟩ ?_
  clear M
  rintro k16 a17 w7 ⟨f8, x9, rfl, e10, e11, e12, S13, M⟩
  rcases k16 with _ | k18
  · rw [spec_l2find.l0] at M
    cases M
  rw [spec_l2find.l0] at M
  refine wp_seq ?_
  refine wp_seq ?_
  refine wp_region_lit ?_
  refine lv (d := 6) rfl rfl (by kernel_rfl) (e_move (v := .int .i64 x9) (by exact e12)) ?_
  refine lv (d := 7) rfl rfl (by kernel_rfl) (e_move (v := .slice A2 x1.length c3) (by exact e10)) ?_
  refine lv (d := 8) rfl rfl (by kernel_rfl) (e_len (A := A2) (n := x1.length) (c := c3) Try.underlying32 (by kernel_rfl)) ?_
  refine lv (d := 9) rfl rfl (by kernel_rfl) (e_lss (k := .i64) (a := x9) (b := (x1.length : Int)) (by kernel_rfl) (by kernel_rfl)) ?_
  refine wpList_nil ?_
  refine then_n ?_
  by_cases q19 : x9 < (x1.length : Int)
  · replace M := ifp q19 M
    refine cond_t rfl (bt q19 (by kernel_rfl)) ?_
    refine wp_skip ?_
    refine then_n ?_
    refine wp_seq ?_
    refine wp_block ?_
    refine wp_seq ?_
    refine wp_region_lit ?_
    refine lv (d := 12) rfl rfl (by kernel_rfl) (e_move (v := .slice A2 x1.length c3) (by exact e10)) ?_
    refine lv (d := 13) rfl rfl (by kernel_rfl) (e_move (v := .int .i64 x9) (by exact e12)) ?_
    obtain ⟨q20, M⟩ := chk M
    obtain ⟨b21, o22, e23⟩ := Rd.addr h4 (show (x9).toNat < x1.length by omega)
    obtain ⟨y24, r25, k26⟩ := Rd.at h4 e23 (getD_some (0 : Int) (show (x9).toNat < x1.length by omega))
    obtain rfl := r25
    refine lv (d := 14) rfl rfl (by kernel_rfl) (e_indexAddr (b := b21) (off := o22) (n := x1.length) (c := c3) (sz := 1) (i := x9) (k := .i64) Try.underlying32 e23 (by kernel_rfl) (by kernel_rfl) (by kernel_rfl) q20 q19) ?_
    refine lv (d := 15) rfl rfl (by kernel_rfl) (e_load1 (ad := ⟨b21, o22 + (x9 : Int).toNat * 1, none⟩) (v := .int .i64 (x1.getD ((x9).toNat) (0 : Int))) Try.underlying3 rfl (by kernel_rfl) (hpx (S13.inv.cell (k26 0 _ rfl)))) ?_
    refine lv (d := 16) rfl rfl (by kernel_rfl) (e_move (v := .int .i64 x6) (by exact e11)) ?_
    refine lv (d := 17) rfl rfl (by kernel_rfl) (e_eql (k := .i64) (a := (x1.getD ((x9).toNat) (0 : Int))) (b := x6) (by kernel_rfl) (by kernel_rfl)) ?_
    refine wpList_nil ?_
    refine then_n ?_
    by_cases q27 : (x1.getD ((x9).toNat) (0 : Int)) = x6
    · replace M := ifp q27 M
      refine cond_t rfl (bt q27 (by kernel_rfl)) ?_
      refine wp_seq ?_
      refine wp_region_lit ?_
      refine lv (d := 18) rfl rfl (by kernel_rfl) (e_move (v := .int .i64 x9) (by exact e12)) ?_
      refine lv (d := 4) rfl rfl (by kernel_rfl) (e_assign (v := .int .i64 x9) (by kernel_rfl)) ?_
      refine wpList_nil ?_
      refine then_n ?_
      refine wp_ret ?_
      refine inb_r ?_
      refine then_r ?_
      refine then_r ?_
      refine inb_r ?_
      refine then_r ?_
      obtain rfl := Option.some.inj M
      exact ret1 rfl rfl  (show _ = .int .i64 x9 from (by kernel_rfl)) ⟨rfl, S13.chg⟩
    replace M := ifn q27 M
    refine cond_f rfl (bf q27 (by kernel_rfl)) ?_
    refine wp_skip ?_
    refine inb_n ?_
    refine then_n ?_
    refine wp_region_lit ?_
    refine lv (d := 10) rfl rfl (by kernel_rfl) (e_move (v := .int .i64 x9) (by exact e12)) ?_
    refine lv (d := 11) rfl rfl (by kernel_rfl) (e_add (k := .i64) (a := x9) (b := 1) (by kernel_rfl) rfl) ?_
    refine lv (d := 5) rfl rfl (by kernel_rfl) (e_assign (v := .int .i64 (IntKind.i64.wrap (x9 + 1))) (by kernel_rfl)) ?_
    refine wpList_nil ?_
    refine then_n ?_
    exact ⟨k18, (by omega), _, (IntKind.i64.wrap (x9 + 1)), rfl, (by exact e10), (by exact e11), (by kernel_rfl), S13, M⟩
  replace M := ifn q19 M
  refine cond_f rfl (bf q19 (by kernel_rfl)) ?_
  refine wp_exit ?_
  refine then_e ?_
  refine then_e ?_
  refine inb_hit ?_
  refine then_n ?_
  refine wp_seq ?_
  refine wp_region_lit ?_
  refine lv (d := 4) rfl rfl (by kernel_rfl) (e_assign (v := .int .i64 (-1)) rfl) ?_
  refine wpList_nil ?_
  refine then_n ?_
  refine wp_ret ?_
  obtain rfl := Option.some.inj M
  exact ret1 rfl rfl  (show _ = .int .i64 (-1) from (by kernel_rfl)) ⟨rfl, S13.chg⟩

/-! spec_l2vars -/
def spec_l2vars_2.l0 : Nat → (List Cell) → (List Int) → Int → Option (List Int)
  | 0, _, _, _ => none
  | k27 + 1, x1, x13, x18 => (if x18 < (x1.length : Int) then (if 0 ≤ x18 then (if ((x1.getD ((x18).toNat) z65).kind) = 0 then ((spec_l2find.f k27 x13 ((x1.getD ((x18).toNat) z65).n)).bind fun t51 => (if t51 < 0 then (if x13.length + 1 ≤ 17592186044416 then (spec_l2vars_2.l0 k27 x1 (x13 ++ [(x1.getD ((x18).toNat) z65).n]) (IntKind.i64.wrap (x18 + 1))) else none) else (spec_l2vars_2.l0 k27 x1 x13 (IntKind.i64.wrap (x18 + 1))))) else (spec_l2vars_2.l0 k27 x1 x13 (IntKind.i64.wrap (x18 + 1)))) else none) else some x13)
def spec_l2vars_2.f (k : Nat) (x1 : List Cell) (x6 : List Int) : Option (List Int) := (spec_l2vars_2.l0 k x1 x6 0)
theorem spec_l2vars_2.calls (k : Nat) (w : World) (H : Hp) (x1 : List Cell) (A2 : Option Addr) (c3 : Nat) (x6 : List Int) (A7 : Option Addr) (c8 : Nat) (F10 : Foot) (h4 : Rd st65 H A2 x1) (l5 : x1.length ≤ c3) (h9 : Row tInt 3 H (hp w) F10 A7 c8 x6) (S : Own [F10] H w) (r : List Int) (M : spec_l2vars_2.f k x1 x6 = some r) :
    Calls Try.prog 63 #[.slice A2 x1.length c3, .slice A7 x6.length c8] w (fun e e_w => ∃ (A_1 : Option Addr) (c_1 : Nat) (F_1 : Foot) (H_ : Hp), e = .returned (.slice A_1 r.length c_1) ∧ Row tInt 3 H_ (hp e_w) F_1 A_1 c_1 r ∧ St (anyOf [F10]) H w [F_1] H_ e_w) := by
  rw [spec_l2vars_2.f] at M
  refine enter (l := [.slice A2 x1.length c3, .slice A7 x6.length c8]) 37 Try.func63 rfl rfl rfl ?_
  have S0_ := S.st
  refine wp_seq ?_
  refine wp_region_lit ?_
  refine lv (d := 4) rfl rfl (by kernel_rfl) (e_assign (v := .slice none 0 0) rfl) ?_
  refine wpList_nil ?_
  refine then_n ?_
  refine wp_seq ?_
  refine wp_seq ?_
  refine wp_region_lit ?_
  refine lv (d := 5) rfl rfl (by kernel_rfl) (e_assign (v := .int .i64 0) rfl) ?_
  refine wpList_nil ?_
  refine then_n ?_
  refine wp_block ?_
  refine wp_loop_g (fun k25 a26 w11 => ∃ (f12 : Nat → Value) (x13 : List Int) (A14 : Option Addr) (c15 : Nat) (F16 : Foot) (x18 : Int), a26 = mk 37 f12 ∧ f12 0 = .slice A2 x1.length c3 ∧ f12 1 = .slice A14 x13.length c15 ∧ f12 5 = .int .i64 x18 ∧ Row tInt 3 H (hp w11) F16 A14 c15 x13 ∧ St (anyOf [F10]) H w [F16] H w11 ∧ spec_l2vars_2.l0 k25 x1 x13 x18 = some r) k ⟨_, x6, A7, c8, F10, 0, rfl, (by kernel_rfl), (by kernel_rfl), (by kernel_rfl), h9, S0_, M⟩ ?_
  clear M
  rintro k25 a26 w11 ⟨f12, x13, A14, c15, F16, x18, rfl, e19, e20, e21, h17, S22, M⟩
  rcases k25 with _ | k27
  · rw [spec_l2vars_2.l0] at M
    cases M
  rw [spec_l2vars_2.l0] at M
  refine wp_seq ?_
  refine wp_seq ?_
  refine wp_region_lit ?_
  refine lv (d := 6) rfl rfl (by kernel_rfl) (e_move (v := .int .i64 x18) (by exact e21)) ?_
  refine lv (d := 7) rfl rfl (by kernel_rfl) (e_move (v := .slice A2 x1.length c3) (by exact e19)) ?_
  refine lv (d := 8) rfl rfl (by kernel_rfl) (e_len (A := A2) (n := x1.length) (c := c3) Try.underlying25 (by kernel_rfl)) ?_
  refine lv (d := 9) rfl rfl (by kernel_rfl) (e_lss (k := .i64) (a := x18) (b := (x1.length : Int)) (by kernel_rfl) (by kernel_rfl)) ?_
  refine wpList_nil ?_
  refine then_n ?_
  by_cases q28 : x18 < (x1.length : Int)
  · replace M := ifp q28 M
    refine cond_t rfl (bt q28 (by kernel_rfl)) ?_
    refine wp_skip ?_
    refine then_n ?_
    refine wp_seq ?_
    refine wp_block ?_
    refine wp_seq ?_
    refine wp_region_lit ?_
    refine lv (d := 12) rfl rfl (by kernel_rfl) (e_move (v := .slice A2 x1.length c3) (by exact e19)) ?_
    refine lv (d := 13) rfl rfl (by kernel_rfl) (e_move (v := .int .i64 x18) (by exact e21)) ?_
    obtain ⟨q29, M⟩ := chk M
    obtain ⟨b30, o31, e32⟩ := Rd.addr h4 (show (x18).toNat < x1.length by omega)
    obtain ⟨y33, r34, k35⟩ := Rd.at h4 e32 (getD_some z65 (show (x18).toNat < x1.length by omega))
    obtain ⟨A36, c37, rfl, l38, h39⟩ := st65_open r34
    refine lv (d := 14) rfl rfl (by kernel_rfl) (e_indexAddr (b := b30) (off := o31) (n := x1.length) (c := c3) (sz := 3) (i := x18) (k := .i64) Try.underlying25 e32 (by kernel_rfl) (by kernel_rfl) (by kernel_rfl) q29 q28) ?_
    refine lv (d := 15) rfl rfl (by kernel_rfl) (e_fieldAddr (b := b30) (off := o31 + (x18 : Int).toNat * 3) (o := 0) Try.underlying65 rfl rfl (sz := 1) (by kernel_rfl) (by decide) (by kernel_rfl)) ?_
    refine lv (d := 16) rfl rfl (by kernel_rfl) (e_load1 (ad := ⟨b30, o31 + (x18 : Int).toNat * 3 + 0, none⟩) (v := .int .i64 ((x1.getD ((x18).toNat) z65).kind)) Try.underlying3 rfl (by kernel_rfl) (hpx (S22.inv.cell (k35 0 _ rfl)))) ?_
    refine lv (d := 17) rfl rfl (by kernel_rfl) (e_eql (k := .i64) (a := (x1.getD ((x18).toNat) z65).kind) (b := 0) (by kernel_rfl) rfl) ?_
    refine lv (d := 18) rfl rfl (by kernel_rfl) (e_move (v := .bool (decide (((x1.getD ((x18).toNat) z65).kind) = 0))) (by kernel_rfl)) ?_
    by_cases q40 : ((x1.getD ((x18).toNat) z65).kind) = 0
    · replace M := ifp q40 M
      refine lvg (d := 19) (t := 18) rfl (by kernel_rfl) rfl (bt q40 (by kernel_rfl)) rfl (by kernel_rfl) (e_move (v := .slice A14 x13.length c15) (by exact e20)) ?_
      refine lvg (d := 20) (t := 18) rfl (by kernel_rfl) rfl (bt q40 (by kernel_rfl)) rfl (by kernel_rfl) (e_move (v := .slice A2 x1.length c3) (by exact e19)) ?_
      refine lvg (d := 21) (t := 18) rfl (by kernel_rfl) rfl (bt q40 (by kernel_rfl)) rfl (by kernel_rfl) (e_move (v := .int .i64 x18) (by exact e21)) ?_
      obtain ⟨b41, o42, e43⟩ := Rd.addr h4 (show (x18).toNat < x1.length by omega)
      obtain ⟨y44, r45, k46⟩ := Rd.at h4 e43 (getD_some z65 (show (x18).toNat < x1.length by omega))
      obtain ⟨A47, c48, rfl, l49, h50⟩ := st65_open r45
      refine lvg (d := 22) (t := 18) rfl (by kernel_rfl) rfl (bt q40 (by kernel_rfl)) rfl (by kernel_rfl) (e_indexAddr (b := b41) (off := o42) (n := x1.length) (c := c3) (sz := 3) (i := x18) (k := .i64) Try.underlying25 e43 (by kernel_rfl) (by kernel_rfl) (by kernel_rfl) q29 q28) ?_
      refine lvg (d := 23) (t := 18) rfl (by kernel_rfl) rfl (bt q40 (by kernel_rfl)) rfl (by kernel_rfl) (e_fieldAddr (b := b41) (off := o42 + (x18 : Int).toNat * 3) (o := 1) Try.underlying65 rfl rfl (sz := 1) (by kernel_rfl) (by decide) (by kernel_rfl)) ?_
      refine lvg (d := 24) (t := 18) rfl (by kernel_rfl) rfl (bt q40 (by kernel_rfl)) rfl (by kernel_rfl) (e_load1 (ad := ⟨b41, o42 + (x18 : Int).toNat * 3 + 1, none⟩) (v := .int .i64 ((x1.getD ((x18).toNat) z65).n)) Try.underlying3 rfl (by kernel_rfl) (hpx (S22.inv.cell (k46 1 _ rfl)))) ?_
      obtain ⟨t51, u52, M⟩ := bnd M
      refine lcallg (d := 25) (t := 18) rfl (by kernel_rfl) rfl (bt q40 (by kernel_rfl)) rfl (by kernel_rfl) (e_call (l := [.tmp 19, .tmp 24]) (vs := [.slice A14 x13.length c15, .int .i64 ((x1.getD ((x18).toNat) z65).n)]) Try.func71 (by kernel_rfl) rfl (by kernel_rfl) rfl) (by have l53 := h17.le; obtain ⟨H54, S55, E56, h57, z58⟩ := S22.frzRow h17; exact (spec_l2find.calls k27 w11 H54 x13 A14 c15 ((x1.getD ((x18).toNat) z65).n) h57 l53 S55.own0 t51 u52)) ?_
      rintro _ w59 ⟨rfl, C60⟩
      refine ⟨_, rfl, ?_⟩
      obtain ⟨S61, K62⟩ := S22.still C60
      replace h17 := h17.move (K62.at 0 rfl)
      refine lvg (d := 26) (t := 18) rfl (by kernel_rfl) rfl (bt q40 (by kernel_rfl)) rfl (by kernel_rfl) (e_lss (k := .i64) (a := t51) (b := 0) (by kernel_rfl) rfl) ?_
      refine lv (d := 27) rfl rfl (by kernel_rfl) (e_pick_t (v := .bool (decide (t51 < 0))) (bt q40 (by kernel_rfl)) (by kernel_rfl)) ?_
      refine wpList_nil ?_
      refine then_n ?_
      by_cases q63 : t51 < 0
      · replace M := ifp q63 M
        refine cond_t rfl (bt q63 (by kernel_rfl)) ?_
        refine wp_region_lit ?_
        refine lv (d := 28) rfl rfl (by kernel_rfl) (e_move (v := .slice A14 x13.length c15) (by exact e20)) ?_
        refine lv (d := 29) rfl rfl (by kernel_rfl) (e_move (v := .slice A2 x1.length c3) (by exact e19)) ?_
        refine lv (d := 30) rfl rfl (by kernel_rfl) (e_move (v := .int .i64 x18) (by exact e21)) ?_
        obtain ⟨b64, o65, e66⟩ := Rd.addr h4 (show (x18).toNat < x1.length by omega)
        obtain ⟨y67, r68, k69⟩ := Rd.at h4 e66 (getD_some z65 (show (x18).toNat < x1.length by omega))
        obtain ⟨A70, c71, rfl, l72, h73⟩ := st65_open r68
        refine lv (d := 31) rfl rfl (by kernel_rfl) (e_indexAddr (b := b64) (off := o65) (n := x1.length) (c := c3) (sz := 3) (i := x18) (k := .i64) Try.underlying25 e66 (by kernel_rfl) (by kernel_rfl) (by kernel_rfl) q29 q28) ?_
        refine lv (d := 32) rfl rfl (by kernel_rfl) (e_fieldAddr (b := b64) (off := o65 + (x18 : Int).toNat * 3) (o := 1) Try.underlying65 rfl rfl (sz := 1) (by kernel_rfl) (by decide) (by kernel_rfl)) ?_
        refine lv (d := 33) rfl rfl (by kernel_rfl) (e_load1 (ad := ⟨b64, o65 + (x18 : Int).toNat * 3 + 1, none⟩) (v := .int .i64 ((x1.getD ((x18).toNat) z65).n)) Try.underlying3 rfl (by kernel_rfl) (hpx (S61.inv.cell (k69 1 _ rfl)))) ?_
        refine lve (d := 34) rfl rfl (by kernel_rfl) (new_blk (v := fun g_ => .slice (some ⟨g_, 0, none⟩) 1 1) (cs := #[.int .i64 ((x1.getD ((x18).toNat) z65).n)]) (t := 3) S61 (by kernel_rfl)) ?_
        rintro _ w74 ⟨g75, rfl, b76, S77, K78⟩
        replace h17 := h17.move (K78.at 0 rfl)
        obtain ⟨q79, M⟩ := chk M
        have S80 := S77.pull (F := F16) (Fr := [(is g75)]) 1 rfl rfl
        have S81 := S80.unit
        have S82 := S81.pull (F := F16) (Fr := [no, (is g75)]) 1 rfl rfl
        refine lve (d := 35) rfl rfl (by kernel_rfl) (e_append (d := tInt) (n := x13.length) (xs := x13) (cap := c15) (A := A14) (ys := [(x1.getD ((x18).toNat) z65).n]) (A2 := (some ⟨g75, 0, none⟩)) (c2 := 1) (z := .int .i64 0) (bytes := 8) S82 Try.underlying32 (by kernel_rfl) rfl (by decide) (by kernel_rfl) rfl (by kernel_rfl) h17 (elsO_one1 rfl) (.inr (blk_news b76 rfl)) (show (x13.length + [(x1.getD ((x18).toNat) z65).n].length) * 8 ≤ _ by first | omega | (simp only [List.length_cons, List.length_nil]; omega)) (by decide)) ?_
        rintro _ w83 ⟨A84, c85, F86, rfl, h87, S88, K89⟩
        replace b76 := K89.blk 0 rfl b76
        refine lv (d := 1) rfl rfl (by kernel_rfl) (e_assign (v := .slice A84 ((x13 ++ [(x1.getD ((x18).toNat) z65).n]).length) c85) (by kernel_rfl)) ?_
        refine wpList_nil ?_
        refine inb_n ?_
        refine then_n ?_
        refine wp_region_lit ?_
        refine lv (d := 10) rfl rfl (by kernel_rfl) (e_move (v := .int .i64 x18) (by exact e21)) ?_
        refine lv (d := 11) rfl rfl (by kernel_rfl) (e_add (k := .i64) (a := x18) (b := 1) (by kernel_rfl) rfl) ?_
        refine lv (d := 5) rfl rfl (by kernel_rfl) (e_assign (v := .int .i64 (IntKind.i64.wrap (x18 + 1))) (by kernel_rfl)) ?_
        refine wpList_nil ?_
        refine then_n ?_
        have S90 := St.first (Fa := [F86]) (Fr := [(is g75)]) S88
        exact ⟨k27, (by omega), _, (x13 ++ [(x1.getD ((x18).toNat) z65).n]), A84, c85, F86, (IntKind.i64.wrap (x18 + 1)), rfl, (by exact e19), (by kernel_rfl), (by kernel_rfl), h87, S90, M⟩
      replace M := ifn q63 M
      refine cond_f rfl (bf q63 (by kernel_rfl)) ?_
      refine wp_skip ?_
      refine inb_n ?_
      refine then_n ?_
      refine wp_region_lit ?_
      refine lv (d := 10) rfl rfl (by kernel_rfl) (e_move (v := .int .i64 x18) (by exact e21)) ?_
      refine lv (d := 11) rfl rfl (by kernel_rfl) (e_add (k := .i64) (a := x18) (b := 1) (by kernel_rfl) rfl) ?_
      refine lv (d := 5) rfl rfl (by kernel_rfl) (e_assign (v := .int .i64 (IntKind.i64.wrap (x18 + 1))) (by kernel_rfl)) ?_
      refine wpList_nil ?_
      refine then_n ?_
      exact ⟨k27, (by omega), _, x13, A14, c15, F16, (IntKind.i64.wrap (x18 + 1)), rfl, (by exact e19), (by exact e20), (by kernel_rfl), h17, S61, M⟩
    replace M := ifn q40 M
    refine lskip (t := 18) (c := false) rfl (by kernel_rfl) rfl (bf q40 (by kernel_rfl)) rfl rfl ?_
    refine lskip (t := 18) (c := false) rfl (by kernel_rfl) rfl (bf q40 (by kernel_rfl)) rfl rfl ?_
    refine lskip (t := 18) (c := false) rfl (by kernel_rfl) rfl (bf q40 (by kernel_rfl)) rfl rfl ?_
    refine lskip (t := 18) (c := false) rfl (by kernel_rfl) rfl (bf q40 (by kernel_rfl)) rfl rfl ?_
    refine lskip (t := 18) (c := false) rfl (by kernel_rfl) rfl (bf q40 (by kernel_rfl)) rfl rfl ?_
    refine lskip (t := 18) (c := false) rfl (by kernel_rfl) rfl (bf q40 (by kernel_rfl)) rfl rfl ?_
    refine lskip (t := 18) (c := false) rfl (by kernel_rfl) rfl (bf q40 (by kernel_rfl)) rfl rfl ?_
    refine lskip (t := 18) (c := false) rfl (by kernel_rfl) rfl (bf q40 (by kernel_rfl)) rfl rfl ?_
    refine lv (d := 27) rfl rfl (by kernel_rfl) (e_pick_f (v := .bool false) (bf q40 (by kernel_rfl)) rfl) ?_
    refine wpList_nil ?_
    refine then_n ?_
    refine cond_f rfl (by kernel_rfl) ?_
    refine wp_skip ?_
    refine inb_n ?_
    refine then_n ?_
    refine wp_region_lit ?_
    refine lv (d := 10) rfl rfl (by kernel_rfl) (e_move (v := .int .i64 x18) (by exact e21)) ?_
    refine lv (d := 11) rfl rfl (by kernel_rfl) (e_add (k := .i64) (a := x18) (b := 1) (by kernel_rfl) rfl) ?_
    refine lv (d := 5) rfl rfl (by kernel_rfl) (e_assign (v := .int .i64 (IntKind.i64.wrap (x18 + 1))) (by kernel_rfl)) ?_
    refine wpList_nil ?_
    refine then_n ?_
    exact ⟨k27, (by omega), _, x13, A14, c15, F16, (IntKind.i64.wrap (x18 + 1)), rfl, (by exact e19), (by exact e20), (by kernel_rfl), h17, S22, M⟩
  replace M := ifn q28 M
  refine cond_f rfl (bf q28 (by kernel_rfl)) ?_
  refine wp_exit ?_
  refine then_e ?_
  refine then_e ?_
  refine inb_hit ?_
  refine then_n ?_
  refine wp_seq ?_
  refine wp_region_lit ?_
  refine lv (d := 36) rfl rfl (by kernel_rfl) (e_move (v := .slice A14 x13.length c15) (by exact e20)) ?_
  refine lv (d := 4) rfl rfl (by kernel_rfl) (e_assign (v := .slice A14 x13.length c15) (by kernel_rfl)) ?_
  refine wpList_nil ?_
  refine then_n ?_
  refine wp_ret ?_
  obtain rfl := Option.some.inj M
  exact ret1 rfl rfl  (show _ = .slice A14 x13.length c15 from (by kernel_rfl)) ⟨A14, c15, F16, H, rfl, h17, S22⟩

/-! spec_TermVars -/
def spec_TermVars.f (k : Nat) (x1 : List Cell) : Option (List Int) := ((spec_ValidTerm.f k x1).bind fun t6 => (if ¬ (t6 = true) then some [] else ((spec_l2vars_2.f k x1 []).bind fun t15 => some t15)))
theorem spec_TermVars.calls (k : Nat) (w : World) (H : Hp) (x1 : List Cell) (A2 : Option Addr) (c3 : Nat) (h4 : Rd st65 H A2 x1) (l5 : x1.length ≤ c3) (S : Own [] H w) (r : List Int) (M : spec_TermVars.f k x1 = some r) :
    Calls Try.prog 21 #[.slice A2 x1.length c3] w (fun e e_w => ∃ (A_1 : Option Addr) (c_1 : Nat) (F_1 : Foot) (H_ : Hp), e = .returned (.slice A_1 r.length c_1) ∧ Row tInt 3 H_ (hp e_w) F_1 A_1 c_1 r ∧ St (anyOf []) H w [F_1] H_ e_w) := by
  rw [spec_TermVars.f] at M
  refine enter (l := [.slice A2 x1.length c3]) 8 Try.func21 rfl rfl rfl ?_
  have S0_ := S.st
  refine wp_seq ?_
  refine wp_region_lit ?_
  refine lv (d := 2) rfl rfl (by kernel_rfl) (e_assign (v := .slice none 0 0) rfl) ?_
  refine wpList_nil ?_
  refine then_n ?_
  refine wp_seq ?_
  refine wp_seq ?_
  refine wp_region_lit ?_
  refine lv (d := 3) rfl rfl (by kernel_rfl) (e_move (v := .slice A2 x1.length c3) (by kernel_rfl)) ?_
  obtain ⟨t6, u7, M⟩ := bnd M
  refine lcall (d := 4) rfl rfl (by kernel_rfl) (e_call (l := [.tmp 3]) (vs := [.slice A2 x1.length c3]) Try.func15 (by kernel_rfl) rfl (by kernel_rfl) rfl) (spec_ValidTerm.calls k w H x1 A2 c3 h4 l5 S0_.own0 t6 u7) ?_
  rintro _ w8 ⟨rfl, C9⟩
  refine ⟨_, rfl, ?_⟩
  obtain ⟨S10, K11⟩ := S0_.still C9
  refine lv (d := 5) rfl rfl (by kernel_rfl) (e_notv (c := t6) (by kernel_rfl)) ?_
  refine wpList_nil ?_
  refine then_n ?_
  by_cases q12 : ¬ (t6 = true)
  · replace M := ifp q12 M
    refine cond_t rfl (bt q12 (by kernel_rfl)) ?_
    refine wp_seq ?_
    refine wp_region_lit ?_
    refine lv (d := 2) rfl rfl (by kernel_rfl) (e_assign (v := .slice none 0 0) rfl) ?_
    refine wpList_nil ?_
    refine then_n ?_
    refine wp_ret ?_
    refine then_r ?_
    obtain rfl := Option.some.inj M
    have S13 := S10.unit
    exact ret1 rfl rfl  (show _ = .slice none 0 0 from (by kernel_rfl)) ⟨none, 0, no, H, rfl, (Row.nil _ _ _ _ no), S13⟩
  replace M := ifn q12 M
  refine cond_f rfl (bf q12 (by kernel_rfl)) ?_
  refine wp_skip ?_
  refine then_n ?_
  refine wp_seq ?_
  refine wp_region_lit ?_
  refine lv (d := 6) rfl rfl (by kernel_rfl) (e_move (v := .slice A2 x1.length c3) (by kernel_rfl)) ?_
  have S14 := S10.unit
  obtain ⟨t15, u16, M⟩ := bnd M
  refine lcall (d := 7) rfl rfl (by kernel_rfl) (e_call (l := [.tmp 6, .const (.slice none 0 0)]) (vs := [.slice A2 x1.length c3, .slice none 0 0]) Try.func63 (by kernel_rfl) rfl (by kernel_rfl) rfl) (spec_l2vars_2.calls k w8 H x1 A2 c3 [] none 0 no h4 l5 (Row.nil _ _ _ _ no) (St.own' (Fa := [no]) (Fr := []) S14) t15 u16) ?_
  rintro _ w17 ⟨A20, c21, F23, H18, rfl, h22, T19⟩
  refine ⟨_, rfl, ?_⟩
  obtain ⟨S24, K25⟩ := St.call (Fa := [no]) (Fr := []) S14 T19
  have E26 := T19.ext
  refine lv (d := 2) rfl rfl (by kernel_rfl) (e_assign (v := .slice A20 t15.length c21) (by kernel_rfl)) ?_
  refine wpList_nil ?_
  refine then_n ?_
  refine wp_ret ?_
  obtain rfl := Option.some.inj M
  exact ret1 rfl rfl  (show _ = .slice A20 t15.length c21 from (by kernel_rfl)) ⟨A20, c21, F23, H18, rfl, h22, S24⟩

/-! impl_cellOk -/
def impl_cellOk.f (x1 : Cell) : Option Bool := (if x1.kind = 0 then (if x1.n ≥ 0 then (if x1.n ≤ 1000000 then some (decide ((x1.text.length : Int) = 0)) else some false) else some false) else (if x1.kind = 1 then (if x1.n ≥ (-1000000000000000) then (if x1.n ≤ 1000000000000000 then some (decide ((x1.text.length : Int) = 0)) else some false) else some false) else (if x1.kind = 2 then (if x1.n = 0 then some (decide ((x1.text.length : Int) ≤ 100)) else some false) else (if x1.kind = 3 then (if x1.n ≥ 1 then (if x1.n ≤ 20 then some (decide ((x1.text.length : Int) ≤ 100)) else some false) else some false) else some false))))
theorem impl_cellOk.calls (w : World) (H : Hp) (x1 : Cell) (A2 : Option Addr) (c3 : Nat) (h4 : Rd tByte H A2 x1.text) (l5 : x1.text.length ≤ c3) (S : Own [] H w) (r : Bool) (M : impl_cellOk.f x1 = some r) :
    Calls Try.prog 58 #[.agg #[.int .i64 x1.kind, .int .i64 x1.n, .slice A2 x1.text.length c3]] w (fun e e_w => e = .returned (.bool r) ∧ Chg no w e_w) := by
  rw [impl_cellOk.f] at M
  refine enter (l := [.agg #[.int .i64 x1.kind, .int .i64 x1.n, .slice A2 x1.text.length c3]]) 64 Try.func58 rfl rfl rfl ?_
  have S0_ := S.st
  refine wp_seq ?_
  refine wp_region_lit ?_
  refine lve (d := 1) rfl rfl (by kernel_rfl) (new_blk (v := fun g_ => .pointer (some ⟨g_, 0, none⟩)) (cs := #[.int .i64 x1.kind, .int .i64 x1.n, .slice A2 x1.text.length c3]) (t := 65) S0_ (by kernel_rfl)) ?_
  rintro _ w6 ⟨g7, rfl, b8, S9, K10⟩
  refine lv (d := 2) rfl rfl (by kernel_rfl) (e_assign (v := .bool false) rfl) ?_
  refine wpList_nil ?_
  refine then_n ?_
  refine wp_seq ?_
  refine wp_seq ?_
  refine wp_region_lit ?_
  refine lv (d := 3) rfl rfl (by kernel_rfl) (e_fieldAddr (b := g7) (off := 0) (o := 0) Try.underlying65 rfl rfl (sz := 1) (by kernel_rfl) (by decide) (by kernel_rfl)) ?_
  refine lv (d := 4) rfl rfl (by kernel_rfl) (e_load1 (ad := ⟨g7, 0 + 0, none⟩) (v := .int .i64 x1.kind) Try.underlying3 rfl (by kernel_rfl) (blk_cell b8 rfl)) ?_
  refine wpList_nil ?_
  refine then_n ?_
  refine wp_block ?_
  refine wp_seq ?_
  refine wp_region_lit ?_
  refine lv (d := 6) rfl rfl (by kernel_rfl) (e_eql (k := .i64) (a := x1.kind) (b := 0) (by kernel_rfl) rfl) ?_
  refine lv (d := 5) rfl rfl (by kernel_rfl) (e_assign (v := .bool (decide (x1.kind = 0))) (by kernel_rfl)) ?_
  refine wpList_nil ?_
  refine then_n ?_
  by_cases q11 : x1.kind = 0
  · replace M := ifp q11 M
    refine cond_t rfl (bt q11 (by kernel_rfl)) ?_
    refine wp_seq ?_
    refine wp_region_lit ?_
    refine lv (d := 7) rfl rfl (by kernel_rfl) (e_fieldAddr (b := g7) (off := 0) (o := 1) Try.underlying65 rfl rfl (sz := 1) (by kernel_rfl) (by decide) (by kernel_rfl)) ?_
    refine lv (d := 8) rfl rfl (by kernel_rfl) (e_load1 (ad := ⟨g7, 0 + 1, none⟩) (v := .int .i64 x1.n) Try.underlying3 rfl (by kernel_rfl) (blk_cell b8 rfl)) ?_
    refine lv (d := 9) rfl rfl (by kernel_rfl) (e_geq (k := .i64) (a := x1.n) (b := 0) (by kernel_rfl) rfl) ?_
    refine lv (d := 10) rfl rfl (by kernel_rfl) (e_move (v := .bool (decide (x1.n ≥ 0))) (by kernel_rfl)) ?_
    by_cases q12 : x1.n ≥ 0
    · replace M := ifp q12 M
      refine lvg (d := 11) (t := 10) rfl (by kernel_rfl) rfl (bt q12 (by kernel_rfl)) rfl (by kernel_rfl) (e_fieldAddr (b := g7) (off := 0) (o := 1) Try.underlying65 rfl rfl (sz := 1) (by kernel_rfl) (by decide) (by kernel_rfl)) ?_
      refine lvg (d := 12) (t := 10) rfl (by kernel_rfl) rfl (bt q12 (by kernel_rfl)) rfl (by kernel_rfl) (e_load1 (ad := ⟨g7, 0 + 1, none⟩) (v := .int .i64 x1.n) Try.underlying3 rfl (by kernel_rfl) (blk_cell b8 rfl)) ?_
      refine lvg (d := 13) (t := 10) rfl (by kernel_rfl) rfl (bt q12 (by kernel_rfl)) rfl (by kernel_rfl) (e_leq (k := .i64) (a := x1.n) (b := 1000000) (by kernel_rfl) rfl) ?_
      refine lv (d := 14) rfl rfl (by kernel_rfl) (e_pick_t (v := .bool (decide (x1.n ≤ 1000000))) (bt q12 (by kernel_rfl)) (by kernel_rfl)) ?_
      refine lv (d := 15) rfl rfl (by kernel_rfl) (e_move (v := .bool (decide (x1.n ≤ 1000000))) (by kernel_rfl)) ?_
      by_cases q13 : x1.n ≤ 1000000
      · replace M := ifp q13 M
        refine lvg (d := 16) (t := 15) rfl (by kernel_rfl) rfl (bt q13 (by kernel_rfl)) rfl (by kernel_rfl) (e_fieldAddr (b := g7) (off := 0) (o := 2) Try.underlying65 rfl rfl (sz := 1) (by kernel_rfl) (by decide) (by kernel_rfl)) ?_
        refine lvg (d := 17) (t := 15) rfl (by kernel_rfl) rfl (bt q13 (by kernel_rfl)) rfl (by kernel_rfl) (e_load1 (ad := ⟨g7, 0 + 2, none⟩) (v := .slice A2 x1.text.length c3) Try.underlying59 rfl (by kernel_rfl) (blk_cell b8 rfl)) ?_
        refine lvg (d := 18) (t := 15) rfl (by kernel_rfl) rfl (bt q13 (by kernel_rfl)) rfl (by kernel_rfl) (e_len (A := A2) (n := x1.text.length) (c := c3) Try.underlying59 (by kernel_rfl)) ?_
        refine lvg (d := 19) (t := 15) rfl (by kernel_rfl) rfl (bt q13 (by kernel_rfl)) rfl (by kernel_rfl) (e_eql (k := .i64) (a := (x1.text.length : Int)) (b := 0) (by kernel_rfl) rfl) ?_
        refine lv (d := 20) rfl rfl (by kernel_rfl) (e_pick_t (v := .bool (decide ((x1.text.length : Int) = 0))) (bt q13 (by kernel_rfl)) (by kernel_rfl)) ?_
        refine lv (d := 2) rfl rfl (by kernel_rfl) (e_assign (v := .bool (decide ((x1.text.length : Int) = 0))) (by kernel_rfl)) ?_
        refine wpList_nil ?_
        refine then_n ?_
        refine wp_ret ?_
        refine inb_r ?_
        refine then_r ?_
        obtain rfl := Option.some.inj M
        exact ret1 rfl rfl  (show _ = .bool (decide ((x1.text.length : Int) = 0)) from (by kernel_rfl)) ⟨rfl, S9.chg⟩
      replace M := ifn q13 M
      refine lskip (t := 15) (c := false) rfl (by kernel_rfl) rfl (bf q13 (by kernel_rfl)) rfl rfl ?_
      refine lskip (t := 15) (c := false) rfl (by kernel_rfl) rfl (bf q13 (by kernel_rfl)) rfl rfl ?_
      refine lskip (t := 15) (c := false) rfl (by kernel_rfl) rfl (bf q13 (by kernel_rfl)) rfl rfl ?_
      refine lskip (t := 15) (c := false) rfl (by kernel_rfl) rfl (bf q13 (by kernel_rfl)) rfl rfl ?_
      refine lv (d := 20) rfl rfl (by kernel_rfl) (e_pick_f (v := .bool false) (bf q13 (by kernel_rfl)) rfl) ?_
      refine lv (d := 2) rfl rfl (by kernel_rfl) (e_assign (v := .bool false) (by kernel_rfl)) ?_
      refine wpList_nil ?_
      refine then_n ?_
      refine wp_ret ?_
      refine inb_r ?_
      refine then_r ?_
      obtain rfl := Option.some.inj M
      exact ret1 rfl rfl  (show _ = .bool false from (by kernel_rfl)) ⟨rfl, S9.chg⟩
    replace M := ifn q12 M
    refine lskip (t := 10) (c := false) rfl (by kernel_rfl) rfl (bf q12 (by kernel_rfl)) rfl rfl ?_
    refine lskip (t := 10) (c := false) rfl (by kernel_rfl) rfl (bf q12 (by kernel_rfl)) rfl rfl ?_
    refine lskip (t := 10) (c := false) rfl (by kernel_rfl) rfl (bf q12 (by kernel_rfl)) rfl rfl ?_
    refine lv (d := 14) rfl rfl (by kernel_rfl) (e_pick_f (v := .bool false) (bf q12 (by kernel_rfl)) rfl) ?_
    refine lv (d := 15) rfl rfl (by kernel_rfl) (e_move (v := .bool false) (by kernel_rfl)) ?_
    refine lskip (t := 15) (c := false) rfl (by kernel_rfl) rfl (by kernel_rfl) rfl rfl ?_
    refine lskip (t := 15) (c := false) rfl (by kernel_rfl) rfl (by kernel_rfl) rfl rfl ?_
    refine lskip (t := 15) (c := false) rfl (by kernel_rfl) rfl (by kernel_rfl) rfl rfl ?_
    refine lskip (t := 15) (c := false) rfl (by kernel_rfl) rfl (by kernel_rfl) rfl rfl ?_
    refine lv (d := 20) rfl rfl (by kernel_rfl) (e_pick_f (v := .bool false) (by kernel_rfl) rfl) ?_
    refine lv (d := 2) rfl rfl (by kernel_rfl) (e_assign (v := .bool false) (by kernel_rfl)) ?_
    refine wpList_nil ?_
    refine then_n ?_
    refine wp_ret ?_
    refine inb_r ?_
    refine then_r ?_
    obtain rfl := Option.some.inj M
    exact ret1 rfl rfl  (show _ = .bool false from (by kernel_rfl)) ⟨rfl, S9.chg⟩
  replace M := ifn q11 M
  refine cond_f rfl (bf q11 (by kernel_rfl)) ?_
  refine wp_seq ?_
  refine wp_region_lit ?_
  refine lv (d := 22) rfl rfl (by kernel_rfl) (e_eql (k := .i64) (a := x1.kind) (b := 1) (by kernel_rfl) rfl) ?_
  refine lv (d := 21) rfl rfl (by kernel_rfl) (e_assign (v := .bool (decide (x1.kind = 1))) (by kernel_rfl)) ?_
  refine wpList_nil ?_
  refine then_n ?_
  by_cases q14 : x1.kind = 1
  · replace M := ifp q14 M
    refine cond_t rfl (bt q14 (by kernel_rfl)) ?_
    refine wp_seq ?_
    refine wp_region_lit ?_
    refine lv (d := 23) rfl rfl (by kernel_rfl) (e_fieldAddr (b := g7) (off := 0) (o := 1) Try.underlying65 rfl rfl (sz := 1) (by kernel_rfl) (by decide) (by kernel_rfl)) ?_
    refine lv (d := 24) rfl rfl (by kernel_rfl) (e_load1 (ad := ⟨g7, 0 + 1, none⟩) (v := .int .i64 x1.n) Try.underlying3 rfl (by kernel_rfl) (blk_cell b8 rfl)) ?_
    refine lv (d := 25) rfl rfl (by kernel_rfl) (e_geq (k := .i64) (a := x1.n) (b := (-1000000000000000)) (by kernel_rfl) rfl) ?_
    refine lv (d := 26) rfl rfl (by kernel_rfl) (e_move (v := .bool (decide (x1.n ≥ (-1000000000000000)))) (by kernel_rfl)) ?_
    by_cases q15 : x1.n ≥ (-1000000000000000)
    · replace M := ifp q15 M
      refine lvg (d := 27) (t := 26) rfl (by kernel_rfl) rfl (bt q15 (by kernel_rfl)) rfl (by kernel_rfl) (e_fieldAddr (b := g7) (off := 0) (o := 1) Try.underlying65 rfl rfl (sz := 1) (by kernel_rfl) (by decide) (by kernel_rfl)) ?_
      refine lvg (d := 28) (t := 26) rfl (by kernel_rfl) rfl (bt q15 (by kernel_rfl)) rfl (by kernel_rfl) (e_load1 (ad := ⟨g7, 0 + 1, none⟩) (v := .int .i64 x1.n) Try.underlying3 rfl (by kernel_rfl) (blk_cell b8 rfl)) ?_
      refine lvg (d := 29) (t := 26) rfl (by kernel_rfl) rfl (bt q15 (by kernel_rfl)) rfl (by kernel_rfl) (e_leq (k := .i64) (a := x1.n) (b := 1000000000000000) (by kernel_rfl) rfl) ?_
      refine lv (d := 30) rfl rfl (by kernel_rfl) (e_pick_t (v := .bool (decide (x1.n ≤ 1000000000000000))) (bt q15 (by kernel_rfl)) (by kernel_rfl)) ?_
      refine lv (d := 31) rfl rfl (by kernel_rfl) (e_move (v := .bool (decide (x1.n ≤ 1000000000000000))) (by kernel_rfl)) ?_
      by_cases q16 : x1.n ≤ 1000000000000000
      · replace M := ifp q16 M
        refine lvg (d := 32) (t := 31) rfl (by kernel_rfl) rfl (bt q16 (by kernel_rfl)) rfl (by kernel_rfl) (e_fieldAddr (b := g7) (off := 0) (o := 2) Try.underlying65 rfl rfl (sz := 1) (by kernel_rfl) (by decide) (by kernel_rfl)) ?_
        refine lvg (d := 33) (t := 31) rfl (by kernel_rfl) rfl (bt q16 (by kernel_rfl)) rfl (by kernel_rfl) (e_load1 (ad := ⟨g7, 0 + 2, none⟩) (v := .slice A2 x1.text.length c3) Try.underlying59 rfl (by kernel_rfl) (blk_cell b8 rfl)) ?_
        refine lvg (d := 34) (t := 31) rfl (by kernel_rfl) rfl (bt q16 (by kernel_rfl)) rfl (by kernel_rfl) (e_len (A := A2) (n := x1.text.length) (c := c3) Try.underlying59 (by kernel_rfl)) ?_
        refine lvg (d := 35) (t := 31) rfl (by kernel_rfl) rfl (bt q16 (by kernel_rfl)) rfl (by kernel_rfl) (e_eql (k := .i64) (a := (x1.text.length : Int)) (b := 0) (by kernel_rfl) rfl) ?_
        refine lv (d := 36) rfl rfl (by kernel_rfl) (e_pick_t (v := .bool (decide ((x1.text.length : Int) = 0))) (bt q16 (by kernel_rfl)) (by kernel_rfl)) ?_
        refine lv (d := 2) rfl rfl (by kernel_rfl) (e_assign (v := .bool (decide ((x1.text.length : Int) = 0))) (by kernel_rfl)) ?_
        refine wpList_nil ?_
        refine then_n ?_
        refine wp_ret ?_
        refine inb_r ?_
        refine then_r ?_
        obtain rfl := Option.some.inj M
        exact ret1 rfl rfl  (show _ = .bool (decide ((x1.text.length : Int) = 0)) from (by kernel_rfl)) ⟨rfl, S9.chg⟩
      replace M := ifn q16 M
      refine lskip (t := 31) (c := false) rfl (by kernel_rfl) rfl (bf q16 (by kernel_rfl)) rfl rfl ?_
      refine lskip (t := 31) (c := false) rfl (by kernel_rfl) rfl (bf q16 (by kernel_rfl)) rfl rfl ?_
      refine lskip (t := 31) (c := false) rfl (by kernel_rfl) rfl (bf q16 (by kernel_rfl)) rfl rfl ?_
      refine lskip (t := 31) (c := false) rfl (by kernel_rfl) rfl (bf q16 (by kernel_rfl)) rfl rfl ?_
      refine lv (d := 36) rfl rfl (by kernel_rfl) (e_pick_f (v := .bool false) (bf q16 (by kernel_rfl)) rfl) ?_
      refine lv (d := 2) rfl rfl (by kernel_rfl) (e_assign (v := .bool false) (by kernel_rfl)) ?_
      refine wpList_nil ?_
      refine then_n ?_
      refine wp_ret ?_
      refine inb_r ?_
      refine then_r ?_
      obtain rfl := Option.some.inj M
      exact ret1 rfl rfl  (show _ = .bool false from (by kernel_rfl)) ⟨rfl, S9.chg⟩
    replace M := ifn q15 M
    refine lskip (t := 26) (c := false) rfl (by kernel_rfl) rfl (bf q15 (by kernel_rfl)) rfl rfl ?_
    refine lskip (t := 26) (c := false) rfl (by kernel_rfl) rfl (bf q15 (by kernel_rfl)) rfl rfl ?_
    refine lskip (t := 26) (c := false) rfl (by kernel_rfl) rfl (bf q15 (by kernel_rfl)) rfl rfl ?_
    refine lv (d := 30) rfl rfl (by kernel_rfl) (e_pick_f (v := .bool false) (bf q15 (by kernel_rfl)) rfl) ?_
    refine lv (d := 31) rfl rfl (by kernel_rfl) (e_move (v := .bool false) (by kernel_rfl)) ?_
    refine lskip (t := 31) (c := false) rfl (by kernel_rfl) rfl (by kernel_rfl) rfl rfl ?_
    refine lskip (t := 31) (c := false) rfl (by kernel_rfl) rfl (by kernel_rfl) rfl rfl ?_
    refine lskip (t := 31) (c := false) rfl (by kernel_rfl) rfl (by kernel_rfl) rfl rfl ?_
    refine lskip (t := 31) (c := false) rfl (by kernel_rfl) rfl (by kernel_rfl) rfl rfl ?_
    refine lv (d := 36) rfl rfl (by kernel_rfl) (e_pick_f (v := .bool false) (by kernel_rfl) rfl) ?_
    refine lv (d := 2) rfl rfl (by kernel_rfl) (e_assign (v := .bool false) (by kernel_rfl)) ?_
    refine wpList_nil ?_
    refine then_n ?_
    refine wp_ret ?_
    refine inb_r ?_
    refine then_r ?_
    obtain rfl := Option.some.inj M
    exact ret1 rfl rfl  (show _ = .bool false from (by kernel_rfl)) ⟨rfl, S9.chg⟩
  replace M := ifn q14 M
  refine cond_f rfl (bf q14 (by kernel_rfl)) ?_
  refine wp_seq ?_
  refine wp_region_lit ?_
  refine lv (d := 38) rfl rfl (by kernel_rfl) (e_eql (k := .i64) (a := x1.kind) (b := 2) (by kernel_rfl) rfl) ?_
  refine lv (d := 37) rfl rfl (by kernel_rfl) (e_assign (v := .bool (decide (x1.kind = 2))) (by kernel_rfl)) ?_
  refine wpList_nil ?_
  refine then_n ?_
  by_cases q17 : x1.kind = 2
  · replace M := ifp q17 M
    refine cond_t rfl (bt q17 (by kernel_rfl)) ?_
    refine wp_seq ?_
    refine wp_region_lit ?_
    refine lv (d := 39) rfl rfl (by kernel_rfl) (e_fieldAddr (b := g7) (off := 0) (o := 1) Try.underlying65 rfl rfl (sz := 1) (by kernel_rfl) (by decide) (by kernel_rfl)) ?_
    refine lv (d := 40) rfl rfl (by kernel_rfl) (e_load1 (ad := ⟨g7, 0 + 1, none⟩) (v := .int .i64 x1.n) Try.underlying3 rfl (by kernel_rfl) (blk_cell b8 rfl)) ?_
    refine lv (d := 41) rfl rfl (by kernel_rfl) (e_eql (k := .i64) (a := x1.n) (b := 0) (by kernel_rfl) rfl) ?_
    refine lv (d := 42) rfl rfl (by kernel_rfl) (e_move (v := .bool (decide (x1.n = 0))) (by kernel_rfl)) ?_
    by_cases q18 : x1.n = 0
    · replace M := ifp q18 M
      refine lvg (d := 43) (t := 42) rfl (by kernel_rfl) rfl (bt q18 (by kernel_rfl)) rfl (by kernel_rfl) (e_fieldAddr (b := g7) (off := 0) (o := 2) Try.underlying65 rfl rfl (sz := 1) (by kernel_rfl) (by decide) (by kernel_rfl)) ?_
      refine lvg (d := 44) (t := 42) rfl (by kernel_rfl) rfl (bt q18 (by kernel_rfl)) rfl (by kernel_rfl) (e_load1 (ad := ⟨g7, 0 + 2, none⟩) (v := .slice A2 x1.text.length c3) Try.underlying59 rfl (by kernel_rfl) (blk_cell b8 rfl)) ?_
      refine lvg (d := 45) (t := 42) rfl (by kernel_rfl) rfl (bt q18 (by kernel_rfl)) rfl (by kernel_rfl) (e_len (A := A2) (n := x1.text.length) (c := c3) Try.underlying59 (by kernel_rfl)) ?_
      refine lvg (d := 46) (t := 42) rfl (by kernel_rfl) rfl (bt q18 (by kernel_rfl)) rfl (by kernel_rfl) (e_leq (k := .i64) (a := (x1.text.length : Int)) (b := 100) (by kernel_rfl) rfl) ?_
      refine lv (d := 47) rfl rfl (by kernel_rfl) (e_pick_t (v := .bool (decide ((x1.text.length : Int) ≤ 100))) (bt q18 (by kernel_rfl)) (by kernel_rfl)) ?_
      refine lv (d := 2) rfl rfl (by kernel_rfl) (e_assign (v := .bool (decide ((x1.text.length : Int) ≤ 100))) (by kernel_rfl)) ?_
      refine wpList_nil ?_
      refine then_n ?_
      refine wp_ret ?_
      refine inb_r ?_
      refine then_r ?_
      obtain rfl := Option.some.inj M
      exact ret1 rfl rfl  (show _ = .bool (decide ((x1.text.length : Int) ≤ 100)) from (by kernel_rfl)) ⟨rfl, S9.chg⟩
    replace M := ifn q18 M
    refine lskip (t := 42) (c := false) rfl (by kernel_rfl) rfl (bf q18 (by kernel_rfl)) rfl rfl ?_
    refine lskip (t := 42) (c := false) rfl (by kernel_rfl) rfl (bf q18 (by kernel_rfl)) rfl rfl ?_
    refine lskip (t := 42) (c := false) rfl (by kernel_rfl) rfl (bf q18 (by kernel_rfl)) rfl rfl ?_
    refine lskip (t := 42) (c := false) rfl (by kernel_rfl) rfl (bf q18 (by kernel_rfl)) rfl rfl ?_
    refine lv (d := 47) rfl rfl (by kernel_rfl) (e_pick_f (v := .bool false) (bf q18 (by kernel_rfl)) rfl) ?_
    refine lv (d := 2) rfl rfl (by kernel_rfl) (e_assign (v := .bool false) (by kernel_rfl)) ?_
    refine wpList_nil ?_
    refine then_n ?_
    refine wp_ret ?_
    refine inb_r ?_
    refine then_r ?_
    obtain rfl := Option.some.inj M
    exact ret1 rfl rfl  (show _ = .bool false from (by kernel_rfl)) ⟨rfl, S9.chg⟩
  replace M := ifn q17 M
  refine cond_f rfl (bf q17 (by kernel_rfl)) ?_
  refine wp_seq ?_
  refine wp_region_lit ?_
  refine lv (d := 49) rfl rfl (by kernel_rfl) (e_eql (k := .i64) (a := x1.kind) (b := 3) (by kernel_rfl) rfl) ?_
  refine lv (d := 48) rfl rfl (by kernel_rfl) (e_assign (v := .bool (decide (x1.kind = 3))) (by kernel_rfl)) ?_
  refine wpList_nil ?_
  refine then_n ?_
  by_cases q19 : x1.kind = 3
  · replace M := ifp q19 M
    refine cond_t rfl (bt q19 (by kernel_rfl)) ?_
    refine wp_seq ?_
    refine wp_region_lit ?_
    refine lv (d := 50) rfl rfl (by kernel_rfl) (e_fieldAddr (b := g7) (off := 0) (o := 1) Try.underlying65 rfl rfl (sz := 1) (by kernel_rfl) (by decide) (by kernel_rfl)) ?_
    refine lv (d := 51) rfl rfl (by kernel_rfl) (e_load1 (ad := ⟨g7, 0 + 1, none⟩) (v := .int .i64 x1.n) Try.underlying3 rfl (by kernel_rfl) (blk_cell b8 rfl)) ?_
    refine lv (d := 52) rfl rfl (by kernel_rfl) (e_geq (k := .i64) (a := x1.n) (b := 1) (by kernel_rfl) rfl) ?_
    refine lv (d := 53) rfl rfl (by kernel_rfl) (e_move (v := .bool (decide (x1.n ≥ 1))) (by kernel_rfl)) ?_
    by_cases q20 : x1.n ≥ 1
    · replace M := ifp q20 M
      refine lvg (d := 54) (t := 53) rfl (by kernel_rfl) rfl (bt q20 (by kernel_rfl)) rfl (by kernel_rfl) (e_fieldAddr (b := g7) (off := 0) (o := 1) Try.underlying65 rfl rfl (sz := 1) (by kernel_rfl) (by decide) (by kernel_rfl)) ?_
      refine lvg (d := 55) (t := 53) rfl (by kernel_rfl) rfl (bt q20 (by kernel_rfl)) rfl (by kernel_rfl) (e_load1 (ad := ⟨g7, 0 + 1, none⟩) (v := .int .i64 x1.n) Try.underlying3 rfl (by kernel_rfl) (blk_cell b8 rfl)) ?_
      refine lvg (d := 56) (t := 53) rfl (by kernel_rfl) rfl (bt q20 (by kernel_rfl)) rfl (by kernel_rfl) (e_leq (k := .i64) (a := x1.n) (b := 20) (by kernel_rfl) rfl) ?_
      refine lv (d := 57) rfl rfl (by kernel_rfl) (e_pick_t (v := .bool (decide (x1.n ≤ 20))) (bt q20 (by kernel_rfl)) (by kernel_rfl)) ?_
      refine lv (d := 58) rfl rfl (by kernel_rfl) (e_move (v := .bool (decide (x1.n ≤ 20))) (by kernel_rfl)) ?_
      by_cases q21 : x1.n ≤ 20
      · replace M := ifp q21 M
        refine lvg (d := 59) (t := 58) rfl (by kernel_rfl) rfl (bt q21 (by kernel_rfl)) rfl (by kernel_rfl) (e_fieldAddr (b := g7) (off := 0) (o := 2) Try.underlying65 rfl rfl (sz := 1) (by kernel_rfl) (by decide) (by kernel_rfl)) ?_
        refine lvg (d := 60) (t := 58) rfl (by kernel_rfl) rfl (bt q21 (by kernel_rfl)) rfl (by kernel_rfl) (e_load1 (ad := ⟨g7, 0 + 2, none⟩) (v := .slice A2 x1.text.length c3) Try.underlying59 rfl (by kernel_rfl) (blk_cell b8 rfl)) ?_
        refine lvg (d := 61) (t := 58) rfl (by kernel_rfl) rfl (bt q21 (by kernel_rfl)) rfl (by kernel_rfl) (e_len (A := A2) (n := x1.text.length) (c := c3) Try.underlying59 (by kernel_rfl)) ?_
        refine lvg (d := 62) (t := 58) rfl (by kernel_rfl) rfl (bt q21 (by kernel_rfl)) rfl (by kernel_rfl) (e_leq (k := .i64) (a := (x1.text.length : Int)) (b := 100) (by kernel_rfl) rfl) ?_
        refine lv (d := 63) rfl rfl (by kernel_rfl) (e_pick_t (v := .bool (decide ((x1.text.length : Int) ≤ 100))) (bt q21 (by kernel_rfl)) (by kernel_rfl)) ?_
        refine lv (d := 2) rfl rfl (by kernel_rfl) (e_assign (v := .bool (decide ((x1.text.length : Int) ≤ 100))) (by kernel_rfl)) ?_
        refine wpList_nil ?_
        refine then_n ?_
        refine wp_ret ?_
        refine inb_r ?_
        refine then_r ?_
        obtain rfl := Option.some.inj M
        exact ret1 rfl rfl  (show _ = .bool (decide ((x1.text.length : Int) ≤ 100)) from (by kernel_rfl)) ⟨rfl, S9.chg⟩
      replace M := ifn q21 M
      refine lskip (t := 58) (c := false) rfl (by kernel_rfl) rfl (bf q21 (by kernel_rfl)) rfl rfl ?_
      refine lskip (t := 58) (c := false) rfl (by kernel_rfl) rfl (bf q21 (by kernel_rfl)) rfl rfl ?_
      refine lskip (t := 58) (c := false) rfl (by kernel_rfl) rfl (bf q21 (by kernel_rfl)) rfl rfl ?_
      refine lskip (t := 58) (c := false) rfl (by kernel_rfl) rfl (bf q21 (by kernel_rfl)) rfl rfl ?_
      refine lv (d := 63) rfl rfl (by kernel_rfl) (e_pick_f (v := .bool false) (bf q21 (by kernel_rfl)) rfl) ?_
      refine lv (d := 2) rfl rfl (by kernel_rfl) (e_assign (v := .bool false) (by kernel_rfl)) ?_
      refine wpList_nil ?_
      refine then_n ?_
      refine wp_ret ?_
      refine inb_r ?_
      refine then_r ?_
      obtain rfl := Option.some.inj M
      exact ret1 rfl rfl  (show _ = .bool false from (by kernel_rfl)) ⟨rfl, S9.chg⟩
    replace M := ifn q20 M
    refine lskip (t := 53) (c := false) rfl (by kernel_rfl) rfl (bf q20 (by kernel_rfl)) rfl rfl ?_
    refine lskip (t := 53) (c := false) rfl (by kernel_rfl) rfl (bf q20 (by kernel_rfl)) rfl rfl ?_
    refine lskip (t := 53) (c := false) rfl (by kernel_rfl) rfl (bf q20 (by kernel_rfl)) rfl rfl ?_
    refine lv (d := 57) rfl rfl (by kernel_rfl) (e_pick_f (v := .bool false) (bf q20 (by kernel_rfl)) rfl) ?_
    refine lv (d := 58) rfl rfl (by kernel_rfl) (e_move (v := .bool false) (by kernel_rfl)) ?_
    refine lskip (t := 58) (c := false) rfl (by kernel_rfl) rfl (by kernel_rfl) rfl rfl ?_
    refine lskip (t := 58) (c := false) rfl (by kernel_rfl) rfl (by kernel_rfl) rfl rfl ?_
    refine lskip (t := 58) (c := false) rfl (by kernel_rfl) rfl (by kernel_rfl) rfl rfl ?_
    refine lskip (t := 58) (c := false) rfl (by kernel_rfl) rfl (by kernel_rfl) rfl rfl ?_
    refine lv (d := 63) rfl rfl (by kernel_rfl) (e_pick_f (v := .bool false) (by kernel_rfl) rfl) ?_
    refine lv (d := 2) rfl rfl (by kernel_rfl) (e_assign (v := .bool false) (by kernel_rfl)) ?_
    refine wpList_nil ?_
    refine then_n ?_
    refine wp_ret ?_
    refine inb_r ?_
    refine then_r ?_
    obtain rfl := Option.some.inj M
    exact ret1 rfl rfl  (show _ = .bool false from (by kernel_rfl)) ⟨rfl, S9.chg⟩
  replace M := ifn q19 M
  refine cond_f rfl (bf q19 (by kernel_rfl)) ?_
  refine wp_skip ?_
  refine inb_n ?_
  refine then_n ?_
  refine wp_seq ?_
  refine wp_region_lit ?_
  refine lv (d := 2) rfl rfl (by kernel_rfl) (e_assign (v := .bool false) rfl) ?_
  refine wpList_nil ?_
  refine then_n ?_
  refine wp_ret ?_
  obtain rfl := Option.some.inj M
  exact ret1 rfl rfl  (show _ = .bool false from (by kernel_rfl)) ⟨rfl, S9.chg⟩

/-! impl_ValidTerm -/
def impl_ValidTerm.l0 : Nat → (List Cell) → Int → Int → Option Bool
  | 0, _, _, _ => none
  | k20 + 1, x1, x9, x10 => (if x10 < (x1.length : Int) then (if 0 ≤ x10 then (if x9 = 0 then some false else ((impl_cellOk.f (x1.getD ((x10).toNat) z65)).bind fun t43 => (if ¬ (t43 = true) then some false else (if ((x1.getD ((x10).toNat) z65).kind) = 3 then (impl_ValidTerm.l0 k20 x1 (IntKind.i64.wrap ((IntKind.i64.wrap (x9 - 1)) + ((x1.getD ((x10).toNat) z65).n))) (IntKind.i64.wrap (x10 + 1))) else (impl_ValidTerm.l0 k20 x1 (IntKind.i64.wrap (x9 - 1)) (IntKind.i64.wrap (x10 + 1))))))) else none) else some (decide (x9 = 0)))
def impl_ValidTerm.f (k : Nat) (x1 : List Cell) : Option Bool := (if (x1.length : Int) > 2000 then some false else (impl_ValidTerm.l0 k x1 1 0))
theorem impl_ValidTerm.calls (k : Nat) (w : World) (H : Hp) (x1 : List Cell) (A2 : Option Addr) (c3 : Nat) (h4 : Rd st65 H A2 x1) (l5 : x1.length ≤ c3) (S : Own [] H w) (r : Bool) (M : impl_ValidTerm.f k x1 = some r) :
    Calls Try.prog 17 #[.slice A2 x1.length c3] w (fun e e_w => e = .returned (.bool r) ∧ Chg no w e_w) := by
  rw [impl_ValidTerm.f] at M
  refine enter (l := [.slice A2 x1.length c3]) 34 Try.func17 rfl rfl rfl ?_
  have S0_ := S.st
  refine wp_seq ?_
  refine wp_region_lit ?_
  refine lv (d := 2) rfl rfl (by kernel_rfl) (e_assign (v := .bool false) rfl) ?_
  refine wpList_nil ?_
  refine then_n ?_
  refine wp_seq ?_
  refine wp_seq ?_
  refine wp_region_lit ?_
  refine lv (d := 6) rfl rfl (by kernel_rfl) (e_move (v := .slice A2 x1.length c3) (by kernel_rfl)) ?_
  refine lv (d := 7) rfl rfl (by kernel_rfl) (e_len (A := A2) (n := x1.length) (c := c3) Try.underlying25 (by kernel_rfl)) ?_
  refine lv (d := 8) rfl rfl (by kernel_rfl) (e_gtr (k := .i64) (a := (x1.length : Int)) (b := 2000) (by kernel_rfl) rfl) ?_
  refine wpList_nil ?_
  refine then_n ?_
  by_cases q6 : (x1.length : Int) > 2000
  · replace M := ifp q6 M
    refine cond_t rfl (bt q6 (by kernel_rfl)) ?_
    refine wp_seq ?_
    refine wp_region_lit ?_
    refine lv (d := 2) rfl rfl (by kernel_rfl) (e_assign (v := .bool false) rfl) ?_
    refine wpList_nil ?_
    refine then_n ?_
    refine wp_ret ?_
    refine then_r ?_
    obtain rfl := Option.some.inj M
    exact ret1 rfl rfl  (show _ = .bool false from (by kernel_rfl)) ⟨rfl, S0_.chg⟩
  replace M := ifn q6 M
  refine cond_f rfl (bf q6 (by kernel_rfl)) ?_
  refine wp_skip ?_
  refine then_n ?_
  refine wp_seq ?_
  refine wp_region_lit ?_
  refine lv (d := 3) rfl rfl (by kernel_rfl) (e_assign (v := .int .i64 1) rfl) ?_
  refine wpList_nil ?_
  refine then_n ?_
  refine wp_seq ?_
  refine wp_seq ?_
  refine wp_region_lit ?_
  refine lv (d := 9) rfl rfl (by kernel_rfl) (e_move (v := .slice A2 x1.length c3) (by kernel_rfl)) ?_
  refine lv (d := 10) rfl rfl (by kernel_rfl) (e_len (A := A2) (n := x1.length) (c := c3) Try.underlying25 (by kernel_rfl)) ?_
  refine lv (d := 11) rfl rfl (by kernel_rfl) (e_move (v := .int .i64 0) rfl) ?_
  refine wpList_nil ?_
  refine then_n ?_
  refine wp_block ?_
  refine wp_loop_g (fun k18 a19 w7 => ∃ (f8 : Nat → Value) (x9 : Int) (x10 : Int), a19 = mk 34 f8 ∧ f8 3 = .int .i64 x9 ∧ f8 9 = .slice A2 x1.length c3 ∧ f8 10 = .int .i64 (x1.length : Int) ∧ f8 11 = .int .i64 x10 ∧ St (anyOf []) H w [] H w7 ∧ impl_ValidTerm.l0 k18 x1 x9 x10 = some r) k ⟨_, 1, 0, rfl, (by kernel_rfl), (by kernel_rfl), (by kernel_rfl), (by kernel_rfl), S0_, M⟩ ?_
  clear M
  rintro k18 a19 w7 ⟨f8, x9, x10, rfl, e11, e12, e13, e14, S15, M⟩
  rcases k18 with _ | k20
  · rw [impl_ValidTerm.l0] at M
    cases M
  rw [impl_ValidTerm.l0] at M
  refine wp_seq ?_
  refine wp_region_lit ?_
  refine lv (d := 12) rfl rfl (by kernel_rfl) (e_lss (k := .i64) (a := x10) (b := (x1.length : Int)) (by exact e14) (by exact e13)) ?_
  refine wpList_nil ?_
  refine then_n ?_
  refine wp_seq ?_
  by_cases q21 : x10 < (x1.length : Int)
  · replace M := ifp q21 M
    refine cond_t rfl (bt q21 (by kernel_rfl)) ?_
    refine wp_skip ?_
    refine then_n ?_
    refine wp_seq ?_
    refine wp_block ?_
    refine wp_seq ?_
    refine wp_region_lit ?_
    obtain ⟨q22, M⟩ := chk M
    obtain ⟨b23, o24, e25⟩ := Rd.addr h4 (show (x10).toNat < x1.length by omega)
    obtain ⟨y26, r27, k28⟩ := Rd.at h4 e25 (getD_some z65 (show (x10).toNat < x1.length by omega))
    obtain ⟨A29, c30, rfl, l31, h32⟩ := st65_open r27
    refine lv (d := 13) rfl rfl (by kernel_rfl) (e_indexAddr (b := b23) (off := o24) (n := x1.length) (c := c3) (sz := 3) (i := x10) (k := .i64) Try.underlying25 e25 (by kernel_rfl) (by exact e12) (by exact e14) q22 q21) ?_
    refine lv (d := 14) rfl rfl (by kernel_rfl) (e_loadS (b := b23) (off := o24 + (x10 : Int).toNat * 3) (cs := [.int .i64 ((x1.getD ((x10).toNat) z65).kind), .int .i64 ((x1.getD ((x10).toNat) z65).n), .slice A29 ((x1.getD ((x10).toNat) z65).text).length c30]) Try.underlying65 rfl (by kernel_rfl) (by kernel_rfl) (fun j_ u_ e_ => (hpx (S15.inv.cell (k28 j_ u_ e_))))) ?_
    refine lve (d := 5) rfl rfl (by kernel_rfl) (new_blk (v := fun g_ => .pointer (some ⟨g_, 0, none⟩)) (cs := #[.int .i64 0, .int .i64 0, .slice none 0 0]) (t := 65) S15 (by kernel_rfl)) ?_
    rintro _ w33 ⟨g34, rfl, b35, S36, K37⟩
    refine lse rfl rfl (by kernel_rfl) (e_store (g := g34) (o := 0) (v := .agg #[.int .i64 ((x1.getD ((x10).toNat) z65).kind), .int .i64 ((x1.getD ((x10).toNat) z65).n), .slice A29 ((x1.getD ((x10).toNat) z65).text).length c30]) (cur' := #[.int .i64 ((x1.getD ((x10).toNat) z65).kind), .int .i64 ((x1.getD ((x10).toNat) z65).n), .slice A29 ((x1.getD ((x10).toNat) z65).text).length c30]) (vs := [.int .i64 ((x1.getD ((x10).toNat) z65).kind), .int .i64 ((x1.getD ((x10).toNat) z65).n), .slice A29 ((x1.getD ((x10).toNat) z65).text).length c30]) S36 (by kernel_rfl) (by kernel_rfl) rfl (by kernel_rfl) b35 (Nat.le_of_ble_eq_true rfl) (List.forall_mem_cons.2 ⟨rfl, (List.forall_mem_cons.2 ⟨rfl, (List.forall_mem_cons.2 ⟨rfl, (fun _ h_ => by cases h_)⟩)⟩)⟩) rfl) ?_
    rintro w38 ⟨b39, S40, K41⟩
    clear b35
    refine wpList_nil ?_
    refine then_n ?_
    refine wp_seq ?_
    refine wp_seq ?_
    refine wp_region_lit ?_
    refine lv (d := 15) rfl rfl (by kernel_rfl) (e_move (v := .int .i64 x9) (by exact e11)) ?_
    refine lv (d := 16) rfl rfl (by kernel_rfl) (e_eql (k := .i64) (a := x9) (b := 0) (by kernel_rfl) rfl) ?_
    refine lv (d := 17) rfl rfl (by kernel_rfl) (e_move (v := .bool (decide (x9 = 0))) (by kernel_rfl)) ?_
    by_cases q42 : x9 = 0
    · replace M := ifp q42 M
      refine lskip (t := 17) (c := true) rfl (by kernel_rfl) rfl (bt q42 (by kernel_rfl)) rfl rfl ?_
      refine lskip (t := 17) (c := true) rfl (by kernel_rfl) rfl (bt q42 (by kernel_rfl)) rfl rfl ?_
      refine lskip (t := 17) (c := true) rfl (by kernel_rfl) rfl (bt q42 (by kernel_rfl)) rfl rfl ?_
      refine lv (d := 21) rfl rfl (by kernel_rfl) (e_pick_t (v := .bool true) (bt q42 (by kernel_rfl)) rfl) ?_
      refine wpList_nil ?_
      refine then_n ?_
      refine cond_t rfl (by kernel_rfl) ?_
      refine wp_seq ?_
      refine wp_region_lit ?_
      refine lv (d := 2) rfl rfl (by kernel_rfl) (e_assign (v := .bool false) rfl) ?_
      refine wpList_nil ?_
      refine then_n ?_
      refine wp_ret ?_
      refine then_r ?_
      refine inb_r ?_
      refine then_r ?_
      refine then_r ?_
      refine inb_r ?_
      refine then_r ?_
      obtain rfl := Option.some.inj M
      exact ret1 rfl rfl  (show _ = .bool false from (by kernel_rfl)) ⟨rfl, S40.chg⟩
    replace M := ifn q42 M
    refine lvg (d := 18) (t := 17) rfl (by kernel_rfl) rfl (bf q42 (by kernel_rfl)) rfl (by kernel_rfl) (e_loadS (b := g34) (off := 0) (cs := [.int .i64 ((x1.getD ((x10).toNat) z65).kind), .int .i64 ((x1.getD ((x10).toNat) z65).n), .slice A29 ((x1.getD ((x10).toNat) z65).text).length c30]) Try.underlying65 rfl (by kernel_rfl) (by kernel_rfl) (blk_cells b39 rfl)) ?_
    obtain ⟨t43, u44, M⟩ := bnd M
    refine lcallg (d := 19) (t := 17) rfl (by kernel_rfl) rfl (bf q42 (by kernel_rfl)) rfl (by kernel_rfl) (e_call (l := [.tmp 18]) (vs := [.agg #[.int .i64 ((x1.getD ((x10).toNat) z65).kind), .int .i64 ((x1.getD ((x10).toNat) z65).n), .slice A29 ((x1.getD ((x10).toNat) z65).text).length c30]]) Try.func58 (by kernel_rfl) rfl (by kernel_rfl) rfl) (impl_cellOk.calls w38 H (x1.getD ((x10).toNat) z65) A29 c30 h32 l31 S40.own0 t43 u44) ?_
    rintro _ w45 ⟨rfl, C46⟩
    refine ⟨_, rfl, ?_⟩
    obtain ⟨S47, K48⟩ := S40.still C46
    replace b39 := K48.blk 0 rfl b39
    refine lvg (d := 20) (t := 17) rfl (by kernel_rfl) rfl (bf q42 (by kernel_rfl)) rfl (by kernel_rfl) (e_notv (c := t43) (by kernel_rfl)) ?_
    refine lv (d := 21) rfl rfl (by kernel_rfl) (e_pick_f (v := .bool (decide (¬ (t43 = true)))) (bf q42 (by kernel_rfl)) (by kernel_rfl)) ?_
    refine wpList_nil ?_
    refine then_n ?_
    by_cases q49 : ¬ (t43 = true)
    · replace M := ifp q49 M
      refine cond_t rfl (bt q49 (by kernel_rfl)) ?_
      refine wp_seq ?_
      refine wp_region_lit ?_
      refine lv (d := 2) rfl rfl (by kernel_rfl) (e_assign (v := .bool false) rfl) ?_
      refine wpList_nil ?_
      refine then_n ?_
      refine wp_ret ?_
      refine then_r ?_
      refine inb_r ?_
      refine then_r ?_
      refine then_r ?_
      refine inb_r ?_
      refine then_r ?_
      obtain rfl := Option.some.inj M
      exact ret1 rfl rfl  (show _ = .bool false from (by kernel_rfl)) ⟨rfl, S47.chg⟩
    replace M := ifn q49 M
    refine cond_f rfl (bf q49 (by kernel_rfl)) ?_
    refine wp_skip ?_
    refine then_n ?_
    refine wp_seq ?_
    refine wp_region_lit ?_
    refine lv (d := 22) rfl rfl (by kernel_rfl) (e_move (v := .int .i64 x9) (by exact e11)) ?_
    refine lv (d := 23) rfl rfl (by kernel_rfl) (e_sub (k := .i64) (a := x9) (b := 1) (by kernel_rfl) rfl) ?_
    refine lv (d := 3) rfl rfl (by kernel_rfl) (e_assign (v := .int .i64 (IntKind.i64.wrap (x9 - 1))) (by kernel_rfl)) ?_
    refine wpList_nil ?_
    refine then_n ?_
    refine wp_seq ?_
    refine wp_region_lit ?_
    refine lv (d := 24) rfl rfl (by kernel_rfl) (e_fieldAddr (b := g34) (off := 0) (o := 0) Try.underlying65 rfl rfl (sz := 1) (by kernel_rfl) (by decide) (by kernel_rfl)) ?_
    refine lv (d := 25) rfl rfl (by kernel_rfl) (e_load1 (ad := ⟨g34, 0 + 0, none⟩) (v := .int .i64 ((x1.getD ((x10).toNat) z65).kind)) Try.underlying3 rfl (by kernel_rfl) (blk_cell b39 rfl)) ?_
    refine lv (d := 26) rfl rfl (by kernel_rfl) (e_eql (k := .i64) (a := (x1.getD ((x10).toNat) z65).kind) (b := 3) (by kernel_rfl) rfl) ?_
    refine wpList_nil ?_
    refine then_n ?_
    by_cases q50 : ((x1.getD ((x10).toNat) z65).kind) = 3
    · replace M := ifp q50 M
      refine cond_t rfl (bt q50 (by kernel_rfl)) ?_
      refine wp_region_lit ?_
      refine lv (d := 27) rfl rfl (by kernel_rfl) (e_move (v := .int .i64 (IntKind.i64.wrap (x9 - 1))) (by kernel_rfl)) ?_
      refine lv (d := 28) rfl rfl (by kernel_rfl) (e_fieldAddr (b := g34) (off := 0) (o := 1) Try.underlying65 rfl rfl (sz := 1) (by kernel_rfl) (by decide) (by kernel_rfl)) ?_
      refine lv (d := 29) rfl rfl (by kernel_rfl) (e_load1 (ad := ⟨g34, 0 + 1, none⟩) (v := .int .i64 ((x1.getD ((x10).toNat) z65).n)) Try.underlying3 rfl (by kernel_rfl) (blk_cell b39 rfl)) ?_
      refine lv (d := 30) rfl rfl (by kernel_rfl) (e_add (k := .i64) (a := (IntKind.i64.wrap (x9 - 1))) (b := (x1.getD ((x10).toNat) z65).n) (by kernel_rfl) (by kernel_rfl)) ?_
      refine lv (d := 3) rfl rfl (by kernel_rfl) (e_assign (v := .int .i64 (IntKind.i64.wrap ((IntKind.i64.wrap (x9 - 1)) + ((x1.getD ((x10).toNat) z65).n)))) (by kernel_rfl)) ?_
      refine wpList_nil ?_
      refine inb_n ?_
      refine then_n ?_
      refine wp_region_lit ?_
      refine lv (d := 31) rfl rfl (by kernel_rfl) (e_add (k := .i64) (a := x10) (b := 1) (by exact e14) rfl) ?_
      refine lv (d := 11) rfl rfl (by kernel_rfl) (e_move (v := .int .i64 (IntKind.i64.wrap (x10 + 1))) (by kernel_rfl)) ?_
      refine wpList_nil ?_
      refine then_n ?_
      have S51 := St.first (Fa := []) (Fr := [(is g34)]) S47
      exact ⟨k20, (by omega), _, (IntKind.i64.wrap ((IntKind.i64.wrap (x9 - 1)) + ((x1.getD ((x10).toNat) z65).n))), (IntKind.i64.wrap (x10 + 1)), rfl, (by kernel_rfl), (by exact e12), (by exact e13), (by kernel_rfl), S51, M⟩
    replace M := ifn q50 M
    refine cond_f rfl (bf q50 (by kernel_rfl)) ?_
    refine wp_skip ?_
    refine inb_n ?_
    refine then_n ?_
    refine wp_region_lit ?_
    refine lv (d := 31) rfl rfl (by kernel_rfl) (e_add (k := .i64) (a := x10) (b := 1) (by exact e14) rfl) ?_
    refine lv (d := 11) rfl rfl (by kernel_rfl) (e_move (v := .int .i64 (IntKind.i64.wrap (x10 + 1))) (by kernel_rfl)) ?_
    refine wpList_nil ?_
    refine then_n ?_
    have S52 := St.first (Fa := []) (Fr := [(is g34)]) S47
    exact ⟨k20, (by omega), _, (IntKind.i64.wrap (x9 - 1)), (IntKind.i64.wrap (x10 + 1)), rfl, (by kernel_rfl), (by exact e12), (by exact e13), (by kernel_rfl), S52, M⟩
  replace M := ifn q21 M
  refine cond_f rfl (bf q21 (by kernel_rfl)) ?_
  refine wp_exit ?_
  refine then_e ?_
  refine then_e ?_
  refine inb_hit ?_
  refine then_n ?_
  refine wp_seq ?_
  refine wp_region_lit ?_
  refine lv (d := 32) rfl rfl (by kernel_rfl) (e_move (v := .int .i64 x9) (by exact e11)) ?_
  refine lv (d := 33) rfl rfl (by kernel_rfl) (e_eql (k := .i64) (a := x9) (b := 0) (by kernel_rfl) rfl) ?_
  refine lv (d := 2) rfl rfl (by kernel_rfl) (e_assign (v := .bool (decide (x9 = 0))) (by kernel_rfl)) ?_
  refine wpList_nil ?_
  refine then_n ?_
  refine wp_ret ?_
  obtain rfl := Option.some.inj M
  exact ret1 rfl rfl  (show _ = .bool (decide (x9 = 0)) from (by kernel_rfl)) ⟨rfl, S15.chg⟩

/-! impl_fromCells -/
mutual
def impl_fromCells.l0 : Nat → (List Cell) → (List Cell) → Int → (List Tm) → Option (Tm × (List Cell))
  | 0, _, _, _, _ => none
  | k61 + 1, x1, x41, x46, x47 => (if x46 < ((x1.getD 0 z65).n) then ((impl_fromCells.f k61 x41).bind fun t66 => (if x47.length + 1 ≤ 17592186044416 then (impl_fromCells.l0 k61 x1 t66.2 (IntKind.i64.wrap (x46 + 1)) (x47 ++ [t66.1])) else none)) else some ((Tm.mk ((x1.getD 0 z65).kind) ((x1.getD 0 z65).n) ((x1.getD 0 z65).text) x47), x41))
def impl_fromCells.f : Nat → (List Cell) → Option (Tm × (List Cell))
  | 0, _ => none
  | k1_ + 1, x1 => (if 0 < (x1.length : Int) then (if 1 ≤ (x1.length : Int) then (if ((x1.getD 0 z65).kind) = 3 then (impl_fromCells.l0 k1_ x1 (x1.drop ((1 : Int).toNat)) 0 []) else some ((Tm.mk ((x1.getD 0 z65).kind) ((x1.getD 0 z65).n) ((x1.getD 0 z65).text) []), (x1.drop ((1 : Int).toNat)))) else none) else none)
end
theorem impl_fromCells.all : ∀ (K : Nat), (∀ (k : Nat), k < K → ∀ (w : World) (H : Hp) (x1 : List Cell) (A2 : Option Addr) (c3 : Nat) (h4 : Rd st65 H A2 x1) (l5 : x1.length ≤ c3) (S : Own [] H w) (r : Tm × (List Cell)) (M : impl_fromCells.f k x1 = some r), Calls Try.prog 108 #[.slice A2 x1.length c3] w (fun e e_w => ∃ (g_1 : Nat) (A_1 : Option Addr) (c_1 : Nat) (H_ : Hp), e = .returned (.tuple #[.pointer (some ⟨g_1, 0, none⟩), .slice A_1 r.2.length c_1]) ∧ NodeR 125 H_ r.1 (.pointer (some ⟨g_1, 0, none⟩)) ∧ Rd st65 H_ A_1 r.2 ∧ r.2.length ≤ c_1 ∧ St (anyOf []) H w [] H_ e_w)) := by
  intro K
  induction K with
  | zero => intro k hk; omega
  | succ K ih =>
    intro k hk w H x1 A2 c3 h4 l5 S r M
    rcases k with _ | k1_
    · rw [impl_fromCells.f] at M
      cases M
    rw [impl_fromCells.f] at M
    refine enter (l := [.slice A2 x1.length c3]) 48 Try.func108 rfl rfl rfl ?_
    have S0_ := S.st
    refine wp_seq ?_
    refine wp_region_lit ?_
    refine lv (d := 2) rfl rfl (by kernel_rfl) (e_assign (v := .pointer none) rfl) ?_
    refine lv (d := 3) rfl rfl (by kernel_rfl) (e_assign (v := .slice none 0 0) rfl) ?_
    refine wpList_nil ?_
    refine then_n ?_
    refine wp_seq ?_
    refine wp_region_lit ?_
    refine lv (d := 8) rfl rfl (by kernel_rfl) (e_move (v := .slice A2 x1.length c3) (by kernel_rfl)) ?_
    obtain ⟨q6, M⟩ := chk M
    obtain ⟨b7, o8, e9⟩ := Rd.addr h4 (show 0 < x1.length by omega)
    obtain ⟨y10, r11, k12⟩ := Rd.at h4 e9 (getD_some z65 (show 0 < x1.length by omega))
    obtain ⟨A13, c14, rfl, l15, h16⟩ := st65_open r11
    refine lv (d := 9) rfl rfl (by kernel_rfl) (e_indexAddr (b := b7) (off := o8) (n := x1.length) (c := c3) (sz := 3) (i := 0) (k := .i64) Try.underlying25 e9 (by kernel_rfl) (by kernel_rfl) rfl (by omega) q6) ?_
    refine lv (d := 10) rfl rfl (by kernel_rfl) (e_loadS (b := b7) (off := o8 + (0 : Int).toNat * 3) (cs := [.int .i64 ((x1.getD 0 z65).kind), .int .i64 ((x1.getD 0 z65).n), .slice A13 ((x1.getD 0 z65).text).length c14]) Try.underlying65 rfl (by kernel_rfl) (by kernel_rfl) (fun j_ u_ e_ => (hpx (S0_.inv.cell (k12 j_ u_ e_))))) ?_
    refine lve (d := 4) rfl rfl (by kernel_rfl) (new_blk (v := fun g_ => .pointer (some ⟨g_, 0, none⟩)) (cs := #[.int .i64 0, .int .i64 0, .slice none 0 0]) (t := 65) S0_ (by kernel_rfl)) ?_
    rintro _ w17 ⟨g18, rfl, b19, S20, K21⟩
    refine lse rfl rfl (by kernel_rfl) (e_store (g := g18) (o := 0) (v := .agg #[.int .i64 ((x1.getD 0 z65).kind), .int .i64 ((x1.getD 0 z65).n), .slice A13 ((x1.getD 0 z65).text).length c14]) (cur' := #[.int .i64 ((x1.getD 0 z65).kind), .int .i64 ((x1.getD 0 z65).n), .slice A13 ((x1.getD 0 z65).text).length c14]) (vs := [.int .i64 ((x1.getD 0 z65).kind), .int .i64 ((x1.getD 0 z65).n), .slice A13 ((x1.getD 0 z65).text).length c14]) S20 (by kernel_rfl) (by kernel_rfl) rfl (by kernel_rfl) b19 (Nat.le_of_ble_eq_true rfl) (List.forall_mem_cons.2 ⟨rfl, (List.forall_mem_cons.2 ⟨rfl, (List.forall_mem_cons.2 ⟨rfl, (fun _ h_ => by cases h_)⟩)⟩)⟩) rfl) ?_
    rintro w22 ⟨b23, S24, K25⟩
    clear b19
    refine wpList_nil ?_
    refine then_n ?_
    refine wp_seq ?_
    refine wp_region_lit ?_
    refine lv (d := 11) rfl rfl (by kernel_rfl) (e_move (v := .slice A2 x1.length c3) (by kernel_rfl)) ?_
    obtain ⟨q26, M⟩ := chk M
    obtain ⟨A27, h30, l29, h28⟩ := Rd.sub1 (d := st65) (n := x1.length) (m := 3) (cap := c3) (a := 1) rfl h4 (by decide) q26 rfl l5
    refine lv (d := 12) rfl rfl (by kernel_rfl) (e_slice_l (n := x1.length) (m := 3) (cap := c3) (A := A2) (a := 1) (k := .i64) Try.underlying25 (by kernel_rfl) (by kernel_rfl) rfl (by decide) q26 l5 h30) ?_
    refine lv (d := 0) rfl rfl (by kernel_rfl) (e_assign (v := .slice A27 (x1.drop ((1 : Int).toNat)).length (c3 - ((1 : Int).toNat))) (by kernel_rfl)) ?_
    refine wpList_nil ?_
    refine then_n ?_
    refine wp_seq ?_
    refine wp_region_lit ?_
    refine lv (d := 13) rfl rfl (by kernel_rfl) (e_fieldAddr (b := g18) (off := 0) (o := 0) Try.underlying65 rfl rfl (sz := 1) (by kernel_rfl) (by decide) (by kernel_rfl)) ?_
    refine lv (d := 14) rfl rfl (by kernel_rfl) (e_load1 (ad := ⟨g18, 0 + 0, none⟩) (v := .int .i64 ((x1.getD 0 z65).kind)) Try.underlying3 rfl (by kernel_rfl) (blk_cell b23 rfl)) ?_
    refine lv (d := 15) rfl rfl (by kernel_rfl) (e_fieldAddr (b := g18) (off := 0) (o := 1) Try.underlying65 rfl rfl (sz := 1) (by kernel_rfl) (by decide) (by kernel_rfl)) ?_
    refine lv (d := 16) rfl rfl (by kernel_rfl) (e_load1 (ad := ⟨g18, 0 + 1, none⟩) (v := .int .i64 ((x1.getD 0 z65).n)) Try.underlying3 rfl (by kernel_rfl) (blk_cell b23 rfl)) ?_
    refine lv (d := 17) rfl rfl (by kernel_rfl) (e_fieldAddr (b := g18) (off := 0) (o := 2) Try.underlying65 rfl rfl (sz := 1) (by kernel_rfl) (by decide) (by kernel_rfl)) ?_
    refine lv (d := 18) rfl rfl (by kernel_rfl) (e_load1 (ad := ⟨g18, 0 + 2, none⟩) (v := .slice A13 ((x1.getD 0 z65).text).length c14) Try.underlying59 rfl (by kernel_rfl) (blk_cell b23 rfl)) ?_
    refine lv (d := 19) rfl rfl (by kernel_rfl) (e_conv_bs (A := A13) (n := ((x1.getD 0 z65).text).length) (c := c14) (xs := (x1.getD 0 z65).text) Try.underlying59 Try.underlying5 Try.underlying9 (by kernel_rfl) rfl (Rd.bytesE S24.inv h16)) ?_
    refine lv (d := 20) rfl rfl (by kernel_rfl) (show _ = Result.ok (Next.value (.agg #[.int .i64 ((x1.getD 0 z65).kind), .int .i64 ((x1.getD 0 z65).n), str ((x1.getD 0 z65).text), .slice none 0 0])) w22 from by kernel_rfl) ?_
    refine lve (d := 21) rfl rfl (by kernel_rfl) (new_blk (v := fun g_ => .pointer (some ⟨g_, 0, none⟩)) (cs := #[.int .i64 ((x1.getD 0 z65).kind), .int .i64 ((x1.getD 0 z65).n), str ((x1.getD 0 z65).text), .slice none 0 0]) (t := 125) S24 (by kernel_rfl)) ?_
    rintro _ w31 ⟨g32, rfl, b33, S34, K35⟩
    replace b23 := K35.blk 0 rfl b23
    refine lv (d := 5) rfl rfl (by kernel_rfl) (e_assign (v := .pointer (some ⟨g32, 0, none⟩)) (by kernel_rfl)) ?_
    refine wpList_nil ?_
    refine then_n ?_
    refine wp_seq ?_
    refine wp_seq ?_
    refine wp_region_lit ?_
    refine lv (d := 22) rfl rfl (by kernel_rfl) (e_fieldAddr (b := g18) (off := 0) (o := 0) Try.underlying65 rfl rfl (sz := 1) (by kernel_rfl) (by decide) (by kernel_rfl)) ?_
    refine lv (d := 23) rfl rfl (by kernel_rfl) (e_load1 (ad := ⟨g18, 0 + 0, none⟩) (v := .int .i64 ((x1.getD 0 z65).kind)) Try.underlying3 rfl (by kernel_rfl) (blk_cell b23 rfl)) ?_
    refine lv (d := 24) rfl rfl (by kernel_rfl) (e_eql (k := .i64) (a := (x1.getD 0 z65).kind) (b := 3) (by kernel_rfl) rfl) ?_
    refine wpList_nil ?_
    refine then_n ?_
    by_cases q36 : ((x1.getD 0 z65).kind) = 3
    · replace M := ifp q36 M
      refine cond_t rfl (bt q36 (by kernel_rfl)) ?_
      refine wp_seq ?_
      refine wp_region_lit ?_
      refine lv (d := 6) rfl rfl (by kernel_rfl) (e_assign (v := .int .i64 0) rfl) ?_
      refine wpList_nil ?_
      refine then_n ?_
      refine wp_block ?_
      have S62 := S34.unit
      have S63 := S62.pull (F := (is g18)) (Fr := [no, (is g32)]) 2 rfl rfl
      have S64 := S63.pull (F := (is g32)) (Fr := [(is g18), no]) 2 rfl rfl
      refine wp_loop_g (fun k59 a60 w37 => ∃ (f38 : Nat → Value) (H39 : Hp) (x41 : List Cell) (A42 : Option Addr) (c43 : Nat) (x46 : Int) (x47 : List Tm) (A48 : Option Addr) (c49 : Nat) (F50 : Foot), k59 < K ∧ a60 = mk 48 f38 ∧ f38 0 = .slice A42 x41.length c43 ∧ f38 4 = .pointer (some ⟨g18, 0, none⟩) ∧ f38 5 = .pointer (some ⟨g32, 0, none⟩) ∧ f38 6 = .int .i64 x46 ∧ w37.heap[g32]? = some (.cells #[.int .i64 ((x1.getD 0 z65).kind), .int .i64 ((x1.getD 0 z65).n), str ((x1.getD 0 z65).text), .slice A48 x47.length c49] 125 (0, 0)) ∧ w37.heap[g18]? = some (.cells #[.int .i64 ((x1.getD 0 z65).kind), .int .i64 ((x1.getD 0 z65).n), .slice A13 ((x1.getD 0 z65).text).length c14] 65 (0, 0)) ∧ Row (node 125) 74 H39 (hp w37) F50 A48 c49 x47 ∧ Rd st65 H39 A42 x41 ∧ x41.length ≤ c43 ∧ Ext H H39 ∧ St (anyOf []) H w [(is g32), (is g18), F50] H39 w37 ∧ impl_fromCells.l0 k59 x1 x41 x46 x47 = some r) k1_ ⟨_, H, (x1.drop ((1 : Int).toNat)), A27, (c3 - ((1 : Int).toNat)), 0, [], none, 0, no, (by omega), rfl, (by kernel_rfl), (by kernel_rfl), (by kernel_rfl), (by kernel_rfl), b33, b23, (Row.nil _ _ _ _ _), h28, l29, (Ext.refl _), S64, M⟩ ?_
      clear M
      rintro k59 a60 w37 ⟨f38, H39, x41, A42, c43, x46, x47, A48, c49, F50, z57, rfl, e52, e53, e54, e55, b33, b23, h51, h44, l45, Y40, S56, M⟩
      rcases k59 with _ | k61
      · rw [impl_fromCells.l0] at M
        cases M
      rw [impl_fromCells.l0] at M
      refine wp_seq ?_
      refine wp_seq ?_
      refine wp_region_lit ?_
      refine lv (d := 25) rfl rfl (by kernel_rfl) (e_move (v := .int .i64 x46) (by exact e55)) ?_
      refine lv (d := 26) rfl rfl (by kernel_rfl) (e_fieldAddr (b := g18) (off := 0) (o := 1) Try.underlying65 rfl rfl (sz := 1) (by kernel_rfl) (by decide) (by exact e53)) ?_
      refine lv (d := 27) rfl rfl (by kernel_rfl) (e_load1 (ad := ⟨g18, 0 + 1, none⟩) (v := .int .i64 ((x1.getD 0 z65).n)) Try.underlying3 rfl (by kernel_rfl) (blk_cell b23 rfl)) ?_
      refine lv (d := 28) rfl rfl (by kernel_rfl) (e_lss (k := .i64) (a := x46) (b := (x1.getD 0 z65).n) (by kernel_rfl) (by kernel_rfl)) ?_
      refine wpList_nil ?_
      refine then_n ?_
      by_cases q65 : x46 < ((x1.getD 0 z65).n)
      · replace M := ifp q65 M
        refine cond_t rfl (bt q65 (by kernel_rfl)) ?_
        refine wp_skip ?_
        refine then_n ?_
        refine wp_seq ?_
        refine wp_block ?_
        refine wp_seq ?_
        refine wp_region_lit ?_
        refine lv (d := 7) rfl rfl (by kernel_rfl) (e_assign (v := .pointer none) rfl) ?_
        refine wpList_nil ?_
        refine then_n ?_
        refine wp_seq ?_
        refine wp_region_lit ?_
        refine lv (d := 32) rfl rfl (by kernel_rfl) (e_move (v := .slice A42 x41.length c43) (by exact e52)) ?_
        obtain ⟨t66, u67, M⟩ := bnd M
        refine lcall (d := 33) rfl rfl (by kernel_rfl) (e_call (l := [.tmp 32]) (vs := [.slice A42 x41.length c43]) Try.func108 (by kernel_rfl) rfl (by kernel_rfl) rfl) (ih k61 (by omega) w37 H39 x41 A42 c43 h44 l45 (St.own' (Fa := []) (Fr := [(is g32), (is g18), F50]) S56) t66 u67) ?_
        rintro _ w68 ⟨g71, A73, c74, H69, rfl, h72, h75, l76, T70⟩
        refine ⟨_, rfl, ?_⟩
        obtain ⟨S77, K78⟩ := St.call (Fa := []) (Fr := [(is g32), (is g18), F50]) S56 T70
        replace b33 := K78.blk 0 rfl b33
        replace b23 := K78.blk 1 rfl b23
        replace h51 := h51.move (K78.at 2 rfl)
        have E79 := T70.ext
        replace h51 := h51.ext E79
        refine lv (d := 31) rfl rfl (by kernel_rfl) (e_move (v := .tuple #[.pointer (some ⟨g71, 0, none⟩), .slice A73 t66.2.length c74]) (by kernel_rfl)) ?_
        refine lv (d := 34) rfl rfl (by kernel_rfl) (e_extract (vs := #[.pointer (some ⟨g71, 0, none⟩), .slice A73 t66.2.length c74]) (v := .pointer (some ⟨g71, 0, none⟩)) (by kernel_rfl) rfl) ?_
        refine lv (d := 35) rfl rfl (by kernel_rfl) (e_extract (vs := #[.pointer (some ⟨g71, 0, none⟩), .slice A73 t66.2.length c74]) (v := .slice A73 t66.2.length c74) (by kernel_rfl) rfl) ?_
        refine lv (d := 7) rfl rfl (by kernel_rfl) (e_assign (v := .pointer (some ⟨g71, 0, none⟩)) (by kernel_rfl)) ?_
        refine lv (d := 0) rfl rfl (by kernel_rfl) (e_assign (v := .slice A73 t66.2.length c74) (by kernel_rfl)) ?_
        refine wpList_nil ?_
        refine then_n ?_
        refine wp_region_lit ?_
        refine lv (d := 36) rfl rfl (by kernel_rfl) (e_move (v := .pointer (some ⟨g32, 0, none⟩)) (by exact e54)) ?_
        refine lv (d := 37) rfl rfl (by kernel_rfl) (e_move (v := .pointer (some ⟨g32, 0, none⟩)) (by exact e54)) ?_
        refine lv (d := 38) rfl rfl (by kernel_rfl) (e_nilCheck (ad := ⟨g32, 0, none⟩) (by kernel_rfl)) ?_
        refine lv (d := 39) rfl rfl (by kernel_rfl) (e_fieldAddr (b := g32) (off := 0) (o := 3) Try.underlying125 rfl rfl (sz := 1) (by kernel_rfl) (by decide) (by kernel_rfl)) ?_
        refine lv (d := 40) rfl rfl (by kernel_rfl) (e_load1 (ad := ⟨g32, 0 + 3, none⟩) (v := .slice A48 x47.length c49) Try.underlying87 rfl (by kernel_rfl) (blk_cell b33 rfl)) ?_
        refine lv (d := 41) rfl rfl (by kernel_rfl) (e_move (v := .pointer (some ⟨g71, 0, none⟩)) (by kernel_rfl)) ?_
        refine lve (d := 42) rfl rfl (by kernel_rfl) (new_blk (v := fun g_ => .slice (some ⟨g_, 0, none⟩) 1 1) (cs := #[.pointer (some ⟨g71, 0, none⟩)]) (t := 74) S77 (by kernel_rfl)) ?_
        rintro _ w80 ⟨g81, rfl, b82, S83, K84⟩
        replace b33 := K84.blk 0 rfl b33
        replace b23 := K84.blk 1 rfl b23
        replace h51 := h51.move (K84.at 2 rfl)
        obtain ⟨q85, M⟩ := chk M
        have S86 := S83.pull (F := F50) (Fr := [(is g81), (is g32), (is g18)]) 3 rfl rfl
        have S87 := S86.unit
        have S88 := S87.pull (F := F50) (Fr := [no, (is g81), (is g32), (is g18)]) 1 rfl rfl
        refine lve (d := 43) rfl rfl (by kernel_rfl) (e_append (d := (node 125)) (n := x47.length) (xs := x47) (cap := c49) (A := A48) (ys := [t66.1]) (A2 := (some ⟨g81, 0, none⟩)) (c2 := 1) (z := .pointer none) (bytes := 8) S88 Try.underlying87 (by kernel_rfl) rfl (by decide) (by kernel_rfl) rfl (by kernel_rfl) h51 (elsO_one1 ⟨_, rfl, h72⟩) (.inr (blk_news b82 rfl)) (show (x47.length + [t66.1].length) * 8 ≤ _ by first | omega | (simp only [List.length_cons, List.length_nil]; omega)) (by decide)) ?_
        rintro _ w89 ⟨A90, c91, F92, rfl, h93, S94, K95⟩
        replace b82 := K95.blk 0 rfl b82
        replace b33 := K95.blk 1 rfl b33
        replace b23 := K95.blk 2 rfl b23
        refine lv (d := 44) rfl rfl (by kernel_rfl) (e_nilCheck (ad := ⟨g32, 0, none⟩) (by kernel_rfl)) ?_
        refine lv (d := 45) rfl rfl (by kernel_rfl) (e_fieldAddr (b := g32) (off := 0) (o := 3) Try.underlying125 rfl rfl (sz := 1) (by kernel_rfl) (by decide) (by kernel_rfl)) ?_
        have S96 := S94.pull (F := (is g32)) (Fr := [F92, (is g81), (is g18)]) 2 rfl rfl
        refine lse rfl rfl (by kernel_rfl) (e_store (g := g32) (o := 0 + 3) (v := .slice A90 ((x47 ++ [t66.1]).length) c91) (cur' := #[.int .i64 ((x1.getD 0 z65).kind), .int .i64 ((x1.getD 0 z65).n), str ((x1.getD 0 z65).text), .slice A90 ((x47 ++ [t66.1]).length) c91]) (vs := [.slice A90 ((x47 ++ [t66.1]).length) c91]) S96 (by kernel_rfl) (by kernel_rfl) rfl (by kernel_rfl) b33 (Nat.le_of_ble_eq_true rfl) (List.forall_mem_cons.2 ⟨rfl, (fun _ h_ => by cases h_)⟩) rfl) ?_
        rintro w97 ⟨b98, S99, K100⟩
        replace h93 := h93.move (K100.at 0 rfl)
        replace b82 := K100.blk 1 rfl b82
        replace b23 := K100.blk 2 rfl b23
        clear b33
        refine wpList_nil ?_
        refine inb_n ?_
        refine then_n ?_
        refine wp_region_lit ?_
        refine lv (d := 29) rfl rfl (by kernel_rfl) (e_move (v := .int .i64 x46) (by exact e55)) ?_
        refine lv (d := 30) rfl rfl (by kernel_rfl) (e_add (k := .i64) (a := x46) (b := 1) (by kernel_rfl) rfl) ?_
        refine lv (d := 6) rfl rfl (by kernel_rfl) (e_assign (v := .int .i64 (IntKind.i64.wrap (x46 + 1))) (by kernel_rfl)) ?_
        refine wpList_nil ?_
        refine then_n ?_
        have S101 := S99.pull (F := F92) (Fr := [(is g32), (is g81), (is g18)]) 1 rfl rfl
        have S102 := S101.pull (F := (is g18)) (Fr := [F92, (is g32), (is g81)]) 3 rfl rfl
        have S103 := S102.pull (F := (is g32)) (Fr := [(is g18), F92, (is g81)]) 2 rfl rfl
        have S104 := St.first (Fa := [(is g32), (is g18), F92]) (Fr := [(is g81)]) S103
        exact ⟨k61, (by omega), _, H69, t66.2, A73, c74, (IntKind.i64.wrap (x46 + 1)), (x47 ++ [t66.1]), A90, c91, F92, (by omega), rfl, (by kernel_rfl), (by exact e53), (by exact e54), (by kernel_rfl), b98, b23, h93, h75, l76, (Y40.trans E79), S104, M⟩
      replace M := ifn q65 M
      refine cond_f rfl (bf q65 (by kernel_rfl)) ?_
      refine wp_exit ?_
      refine then_e ?_
      refine then_e ?_
      refine inb_hit ?_
      refine then_n ?_
      refine wp_seq ?_
      refine wp_region_lit ?_
      refine lv (d := 46) rfl rfl (by kernel_rfl) (e_move (v := .pointer (some ⟨g32, 0, none⟩)) (by exact e54)) ?_
      refine lv (d := 47) rfl rfl (by kernel_rfl) (e_move (v := .slice A42 x41.length c43) (by exact e52)) ?_
      refine lv (d := 2) rfl rfl (by kernel_rfl) (e_assign (v := .pointer (some ⟨g32, 0, none⟩)) (by kernel_rfl)) ?_
      refine lv (d := 3) rfl rfl (by kernel_rfl) (e_assign (v := .slice A42 x41.length c43) (by kernel_rfl)) ?_
      refine wpList_nil ?_
      refine then_n ?_
      refine wp_ret ?_
      have l105 := h51.le
      have S106 := S56.pull (F := F50) (Fr := [(is g32), (is g18)]) 2 rfl rfl
      obtain ⟨H107, S108, E109, h110, z111⟩ := S106.frzRow h51
      obtain ⟨H112, S113, E114, h115, z116⟩ := S108.frzBlk b33
      have h117 : NodeR 125 H112 (Tm.mk ((x1.getD 0 z65).kind) ((x1.getD 0 z65).n) ((x1.getD 0 z65).text) x47) (.pointer (some ⟨g32, 0, none⟩)) := node_mk (A := A48) (c := c49) h115 rfl l105 (h110.ext E114)
      obtain rfl := Option.some.inj M
      have S118 := St.first (Fa := []) (Fr := [(is g18)]) S113
      exact ret2 rfl rfl rfl (show _ = .pointer (some ⟨g32, 0, none⟩) from (by kernel_rfl)) (show _ = .slice A42 x41.length c43 from (by kernel_rfl)) ⟨g32, A42, c43, H112, rfl, h117, (h44.ext (E109.trans E114)), l45, S118⟩
    replace M := ifn q36 M
    refine cond_f rfl (bf q36 (by kernel_rfl)) ?_
    refine wp_skip ?_
    refine then_n ?_
    refine wp_seq ?_
    refine wp_region_lit ?_
    refine lv (d := 46) rfl rfl (by kernel_rfl) (e_move (v := .pointer (some ⟨g32, 0, none⟩)) (by kernel_rfl)) ?_
    refine lv (d := 47) rfl rfl (by kernel_rfl) (e_move (v := .slice A27 (x1.drop ((1 : Int).toNat)).length (c3 - ((1 : Int).toNat))) (by kernel_rfl)) ?_
    refine lv (d := 2) rfl rfl (by kernel_rfl) (e_assign (v := .pointer (some ⟨g32, 0, none⟩)) (by kernel_rfl)) ?_
    refine lv (d := 3) rfl rfl (by kernel_rfl) (e_assign (v := .slice A27 (x1.drop ((1 : Int).toNat)).length (c3 - ((1 : Int).toNat))) (by kernel_rfl)) ?_
    refine wpList_nil ?_
    refine then_n ?_
    refine wp_ret ?_
    obtain ⟨H119, S120, E121, h122, z123⟩ := S34.frzBlk b33
    have h124 : NodeR 125 H119 (Tm.mk ((x1.getD 0 z65).kind) ((x1.getD 0 z65).n) ((x1.getD 0 z65).text) []) (.pointer (some ⟨g32, 0, none⟩)) := node_mk (A := none) (c := 0) h122 rfl (Nat.le_refl _) (Rd.nil _ _ _)
    obtain rfl := Option.some.inj M
    have S125 := St.first (Fa := []) (Fr := [(is g18)]) S120
    exact ret2 rfl rfl rfl (show _ = .pointer (some ⟨g32, 0, none⟩) from (by kernel_rfl)) (show _ = .slice A27 (x1.drop ((1 : Int).toNat)).length (c3 - ((1 : Int).toNat)) from (by kernel_rfl)) ⟨g32, A27, (c3 - ((1 : Int).toNat)), H119, rfl, h124, (h28.ext E121), l29, S125⟩
theorem impl_fromCells.calls (k : Nat) (w : World) (H : Hp) (x1 : List Cell) (A2 : Option Addr) (c3 : Nat) (h4 : Rd st65 H A2 x1) (l5 : x1.length ≤ c3) (S : Own [] H w) (r : Tm × (List Cell)) (M : impl_fromCells.f k x1 = some r) :
    Calls Try.prog 108 #[.slice A2 x1.length c3] w (fun e e_w => ∃ (g_1 : Nat) (A_1 : Option Addr) (c_1 : Nat) (H_ : Hp), e = .returned (.tuple #[.pointer (some ⟨g_1, 0, none⟩), .slice A_1 r.2.length c_1]) ∧ NodeR 125 H_ r.1 (.pointer (some ⟨g_1, 0, none⟩)) ∧ Rd st65 H_ A_1 r.2 ∧ r.2.length ≤ c_1 ∧ St (anyOf []) H w [] H_ e_w) := (impl_fromCells.all (k + 1)) k (Nat.lt_succ_self k) w H x1 A2 c3 h4 l5 S r M

/-! impl_tree -/
def impl_tree.f (k : Nat) (x1 : List Cell) : Option Tm := ((impl_fromCells.f k x1).bind fun t6 => some t6.1)
theorem impl_tree.calls (k : Nat) (w : World) (H : Hp) (x1 : List Cell) (A2 : Option Addr) (c3 : Nat) (h4 : Rd st65 H A2 x1) (l5 : x1.length ≤ c3) (S : Own [] H w) (r : Tm) (M : impl_tree.f k x1 = some r) :
    Calls Try.prog 62 #[.slice A2 x1.length c3] w (fun e e_w => ∃ (g_1 : Nat) (H_ : Hp), e = .returned (.pointer (some ⟨g_1, 0, none⟩)) ∧ NodeR 125 H_ r (.pointer (some ⟨g_1, 0, none⟩)) ∧ St (anyOf []) H w [] H_ e_w) := by
  rw [impl_tree.f] at M
  refine enter (l := [.slice A2 x1.length c3]) 11 Try.func62 rfl rfl rfl ?_
  have S0_ := S.st
  refine wp_seq ?_
  refine wp_region_lit ?_
  refine lv (d := 2) rfl rfl (by kernel_rfl) (e_assign (v := .pointer none) rfl) ?_
  refine wpList_nil ?_
  refine then_n ?_
  refine wp_seq ?_
  refine wp_region_lit ?_
  refine lv (d := 6) rfl rfl (by kernel_rfl) (e_move (v := .slice A2 x1.length c3) (by kernel_rfl)) ?_
  obtain ⟨t6, u7, M⟩ := bnd M
  refine lcall (d := 7) rfl rfl (by kernel_rfl) (e_call (l := [.tmp 6]) (vs := [.slice A2 x1.length c3]) Try.func108 (by kernel_rfl) rfl (by kernel_rfl) rfl) (impl_fromCells.calls k w H x1 A2 c3 h4 l5 (St.own' (Fa := []) (Fr := []) S0_) t6 u7) ?_
  rintro _ w8 ⟨g11, A13, c14, H9, rfl, h12, h15, l16, T10⟩
  refine ⟨_, rfl, ?_⟩
  obtain ⟨S17, K18⟩ := St.call (Fa := []) (Fr := []) S0_ T10
  have E19 := T10.ext
  refine lv (d := 5) rfl rfl (by kernel_rfl) (e_move (v := .tuple #[.pointer (some ⟨g11, 0, none⟩), .slice A13 t6.2.length c14]) (by kernel_rfl)) ?_
  refine lv (d := 8) rfl rfl (by kernel_rfl) (e_extract (vs := #[.pointer (some ⟨g11, 0, none⟩), .slice A13 t6.2.length c14]) (v := .pointer (some ⟨g11, 0, none⟩)) (by kernel_rfl) rfl) ?_
  refine lv (d := 9) rfl rfl (by kernel_rfl) (e_extract (vs := #[.pointer (some ⟨g11, 0, none⟩), .slice A13 t6.2.length c14]) (v := .slice A13 t6.2.length c14) (by kernel_rfl) rfl) ?_
  refine lv (d := 3) rfl rfl (by kernel_rfl) (e_assign (v := .pointer (some ⟨g11, 0, none⟩)) (by kernel_rfl)) ?_
  refine lv (d := 4) rfl rfl (by kernel_rfl) (e_assign (v := .slice A13 t6.2.length c14) (by kernel_rfl)) ?_
  refine wpList_nil ?_
  refine then_n ?_
  refine wp_seq ?_
  refine wp_region_lit ?_
  refine lv (d := 10) rfl rfl (by kernel_rfl) (e_move (v := .pointer (some ⟨g11, 0, none⟩)) (by kernel_rfl)) ?_
  refine lv (d := 2) rfl rfl (by kernel_rfl) (e_assign (v := .pointer (some ⟨g11, 0, none⟩)) (by kernel_rfl)) ?_
  refine wpList_nil ?_
  refine then_n ?_
  refine wp_ret ?_
  obtain rfl := Option.some.inj M
  exact ret1 rfl rfl  (show _ = .pointer (some ⟨g11, 0, none⟩) from (by kernel_rfl)) ⟨g11, H9, rfl, h12, S17⟩

/-! impl_node_vars -/
mutual
def impl_node_vars_2.l0 : Nat → Tm → (List Int) → (List (Int × Bool)) → Option ((List Int) × (List (Int × Bool)))
  | 0, _, _, _ => none
  | k27 + 1, x1, x14, x19 => (impl_node_vars_2.l1 k27 x1 x14 0 x19)
def impl_node_vars_2.l1 : Nat → Tm → (List Int) → Int → (List (Int × Bool)) → Option ((List Int) × (List (Int × Bool)))
  | 0, _, _, _, _ => none
  | k90 + 1, x1, x73, x78, x79 => (if x78 < (x1.args.length : Int) then (if 0 ≤ x78 then ((impl_node_vars_2.f k90 (x1.args.getD ((x78).toNat) (Tm.mk 0 0 [] [])) x79 x73).bind fun t104 => (impl_node_vars_2.l1 k90 x1 t104.1 (IntKind.i64.wrap (x78 + 1)) t104.2)) else none) else some (x73, x79))
def impl_node_vars_2.f : Nat → Tm → (List (Int × Bool)) → (List Int) → Option ((List Int) × (List (Int × Bool)))
  | 0, _, _, _ => none
  | k1_ + 1, x1, x4, x7 => (if x1.kind = 0 then (if ¬ (((mget x4 x1.n).getD false) = true) then (if x7.length + 1 ≤ 17592186044416 then (impl_node_vars_2.l0 k1_ x1 (x7 ++ [x1.n]) (mset x4 x1.n true)) else none) else (impl_node_vars_2.l0 k1_ x1 x7 x4)) else (impl_node_vars_2.l0 k1_ x1 x7 x4))
end
theorem impl_node_vars_2.all : ∀ (K : Nat), (∀ (k : Nat), k < K → ∀ (w : World) (H : Hp) (x1 : Tm) (g2 : Nat) (x4 : List (Int × Bool)) (g5 : Nat) (x7 : List Int) (A8 : Option Addr) (c9 : Nat) (F11 : Foot) (h3 : NodeR 125 H x1 (.pointer (some ⟨g2, 0, none⟩))) (h6 : MapO encI tBool H (hp w) g5 x4) (h10 : Row tInt 3 H (hp w) F11 A8 c9 x7) (S : Own [(is g5), F11] H w) (r : (List Int) × (List (Int × Bool))) (M : impl_node_vars_2.f k x1 x4 x7 = some r), Calls Try.prog 109 #[.pointer (some ⟨g2, 0, none⟩), .map (some g5), .slice A8 x7.length c9] w (fun e e_w => ∃ (A_1 : Option Addr) (c_1 : Nat) (F_1 : Foot) (H_ : Hp), e = .returned (.slice A_1 r.1.length c_1) ∧ MapO encI tBool H_ (hp e_w) g5 r.2 ∧ Row tInt 3 H_ (hp e_w) F_1 A_1 c_1 r.1 ∧ St (anyOf [(is g5), F11]) H w [(is g5), F_1] H_ e_w)) := by
  intro K
  induction K with
  | zero => intro k hk; omega
  | succ K ih =>
    intro k hk w H x1 g2 x4 g5 x7 A8 c9 F11 h3 h6 h10 S r M
    rcases k with _ | k1_
    · rw [impl_node_vars_2.f] at M
      cases M
    rw [impl_node_vars_2.f] at M
    refine enter (l := [.pointer (some ⟨g2, 0, none⟩), .map (some g5), .slice A8 x7.length c9]) 50 Try.func109 rfl rfl rfl ?_
    have S0_ := S.st
    refine wp_seq ?_
    refine wp_region_lit ?_
    refine lv (d := 6) rfl rfl (by kernel_rfl) (e_assign (v := .slice none 0 0) rfl) ?_
    refine wpList_nil ?_
    refine then_n ?_
    refine wp_seq_cut (fun a26 w12 => ∃ (k28 : Nat), k28 ≤ k1_ ∧ ∃ (f13 : Nat → Value) (x14 : List Int) (A15 : Option Addr) (c16 : Nat) (F17 : Foot) (x19 : List (Int × Bool)), k28 < K ∧ a26 = mk 50 f13 ∧ f13 0 = .pointer (some ⟨g2, 0, none⟩) ∧ f13 1 = .map (some g5) ∧ f13 2 = .slice A15 x14.length c16 ∧ MapO encI tBool H (hp w12) g5 x19 ∧ Row tInt 3 H (hp w12) F17 A15 c16 x14 ∧ St (anyOf [(is g5), F11]) H w [(is g5), F17] H w12 ∧ impl_node_vars_2.l0 k28 x1 x14 x19 = some r) ?_ ?_
    · refine wp_seq ?_
      refine wp_region_lit ?_
      refine lv (d := 9) rfl rfl (by kernel_rfl) (e_move (v := .pointer (some ⟨g2, 0, none⟩)) (by kernel_rfl)) ?_
      refine lv (d := 10) rfl rfl (by kernel_rfl) (e_nilCheck (ad := ⟨g2, 0, none⟩) (by kernel_rfl)) ?_
      refine lv (d := 11) rfl rfl (by kernel_rfl) (e_fieldAddr (b := g2) (off := 0) (o := 0) Try.underlying125 rfl rfl (sz := 1) (by kernel_rfl) (by decide) (by kernel_rfl)) ?_
      obtain ⟨A29, c30, y31, q32, h33, h34, l35, h36⟩ := node_open h3
      refine lv (d := 12) rfl rfl (by kernel_rfl) (e_load1 (ad := ⟨g2, 0 + 0, none⟩) (v := .int .i64 x1.kind) Try.underlying3 rfl (by kernel_rfl) (blk_cells (S0_.inv _ _ h33) h34 0 _ rfl)) ?_
      refine lv (d := 13) rfl rfl (by kernel_rfl) (e_eql (k := .i64) (a := x1.kind) (b := 0) (by kernel_rfl) rfl) ?_
      refine lv (d := 14) rfl rfl (by kernel_rfl) (e_move (v := .bool (decide (x1.kind = 0))) (by kernel_rfl)) ?_
      by_cases q37 : x1.kind = 0
      · replace M := ifp q37 M
        refine lvg (d := 15) (t := 14) rfl (by kernel_rfl) rfl (bt q37 (by kernel_rfl)) rfl (by kernel_rfl) (e_move (v := .map (some g5)) (by kernel_rfl)) ?_
        refine lvg (d := 16) (t := 14) rfl (by kernel_rfl) rfl (bt q37 (by kernel_rfl)) rfl (by kernel_rfl) (e_move (v := .pointer (some ⟨g2, 0, none⟩)) (by kernel_rfl)) ?_
        refine lvg (d := 17) (t := 14) rfl (by kernel_rfl) rfl (bt q37 (by kernel_rfl)) rfl (by kernel_rfl) (e_nilCheck (ad := ⟨g2, 0, none⟩) (by kernel_rfl)) ?_
        refine lvg (d := 18) (t := 14) rfl (by kernel_rfl) rfl (bt q37 (by kernel_rfl)) rfl (by kernel_rfl) (e_fieldAddr (b := g2) (off := 0) (o := 1) Try.underlying125 rfl rfl (sz := 1) (by kernel_rfl) (by decide) (by kernel_rfl)) ?_
        refine lvg (d := 19) (t := 14) rfl (by kernel_rfl) rfl (bt q37 (by kernel_rfl)) rfl (by kernel_rfl) (e_load1 (ad := ⟨g2, 0 + 1, none⟩) (v := .int .i64 x1.n) Try.underlying3 rfl (by kernel_rfl) (blk_cells (S0_.inv _ _ h33) h34 1 _ rfl)) ?_
        refine lvg (d := 20) (t := 14) rfl (by kernel_rfl) rfl (bt q37 (by kernel_rfl)) rfl (by kernel_rfl) (e_look1_s (k := x1.n) false h6 keyI Try.underlying131 Try.underlying3 (by kernel_rfl) (by kernel_rfl) (by kernel_rfl)) ?_
        refine lvg (d := 21) (t := 14) rfl (by kernel_rfl) rfl (bt q37 (by kernel_rfl)) rfl (by kernel_rfl) (e_notv (c := ((mget x4 x1.n).getD false)) (by kernel_rfl)) ?_
        refine lv (d := 22) rfl rfl (by kernel_rfl) (e_pick_t (v := .bool (decide (¬ (((mget x4 x1.n).getD false) = true)))) (bt q37 (by kernel_rfl)) (by kernel_rfl)) ?_
        refine wpList_nil ?_
        refine then_n ?_
        by_cases q38 : ¬ (((mget x4 x1.n).getD false) = true)
        · replace M := ifp q38 M
          refine cond_t rfl (bt q38 (by kernel_rfl)) ?_
          refine wp_seq ?_
          refine wp_region_lit ?_
          refine lv (d := 23) rfl rfl (by kernel_rfl) (e_move (v := .map (some g5)) (by kernel_rfl)) ?_
          refine lv (d := 24) rfl rfl (by kernel_rfl) (e_move (v := .pointer (some ⟨g2, 0, none⟩)) (by kernel_rfl)) ?_
          refine lv (d := 25) rfl rfl (by kernel_rfl) (e_nilCheck (ad := ⟨g2, 0, none⟩) (by kernel_rfl)) ?_
          refine lv (d := 26) rfl rfl (by kernel_rfl) (e_fieldAddr (b := g2) (off := 0) (o := 1) Try.underlying125 rfl rfl (sz := 1) (by kernel_rfl) (by decide) (by kernel_rfl)) ?_
          refine lv (d := 27) rfl rfl (by kernel_rfl) (e_load1 (ad := ⟨g2, 0 + 1, none⟩) (v := .int .i64 x1.n) Try.underlying3 rfl (by kernel_rfl) (blk_cells (S0_.inv _ _ h33) h34 1 _ rfl)) ?_
          refine lse rfl rfl (by kernel_rfl) (e_mapUpdate (k := x1.n) (a := true) S0_ h6 keyI Try.underlying131 Try.underlying3 (by kernel_rfl) (by kernel_rfl) rfl rfl) ?_
          rintro w39 ⟨h40, S41, K42⟩
          replace h10 := h10.move (K42.at 0 rfl)
          clear h6
          refine wpList_nil ?_
          refine then_n ?_
          refine wp_region_lit ?_
          refine lv (d := 28) rfl rfl (by kernel_rfl) (e_move (v := .slice A8 x7.length c9) (by kernel_rfl)) ?_
          refine lv (d := 29) rfl rfl (by kernel_rfl) (e_move (v := .pointer (some ⟨g2, 0, none⟩)) (by kernel_rfl)) ?_
          refine lv (d := 30) rfl rfl (by kernel_rfl) (e_nilCheck (ad := ⟨g2, 0, none⟩) (by kernel_rfl)) ?_
          refine lv (d := 31) rfl rfl (by kernel_rfl) (e_fieldAddr (b := g2) (off := 0) (o := 1) Try.underlying125 rfl rfl (sz := 1) (by kernel_rfl) (by decide) (by kernel_rfl)) ?_
          refine lv (d := 32) rfl rfl (by kernel_rfl) (e_load1 (ad := ⟨g2, 0 + 1, none⟩) (v := .int .i64 x1.n) Try.underlying3 rfl (by kernel_rfl) (blk_cells (S41.inv _ _ h33) h34 1 _ rfl)) ?_
          refine lve (d := 33) rfl rfl (by kernel_rfl) (new_blk (v := fun g_ => .slice (some ⟨g_, 0, none⟩) 1 1) (cs := #[.int .i64 x1.n]) (t := 3) S41 (by kernel_rfl)) ?_
          rintro _ w43 ⟨g44, rfl, b45, S46, K47⟩
          replace h40 := h40.move (K47.at 0 rfl)
          replace h10 := h10.move (K47.at 1 rfl)
          obtain ⟨q48, M⟩ := chk M
          have S49 := S46.pull (F := F11) (Fr := [(is g44), (is g5)]) 2 rfl rfl
          have S50 := S49.unit
          have S51 := S50.pull (F := F11) (Fr := [no, (is g44), (is g5)]) 1 rfl rfl
          refine lve (d := 34) rfl rfl (by kernel_rfl) (e_append (d := tInt) (n := x7.length) (xs := x7) (cap := c9) (A := A8) (ys := [x1.n]) (A2 := (some ⟨g44, 0, none⟩)) (c2 := 1) (z := .int .i64 0) (bytes := 8) S51 Try.underlying32 (by kernel_rfl) rfl (by decide) (by kernel_rfl) rfl (by kernel_rfl) h10 (elsO_one1 rfl) (.inr (blk_news b45 rfl)) (show (x7.length + [x1.n].length) * 8 ≤ _ by first | omega | (simp only [List.length_cons, List.length_nil]; omega)) (by decide)) ?_
          rintro _ w52 ⟨A53, c54, F55, rfl, h56, S57, K58⟩
          replace b45 := K58.blk 0 rfl b45
          replace h40 := h40.move (K58.at 1 rfl)
          refine lv (d := 2) rfl rfl (by kernel_rfl) (e_assign (v := .slice A53 ((x7 ++ [x1.n]).length) c54) (by kernel_rfl)) ?_
          refine wpList_nil ?_
          refine then_n ?_
          have S59 := S57.pull (F := (is g5)) (Fr := [F55, (is g44)]) 2 rfl rfl
          have S60 := St.first (Fa := [(is g5), F55]) (Fr := [(is g44)]) S59
          exact ⟨k1_, (by omega), _, (x7 ++ [x1.n]), A53, c54, F55, (mset x4 x1.n true), (by omega), rfl, (by kernel_rfl), (by kernel_rfl), (by kernel_rfl), h40, h56, S60, M⟩
        replace M := ifn q38 M
        refine cond_f rfl (bf q38 (by kernel_rfl)) ?_
        refine wp_skip ?_
        refine then_n ?_
        exact ⟨k1_, (by omega), _, x7, A8, c9, F11, x4, (by omega), rfl, (by kernel_rfl), (by kernel_rfl), (by kernel_rfl), h6, h10, S0_, M⟩
      replace M := ifn q37 M
      refine lskip (t := 14) (c := false) rfl (by kernel_rfl) rfl (bf q37 (by kernel_rfl)) rfl rfl ?_
      refine lskip (t := 14) (c := false) rfl (by kernel_rfl) rfl (bf q37 (by kernel_rfl)) rfl rfl ?_
      refine lskip (t := 14) (c := false) rfl (by kernel_rfl) rfl (bf q37 (by kernel_rfl)) rfl rfl ?_
      refine lskip (t := 14) (c := false) rfl (by kernel_rfl) rfl (bf q37 (by kernel_rfl)) rfl rfl ?_
      refine lskip (t := 14) (c := false) rfl (by kernel_rfl) rfl (bf q37 (by kernel_rfl)) rfl rfl ?_
      refine lskip (t := 14) (c := false) rfl (by kernel_rfl) rfl (bf q37 (by kernel_rfl)) rfl rfl ?_
      refine lskip (t := 14) (c := false) rfl (by kernel_rfl) rfl (bf q37 (by kernel_rfl)) rfl rfl ?_
      refine lv (d := 22) rfl rfl (by kernel_rfl) (e_pick_f (v := .bool false) (bf q37 (by kernel_rfl)) rfl) ?_
      refine wpList_nil ?_
      refine then_n ?_
      refine cond_f rfl (by kernel_rfl) ?_
      refine wp_skip ?_
      refine then_n ?_
      exact ⟨k1_, (by omega), _, x7, A8, c9, F11, x4, (by omega), rfl, (by kernel_rfl), (by kernel_rfl), (by kernel_rfl), h6, h10, S0_, M⟩
    clear M
    rintro a26 w12 ⟨k28, z117, f13, x14, A15, c16, F17, x19, z24, rfl, e20, e21, e22, h6, h18, S23, M⟩
    rcases k28 with _ | k27
    · rw [impl_node_vars_2.l0] at M
      cases M
    rw [impl_node_vars_2.l0] at M
    refine wp_seq ?_
    refine wp_seq ?_
    refine wp_region_lit ?_
    refine lv (d := 35) rfl rfl (by kernel_rfl) (e_move (v := .pointer (some ⟨g2, 0, none⟩)) (by exact e20)) ?_
    refine lv (d := 36) rfl rfl (by kernel_rfl) (e_nilCheck (ad := ⟨g2, 0, none⟩) (by kernel_rfl)) ?_
    refine lv (d := 37) rfl rfl (by kernel_rfl) (e_fieldAddr (b := g2) (off := 0) (o := 3) Try.underlying125 rfl rfl (sz := 1) (by kernel_rfl) (by decide) (by kernel_rfl)) ?_
    obtain ⟨A61, c62, y63, q64, h65, h66, l67, h68⟩ := node_open h3
    refine lv (d := 38) rfl rfl (by kernel_rfl) (e_load1 (ad := ⟨g2, 0 + 3, none⟩) (v := .slice A61 x1.args.length c62) Try.underlying87 rfl (by kernel_rfl) (blk_cells (S23.inv _ _ h65) h66 3 _ rfl)) ?_
    refine lv (d := 39) rfl rfl (by kernel_rfl) (e_len (A := A61) (n := x1.args.length) (c := c62) Try.underlying87 (by kernel_rfl)) ?_
    refine lv (d := 40) rfl rfl (by kernel_rfl) (e_move (v := .int .i64 0) rfl) ?_
    refine wpList_nil ?_
    refine then_n ?_
    refine wp_block ?_
    refine wp_loop_g (fun k88 a89 w69 => ∃ (f70 : Nat → Value) (H71 : Hp) (x73 : List Int) (A74 : Option Addr) (c75 : Nat) (F76 : Foot) (x78 : Int) (x79 : List (Int × Bool)), k88 < K ∧ a89 = mk 50 f70 ∧ f70 1 = .map (some g5) ∧ f70 2 = .slice A74 x73.length c75 ∧ f70 38 = .slice A61 x1.args.length c62 ∧ f70 39 = .int .i64 (x1.args.length : Int) ∧ f70 40 = .int .i64 x78 ∧ MapO encI tBool H71 (hp w69) g5 x79 ∧ Row tInt 3 H71 (hp w69) F76 A74 c75 x73 ∧ Ext H H71 ∧ St (anyOf [(is g5), F11]) H w [(is g5), F76] H71 w69 ∧ impl_node_vars_2.l1 k88 x1 x73 x78 x79 = some r) k27 ⟨_, H, x14, A15, c16, F17, 0, x19, (by omega), rfl, (by exact e21), (by exact e22), (by kernel_rfl), (by kernel_rfl), (by kernel_rfl), h6, h18, (Ext.refl _), S23, M⟩ ?_
    clear M
    rintro k88 a89 w69 ⟨f70, H71, x73, A74, c75, F76, x78, x79, z86, rfl, e80, e81, e82, e83, e84, h6, h77, Y72, S85, M⟩
    rcases k88 with _ | k90
    · rw [impl_node_vars_2.l1] at M
      cases M
    rw [impl_node_vars_2.l1] at M
    refine wp_seq ?_
    refine wp_region_lit ?_
    refine lv (d := 41) rfl rfl (by kernel_rfl) (e_lss (k := .i64) (a := x78) (b := (x1.args.length : Int)) (by exact e84) (by exact e83)) ?_
    refine wpList_nil ?_
    refine then_n ?_
    refine wp_seq ?_
    by_cases q91 : x78 < (x1.args.length : Int)
    · replace M := ifp q91 M
      refine cond_t rfl (bt q91 (by kernel_rfl)) ?_
      refine wp_skip ?_
      refine then_n ?_
      refine wp_seq ?_
      refine wp_block ?_
      refine wp_seq ?_
      refine wp_region_lit ?_
      obtain ⟨q92, M⟩ := chk M
      obtain ⟨b93, o94, e95⟩ := Rd.addr h68 (show (x78).toNat < x1.args.length by omega)
      obtain ⟨y96, r97, k98⟩ := Rd.at h68 e95 (getD_some (Tm.mk 0 0 [] []) (show (x78).toNat < x1.args.length by omega))
      obtain ⟨v99, rfl, h100⟩ := r97
      obtain ⟨g101, rfl⟩ := node_ptr h100
      refine lv (d := 42) rfl rfl (by kernel_rfl) (e_indexAddr (b := b93) (off := o94) (n := x1.args.length) (c := c62) (sz := 1) (i := x78) (k := .i64) Try.underlying87 e95 (by kernel_rfl) (by exact e82) (by exact e84) q92 q91) ?_
      refine lv (d := 43) rfl rfl (by kernel_rfl) (e_load1 (ad := ⟨b93, o94 + (x78 : Int).toNat * 1, none⟩) (v := .pointer (some ⟨g101, 0, none⟩)) Try.underlying74 rfl (by kernel_rfl) (hpx (S85.inv.cell (Y72.cell (k98 0 _ rfl))))) ?_
      refine lv (d := 8) rfl rfl (by kernel_rfl) (e_assign (v := .pointer (some ⟨g101, 0, none⟩)) (by kernel_rfl)) ?_
      refine wpList_nil ?_
      refine then_n ?_
      refine wp_region_lit ?_
      refine lv (d := 44) rfl rfl (by kernel_rfl) (e_move (v := .pointer (some ⟨g101, 0, none⟩)) (by kernel_rfl)) ?_
      refine lv (d := 45) rfl rfl (by kernel_rfl) (e_move (v := .map (some g5)) (by exact e80)) ?_
      refine lv (d := 46) rfl rfl (by kernel_rfl) (e_move (v := .slice A74 x73.length c75) (by exact e81)) ?_
      have S102 := S85.pull (F := F76) (Fr := [(is g5)]) 1 rfl rfl
      have S103 := S102.pull (F := (is g5)) (Fr := [F76]) 1 rfl rfl
      obtain ⟨t104, u105, M⟩ := bnd M
      refine lcall (d := 47) rfl rfl (by kernel_rfl) (e_call (l := [.tmp 44, .tmp 45, .tmp 46]) (vs := [.pointer (some ⟨g101, 0, none⟩), .map (some g5), .slice A74 x73.length c75]) Try.func109 (by kernel_rfl) rfl (by kernel_rfl) rfl) (ih k90 (by omega) w69 H71 (x1.args.getD ((x78).toNat) (Tm.mk 0 0 [] [])) g101 x79 g5 x73 A74 c75 F76 (h100.ext' Y72) h6 h77 (St.own' (Fa := [(is g5), F76]) (Fr := []) S103) t104 u105) ?_
      rintro _ w106 ⟨A110, c111, F113, H107, rfl, h109, h112, T108⟩
      refine ⟨_, rfl, ?_⟩
      obtain ⟨S114, K115⟩ := St.call (Fa := [(is g5), F76]) (Fr := []) S103 T108
      have E116 := T108.ext
      refine lv (d := 2) rfl rfl (by kernel_rfl) (e_assign (v := .slice A110 t104.1.length c111) (by kernel_rfl)) ?_
      refine wpList_nil ?_
      refine inb_n ?_
      refine then_n ?_
      refine wp_region_lit ?_
      refine lv (d := 48) rfl rfl (by kernel_rfl) (e_add (k := .i64) (a := x78) (b := 1) (by exact e84) rfl) ?_
      refine lv (d := 40) rfl rfl (by kernel_rfl) (e_move (v := .int .i64 (IntKind.i64.wrap (x78 + 1))) (by kernel_rfl)) ?_
      refine wpList_nil ?_
      refine then_n ?_
      exact ⟨k90, (by omega), _, H107, t104.1, A110, c111, F113, (IntKind.i64.wrap (x78 + 1)), t104.2, (by omega), rfl, (by exact e80), (by kernel_rfl), (by exact e82), (by exact e83), (by kernel_rfl), h109, h112, (Y72.trans E116), S114, M⟩
    replace M := ifn q91 M
    refine cond_f rfl (bf q91 (by kernel_rfl)) ?_
    refine wp_exit ?_
    refine then_e ?_
    refine then_e ?_
    refine inb_hit ?_
    refine then_n ?_
    refine wp_seq ?_
    refine wp_region_lit ?_
    refine lv (d := 49) rfl rfl (by kernel_rfl) (e_move (v := .slice A74 x73.length c75) (by exact e81)) ?_
    refine lv (d := 6) rfl rfl (by kernel_rfl) (e_assign (v := .slice A74 x73.length c75) (by kernel_rfl)) ?_
    refine wpList_nil ?_
    refine then_n ?_
    refine wp_ret ?_
    obtain rfl := Option.some.inj M
    exact ret1 rfl rfl  (show _ = .slice A74 x73.length c75 from (by kernel_rfl)) ⟨A74, c75, F76, H71, rfl, h6, h77, S85⟩
theorem impl_node_vars_2.calls (k : Nat) (w : World) (H : Hp) (x1 : Tm) (g2 : Nat) (x4 : List (Int × Bool)) (g5 : Nat) (x7 : List Int) (A8 : Option Addr) (c9 : Nat) (F11 : Foot) (h3 : NodeR 125 H x1 (.pointer (some ⟨g2, 0, none⟩))) (h6 : MapO encI tBool H (hp w) g5 x4) (h10 : Row tInt 3 H (hp w) F11 A8 c9 x7) (S : Own [(is g5), F11] H w) (r : (List Int) × (List (Int × Bool))) (M : impl_node_vars_2.f k x1 x4 x7 = some r) :
    Calls Try.prog 109 #[.pointer (some ⟨g2, 0, none⟩), .map (some g5), .slice A8 x7.length c9] w (fun e e_w => ∃ (A_1 : Option Addr) (c_1 : Nat) (F_1 : Foot) (H_ : Hp), e = .returned (.slice A_1 r.1.length c_1) ∧ MapO encI tBool H_ (hp e_w) g5 r.2 ∧ Row tInt 3 H_ (hp e_w) F_1 A_1 c_1 r.1 ∧ St (anyOf [(is g5), F11]) H w [(is g5), F_1] H_ e_w) := (impl_node_vars_2.all (k + 1)) k (Nat.lt_succ_self k) w H x1 g2 x4 g5 x7 A8 c9 F11 h3 h6 h10 S r M

/-! impl_varsOf -/
def impl_varsOf.f (k : Nat) (x1 : Tm) : Option (List Int) := ((impl_node_vars_2.f k x1 [] []).bind fun t11 => some t11.1)
theorem impl_varsOf.calls (k : Nat) (w : World) (H : Hp) (x1 : Tm) (g2 : Nat) (h3 : NodeR 125 H x1 (.pointer (some ⟨g2, 0, none⟩))) (S : Own [] H w) (r : List Int) (M : impl_varsOf.f k x1 = some r) :
    Calls Try.prog 64 #[.pointer (some ⟨g2, 0, none⟩)] w (fun e e_w => ∃ (A_1 : Option Addr) (c_1 : Nat) (F_1 : Foot) (H_ : Hp), e = .returned (.slice A_1 r.length c_1) ∧ Row tInt 3 H_ (hp e_w) F_1 A_1 c_1 r ∧ St (anyOf []) H w [F_1] H_ e_w) := by
  rw [impl_varsOf.f] at M
  refine enter (l := [.pointer (some ⟨g2, 0, none⟩)]) 6 Try.func64 rfl rfl rfl ?_
  have S0_ := S.st
  refine wp_seq ?_
  refine wp_region_lit ?_
  refine lv (d := 2) rfl rfl (by kernel_rfl) (e_assign (v := .slice none 0 0) rfl) ?_
  refine wpList_nil ?_
  refine then_n ?_
  refine wp_seq ?_
  refine wp_region_lit ?_
  refine lv (d := 3) rfl rfl (by kernel_rfl) (e_move (v := .pointer (some ⟨g2, 0, none⟩)) (by kernel_rfl)) ?_
  refine lve (d := 4) rfl rfl (by kernel_rfl) (e_makeMap S0_ encI tBool) ?_
  rintro _ w4 ⟨g5, rfl, h6, S7, K8⟩
  have S9 := S7.unit
  have S10 := S9.pull (F := (is g5)) (Fr := [no]) 1 rfl rfl
  obtain ⟨t11, u12, M⟩ := bnd M
  refine lcall (d := 5) rfl rfl (by kernel_rfl) (e_call (l := [.tmp 3, .tmp 4, .const (.slice none 0 0)]) (vs := [.pointer (some ⟨g2, 0, none⟩), .map (some g5), .slice none 0 0]) Try.func109 (by kernel_rfl) rfl (by kernel_rfl) rfl) (impl_node_vars_2.calls k w4 H x1 g2 [] g5 [] none 0 no h3 h6 (Row.nil _ _ _ _ no) (St.own' (Fa := [(is g5), no]) (Fr := []) S10) t11 u12) ?_
  rintro _ w13 ⟨A17, c18, F20, H14, rfl, h16, h19, T15⟩
  refine ⟨_, rfl, ?_⟩
  obtain ⟨S21, K22⟩ := St.call (Fa := [(is g5), no]) (Fr := []) S10 T15
  have E23 := T15.ext
  refine lv (d := 2) rfl rfl (by kernel_rfl) (e_assign (v := .slice A17 t11.1.length c18) (by kernel_rfl)) ?_
  refine wpList_nil ?_
  refine then_n ?_
  refine wp_ret ?_
  obtain rfl := Option.some.inj M
  have S24 := S21.pull (F := F20) (Fr := [(is g5)]) 1 rfl rfl
  have S25 := St.first (Fa := [F20]) (Fr := [(is g5)]) S24
  exact ret1 rfl rfl  (show _ = .slice A17 t11.1.length c18 from (by kernel_rfl)) ⟨A17, c18, F20, H14, rfl, h19, S25⟩

/-! impl_TermVars -/
def impl_TermVars.f (k : Nat) (x1 : List Cell) : Option (List Int) := ((impl_ValidTerm.f k x1).bind fun t6 => (if ¬ (t6 = true) then some [] else ((impl_tree.f k x1).bind fun t14 => ((impl_varsOf.f k t14).bind fun t24 => some t24))))
theorem impl_TermVars.calls (k : Nat) (w : World) (H : Hp) (x1 : List Cell) (A2 : Option Addr) (c3 : Nat) (h4 : Rd st65 H A2 x1) (l5 : x1.length ≤ c3) (S : Own [] H w) (r : List Int) (M : impl_TermVars.f k x1 = some r) :
    Calls Try.prog 22 #[.slice A2 x1.length c3] w (fun e e_w => ∃ (A_1 : Option Addr) (c_1 : Nat) (F_1 : Foot) (H_ : Hp), e = .returned (.slice A_1 r.length c_1) ∧ Row tInt 3 H_ (hp e_w) F_1 A_1 c_1 r ∧ St (anyOf []) H w [F_1] H_ e_w) := by
  rw [impl_TermVars.f] at M
  refine enter (l := [.slice A2 x1.length c3]) 9 Try.func22 rfl rfl rfl ?_
  have S0_ := S.st
  refine wp_seq ?_
  refine wp_region_lit ?_
  refine lv (d := 2) rfl rfl (by kernel_rfl) (e_assign (v := .slice none 0 0) rfl) ?_
  refine wpList_nil ?_
  refine then_n ?_
  refine wp_seq ?_
  refine wp_seq ?_
  refine wp_region_lit ?_
  refine lv (d := 3) rfl rfl (by kernel_rfl) (e_move (v := .slice A2 x1.length c3) (by kernel_rfl)) ?_
  obtain ⟨t6, u7, M⟩ := bnd M
  refine lcall (d := 4) rfl rfl (by kernel_rfl) (e_call (l := [.tmp 3]) (vs := [.slice A2 x1.length c3]) Try.func17 (by kernel_rfl) rfl (by kernel_rfl) rfl) (impl_ValidTerm.calls k w H x1 A2 c3 h4 l5 S0_.own0 t6 u7) ?_
  rintro _ w8 ⟨rfl, C9⟩
  refine ⟨_, rfl, ?_⟩
  obtain ⟨S10, K11⟩ := S0_.still C9
  refine lv (d := 5) rfl rfl (by kernel_rfl) (e_notv (c := t6) (by kernel_rfl)) ?_
  refine wpList_nil ?_
  refine then_n ?_
  by_cases q12 : ¬ (t6 = true)
  · replace M := ifp q12 M
    refine cond_t rfl (bt q12 (by kernel_rfl)) ?_
    refine wp_seq ?_
    refine wp_region_lit ?_
    refine lv (d := 2) rfl rfl (by kernel_rfl) (e_assign (v := .slice none 0 0) rfl) ?_
    refine wpList_nil ?_
    refine then_n ?_
    refine wp_ret ?_
    refine then_r ?_
    obtain rfl := Option.some.inj M
    have S13 := S10.unit
    exact ret1 rfl rfl  (show _ = .slice none 0 0 from (by kernel_rfl)) ⟨none, 0, no, H, rfl, (Row.nil _ _ _ _ no), S13⟩
  replace M := ifn q12 M
  refine cond_f rfl (bf q12 (by kernel_rfl)) ?_
  refine wp_skip ?_
  refine then_n ?_
  refine wp_seq ?_
  refine wp_region_lit ?_
  refine lv (d := 6) rfl rfl (by kernel_rfl) (e_move (v := .slice A2 x1.length c3) (by kernel_rfl)) ?_
  obtain ⟨t14, u15, M⟩ := bnd M
  refine lcall (d := 7) rfl rfl (by kernel_rfl) (e_call (l := [.tmp 6]) (vs := [.slice A2 x1.length c3]) Try.func62 (by kernel_rfl) rfl (by kernel_rfl) rfl) (impl_tree.calls k w8 H x1 A2 c3 h4 l5 (St.own' (Fa := []) (Fr := []) S10) t14 u15) ?_
  rintro _ w16 ⟨g19, H17, rfl, h20, T18⟩
  refine ⟨_, rfl, ?_⟩
  obtain ⟨S21, K22⟩ := St.call (Fa := []) (Fr := []) S10 T18
  have E23 := T18.ext
  obtain ⟨t24, u25, M⟩ := bnd M
  refine lcall (d := 8) rfl rfl (by kernel_rfl) (e_call (l := [.tmp 7]) (vs := [.pointer (some ⟨g19, 0, none⟩)]) Try.func64 (by kernel_rfl) rfl (by kernel_rfl) rfl) (impl_varsOf.calls k w16 H17 t14 g19 h20 (St.own' (Fa := []) (Fr := []) S21) t24 u25) ?_
  rintro _ w26 ⟨A29, c30, F32, H27, rfl, h31, T28⟩
  refine ⟨_, rfl, ?_⟩
  obtain ⟨S33, K34⟩ := St.call (Fa := []) (Fr := []) S21 T28
  have E35 := T28.ext
  refine lv (d := 2) rfl rfl (by kernel_rfl) (e_assign (v := .slice A29 t24.length c30) (by kernel_rfl)) ?_
  refine wpList_nil ?_
  refine then_n ?_
  refine wp_ret ?_
  obtain rfl := Option.some.inj M
  exact ret1 rfl rfl  (show _ = .slice A29 t24.length c30 from (by kernel_rfl)) ⟨A29, c30, F32, H27, rfl, h31, S33⟩

/-! laws_eqIntS -/
def laws_eqIntS.l0 : Nat → (List Int) → (List Int) → Int → Option Bool
  | 0, _, _, _ => none
  | k23 + 1, x1, x6, x14 => (if x14 < (x1.length : Int) then (if 0 ≤ x14 then (if x14 < (x6.length : Int) then (if (x1.getD ((x14).toNat) (0 : Int)) ≠ (x6.getD ((x14).toNat) (0 : Int)) then some false else (laws_eqIntS.l0 k23 x1 x6 (IntKind.i64.wrap (x14 + 1)))) else none) else none) else some true)
def laws_eqIntS.f (k : Nat) (x1 : List Int) (x6 : List Int) : Option Bool := (if (x1.length : Int) ≠ (x6.length : Int) then some false else (laws_eqIntS.l0 k x1 x6 0))
theorem laws_eqIntS.calls (k : Nat) (w : World) (H : Hp) (x1 : List Int) (A2 : Option Addr) (c3 : Nat) (x6 : List Int) (A7 : Option Addr) (c8 : Nat) (h4 : Rd tInt H A2 x1) (l5 : x1.length ≤ c3) (h9 : Rd tInt H A7 x6) (l10 : x6.length ≤ c8) (S : Own [] H w) (r : Bool) (M : laws_eqIntS.f k x1 x6 = some r) :
    Calls Try.prog 23 #[.slice A2 x1.length c3, .slice A7 x6.length c8] w (fun e e_w => e = .returned (.bool r) ∧ Chg no w e_w) := by
  rw [laws_eqIntS.f] at M
  refine enter (l := [.slice A2 x1.length c3, .slice A7 x6.length c8]) 26 Try.func23 rfl rfl rfl ?_
  have S0_ := S.st
  refine wp_seq ?_
  refine wp_region_lit ?_
  refine lv (d := 4) rfl rfl (by kernel_rfl) (e_assign (v := .bool false) rfl) ?_
  refine wpList_nil ?_
  refine then_n ?_
  refine wp_seq ?_
  refine wp_seq ?_
  refine wp_region_lit ?_
  refine lv (d := 6) rfl rfl (by kernel_rfl) (e_move (v := .slice A2 x1.length c3) (by kernel_rfl)) ?_
  refine lv (d := 7) rfl rfl (by kernel_rfl) (e_len (A := A2) (n := x1.length) (c := c3) Try.underlying32 (by kernel_rfl)) ?_
  refine lv (d := 8) rfl rfl (by kernel_rfl) (e_move (v := .slice A7 x6.length c8) (by kernel_rfl)) ?_
  refine lv (d := 9) rfl rfl (by kernel_rfl) (e_len (A := A7) (n := x6.length) (c := c8) Try.underlying32 (by kernel_rfl)) ?_
  refine lv (d := 10) rfl rfl (by kernel_rfl) (e_neq (k := .i64) (a := (x1.length : Int)) (b := (x6.length : Int)) (by kernel_rfl) (by kernel_rfl)) ?_
  refine wpList_nil ?_
  refine then_n ?_
  by_cases q11 : (x1.length : Int) ≠ (x6.length : Int)
  · replace M := ifp q11 M
    refine cond_t rfl (bt q11 (by kernel_rfl)) ?_
    refine wp_seq ?_
    refine wp_region_lit ?_
    refine lv (d := 4) rfl rfl (by kernel_rfl) (e_assign (v := .bool false) rfl) ?_
    refine wpList_nil ?_
    refine then_n ?_
    refine wp_ret ?_
    refine then_r ?_
    obtain rfl := Option.some.inj M
    exact ret1 rfl rfl  (show _ = .bool false from (by kernel_rfl)) ⟨rfl, S0_.chg⟩
  replace M := ifn q11 M
  refine cond_f rfl (bf q11 (by kernel_rfl)) ?_
  refine wp_skip ?_
  refine then_n ?_
  refine wp_seq ?_
  refine wp_seq ?_
  refine wp_region_lit ?_
  refine lv (d := 5) rfl rfl (by kernel_rfl) (e_assign (v := .int .i64 0) rfl) ?_
  refine wpList_nil ?_
  refine then_n ?_
  refine wp_block ?_
  refine wp_loop_g (fun k21 a22 w12 => ∃ (f13 : Nat → Value) (x14 : Int), a22 = mk 26 f13 ∧ f13 0 = .slice A2 x1.length c3 ∧ f13 1 = .slice A7 x6.length c8 ∧ f13 5 = .int .i64 x14 ∧ St (anyOf []) H w [] H w12 ∧ laws_eqIntS.l0 k21 x1 x6 x14 = some r) k ⟨_, 0, rfl, (by kernel_rfl), (by kernel_rfl), (by kernel_rfl), S0_, M⟩ ?_
  clear M
  rintro k21 a22 w12 ⟨f13, x14, rfl, e15, e16, e17, S18, M⟩
  rcases k21 with _ | k23
  · rw [laws_eqIntS.l0] at M
    cases M
  rw [laws_eqIntS.l0] at M
  refine wp_seq ?_
  refine wp_seq ?_
  refine wp_region_lit ?_
  refine lv (d := 11) rfl rfl (by kernel_rfl) (e_move (v := .int .i64 x14) (by exact e17)) ?_
  refine lv (d := 12) rfl rfl (by kernel_rfl) (e_move (v := .slice A2 x1.length c3) (by exact e15)) ?_
  refine lv (d := 13) rfl rfl (by kernel_rfl) (e_len (A := A2) (n := x1.length) (c := c3) Try.underlying32 (by kernel_rfl)) ?_
  refine lv (d := 14) rfl rfl (by kernel_rfl) (e_lss (k := .i64) (a := x14) (b := (x1.length : Int)) (by kernel_rfl) (by kernel_rfl)) ?_
  refine wpList_nil ?_
  refine then_n ?_
  by_cases q24 : x14 < (x1.length : Int)
  · replace M := ifp q24 M
    refine cond_t rfl (bt q24 (by kernel_rfl)) ?_
    refine wp_skip ?_
    refine then_n ?_
    refine wp_seq ?_
    refine wp_block ?_
    refine wp_seq ?_
    refine region_still (by kernel_rfl) (by kernel_rfl) S18 ?_
    intro w25 S26 K27
    refine sv (d := 17) rfl rfl (by kernel_rfl) (e_move (v := .slice A2 x1.length c3) (by exact e15)) ?_
    refine sv (d := 18) rfl rfl (by kernel_rfl) (e_move (v := .int .i64 x14) (by exact e17)) ?_
    obtain ⟨q28, M⟩ := chk M
    obtain ⟨b29, o30, e31⟩ := Rd.addr h4 (show (x14).toNat < x1.length by omega)
    obtain ⟨y32, r33, k34⟩ := Rd.at h4 e31 (getD_some (0 : Int) (show (x14).toNat < x1.length by omega))
    obtain rfl := r33
    refine sv (d := 19) rfl rfl (by kernel_rfl) (e_indexAddr (b := b29) (off := o30) (n := x1.length) (c := c3) (sz := 1) (i := x14) (k := .i64) Try.underlying32 e31 (by kernel_rfl) (by kernel_rfl) (by kernel_rfl) q28 q24) ?_
    refine sv (d := 20) rfl rfl (by kernel_rfl) (e_load1 (ad := ⟨b29, o30 + (x14 : Int).toNat * 1, none⟩) (v := .int .i64 (x1.getD ((x14).toNat) (0 : Int))) Try.underlying3 rfl (by kernel_rfl) (hpx (S26.inv.cell (k34 0 _ rfl)))) ?_
    refine sv (d := 21) rfl rfl (by kernel_rfl) (e_move (v := .slice A7 x6.length c8) (by exact e16)) ?_
    refine sv (d := 22) rfl rfl (by kernel_rfl) (e_move (v := .int .i64 x14) (by exact e17)) ?_
    obtain ⟨q35, M⟩ := chk M
    obtain ⟨b36, o37, e38⟩ := Rd.addr h9 (show (x14).toNat < x6.length by omega)
    obtain ⟨y39, r40, k41⟩ := Rd.at h9 e38 (getD_some (0 : Int) (show (x14).toNat < x6.length by omega))
    obtain rfl := r40
    refine sv (d := 23) rfl rfl (by kernel_rfl) (e_indexAddr (b := b36) (off := o37) (n := x6.length) (c := c8) (sz := 1) (i := x14) (k := .i64) Try.underlying32 e38 (by kernel_rfl) (by kernel_rfl) (by kernel_rfl) q28 q35) ?_
    refine sv (d := 24) rfl rfl (by kernel_rfl) (e_load1 (ad := ⟨b36, o37 + (x14 : Int).toNat * 1, none⟩) (v := .int .i64 (x6.getD ((x14).toNat) (0 : Int))) Try.underlying3 rfl (by kernel_rfl) (hpx (S26.inv.cell (k41 0 _ rfl)))) ?_
    refine sv (d := 25) rfl rfl (by kernel_rfl) (e_neq (k := .i64) (a := (x1.getD ((x14).toNat) (0 : Int))) (b := (x6.getD ((x14).toNat) (0 : Int))) (by kernel_rfl) (by kernel_rfl)) ?_
    refine wpStill_nil ?_
    refine then_n ?_
    by_cases q42 : (x1.getD ((x14).toNat) (0 : Int)) ≠ (x6.getD ((x14).toNat) (0 : Int))
    · replace M := ifp q42 M
      refine cond_t rfl (bt q42 (by kernel_rfl)) ?_
      refine wp_seq ?_
      refine wp_region_lit ?_
      refine lv (d := 4) rfl rfl (by kernel_rfl) (e_assign (v := .bool false) rfl) ?_
      refine wpList_nil ?_
      refine then_n ?_
      refine wp_ret ?_
      refine inb_r ?_
      refine then_r ?_
      refine then_r ?_
      refine inb_r ?_
      refine then_r ?_
      obtain rfl := Option.some.inj M
      exact ret1 rfl rfl  (show _ = .bool false from (by kernel_rfl)) ⟨rfl, S26.chg⟩
    replace M := ifn q42 M
    refine cond_f rfl (bf q42 (by kernel_rfl)) ?_
    refine wp_skip ?_
    refine inb_n ?_
    refine then_n ?_
    refine wp_region_lit ?_
    refine lv (d := 15) rfl rfl (by kernel_rfl) (e_move (v := .int .i64 x14) (by exact e17)) ?_
    refine lv (d := 16) rfl rfl (by kernel_rfl) (e_add (k := .i64) (a := x14) (b := 1) (by kernel_rfl) rfl) ?_
    refine lv (d := 5) rfl rfl (by kernel_rfl) (e_assign (v := .int .i64 (IntKind.i64.wrap (x14 + 1))) (by kernel_rfl)) ?_
    refine wpList_nil ?_
    refine then_n ?_
    exact ⟨k23, (by omega), _, (IntKind.i64.wrap (x14 + 1)), rfl, (by exact e15), (by exact e16), (by kernel_rfl), S26, M⟩
  replace M := ifn q24 M
  refine cond_f rfl (bf q24 (by kernel_rfl)) ?_
  refine wp_exit ?_
  refine then_e ?_
  refine then_e ?_
  refine inb_hit ?_
  refine then_n ?_
  refine wp_seq ?_
  refine wp_region_lit ?_
  refine lv (d := 4) rfl rfl (by kernel_rfl) (e_assign (v := .bool true) rfl) ?_
  refine wpList_nil ?_
  refine then_n ?_
  refine wp_ret ?_
  obtain rfl := Option.some.inj M
  exact ret1 rfl rfl  (show _ = .bool true from (by kernel_rfl)) ⟨rfl, S18.chg⟩

/-! laws_eqByteS -/
def laws_eqByteS.l0 : Nat → (List UInt8) → (List UInt8) → Int → Option Bool
  | 0, _, _, _ => none
  | k23 + 1, x1, x6, x14 => (if x14 < (x1.length : Int) then (if 0 ≤ x14 then (if x14 < (x6.length : Int) then (if ((x1.getD ((x14).toNat) (0 : UInt8)).toNat : Int) ≠ ((x6.getD ((x14).toNat) (0 : UInt8)).toNat : Int) then some false else (laws_eqByteS.l0 k23 x1 x6 (IntKind.i64.wrap (x14 + 1)))) else none) else none) else some true)
def laws_eqByteS.f (k : Nat) (x1 : List UInt8) (x6 : List UInt8) : Option Bool := (if (x1.length : Int) ≠ (x6.length : Int) then some false else (laws_eqByteS.l0 k x1 x6 0))
theorem laws_eqByteS.calls (k : Nat) (w : World) (H : Hp) (x1 : List UInt8) (A2 : Option Addr) (c3 : Nat) (x6 : List UInt8) (A7 : Option Addr) (c8 : Nat) (h4 : Rd tByte H A2 x1) (l5 : x1.length ≤ c3) (h9 : Rd tByte H A7 x6) (l10 : x6.length ≤ c8) (S : Own [] H w) (r : Bool) (M : laws_eqByteS.f k x1 x6 = some r) :
    Calls Try.prog 104 #[.slice A2 x1.length c3, .slice A7 x6.length c8] w (fun e e_w => e = .returned (.bool r) ∧ Chg no w e_w) := by
  rw [laws_eqByteS.f] at M
  refine enter (l := [.slice A2 x1.length c3, .slice A7 x6.length c8]) 26 Try.func104 rfl rfl rfl ?_
  have S0_ := S.st
  refine wp_seq ?_
  refine wp_region_lit ?_
  refine lv (d := 4) rfl rfl (by kernel_rfl) (e_assign (v := .bool false) rfl) ?_
  refine wpList_nil ?_
  refine then_n ?_
  refine wp_seq ?_
  refine wp_seq ?_
  refine wp_region_lit ?_
  refine lv (d := 6) rfl rfl (by kernel_rfl) (e_move (v := .slice A2 x1.length c3) (by kernel_rfl)) ?_
  refine lv (d := 7) rfl rfl (by kernel_rfl) (e_len (A := A2) (n := x1.length) (c := c3) Try.underlying59 (by kernel_rfl)) ?_
  refine lv (d := 8) rfl rfl (by kernel_rfl) (e_move (v := .slice A7 x6.length c8) (by kernel_rfl)) ?_
  refine lv (d := 9) rfl rfl (by kernel_rfl) (e_len (A := A7) (n := x6.length) (c := c8) Try.underlying59 (by kernel_rfl)) ?_
  refine lv (d := 10) rfl rfl (by kernel_rfl) (e_neq (k := .i64) (a := (x1.length : Int)) (b := (x6.length : Int)) (by kernel_rfl) (by kernel_rfl)) ?_
  refine wpList_nil ?_
  refine then_n ?_
  by_cases q11 : (x1.length : Int) ≠ (x6.length : Int)
  · replace M := ifp q11 M
    refine cond_t rfl (bt q11 (by kernel_rfl)) ?_
    refine wp_seq ?_
    refine wp_region_lit ?_
    refine lv (d := 4) rfl rfl (by kernel_rfl) (e_assign (v := .bool false) rfl) ?_
    refine wpList_nil ?_
    refine then_n ?_
    refine wp_ret ?_
    refine then_r ?_
    obtain rfl := Option.some.inj M
    exact ret1 rfl rfl  (show _ = .bool false from (by kernel_rfl)) ⟨rfl, S0_.chg⟩
  replace M := ifn q11 M
  refine cond_f rfl (bf q11 (by kernel_rfl)) ?_
  refine wp_skip ?_
  refine then_n ?_
  refine wp_seq ?_
  refine wp_seq ?_
  refine wp_region_lit ?_
  refine lv (d := 5) rfl rfl (by kernel_rfl) (e_assign (v := .int .i64 0) rfl) ?_
  refine wpList_nil ?_
  refine then_n ?_
  refine wp_block ?_
  refine wp_loop_g (fun k21 a22 w12 => ∃ (f13 : Nat → Value) (x14 : Int), a22 = mk 26 f13 ∧ f13 0 = .slice A2 x1.length c3 ∧ f13 1 = .slice A7 x6.length c8 ∧ f13 5 = .int .i64 x14 ∧ St (anyOf []) H w [] H w12 ∧ laws_eqByteS.l0 k21 x1 x6 x14 = some r) k ⟨_, 0, rfl, (by kernel_rfl), (by kernel_rfl), (by kernel_rfl), S0_, M⟩ ?_
  clear M
  rintro k21 a22 w12 ⟨f13, x14, rfl, e15, e16, e17, S18, M⟩
  rcases k21 with _ | k23
  · rw [laws_eqByteS.l0] at M
    cases M
  rw [laws_eqByteS.l0] at M
  refine wp_seq ?_
  refine wp_seq ?_
  refine wp_region_lit ?_
  refine lv (d := 11) rfl rfl (by kernel_rfl) (e_move (v := .int .i64 x14) (by exact e17)) ?_
  refine lv (d := 12) rfl rfl (by kernel_rfl) (e_move (v := .slice A2 x1.length c3) (by exact e15)) ?_
  refine lv (d := 13) rfl rfl (by kernel_rfl) (e_len (A := A2) (n := x1.length) (c := c3) Try.underlying59 (by kernel_rfl)) ?_
  refine lv (d := 14) rfl rfl (by kernel_rfl) (e_lss (k := .i64) (a := x14) (b := (x1.length : Int)) (by kernel_rfl) (by kernel_rfl)) ?_
  refine wpList_nil ?_
  refine then_n ?_
  by_cases q24 : x14 < (x1.length : Int)
  · replace M := ifp q24 M
    refine cond_t rfl (bt q24 (by kernel_rfl)) ?_
    refine wp_skip ?_
    refine then_n ?_
    refine wp_seq ?_
    refine wp_block ?_
    refine wp_seq ?_
    refine region_still (by kernel_rfl) (by kernel_rfl) S18 ?_
    intro w25 S26 K27
    refine sv (d := 17) rfl rfl (by kernel_rfl) (e_move (v := .slice A2 x1.length c3) (by exact e15)) ?_
    refine sv (d := 18) rfl rfl (by kernel_rfl) (e_move (v := .int .i64 x14) (by exact e17)) ?_
    obtain ⟨q28, M⟩ := chk M
    obtain ⟨b29, o30, e31⟩ := Rd.addr h4 (show (x14).toNat < x1.length by omega)
    obtain ⟨y32, r33, k34⟩ := Rd.at h4 e31 (getD_some (0 : UInt8) (show (x14).toNat < x1.length by omega))
    obtain rfl := r33
    refine sv (d := 19) rfl rfl (by kernel_rfl) (e_indexAddr (b := b29) (off := o30) (n := x1.length) (c := c3) (sz := 1) (i := x14) (k := .i64) Try.underlying59 e31 (by kernel_rfl) (by kernel_rfl) (by kernel_rfl) q28 q24) ?_
    refine sv (d := 20) rfl rfl (by kernel_rfl) (e_load1 (ad := ⟨b29, o30 + (x14 : Int).toNat * 1, none⟩) (v := .int .u8 ((x1.getD ((x14).toNat) (0 : UInt8)).toNat : Int)) Try.underlying5 rfl (by kernel_rfl) (hpx (S26.inv.cell (k34 0 _ rfl)))) ?_
    refine sv (d := 21) rfl rfl (by kernel_rfl) (e_move (v := .slice A7 x6.length c8) (by exact e16)) ?_
    refine sv (d := 22) rfl rfl (by kernel_rfl) (e_move (v := .int .i64 x14) (by exact e17)) ?_
    obtain ⟨q35, M⟩ := chk M
    obtain ⟨b36, o37, e38⟩ := Rd.addr h9 (show (x14).toNat < x6.length by omega)
    obtain ⟨y39, r40, k41⟩ := Rd.at h9 e38 (getD_some (0 : UInt8) (show (x14).toNat < x6.length by omega))
    obtain rfl := r40
    refine sv (d := 23) rfl rfl (by kernel_rfl) (e_indexAddr (b := b36) (off := o37) (n := x6.length) (c := c8) (sz := 1) (i := x14) (k := .i64) Try.underlying59 e38 (by kernel_rfl) (by kernel_rfl) (by kernel_rfl) q28 q35) ?_
    refine sv (d := 24) rfl rfl (by kernel_rfl) (e_load1 (ad := ⟨b36, o37 + (x14 : Int).toNat * 1, none⟩) (v := .int .u8 ((x6.getD ((x14).toNat) (0 : UInt8)).toNat : Int)) Try.underlying5 rfl (by kernel_rfl) (hpx (S26.inv.cell (k41 0 _ rfl)))) ?_
    refine sv (d := 25) rfl rfl (by kernel_rfl) (e_neq (k := .u8) (a := ((x1.getD ((x14).toNat) (0 : UInt8)).toNat : Int)) (b := ((x6.getD ((x14).toNat) (0 : UInt8)).toNat : Int)) (by kernel_rfl) (by kernel_rfl)) ?_
    refine wpStill_nil ?_
    refine then_n ?_
    by_cases q42 : ((x1.getD ((x14).toNat) (0 : UInt8)).toNat : Int) ≠ ((x6.getD ((x14).toNat) (0 : UInt8)).toNat : Int)
    · replace M := ifp q42 M
      refine cond_t rfl (bt q42 (by kernel_rfl)) ?_
      refine wp_seq ?_
      refine wp_region_lit ?_
      refine lv (d := 4) rfl rfl (by kernel_rfl) (e_assign (v := .bool false) rfl) ?_
      refine wpList_nil ?_
      refine then_n ?_
      refine wp_ret ?_
      refine inb_r ?_
      refine then_r ?_
      refine then_r ?_
      refine inb_r ?_
      refine then_r ?_
      obtain rfl := Option.some.inj M
      exact ret1 rfl rfl  (show _ = .bool false from (by kernel_rfl)) ⟨rfl, S26.chg⟩
    replace M := ifn q42 M
    refine cond_f rfl (bf q42 (by kernel_rfl)) ?_
    refine wp_skip ?_
    refine inb_n ?_
    refine then_n ?_
    refine wp_region_lit ?_
    refine lv (d := 15) rfl rfl (by kernel_rfl) (e_move (v := .int .i64 x14) (by exact e17)) ?_
    refine lv (d := 16) rfl rfl (by kernel_rfl) (e_add (k := .i64) (a := x14) (b := 1) (by kernel_rfl) rfl) ?_
    refine lv (d := 5) rfl rfl (by kernel_rfl) (e_assign (v := .int .i64 (IntKind.i64.wrap (x14 + 1))) (by kernel_rfl)) ?_
    refine wpList_nil ?_
    refine then_n ?_
    exact ⟨k23, (by omega), _, (IntKind.i64.wrap (x14 + 1)), rfl, (by exact e15), (by exact e16), (by kernel_rfl), S26, M⟩
  replace M := ifn q24 M
  refine cond_f rfl (bf q24 (by kernel_rfl)) ?_
  refine wp_exit ?_
  refine then_e ?_
  refine then_e ?_
  refine inb_hit ?_
  refine then_n ?_
  refine wp_seq ?_
  refine wp_region_lit ?_
  refine lv (d := 4) rfl rfl (by kernel_rfl) (e_assign (v := .bool true) rfl) ?_
  refine wpList_nil ?_
  refine then_n ?_
  refine wp_ret ?_
  obtain rfl := Option.some.inj M
  exact ret1 rfl rfl  (show _ = .bool true from (by kernel_rfl)) ⟨rfl, S18.chg⟩

/-! laws_eqCell -/
def laws_eqCell.f (k : Nat) (x1 : Cell) (x6 : Cell) : Option Bool := (if x1.kind ≠ x6.kind then some false else (if x1.n ≠ x6.n then some false else ((laws_eqByteS.f k x1.text x6.text).bind fun t23 => (if ¬ (t23 = true) then some false else some true))))
theorem laws_eqCell.calls (k : Nat) (w : World) (H : Hp) (x1 : Cell) (A2 : Option Addr) (c3 : Nat) (x6 : Cell) (A7 : Option Addr) (c8 : Nat) (h4 : Rd tByte H A2 x1.text) (l5 : x1.text.length ≤ c3) (h9 : Rd tByte H A7 x6.text) (l10 : x6.text.length ≤ c8) (S : Own [] H w) (r : Bool) (M : laws_eqCell.f k x1 x6 = some r) :
    Calls Try.prog 59 #[.agg #[.int .i64 x1.kind, .int .i64 x1.n, .slice A2 x1.text.length c3], .agg #[.int .i64 x6.kind, .int .i64 x6.n, .slice A7 x6.text.length c8]] w (fun e e_w => e = .returned (.bool r) ∧ Chg no w e_w) := by
  rw [laws_eqCell.f] at M
  refine enter (l := [.agg #[.int .i64 x1.kind, .int .i64 x1.n, .slice A2 x1.text.length c3], .agg #[.int .i64 x6.kind, .int .i64 x6.n, .slice A7 x6.text.length c8]]) 21 Try.func59 rfl rfl rfl ?_
  have S0_ := S.st
  refine wp_seq ?_
  refine wp_region_lit ?_
  refine lve (d := 2) rfl rfl (by kernel_rfl) (new_blk (v := fun g_ => .pointer (some ⟨g_, 0, none⟩)) (cs := #[.int .i64 x1.kind, .int .i64 x1.n, .slice A2 x1.text.length c3]) (t := 65) S0_ (by kernel_rfl)) ?_
  rintro _ w11 ⟨g12, rfl, b13, S14, K15⟩
  refine lve (d := 3) rfl rfl (by kernel_rfl) (new_blk (v := fun g_ => .pointer (some ⟨g_, 0, none⟩)) (cs := #[.int .i64 x6.kind, .int .i64 x6.n, .slice A7 x6.text.length c8]) (t := 65) S14 (by kernel_rfl)) ?_
  rintro _ w16 ⟨g17, rfl, b18, S19, K20⟩
  replace b13 := K20.blk 0 rfl b13
  refine lv (d := 4) rfl rfl (by kernel_rfl) (e_assign (v := .bool false) rfl) ?_
  refine wpList_nil ?_
  refine then_n ?_
  refine wp_seq ?_
  refine wp_seq ?_
  refine wp_region_lit ?_
  refine lv (d := 5) rfl rfl (by kernel_rfl) (e_fieldAddr (b := g12) (off := 0) (o := 0) Try.underlying65 rfl rfl (sz := 1) (by kernel_rfl) (by decide) (by kernel_rfl)) ?_
  refine lv (d := 6) rfl rfl (by kernel_rfl) (e_load1 (ad := ⟨g12, 0 + 0, none⟩) (v := .int .i64 x1.kind) Try.underlying3 rfl (by kernel_rfl) (blk_cell b13 rfl)) ?_
  refine lv (d := 7) rfl rfl (by kernel_rfl) (e_fieldAddr (b := g17) (off := 0) (o := 0) Try.underlying65 rfl rfl (sz := 1) (by kernel_rfl) (by decide) (by kernel_rfl)) ?_
  refine lv (d := 8) rfl rfl (by kernel_rfl) (e_load1 (ad := ⟨g17, 0 + 0, none⟩) (v := .int .i64 x6.kind) Try.underlying3 rfl (by kernel_rfl) (blk_cell b18 rfl)) ?_
  refine lv (d := 9) rfl rfl (by kernel_rfl) (e_neq (k := .i64) (a := x1.kind) (b := x6.kind) (by kernel_rfl) (by kernel_rfl)) ?_
  refine wpList_nil ?_
  refine then_n ?_
  by_cases q21 : x1.kind ≠ x6.kind
  · replace M := ifp q21 M
    refine cond_t rfl (bt q21 (by kernel_rfl)) ?_
    refine wp_seq ?_
    refine wp_region_lit ?_
    refine lv (d := 4) rfl rfl (by kernel_rfl) (e_assign (v := .bool false) rfl) ?_
    refine wpList_nil ?_
    refine then_n ?_
    refine wp_ret ?_
    refine then_r ?_
    obtain rfl := Option.some.inj M
    exact ret1 rfl rfl  (show _ = .bool false from (by kernel_rfl)) ⟨rfl, S19.chg⟩
  replace M := ifn q21 M
  refine cond_f rfl (bf q21 (by kernel_rfl)) ?_
  refine wp_skip ?_
  refine then_n ?_
  refine wp_seq ?_
  refine wp_seq ?_
  refine wp_region_lit ?_
  refine lv (d := 10) rfl rfl (by kernel_rfl) (e_fieldAddr (b := g12) (off := 0) (o := 1) Try.underlying65 rfl rfl (sz := 1) (by kernel_rfl) (by decide) (by kernel_rfl)) ?_
  refine lv (d := 11) rfl rfl (by kernel_rfl) (e_load1 (ad := ⟨g12, 0 + 1, none⟩) (v := .int .i64 x1.n) Try.underlying3 rfl (by kernel_rfl) (blk_cell b13 rfl)) ?_
  refine lv (d := 12) rfl rfl (by kernel_rfl) (e_fieldAddr (b := g17) (off := 0) (o := 1) Try.underlying65 rfl rfl (sz := 1) (by kernel_rfl) (by decide) (by kernel_rfl)) ?_
  refine lv (d := 13) rfl rfl (by kernel_rfl) (e_load1 (ad := ⟨g17, 0 + 1, none⟩) (v := .int .i64 x6.n) Try.underlying3 rfl (by kernel_rfl) (blk_cell b18 rfl)) ?_
  refine lv (d := 14) rfl rfl (by kernel_rfl) (e_neq (k := .i64) (a := x1.n) (b := x6.n) (by kernel_rfl) (by kernel_rfl)) ?_
  refine wpList_nil ?_
  refine then_n ?_
  by_cases q22 : x1.n ≠ x6.n
  · replace M := ifp q22 M
    refine cond_t rfl (bt q22 (by kernel_rfl)) ?_
    refine wp_seq ?_
    refine wp_region_lit ?_
    refine lv (d := 4) rfl rfl (by kernel_rfl) (e_assign (v := .bool false) rfl) ?_
    refine wpList_nil ?_
    refine then_n ?_
    refine wp_ret ?_
    refine then_r ?_
    obtain rfl := Option.some.inj M
    exact ret1 rfl rfl  (show _ = .bool false from (by kernel_rfl)) ⟨rfl, S19.chg⟩
  replace M := ifn q22 M
  refine cond_f rfl (bf q22 (by kernel_rfl)) ?_
  refine wp_skip ?_
  refine then_n ?_
  refine wp_seq ?_
  refine wp_seq ?_
  refine wp_region_lit ?_
  refine lv (d := 15) rfl rfl (by kernel_rfl) (e_fieldAddr (b := g12) (off := 0) (o := 2) Try.underlying65 rfl rfl (sz := 1) (by kernel_rfl) (by decide) (by kernel_rfl)) ?_
  refine lv (d := 16) rfl rfl (by kernel_rfl) (e_load1 (ad := ⟨g12, 0 + 2, none⟩) (v := .slice A2 x1.text.length c3) Try.underlying59 rfl (by kernel_rfl) (blk_cell b13 rfl)) ?_
  refine lv (d := 17) rfl rfl (by kernel_rfl) (e_fieldAddr (b := g17) (off := 0) (o := 2) Try.underlying65 rfl rfl (sz := 1) (by kernel_rfl) (by decide) (by kernel_rfl)) ?_
  refine lv (d := 18) rfl rfl (by kernel_rfl) (e_load1 (ad := ⟨g17, 0 + 2, none⟩) (v := .slice A7 x6.text.length c8) Try.underlying59 rfl (by kernel_rfl) (blk_cell b18 rfl)) ?_
  obtain ⟨t23, u24, M⟩ := bnd M
  refine lcall (d := 19) rfl rfl (by kernel_rfl) (e_call (l := [.tmp 16, .tmp 18]) (vs := [.slice A2 x1.text.length c3, .slice A7 x6.text.length c8]) Try.func104 (by kernel_rfl) rfl (by kernel_rfl) rfl) (laws_eqByteS.calls k w16 H x1.text A2 c3 x6.text A7 c8 h4 l5 h9 l10 S19.own0 t23 u24) ?_
  rintro _ w25 ⟨rfl, C26⟩
  refine ⟨_, rfl, ?_⟩
  obtain ⟨S27, K28⟩ := S19.still C26
  replace b18 := K28.blk 0 rfl b18
  replace b13 := K28.blk 1 rfl b13
  refine lv (d := 20) rfl rfl (by kernel_rfl) (e_notv (c := t23) (by kernel_rfl)) ?_
  refine wpList_nil ?_
  refine then_n ?_
  by_cases q29 : ¬ (t23 = true)
  · replace M := ifp q29 M
    refine cond_t rfl (bt q29 (by kernel_rfl)) ?_
    refine wp_seq ?_
    refine wp_region_lit ?_
    refine lv (d := 4) rfl rfl (by kernel_rfl) (e_assign (v := .bool false) rfl) ?_
    refine wpList_nil ?_
    refine then_n ?_
    refine wp_ret ?_
    refine then_r ?_
    obtain rfl := Option.some.inj M
    exact ret1 rfl rfl  (show _ = .bool false from (by kernel_rfl)) ⟨rfl, S27.chg⟩
  replace M := ifn q29 M
  refine cond_f rfl (bf q29 (by kernel_rfl)) ?_
  refine wp_skip ?_
  refine then_n ?_
  refine wp_seq ?_
  refine wp_region_lit ?_
  refine lv (d := 4) rfl rfl (by kernel_rfl) (e_assign (v := .bool true) rfl) ?_
  refine wpList_nil ?_
  refine then_n ?_
  refine wp_ret ?_
  obtain rfl := Option.some.inj M
  exact ret1 rfl rfl  (show _ = .bool true from (by kernel_rfl)) ⟨rfl, S27.chg⟩

/-! laws_eqCellS -/
def laws_eqCellS.l0 : Nat → (List Cell) → (List Cell) → Int → Option Bool
  | 0, _, _, _ => none
  | k23 + 1, x1, x6, x14 => (if x14 < (x1.length : Int) then (if 0 ≤ x14 then (if x14 < (x6.length : Int) then ((laws_eqCell.f k23 (x1.getD ((x14).toNat) z65) (x6.getD ((x14).toNat) z65)).bind fun t47 => (if ¬ (t47 = true) then some false else (laws_eqCellS.l0 k23 x1 x6 (IntKind.i64.wrap (x14 + 1))))) else none) else none) else some true)
def laws_eqCellS.f (k : Nat) (x1 : List Cell) (x6 : List Cell) : Option Bool := (if (x1.length : Int) ≠ (x6.length : Int) then some false else (laws_eqCellS.l0 k x1 x6 0))
theorem laws_eqCellS.calls (k : Nat) (w : World) (H : Hp) (x1 : List Cell) (A2 : Option Addr) (c3 : Nat) (x6 : List Cell) (A7 : Option Addr) (c8 : Nat) (h4 : Rd st65 H A2 x1) (l5 : x1.length ≤ c3) (h9 : Rd st65 H A7 x6) (l10 : x6.length ≤ c8) (S : Own [] H w) (r : Bool) (M : laws_eqCellS.f k x1 x6 = some r) :
    Calls Try.prog 18 #[.slice A2 x1.length c3, .slice A7 x6.length c8] w (fun e e_w => e = .returned (.bool r) ∧ Chg no w e_w) := by
  rw [laws_eqCellS.f] at M
  refine enter (l := [.slice A2 x1.length c3, .slice A7 x6.length c8]) 27 Try.func18 rfl rfl rfl ?_
  have S0_ := S.st
  refine wp_seq ?_
  refine wp_region_lit ?_
  refine lv (d := 4) rfl rfl (by kernel_rfl) (e_assign (v := .bool false) rfl) ?_
  refine wpList_nil ?_
  refine then_n ?_
  refine wp_seq ?_
  refine wp_seq ?_
  refine wp_region_lit ?_
  refine lv (d := 6) rfl rfl (by kernel_rfl) (e_move (v := .slice A2 x1.length c3) (by kernel_rfl)) ?_
  refine lv (d := 7) rfl rfl (by kernel_rfl) (e_len (A := A2) (n := x1.length) (c := c3) Try.underlying25 (by kernel_rfl)) ?_
  refine lv (d := 8) rfl rfl (by kernel_rfl) (e_move (v := .slice A7 x6.length c8) (by kernel_rfl)) ?_
  refine lv (d := 9) rfl rfl (by kernel_rfl) (e_len (A := A7) (n := x6.length) (c := c8) Try.underlying25 (by kernel_rfl)) ?_
  refine lv (d := 10) rfl rfl (by kernel_rfl) (e_neq (k := .i64) (a := (x1.length : Int)) (b := (x6.length : Int)) (by kernel_rfl) (by kernel_rfl)) ?_
  refine wpList_nil ?_
  refine then_n ?_
  by_cases q11 : (x1.length : Int) ≠ (x6.length : Int)
  · replace M := ifp q11 M
    refine cond_t rfl (bt q11 (by kernel_rfl)) ?_
    refine wp_seq ?_
    refine wp_region_lit ?_
    refine lv (d := 4) rfl rfl (by kernel_rfl) (e_assign (v := .bool false) rfl) ?_
    refine wpList_nil ?_
    refine then_n ?_
    refine wp_ret ?_
    refine then_r ?_
    obtain rfl := Option.some.inj M
    exact ret1 rfl rfl  (show _ = .bool false from (by kernel_rfl)) ⟨rfl, S0_.chg⟩
  replace M := ifn q11 M
  refine cond_f rfl (bf q11 (by kernel_rfl)) ?_
  refine wp_skip ?_
  refine then_n ?_
  refine wp_seq ?_
  refine wp_seq ?_
  refine wp_region_lit ?_
  refine lv (d := 5) rfl rfl (by kernel_rfl) (e_assign (v := .int .i64 0) rfl) ?_
  refine wpList_nil ?_
  refine then_n ?_
  refine wp_block ?_
  refine wp_loop_g (fun k21 a22 w12 => ∃ (f13 : Nat → Value) (x14 : Int), a22 = mk 27 f13 ∧ f13 0 = .slice A2 x1.length c3 ∧ f13 1 = .slice A7 x6.length c8 ∧ f13 5 = .int .i64 x14 ∧ St (anyOf []) H w [] H w12 ∧ laws_eqCellS.l0 k21 x1 x6 x14 = some r) k ⟨_, 0, rfl, (by kernel_rfl), (by kernel_rfl), (by kernel_rfl), S0_, M⟩ ?_
  clear M
  rintro k21 a22 w12 ⟨f13, x14, rfl, e15, e16, e17, S18, M⟩
  rcases k21 with _ | k23
  · rw [laws_eqCellS.l0] at M
    cases M
  rw [laws_eqCellS.l0] at M
  refine wp_seq ?_
  refine wp_seq ?_
  refine wp_region_lit ?_
  refine lv (d := 11) rfl rfl (by kernel_rfl) (e_move (v := .int .i64 x14) (by exact e17)) ?_
  refine lv (d := 12) rfl rfl (by kernel_rfl) (e_move (v := .slice A2 x1.length c3) (by exact e15)) ?_
  refine lv (d := 13) rfl rfl (by kernel_rfl) (e_len (A := A2) (n := x1.length) (c := c3) Try.underlying25 (by kernel_rfl)) ?_
  refine lv (d := 14) rfl rfl (by kernel_rfl) (e_lss (k := .i64) (a := x14) (b := (x1.length : Int)) (by kernel_rfl) (by kernel_rfl)) ?_
  refine wpList_nil ?_
  refine then_n ?_
  by_cases q24 : x14 < (x1.length : Int)
  · replace M := ifp q24 M
    refine cond_t rfl (bt q24 (by kernel_rfl)) ?_
    refine wp_skip ?_
    refine then_n ?_
    refine wp_seq ?_
    refine wp_block ?_
    refine wp_seq ?_
    refine region_quiet (by kernel_rfl) (by kernel_rfl) ?_
    refine qv (d := 17) rfl rfl (by kernel_rfl) (fun wq_ hq_ => e_move (v := .slice A2 x1.length c3) (by exact e15)) ?_
    refine qv (d := 18) rfl rfl (by kernel_rfl) (fun wq_ hq_ => e_move (v := .int .i64 x14) (by exact e17)) ?_
    obtain ⟨q25, M⟩ := chk M
    obtain ⟨b26, o27, e28⟩ := Rd.addr h4 (show (x14).toNat < x1.length by omega)
    obtain ⟨y29, r30, k31⟩ := Rd.at h4 e28 (getD_some z65 (show (x14).toNat < x1.length by omega))
    obtain ⟨A32, c33, rfl, l34, h35⟩ := st65_open r30
    refine qv (d := 19) rfl rfl (by kernel_rfl) (fun wq_ hq_ => e_indexAddr (b := b26) (off := o27) (n := x1.length) (c := c3) (sz := 3) (i := x14) (k := .i64) Try.underlying25 e28 (by kernel_rfl) (by kernel_rfl) (by kernel_rfl) q25 q24) ?_
    refine qv (d := 20) rfl rfl (by kernel_rfl) (fun wq_ hq_ => e_loadS (b := b26) (off := o27 + (x14 : Int).toNat * 3) (cs := [.int .i64 ((x1.getD ((x14).toNat) z65).kind), .int .i64 ((x1.getD ((x14).toNat) z65).n), .slice A32 ((x1.getD ((x14).toNat) z65).text).length c33]) Try.underlying65 rfl (by kernel_rfl) (by kernel_rfl) (fun j_ u_ e_ => (hpx ((S18.still hq_).1.inv.cell (k31 j_ u_ e_))))) ?_
    refine qv (d := 21) rfl rfl (by kernel_rfl) (fun wq_ hq_ => e_move (v := .slice A7 x6.length c8) (by exact e16)) ?_
    refine qv (d := 22) rfl rfl (by kernel_rfl) (fun wq_ hq_ => e_move (v := .int .i64 x14) (by exact e17)) ?_
    obtain ⟨q36, M⟩ := chk M
    obtain ⟨b37, o38, e39⟩ := Rd.addr h9 (show (x14).toNat < x6.length by omega)
    obtain ⟨y40, r41, k42⟩ := Rd.at h9 e39 (getD_some z65 (show (x14).toNat < x6.length by omega))
    obtain ⟨A43, c44, rfl, l45, h46⟩ := st65_open r41
    refine qv (d := 23) rfl rfl (by kernel_rfl) (fun wq_ hq_ => e_indexAddr (b := b37) (off := o38) (n := x6.length) (c := c8) (sz := 3) (i := x14) (k := .i64) Try.underlying25 e39 (by kernel_rfl) (by kernel_rfl) (by kernel_rfl) q25 q36) ?_
    refine qv (d := 24) rfl rfl (by kernel_rfl) (fun wq_ hq_ => e_loadS (b := b37) (off := o38 + (x14 : Int).toNat * 3) (cs := [.int .i64 ((x6.getD ((x14).toNat) z65).kind), .int .i64 ((x6.getD ((x14).toNat) z65).n), .slice A43 ((x6.getD ((x14).toNat) z65).text).length c44]) Try.underlying65 rfl (by kernel_rfl) (by kernel_rfl) (fun j_ u_ e_ => (hpx ((S18.still hq_).1.inv.cell (k42 j_ u_ e_))))) ?_
    obtain ⟨t47, u48, M⟩ := bnd M
    refine qcall (v := .bool t47) (d := 25) rfl rfl (by kernel_rfl) (fun w_ => e_call (l := [.tmp 20, .tmp 24]) (vs := [.agg #[.int .i64 ((x1.getD ((x14).toNat) z65).kind), .int .i64 ((x1.getD ((x14).toNat) z65).n), .slice A32 ((x1.getD ((x14).toNat) z65).text).length c33], .agg #[.int .i64 ((x6.getD ((x14).toNat) z65).kind), .int .i64 ((x6.getD ((x14).toNat) z65).n), .slice A43 ((x6.getD ((x14).toNat) z65).text).length c44]]) Try.func59 (by kernel_rfl) rfl (by kernel_rfl) rfl) (fun wq_ hq_ => (by obtain ⟨S_, K_⟩ := S18.still hq_; exact (laws_eqCell.calls k23 wq_ H (x1.getD ((x14).toNat) z65) A32 c33 (x6.getD ((x14).toNat) z65) A43 c44 h35 l34 h46 l45 S_.own0 t47 u48))) ?_
    refine qv (d := 26) rfl rfl (by kernel_rfl) (fun wq_ hq_ => e_notv (c := t47) (by kernel_rfl)) ?_
    refine wpQuiet_nil ?_
    intro w49 C52
    obtain ⟨S50, K51⟩ := S18.still C52
    refine then_n ?_
    by_cases q53 : ¬ (t47 = true)
    · replace M := ifp q53 M
      refine cond_t rfl (bt q53 (by kernel_rfl)) ?_
      refine wp_seq ?_
      refine wp_region_lit ?_
      refine lv (d := 4) rfl rfl (by kernel_rfl) (e_assign (v := .bool false) rfl) ?_
      refine wpList_nil ?_
      refine then_n ?_
      refine wp_ret ?_
      refine inb_r ?_
      refine then_r ?_
      refine then_r ?_
      refine inb_r ?_
      refine then_r ?_
      obtain rfl := Option.some.inj M
      exact ret1 rfl rfl  (show _ = .bool false from (by kernel_rfl)) ⟨rfl, S50.chg⟩
    replace M := ifn q53 M
    refine cond_f rfl (bf q53 (by kernel_rfl)) ?_
    refine wp_skip ?_
    refine inb_n ?_
    refine then_n ?_
    refine wp_region_lit ?_
    refine lv (d := 15) rfl rfl (by kernel_rfl) (e_move (v := .int .i64 x14) (by exact e17)) ?_
    refine lv (d := 16) rfl rfl (by kernel_rfl) (e_add (k := .i64) (a := x14) (b := 1) (by kernel_rfl) rfl) ?_
    refine lv (d := 5) rfl rfl (by kernel_rfl) (e_assign (v := .int .i64 (IntKind.i64.wrap (x14 + 1))) (by kernel_rfl)) ?_
    refine wpList_nil ?_
    refine then_n ?_
    exact ⟨k23, (by omega), _, (IntKind.i64.wrap (x14 + 1)), rfl, (by exact e15), (by exact e16), (by kernel_rfl), S50, M⟩
  replace M := ifn q24 M
  refine cond_f rfl (bf q24 (by kernel_rfl)) ?_
  refine wp_exit ?_
  refine then_e ?_
  refine then_e ?_
  refine inb_hit ?_
  refine then_n ?_
  refine wp_seq ?_
  refine wp_region_lit ?_
  refine lv (d := 4) rfl rfl (by kernel_rfl) (e_assign (v := .bool true) rfl) ?_
  refine wpList_nil ?_
  refine then_n ?_
  refine wp_ret ?_
  obtain rfl := Option.some.inj M
  exact ret1 rfl rfl  (show _ = .bool true from (by kernel_rfl)) ⟨rfl, S18.chg⟩

/-! laws_markByteS -/
def laws_markByteS_2.l0 : Nat → (List UInt8) → Int → Int → (List UInt8) → Option (Int × (List UInt8))
  | 0, _, _, _, _ => none
  | k22 + 1, x1, x9, x10, x12 => (if x10 < (x1.length : Int) then (if 0 ≤ x10 then (laws_markByteS_2.l0 k22 x1 (IntKind.i64.wrap (x9 + 1)) (IntKind.i64.wrap (x10 + 1)) (x12.set ((x10).toNat) (b8 (x9)))) else none) else some (x9, x12))
def laws_markByteS_2.f (k : Nat) (x1 : List UInt8) (x6 : Int) : Option (Int × (List UInt8)) := (laws_markByteS_2.l0 k x1 x6 0 x1)
theorem laws_markByteS_2.calls (k : Nat) (w : World) (H : Hp) (x1 : List UInt8) (A2 : Option Addr) (c3 : Nat) (F5 : Foot) (x6 : Int) (h4 : Row tByte 5 H (hp w) F5 A2 c3 x1) (S : Own [F5] H w) (r : Int × (List UInt8)) (M : laws_markByteS_2.f k x1 x6 = some r) :
    Calls Try.prog 65 #[.slice A2 x1.length c3, .int .i64 x6] w (fun e e_w => ∃ (F_1 : Foot) (H_ : Hp), e = .returned (.int .i64 r.1) ∧ r.2.length = x1.length ∧ Row tByte 5 H_ (hp e_w) F_1 A2 c3 r.2 ∧ St (anyOf [F5]) H w [F_1] H_ e_w) := by
  rw [laws_markByteS_2.f] at M
  refine enter (l := [.slice A2 x1.length c3, .int .i64 x6]) 20 Try.func65 rfl rfl rfl ?_
  have S0_ := S.st
  refine wp_seq ?_
  refine wp_region_lit ?_
  refine lv (d := 4) rfl rfl (by kernel_rfl) (e_assign (v := .int .i64 0) rfl) ?_
  refine wpList_nil ?_
  refine then_n ?_
  refine wp_seq ?_
  refine wp_seq ?_
  refine wp_region_lit ?_
  refine lv (d := 5) rfl rfl (by kernel_rfl) (e_assign (v := .int .i64 0) rfl) ?_
  refine wpList_nil ?_
  refine then_n ?_
  refine wp_block ?_
  refine wp_loop_g (fun k20 a21 w7 => ∃ (f8 : Nat → Value) (x9 : Int) (x10 : Int) (F11 : Foot) (x12 : List UInt8), a21 = mk 20 f8 ∧ f8 0 = .slice A2 x1.length c3 ∧ f8 1 = .int .i64 x9 ∧ f8 5 = .int .i64 x10 ∧ Row tByte 5 H (hp w7) F11 A2 c3 x12 ∧ x12.length = x1.length ∧ St (anyOf [F5]) H w [F11] H w7 ∧ laws_markByteS_2.l0 k20 x1 x9 x10 x12 = some r) k ⟨_, x6, 0, F5, x1, rfl, (by kernel_rfl), (by kernel_rfl), (by kernel_rfl), h4, rfl, S0_, M⟩ ?_
  clear M
  rintro k20 a21 w7 ⟨f8, x9, x10, F11, x12, rfl, e14, e15, e16, h4, n13, S17, M⟩
  rcases k20 with _ | k22
  · rw [laws_markByteS_2.l0] at M
    cases M
  rw [laws_markByteS_2.l0] at M
  refine wp_seq ?_
  refine wp_seq ?_
  refine wp_region_lit ?_
  refine lv (d := 6) rfl rfl (by kernel_rfl) (e_move (v := .int .i64 x10) (by exact e16)) ?_
  refine lv (d := 7) rfl rfl (by kernel_rfl) (e_move (v := .slice A2 x1.length c3) (by exact e14)) ?_
  refine lv (d := 8) rfl rfl (by kernel_rfl) (e_len (A := A2) (n := x1.length) (c := c3) Try.underlying59 (by kernel_rfl)) ?_
  refine lv (d := 9) rfl rfl (by kernel_rfl) (e_lss (k := .i64) (a := x10) (b := (x1.length : Int)) (by kernel_rfl) (by kernel_rfl)) ?_
  refine wpList_nil ?_
  refine then_n ?_
  by_cases q23 : x10 < (x1.length : Int)
  · replace M := ifp q23 M
    refine cond_t rfl (bt q23 (by kernel_rfl)) ?_
    refine wp_skip ?_
    refine then_n ?_
    refine wp_seq ?_
    refine wp_block ?_
    refine wp_seq ?_
    refine wp_region_lit ?_
    refine lv (d := 12) rfl rfl (by kernel_rfl) (e_move (v := .slice A2 x1.length c3) (by exact e14)) ?_
    refine lv (d := 13) rfl rfl (by kernel_rfl) (e_move (v := .int .i64 x10) (by exact e16)) ?_
    refine lv (d := 14) rfl rfl (by kernel_rfl) (e_move (v := .int .i64 x9) (by exact e15)) ?_
    refine lv (d := 15) rfl rfl (by kernel_rfl) (e_conv_i8 (k := .i64) (a := x9) (by kernel_rfl) Try.underlying5 (by kernel_rfl)) ?_
    obtain ⟨q24, M⟩ := chk M
    obtain ⟨b25, e27⟩ := Row.addr h4 (show (x10).toNat < x12.length by have : x12.length = x1.length := n13; omega)
    refine lv (d := 16) rfl rfl (by kernel_rfl) (e_indexAddr (b := b25) (off := 0) (n := x1.length) (c := c3) (sz := 1) (i := x10) (k := .i64) Try.underlying59 e27 (by kernel_rfl) (by kernel_rfl) (by kernel_rfl) q24 q23) ?_
    have S28 := S17.unit
    have S29 := S28.pull (F := F11) (Fr := [no]) 1 rfl rfl
    refine lse rfl rfl (by kernel_rfl) (e_setel (d := tByte) (b := b25) (i := (x10).toNat) (v := .int .u8 ((b8 (x9)).toNat : Int)) (vs := [.int .u8 ((b8 (x9)).toNat : Int)]) (yv := (b8 (x9))) S29 (by kernel_rfl) e27 (by kernel_rfl) rfl (by kernel_rfl) h4 (show (x10).toNat < x12.length by have : x12.length = x1.length := n13; omega) rfl) ?_
    rintro w30 ⟨F32, h31, S33, K34⟩
    clear h4
    refine wpList_nil ?_
    refine then_n ?_
    refine wp_region_lit ?_
    refine lv (d := 17) rfl rfl (by kernel_rfl) (e_move (v := .int .i64 x9) (by exact e15)) ?_
    refine lv (d := 18) rfl rfl (by kernel_rfl) (e_add (k := .i64) (a := x9) (b := 1) (by kernel_rfl) rfl) ?_
    refine lv (d := 1) rfl rfl (by kernel_rfl) (e_assign (v := .int .i64 (IntKind.i64.wrap (x9 + 1))) (by kernel_rfl)) ?_
    refine wpList_nil ?_
    refine inb_n ?_
    refine then_n ?_
    refine wp_region_lit ?_
    refine lv (d := 10) rfl rfl (by kernel_rfl) (e_move (v := .int .i64 x10) (by exact e16)) ?_
    refine lv (d := 11) rfl rfl (by kernel_rfl) (e_add (k := .i64) (a := x10) (b := 1) (by kernel_rfl) rfl) ?_
    refine lv (d := 5) rfl rfl (by kernel_rfl) (e_assign (v := .int .i64 (IntKind.i64.wrap (x10 + 1))) (by kernel_rfl)) ?_
    refine wpList_nil ?_
    refine then_n ?_
    exact ⟨k22, (by omega), _, (IntKind.i64.wrap (x9 + 1)), (IntKind.i64.wrap (x10 + 1)), F32, (x12.set ((x10).toNat) (b8 (x9))), rfl, (by exact e14), (by kernel_rfl), (by kernel_rfl), h31, (List.length_set.trans n13), S33, M⟩
  replace M := ifn q23 M
  refine cond_f rfl (bf q23 (by kernel_rfl)) ?_
  refine wp_exit ?_
  refine then_e ?_
  refine then_e ?_
  refine inb_hit ?_
  refine then_n ?_
  refine wp_seq ?_
  refine wp_region_lit ?_
  refine lv (d := 19) rfl rfl (by kernel_rfl) (e_move (v := .int .i64 x9) (by exact e15)) ?_
  refine lv (d := 4) rfl rfl (by kernel_rfl) (e_assign (v := .int .i64 x9) (by kernel_rfl)) ?_
  refine wpList_nil ?_
  refine then_n ?_
  refine wp_ret ?_
  obtain rfl := Option.some.inj M
  exact ret1 rfl rfl  (show _ = .int .i64 x9 from (by kernel_rfl)) ⟨F11, H, rfl, n13, h4, S17⟩

/-! laws_markCellS -/
def laws_markCellS_2.l0 : Nat → (List Cell) → Int → Int → (List Cell) → Option (Int × (List Cell))
  | 0, _, _, _, _ => none
  | k24 + 1, x1, x11, x12, x14 => (if x12 < (x1.length : Int) then (if 0 ≤ x12 then ((laws_markByteS_2.f k24 ((((x14.set ((x12).toNat) ({(x14.getD ((x12).toNat) z65) with kind := x11})).set ((x12).toNat) ({((x14.set ((x12).toNat) ({(x14.getD ((x12).toNat) z65) with kind := x11})).getD ((x12).toNat) z65) with n := (IntKind.i64.wrap (x11 + 1))})).getD ((x12).toNat) z65).text) (IntKind.i64.wrap ((IntKind.i64.wrap (x11 + 1)) + 1))).bind fun t71 => (laws_markCellS_2.l0 k24 x1 t71.1 (IntKind.i64.wrap (x12 + 1)) (((x14.set ((x12).toNat) ({(x14.getD ((x12).toNat) z65) with kind := x11})).set ((x12).toNat) ({((x14.set ((x12).toNat) ({(x14.getD ((x12).toNat) z65) with kind := x11})).getD ((x12).toNat) z65) with n := (IntKind.i64.wrap (x11 + 1))})).set ((x12).toNat) ({(((x14.set ((x12).toNat) ({(x14.getD ((x12).toNat) z65) with kind := x11})).set ((x12).toNat) ({((x14.set ((x12).toNat) ({(x14.getD ((x12).toNat) z65) with kind := x11})).getD ((x12).toNat) z65) with n := (IntKind.i64.wrap (x11 + 1))})).getD ((x12).toNat) z65) with text := t71.2})))) else none) else some (x11, x14))
def laws_markCellS_2.f (k : Nat) (x1 : List Cell) (x6 : Int) : Option (Int × (List Cell)) := (laws_markCellS_2.l0 k x1 x6 0 x1)
theorem laws_markCellS_2.calls (k : Nat) (w : World) (H : Hp) (x1 : List Cell) (A2 : Option Addr) (c3 : Nat) (F5 : Foot) (x6 : Int) (h4 : Row st65 65 H (hp w) F5 A2 c3 x1) (S : Own [F5] H w) (r : Int × (List Cell)) (M : laws_markCellS_2.f k x1 x6 = some r) :
    Calls Try.prog 24 #[.slice A2 x1.length c3, .int .i64 x6] w (fun e e_w => ∃ (F_1 : Foot) (H_ : Hp), e = .returned (.int .i64 r.1) ∧ r.2.length = x1.length ∧ Row st65 65 H_ (hp e_w) F_1 A2 c3 r.2 ∧ St (anyOf [F5]) H w [F_1] H_ e_w) := by
  rw [laws_markCellS_2.f] at M
  refine enter (l := [.slice A2 x1.length c3, .int .i64 x6]) 34 Try.func24 rfl rfl rfl ?_
  have S0_ := S.st
  refine wp_seq ?_
  refine wp_region_lit ?_
  refine lv (d := 4) rfl rfl (by kernel_rfl) (e_assign (v := .int .i64 0) rfl) ?_
  refine wpList_nil ?_
  refine then_n ?_
  refine wp_seq ?_
  refine wp_seq ?_
  refine wp_region_lit ?_
  refine lv (d := 5) rfl rfl (by kernel_rfl) (e_assign (v := .int .i64 0) rfl) ?_
  refine wpList_nil ?_
  refine then_n ?_
  refine wp_block ?_
  refine wp_loop_g (fun k22 a23 w7 => ∃ (f8 : Nat → Value) (H9 : Hp) (x11 : Int) (x12 : Int) (F13 : Foot) (x14 : List Cell), a23 = mk 34 f8 ∧ f8 0 = .slice A2 x1.length c3 ∧ f8 1 = .int .i64 x11 ∧ f8 5 = .int .i64 x12 ∧ Row st65 65 H9 (hp w7) F13 A2 c3 x14 ∧ x14.length = x1.length ∧ Ext H H9 ∧ St (anyOf [F5]) H w [F13] H9 w7 ∧ laws_markCellS_2.l0 k22 x1 x11 x12 x14 = some r) k ⟨_, H, x6, 0, F5, x1, rfl, (by kernel_rfl), (by kernel_rfl), (by kernel_rfl), h4, rfl, (Ext.refl _), S0_, M⟩ ?_
  clear M
  rintro k22 a23 w7 ⟨f8, H9, x11, x12, F13, x14, rfl, e16, e17, e18, h4, n15, Y10, S19, M⟩
  rcases k22 with _ | k24
  · rw [laws_markCellS_2.l0] at M
    cases M
  rw [laws_markCellS_2.l0] at M
  refine wp_seq ?_
  refine wp_seq ?_
  refine wp_region_lit ?_
  refine lv (d := 6) rfl rfl (by kernel_rfl) (e_move (v := .int .i64 x12) (by exact e18)) ?_
  refine lv (d := 7) rfl rfl (by kernel_rfl) (e_move (v := .slice A2 x1.length c3) (by exact e16)) ?_
  refine lv (d := 8) rfl rfl (by kernel_rfl) (e_len (A := A2) (n := x1.length) (c := c3) Try.underlying25 (by kernel_rfl)) ?_
  refine lv (d := 9) rfl rfl (by kernel_rfl) (e_lss (k := .i64) (a := x12) (b := (x1.length : Int)) (by kernel_rfl) (by kernel_rfl)) ?_
  refine wpList_nil ?_
  refine then_n ?_
  by_cases q25 : x12 < (x1.length : Int)
  · replace M := ifp q25 M
    refine cond_t rfl (bt q25 (by kernel_rfl)) ?_
    refine wp_skip ?_
    refine then_n ?_
    refine wp_seq ?_
    refine wp_block ?_
    refine wp_seq ?_
    refine wp_region_lit ?_
    refine lv (d := 12) rfl rfl (by kernel_rfl) (e_move (v := .slice A2 x1.length c3) (by exact e16)) ?_
    refine lv (d := 13) rfl rfl (by kernel_rfl) (e_move (v := .int .i64 x12) (by exact e18)) ?_
    refine lv (d := 14) rfl rfl (by kernel_rfl) (e_move (v := .int .i64 x11) (by exact e17)) ?_
    obtain ⟨q26, M⟩ := chk M
    obtain ⟨b27, e29⟩ := Row.addr h4 (show (x12).toNat < x14.length by have : x14.length = x1.length := n15; omega)
    refine lv (d := 15) rfl rfl (by kernel_rfl) (e_indexAddr (b := b27) (off := 0) (n := x1.length) (c := c3) (sz := 3) (i := x12) (k := .i64) Try.underlying25 e29 (by kernel_rfl) (by kernel_rfl) (by kernel_rfl) q26 q25) ?_
    refine lv (d := 16) rfl rfl (by kernel_rfl) (e_fieldAddr (b := b27) (off := 0 + (x12 : Int).toNat * 3) (o := 0) Try.underlying65 rfl rfl (sz := 1) (by kernel_rfl) (by decide) (by kernel_rfl)) ?_
    have S30 := S19.unit
    have S31 := S30.pull (F := F13) (Fr := [no]) 1 rfl rfl
    refine lse rfl rfl (by kernel_rfl) (e_setpart (d := st65) (b := b27) (i := (x12).toNat) (j := 0) (v := .int .i64 x11) (vs := [.int .i64 x11]) (yv := {(x14.getD ((x12).toNat) z65) with kind := x11}) S31 (by kernel_rfl) e29 (by kernel_rfl) rfl (by kernel_rfl) h4 (getD_some z65 (show (x12).toNat < x14.length by have : x14.length = x1.length := n15; omega)) (Nat.le_of_ble_eq_true rfl) (List.forall_mem_cons.2 ⟨rfl, (fun _ h_ => by cases h_)⟩) (fun _ _ _ o_ => st65_u0 x11 o_)) ?_
    rintro w32 ⟨F34, h33, S35, K36⟩
    clear h4
    refine wpList_nil ?_
    refine then_n ?_
    refine wp_seq ?_
    refine wp_region_lit ?_
    refine lv (d := 17) rfl rfl (by kernel_rfl) (e_move (v := .int .i64 x11) (by exact e17)) ?_
    refine lv (d := 18) rfl rfl (by kernel_rfl) (e_add (k := .i64) (a := x11) (b := 1) (by kernel_rfl) rfl) ?_
    refine lv (d := 1) rfl rfl (by kernel_rfl) (e_assign (v := .int .i64 (IntKind.i64.wrap (x11 + 1))) (by kernel_rfl)) ?_
    refine wpList_nil ?_
    refine then_n ?_
    refine wp_seq ?_
    refine wp_region_lit ?_
    refine lv (d := 19) rfl rfl (by kernel_rfl) (e_move (v := .slice A2 x1.length c3) (by exact e16)) ?_
    refine lv (d := 20) rfl rfl (by kernel_rfl) (e_move (v := .int .i64 x12) (by exact e18)) ?_
    refine lv (d := 21) rfl rfl (by kernel_rfl) (e_move (v := .int .i64 (IntKind.i64.wrap (x11 + 1))) (by kernel_rfl)) ?_
    obtain ⟨b37, e39⟩ := Row.addr h33 (show (x12).toNat < (x14.set ((x12).toNat) ({(x14.getD ((x12).toNat) z65) with kind := x11})).length by have : (x14.set ((x12).toNat) ({(x14.getD ((x12).toNat) z65) with kind := x11})).length = x1.length := (List.length_set.trans n15); omega)
    refine lv (d := 22) rfl rfl (by kernel_rfl) (e_indexAddr (b := b37) (off := 0) (n := x1.length) (c := c3) (sz := 3) (i := x12) (k := .i64) Try.underlying25 e39 (by kernel_rfl) (by kernel_rfl) (by kernel_rfl) q26 q25) ?_
    refine lv (d := 23) rfl rfl (by kernel_rfl) (e_fieldAddr (b := b37) (off := 0 + (x12 : Int).toNat * 3) (o := 1) Try.underlying65 rfl rfl (sz := 1) (by kernel_rfl) (by decide) (by kernel_rfl)) ?_
    have S40 := S35.unit
    have S41 := S40.pull (F := F34) (Fr := [no]) 1 rfl rfl
    refine lse rfl rfl (by kernel_rfl) (e_setpart (d := st65) (b := b37) (i := (x12).toNat) (j := 1) (v := .int .i64 (IntKind.i64.wrap (x11 + 1))) (vs := [.int .i64 (IntKind.i64.wrap (x11 + 1))]) (yv := {((x14.set ((x12).toNat) ({(x14.getD ((x12).toNat) z65) with kind := x11})).getD ((x12).toNat) z65) with n := (IntKind.i64.wrap (x11 + 1))}) S41 (by kernel_rfl) e39 (by kernel_rfl) rfl (by kernel_rfl) h33 (getD_some z65 (show (x12).toNat < (x14.set ((x12).toNat) ({(x14.getD ((x12).toNat) z65) with kind := x11})).length by have : (x14.set ((x12).toNat) ({(x14.getD ((x12).toNat) z65) with kind := x11})).length = x1.length := (List.length_set.trans n15); omega)) (Nat.le_of_ble_eq_true rfl) (List.forall_mem_cons.2 ⟨rfl, (fun _ h_ => by cases h_)⟩) (fun _ _ _ o_ => st65_u1 (IntKind.i64.wrap (x11 + 1)) o_)) ?_
    rintro w42 ⟨F44, h43, S45, K46⟩
    clear h33
    refine wpList_nil ?_
    refine then_n ?_
    refine wp_seq ?_
    refine wp_region_lit ?_
    refine lv (d := 24) rfl rfl (by kernel_rfl) (e_move (v := .int .i64 (IntKind.i64.wrap (x11 + 1))) (by kernel_rfl)) ?_
    refine lv (d := 25) rfl rfl (by kernel_rfl) (e_add (k := .i64) (a := (IntKind.i64.wrap (x11 + 1))) (b := 1) (by kernel_rfl) rfl) ?_
    refine lv (d := 1) rfl rfl (by kernel_rfl) (e_assign (v := .int .i64 (IntKind.i64.wrap ((IntKind.i64.wrap (x11 + 1)) + 1))) (by kernel_rfl)) ?_
    refine wpList_nil ?_
    refine then_n ?_
    refine wp_region_lit ?_
    refine lv (d := 26) rfl rfl (by kernel_rfl) (e_move (v := .slice A2 x1.length c3) (by exact e16)) ?_
    refine lv (d := 27) rfl rfl (by kernel_rfl) (e_move (v := .int .i64 x12) (by exact e18)) ?_
    obtain ⟨b47, e49⟩ := Row.addr h43 (show (x12).toNat < ((x14.set ((x12).toNat) ({(x14.getD ((x12).toNat) z65) with kind := x11})).set ((x12).toNat) ({((x14.set ((x12).toNat) ({(x14.getD ((x12).toNat) z65) with kind := x11})).getD ((x12).toNat) z65) with n := (IntKind.i64.wrap (x11 + 1))})).length by have : ((x14.set ((x12).toNat) ({(x14.getD ((x12).toNat) z65) with kind := x11})).set ((x12).toNat) ({((x14.set ((x12).toNat) ({(x14.getD ((x12).toNat) z65) with kind := x11})).getD ((x12).toNat) z65) with n := (IntKind.i64.wrap (x11 + 1))})).length = x1.length := (List.length_set.trans (List.length_set.trans n15)); omega)
    refine lv (d := 28) rfl rfl (by kernel_rfl) (e_indexAddr (b := b47) (off := 0) (n := x1.length) (c := c3) (sz := 3) (i := x12) (k := .i64) Try.underlying25 e49 (by kernel_rfl) (by kernel_rfl) (by kernel_rfl) q26 q25) ?_
    refine lv (d := 29) rfl rfl (by kernel_rfl) (e_fieldAddr (b := b47) (off := 0 + (x12 : Int).toNat * 3) (o := 2) Try.underlying65 rfl rfl (sz := 1) (by kernel_rfl) (by decide) (by kernel_rfl)) ?_
    obtain ⟨y55, F56, G57, r58, d59, s60, k61, t62⟩ := Row.lend h43 e49 (getD_some z65 (show (x12).toNat < ((x14.set ((x12).toNat) ({(x14.getD ((x12).toNat) z65) with kind := x11})).set ((x12).toNat) ({((x14.set ((x12).toNat) ({(x14.getD ((x12).toNat) z65) with kind := x11})).getD ((x12).toNat) z65) with n := (IntKind.i64.wrap (x11 + 1))})).length by have : ((x14.set ((x12).toNat) ({(x14.getD ((x12).toNat) z65) with kind := x11})).set ((x12).toNat) ({((x14.set ((x12).toNat) ({(x14.getD ((x12).toNat) z65) with kind := x11})).getD ((x12).toNat) z65) with n := (IntKind.i64.wrap (x11 + 1))})).length = x1.length := (List.length_set.trans (List.length_set.trans n15)); omega))
    obtain ⟨A63, c64, F67, rfl, h65, s66⟩ := st65_openO r58
    refine lv (d := 30) rfl rfl (by kernel_rfl) (e_load1 (ad := ⟨b47, 0 + (x12 : Int).toNat * 3 + 2, none⟩) (v := .slice A63 ((((x14.set ((x12).toNat) ({(x14.getD ((x12).toNat) z65) with kind := x11})).set ((x12).toNat) ({((x14.set ((x12).toNat) ({(x14.getD ((x12).toNat) z65) with kind := x11})).getD ((x12).toNat) z65) with n := (IntKind.i64.wrap (x11 + 1))})).getD ((x12).toNat) z65).text).length c64) Try.underlying59 rfl (by kernel_rfl) (hpx (k61 2 _ rfl))) ?_
    refine lv (d := 31) rfl rfl (by kernel_rfl) (e_move (v := .int .i64 (IntKind.i64.wrap ((IntKind.i64.wrap (x11 + 1)) + 1))) (by kernel_rfl)) ?_
    have S68 := S45.part d59 s60
    have S69 := S68.sub s66
    have q70 : ∀ b_, G57 b_ → hp w42 b_ = hp w42 b_ := fun _ _ => rfl
    obtain ⟨t71, u72, M⟩ := bnd M
    refine lcall (d := 32) rfl rfl (by kernel_rfl) (e_call (l := [.tmp 30, .tmp 31]) (vs := [.slice A63 ((((x14.set ((x12).toNat) ({(x14.getD ((x12).toNat) z65) with kind := x11})).set ((x12).toNat) ({((x14.set ((x12).toNat) ({(x14.getD ((x12).toNat) z65) with kind := x11})).getD ((x12).toNat) z65) with n := (IntKind.i64.wrap (x11 + 1))})).getD ((x12).toNat) z65).text).length c64, .int .i64 (IntKind.i64.wrap ((IntKind.i64.wrap (x11 + 1)) + 1))]) Try.func65 (by kernel_rfl) rfl (by kernel_rfl) rfl) (laws_markByteS_2.calls k24 w42 H9 ((((x14.set ((x12).toNat) ({(x14.getD ((x12).toNat) z65) with kind := x11})).set ((x12).toNat) ({((x14.set ((x12).toNat) ({(x14.getD ((x12).toNat) z65) with kind := x11})).getD ((x12).toNat) z65) with n := (IntKind.i64.wrap (x11 + 1))})).getD ((x12).toNat) z65).text) A63 c64 F67 (IntKind.i64.wrap ((IntKind.i64.wrap (x11 + 1)) + 1)) h65 (St.own' (Fa := [F67]) (Fr := [G57]) S69) t71 u72) ?_
    rintro _ w73 ⟨F77, H74, rfl, n78, h76, T75⟩
    refine ⟨_, rfl, ?_⟩
    obtain ⟨S79, K80⟩ := St.call (Fa := [F67]) (Fr := [G57]) S69 T75
    replace q70 := fun b_ h_ => (K80.at 0 rfl b_ h_).trans (q70 b_ h_)
    have E81 := T75.ext
    have S82 := S79.pull (F := G57) (Fr := [F77]) 1 rfl rfl
    have S83 := S82.pull (F := F77) (Fr := [G57]) 1 rfl rfl
    have h84 := t62 H74 (hp w73) F77 ({(((x14.set ((x12).toNat) ({(x14.getD ((x12).toNat) z65) with kind := x11})).set ((x12).toNat) ({((x14.set ((x12).toNat) ({(x14.getD ((x12).toNat) z65) with kind := x11})).getD ((x12).toNat) z65) with n := (IntKind.i64.wrap (x11 + 1))})).getD ((x12).toNat) z65) with text := t71.2} : Cell) E81 q70 (by have q_ := st65_mkO (x := {(((x14.set ((x12).toNat) ({(x14.getD ((x12).toNat) z65) with kind := x11})).set ((x12).toNat) ({((x14.set ((x12).toNat) ({(x14.getD ((x12).toNat) z65) with kind := x11})).getD ((x12).toNat) z65) with n := (IntKind.i64.wrap (x11 + 1))})).getD ((x12).toNat) z65) with text := t71.2}) h76; rw [show t71.2.length = ((((x14.set ((x12).toNat) ({(x14.getD ((x12).toNat) z65) with kind := x11})).set ((x12).toNat) ({((x14.set ((x12).toNat) ({(x14.getD ((x12).toNat) z65) with kind := x11})).getD ((x12).toNat) z65) with n := (IntKind.i64.wrap (x11 + 1))})).getD ((x12).toNat) z65).text).length from n78] at q_; exact q_) S83.dj
    have S85 := S83.join
    refine lv (d := 1) rfl rfl (by kernel_rfl) (e_assign (v := .int .i64 t71.1) (by kernel_rfl)) ?_
    refine wpList_nil ?_
    refine inb_n ?_
    refine then_n ?_
    refine wp_region_lit ?_
    refine lv (d := 10) rfl rfl (by kernel_rfl) (e_move (v := .int .i64 x12) (by exact e18)) ?_
    refine lv (d := 11) rfl rfl (by kernel_rfl) (e_add (k := .i64) (a := x12) (b := 1) (by kernel_rfl) rfl) ?_
    refine lv (d := 5) rfl rfl (by kernel_rfl) (e_assign (v := .int .i64 (IntKind.i64.wrap (x12 + 1))) (by kernel_rfl)) ?_
    refine wpList_nil ?_
    refine then_n ?_
    exact ⟨k24, (by omega), _, H74, t71.1, (IntKind.i64.wrap (x12 + 1)), (or2 F77 G57), (((x14.set ((x12).toNat) ({(x14.getD ((x12).toNat) z65) with kind := x11})).set ((x12).toNat) ({((x14.set ((x12).toNat) ({(x14.getD ((x12).toNat) z65) with kind := x11})).getD ((x12).toNat) z65) with n := (IntKind.i64.wrap (x11 + 1))})).set ((x12).toNat) ({(((x14.set ((x12).toNat) ({(x14.getD ((x12).toNat) z65) with kind := x11})).set ((x12).toNat) ({((x14.set ((x12).toNat) ({(x14.getD ((x12).toNat) z65) with kind := x11})).getD ((x12).toNat) z65) with n := (IntKind.i64.wrap (x11 + 1))})).getD ((x12).toNat) z65) with text := t71.2})), rfl, (by exact e16), (by kernel_rfl), (by kernel_rfl), h84, (List.length_set.trans (List.length_set.trans (List.length_set.trans n15))), (Y10.trans E81), S85, M⟩
  replace M := ifn q25 M
  refine cond_f rfl (bf q25 (by kernel_rfl)) ?_
  refine wp_exit ?_
  refine then_e ?_
  refine then_e ?_
  refine inb_hit ?_
  refine then_n ?_
  refine wp_seq ?_
  refine wp_region_lit ?_
  refine lv (d := 33) rfl rfl (by kernel_rfl) (e_move (v := .int .i64 x11) (by exact e17)) ?_
  refine lv (d := 4) rfl rfl (by kernel_rfl) (e_assign (v := .int .i64 x11) (by kernel_rfl)) ?_
  refine wpList_nil ?_
  refine then_n ?_
  refine wp_ret ?_
  obtain rfl := Option.some.inj M
  exact ret1 rfl rfl  (show _ = .int .i64 x11 from (by kernel_rfl)) ⟨F13, H9, rfl, n15, h4, S19⟩

/-! laws_markIntS -/
def laws_markIntS_2.l0 : Nat → (List Int) → Int → Int → (List Int) → Option (Int × (List Int))
  | 0, _, _, _, _ => none
  | k22 + 1, x1, x9, x10, x12 => (if x10 < (x1.length : Int) then (if 0 ≤ x10 then (laws_markIntS_2.l0 k22 x1 (IntKind.i64.wrap (x9 + 1)) (IntKind.i64.wrap (x10 + 1)) (x12.set ((x10).toNat) x9)) else none) else some (x9, x12))
def laws_markIntS_2.f (k : Nat) (x1 : List Int) (x6 : Int) : Option (Int × (List Int)) := (laws_markIntS_2.l0 k x1 x6 0 x1)
theorem laws_markIntS_2.calls (k : Nat) (w : World) (H : Hp) (x1 : List Int) (A2 : Option Addr) (c3 : Nat) (F5 : Foot) (x6 : Int) (h4 : Row tInt 3 H (hp w) F5 A2 c3 x1) (S : Own [F5] H w) (r : Int × (List Int)) (M : laws_markIntS_2.f k x1 x6 = some r) :
    Calls Try.prog 25 #[.slice A2 x1.length c3, .int .i64 x6] w (fun e e_w => ∃ (F_1 : Foot) (H_ : Hp), e = .returned (.int .i64 r.1) ∧ r.2.length = x1.length ∧ Row tInt 3 H_ (hp e_w) F_1 A2 c3 r.2 ∧ St (anyOf [F5]) H w [F_1] H_ e_w) := by
  rw [laws_markIntS_2.f] at M
  refine enter (l := [.slice A2 x1.length c3, .int .i64 x6]) 19 Try.func25 rfl rfl rfl ?_
  have S0_ := S.st
  refine wp_seq ?_
  refine wp_region_lit ?_
  refine lv (d := 4) rfl rfl (by kernel_rfl) (e_assign (v := .int .i64 0) rfl) ?_
  refine wpList_nil ?_
  refine then_n ?_
  refine wp_seq ?_
  refine wp_seq ?_
  refine wp_region_lit ?_
  refine lv (d := 5) rfl rfl (by kernel_rfl) (e_assign (v := .int .i64 0) rfl) ?_
  refine wpList_nil ?_
  refine then_n ?_
  refine wp_block ?_
  refine wp_loop_g (fun k20 a21 w7 => ∃ (f8 : Nat → Value) (x9 : Int) (x10 : Int) (F11 : Foot) (x12 : List Int), a21 = mk 19 f8 ∧ f8 0 = .slice A2 x1.length c3 ∧ f8 1 = .int .i64 x9 ∧ f8 5 = .int .i64 x10 ∧ Row tInt 3 H (hp w7) F11 A2 c3 x12 ∧ x12.length = x1.length ∧ St (anyOf [F5]) H w [F11] H w7 ∧ laws_markIntS_2.l0 k20 x1 x9 x10 x12 = some r) k ⟨_, x6, 0, F5, x1, rfl, (by kernel_rfl), (by kernel_rfl), (by kernel_rfl), h4, rfl, S0_, M⟩ ?_
  clear M
  rintro k20 a21 w7 ⟨f8, x9, x10, F11, x12, rfl, e14, e15, e16, h4, n13, S17, M⟩
  rcases k20 with _ | k22
  · rw [laws_markIntS_2.l0] at M
    cases M
  rw [laws_markIntS_2.l0] at M
  refine wp_seq ?_
  refine wp_seq ?_
  refine wp_region_lit ?_
  refine lv (d := 6) rfl rfl (by kernel_rfl) (e_move (v := .int .i64 x10) (by exact e16)) ?_
  refine lv (d := 7) rfl rfl (by kernel_rfl) (e_move (v := .slice A2 x1.length c3) (by exact e14)) ?_
  refine lv (d := 8) rfl rfl (by kernel_rfl) (e_len (A := A2) (n := x1.length) (c := c3) Try.underlying32 (by kernel_rfl)) ?_
  refine lv (d := 9) rfl rfl (by kernel_rfl) (e_lss (k := .i64) (a := x10) (b := (x1.length : Int)) (by kernel_rfl) (by kernel_rfl)) ?_
  refine wpList_nil ?_
  refine then_n ?_
  by_cases q23 : x10 < (x1.length : Int)
  · replace M := ifp q23 M
    refine cond_t rfl (bt q23 (by kernel_rfl)) ?_
    refine wp_skip ?_
    refine then_n ?_
    refine wp_seq ?_
    refine wp_block ?_
    refine wp_seq ?_
    refine wp_region_lit ?_
    refine lv (d := 12) rfl rfl (by kernel_rfl) (e_move (v := .slice A2 x1.length c3) (by exact e14)) ?_
    refine lv (d := 13) rfl rfl (by kernel_rfl) (e_move (v := .int .i64 x10) (by exact e16)) ?_
    refine lv (d := 14) rfl rfl (by kernel_rfl) (e_move (v := .int .i64 x9) (by exact e15)) ?_
    obtain ⟨q24, M⟩ := chk M
    obtain ⟨b25, e27⟩ := Row.addr h4 (show (x10).toNat < x12.length by have : x12.length = x1.length := n13; omega)
    refine lv (d := 15) rfl rfl (by kernel_rfl) (e_indexAddr (b := b25) (off := 0) (n := x1.length) (c := c3) (sz := 1) (i := x10) (k := .i64) Try.underlying32 e27 (by kernel_rfl) (by kernel_rfl) (by kernel_rfl) q24 q23) ?_
    have S28 := S17.unit
    have S29 := S28.pull (F := F11) (Fr := [no]) 1 rfl rfl
    refine lse rfl rfl (by kernel_rfl) (e_setel (d := tInt) (b := b25) (i := (x10).toNat) (v := .int .i64 x9) (vs := [.int .i64 x9]) (yv := x9) S29 (by kernel_rfl) e27 (by kernel_rfl) rfl (by kernel_rfl) h4 (show (x10).toNat < x12.length by have : x12.length = x1.length := n13; omega) rfl) ?_
    rintro w30 ⟨F32, h31, S33, K34⟩
    clear h4
    refine wpList_nil ?_
    refine then_n ?_
    refine wp_region_lit ?_
    refine lv (d := 16) rfl rfl (by kernel_rfl) (e_move (v := .int .i64 x9) (by exact e15)) ?_
    refine lv (d := 17) rfl rfl (by kernel_rfl) (e_add (k := .i64) (a := x9) (b := 1) (by kernel_rfl) rfl) ?_
    refine lv (d := 1) rfl rfl (by kernel_rfl) (e_assign (v := .int .i64 (IntKind.i64.wrap (x9 + 1))) (by kernel_rfl)) ?_
    refine wpList_nil ?_
    refine inb_n ?_
    refine then_n ?_
    refine wp_region_lit ?_
    refine lv (d := 10) rfl rfl (by kernel_rfl) (e_move (v := .int .i64 x10) (by exact e16)) ?_
    refine lv (d := 11) rfl rfl (by kernel_rfl) (e_add (k := .i64) (a := x10) (b := 1) (by kernel_rfl) rfl) ?_
    refine lv (d := 5) rfl rfl (by kernel_rfl) (e_assign (v := .int .i64 (IntKind.i64.wrap (x10 + 1))) (by kernel_rfl)) ?_
    refine wpList_nil ?_
    refine then_n ?_
    exact ⟨k22, (by omega), _, (IntKind.i64.wrap (x9 + 1)), (IntKind.i64.wrap (x10 + 1)), F32, (x12.set ((x10).toNat) x9), rfl, (by exact e14), (by kernel_rfl), (by kernel_rfl), h31, (List.length_set.trans n13), S33, M⟩
  replace M := ifn q23 M
  refine cond_f rfl (bf q23 (by kernel_rfl)) ?_
  refine wp_exit ?_
  refine then_e ?_
  refine then_e ?_
  refine inb_hit ?_
  refine then_n ?_
  refine wp_seq ?_
  refine wp_region_lit ?_
  refine lv (d := 18) rfl rfl (by kernel_rfl) (e_move (v := .int .i64 x9) (by exact e15)) ?_
  refine lv (d := 4) rfl rfl (by kernel_rfl) (e_assign (v := .int .i64 x9) (by kernel_rfl)) ?_
  refine wpList_nil ?_
  refine then_n ?_
  refine wp_ret ?_
  obtain rfl := Option.some.inj M
  exact ret1 rfl rfl  (show _ = .int .i64 x9 from (by kernel_rfl)) ⟨F11, H, rfl, n13, h4, S17⟩

/-! laws_heldIntS -/
def laws_heldIntS.l0 : Nat → (List Int) → Int → Int → Option Int
  | 0, _, _, _ => none
  | k19 + 1, x1, x9, x10 => (if x10 < (x1.length : Int) then (if 0 ≤ x10 then (if (x1.getD ((x10).toNat) (0 : Int)) ≠ x9 then some (-1) else (laws_heldIntS.l0 k19 x1 (IntKind.i64.wrap (x9 + 1)) (IntKind.i64.wrap (x10 + 1)))) else none) else some x9)
def laws_heldIntS.f (k : Nat) (x1 : List Int) (x6 : Int) : Option Int := (laws_heldIntS.l0 k x1 x6 0)
theorem laws_heldIntS.calls (k : Nat) (w : World) (H : Hp) (x1 : List Int) (A2 : Option Addr) (c3 : Nat) (x6 : Int) (h4 : Rd tInt H A2 x1) (l5 : x1.length ≤ c3) (S : Own [] H w) (r : Int) (M : laws_heldIntS.f k x1 x6 = some r) :
    Calls Try.prog 26 #[.slice A2 x1.length c3, .int .i64 x6] w (fun e e_w => e = .returned (.int .i64 r) ∧ Chg no w e_w) := by
  rw [laws_heldIntS.f] at M
  refine enter (l := [.slice A2 x1.length c3, .int .i64 x6]) 21 Try.func26 rfl rfl rfl ?_
  have S0_ := S.st
  refine wp_seq ?_
  refine wp_region_lit ?_
  refine lv (d := 4) rfl rfl (by kernel_rfl) (e_assign (v := .int .i64 0) rfl) ?_
  refine wpList_nil ?_
  refine then_n ?_
  refine wp_seq ?_
  refine wp_seq ?_
  refine wp_region_lit ?_
  refine lv (d := 5) rfl rfl (by kernel_rfl) (e_assign (v := .int .i64 0) rfl) ?_
  refine wpList_nil ?_
  refine then_n ?_
  refine wp_block ?_
  refine wp_loop_g (fun k17 a18 w7 => ∃ (f8 : Nat → Value) (x9 : Int) (x10 : Int), a18 = mk 21 f8 ∧ f8 0 = .slice A2 x1.length c3 ∧ f8 1 = .int .i64 x9 ∧ f8 5 = .int .i64 x10 ∧ St (anyOf []) H w [] H w7 ∧ laws_heldIntS.l0 k17 x1 x9 x10 = some r) k ⟨_, x6, 0, rfl, (by kernel_rfl), (by kernel_rfl), (by kernel_rfl), S0_, M⟩ ?_
  clear M
  rintro k17 a18 w7 ⟨f8, x9, x10, rfl, e11, e12, e13, S14, M⟩
  rcases k17 with _ | k19
  · rw [laws_heldIntS.l0] at M
    cases M
  rw [laws_heldIntS.l0] at M
  refine wp_seq ?_
  refine wp_seq ?_
  refine wp_region_lit ?_
  refine lv (d := 6) rfl rfl (by kernel_rfl) (e_move (v := .int .i64 x10) (by exact e13)) ?_
  refine lv (d := 7) rfl rfl (by kernel_rfl) (e_move (v := .slice A2 x1.length c3) (by exact e11)) ?_
  refine lv (d := 8) rfl rfl (by kernel_rfl) (e_len (A := A2) (n := x1.length) (c := c3) Try.underlying32 (by kernel_rfl)) ?_
  refine lv (d := 9) rfl rfl (by kernel_rfl) (e_lss (k := .i64) (a := x10) (b := (x1.length : Int)) (by kernel_rfl) (by kernel_rfl)) ?_
  refine wpList_nil ?_
  refine then_n ?_
  by_cases q20 : x10 < (x1.length : Int)
  · replace M := ifp q20 M
    refine cond_t rfl (bt q20 (by kernel_rfl)) ?_
    refine wp_skip ?_
    refine then_n ?_
    refine wp_seq ?_
    refine wp_block ?_
    refine wp_seq ?_
    refine wp_seq ?_
    refine wp_region_lit ?_
    refine lv (d := 12) rfl rfl (by kernel_rfl) (e_move (v := .slice A2 x1.length c3) (by exact e11)) ?_
    refine lv (d := 13) rfl rfl (by kernel_rfl) (e_move (v := .int .i64 x10) (by exact e13)) ?_
    obtain ⟨q21, M⟩ := chk M
    obtain ⟨b22, o23, e24⟩ := Rd.addr h4 (show (x10).toNat < x1.length by omega)
    obtain ⟨y25, r26, k27⟩ := Rd.at h4 e24 (getD_some (0 : Int) (show (x10).toNat < x1.length by omega))
    obtain rfl := r26
    refine lv (d := 14) rfl rfl (by kernel_rfl) (e_indexAddr (b := b22) (off := o23) (n := x1.length) (c := c3) (sz := 1) (i := x10) (k := .i64) Try.underlying32 e24 (by kernel_rfl) (by kernel_rfl) (by kernel_rfl) q21 q20) ?_
    refine lv (d := 15) rfl rfl (by kernel_rfl) (e_load1 (ad := ⟨b22, o23 + (x10 : Int).toNat * 1, none⟩) (v := .int .i64 (x1.getD ((x10).toNat) (0 : Int))) Try.underlying3 rfl (by kernel_rfl) (hpx (S14.inv.cell (k27 0 _ rfl)))) ?_
    refine lv (d := 16) rfl rfl (by kernel_rfl) (e_move (v := .int .i64 x9) (by exact e12)) ?_
    refine lv (d := 17) rfl rfl (by kernel_rfl) (e_neq (k := .i64) (a := (x1.getD ((x10).toNat) (0 : Int))) (b := x9) (by kernel_rfl) (by kernel_rfl)) ?_
    refine wpList_nil ?_
    refine then_n ?_
    by_cases q28 : (x1.getD ((x10).toNat) (0 : Int)) ≠ x9
    · replace M := ifp q28 M
      refine cond_t rfl (bt q28 (by kernel_rfl)) ?_
      refine wp_seq ?_
      refine wp_region_lit ?_
      refine lv (d := 4) rfl rfl (by kernel_rfl) (e_assign (v := .int .i64 (-1)) rfl) ?_
      refine wpList_nil ?_
      refine then_n ?_
      refine wp_ret ?_
      refine then_r ?_
      refine inb_r ?_
      refine then_r ?_
      refine then_r ?_
      refine inb_r ?_
      refine then_r ?_
      obtain rfl := Option.some.inj M
      exact ret1 rfl rfl  (show _ = .int .i64 (-1) from (by kernel_rfl)) ⟨rfl, S14.chg⟩
    replace M := ifn q28 M
    refine cond_f rfl (bf q28 (by kernel_rfl)) ?_
    refine wp_skip ?_
    refine then_n ?_
    refine wp_region_lit ?_
    refine lv (d := 18) rfl rfl (by kernel_rfl) (e_move (v := .int .i64 x9) (by exact e12)) ?_
    refine lv (d := 19) rfl rfl (by kernel_rfl) (e_add (k := .i64) (a := x9) (b := 1) (by kernel_rfl) rfl) ?_
    refine lv (d := 1) rfl rfl (by kernel_rfl) (e_assign (v := .int .i64 (IntKind.i64.wrap (x9 + 1))) (by kernel_rfl)) ?_
    refine wpList_nil ?_
    refine inb_n ?_
    refine then_n ?_
    refine wp_region_lit ?_
    refine lv (d := 10) rfl rfl (by kernel_rfl) (e_move (v := .int .i64 x10) (by exact e13)) ?_
    refine lv (d := 11) rfl rfl (by kernel_rfl) (e_add (k := .i64) (a := x10) (b := 1) (by kernel_rfl) rfl) ?_
    refine lv (d := 5) rfl rfl (by kernel_rfl) (e_assign (v := .int .i64 (IntKind.i64.wrap (x10 + 1))) (by kernel_rfl)) ?_
    refine wpList_nil ?_
    refine then_n ?_
    exact ⟨k19, (by omega), _, (IntKind.i64.wrap (x9 + 1)), (IntKind.i64.wrap (x10 + 1)), rfl, (by exact e11), (by kernel_rfl), (by kernel_rfl), S14, M⟩
  replace M := ifn q20 M
  refine cond_f rfl (bf q20 (by kernel_rfl)) ?_
  refine wp_exit ?_
  refine then_e ?_
  refine then_e ?_
  refine inb_hit ?_
  refine then_n ?_
  refine wp_seq ?_
  refine wp_region_lit ?_
  refine lv (d := 20) rfl rfl (by kernel_rfl) (e_move (v := .int .i64 x9) (by exact e12)) ?_
  refine lv (d := 4) rfl rfl (by kernel_rfl) (e_assign (v := .int .i64 x9) (by kernel_rfl)) ?_
  refine wpList_nil ?_
  refine then_n ?_
  refine wp_ret ?_
  obtain rfl := Option.some.inj M
  exact ret1 rfl rfl  (show _ = .int .i64 x9 from (by kernel_rfl)) ⟨rfl, S14.chg⟩
end Go.Proofs.Ytognefkopbbdnaa
