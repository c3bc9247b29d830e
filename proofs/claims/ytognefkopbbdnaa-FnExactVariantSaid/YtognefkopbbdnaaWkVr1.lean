import Derived.Test.YtognefkopbbdnaaProg
import Derived.Test.YtognefkopbbdnaaY11
namespace Go.Proofs.Ytognefkopbbdnaa
open Go.Sx Go.Sy
attribute [local irreducible] Go.wpList Go.wpStill Go.wpQuiet Go.Code.wp
set_option maxRecDepth 100000
set_option maxHeartbeats 1000000
set_option linter.unusedVariables false
set_option linter.unusedSimpArgs false

/-! laws_szByteS -/
def sl5 : Ty (List UInt8) := slice 5 tByte (by decide)
def st68 : Ty Cell := iso (pair tInt (pair tInt sl5)) (fun x => (x.kind, x.n, x.text))
theorem st68_open {H : Hp} {x : Cell} {cs : List Value} (h : st68.R H x cs) : ∃ (A2 : Option Addr) (c2 : Nat), cs = [.int .i64 x.kind, .int .i64 x.n, .slice A2 x.text.length c2] ∧ x.text.length ≤ c2 ∧ Rd tByte H A2 x.text := by
  obtain ⟨_, _, rfl, rfl, ⟨_, _, rfl, rfl, ⟨A2, c2, rfl, l2, h2⟩⟩⟩ := h
  exact ⟨A2, c2, rfl, l2, h2⟩
theorem st68_mkR {H : Hp} {x : Cell} {A2 : Option Addr} {c2 : Nat} (l2 : x.text.length ≤ c2) (h2 : Rd tByte H A2 x.text) : st68.R H x [.int .i64 x.kind, .int .i64 x.n, .slice A2 x.text.length c2] := ⟨[.int .i64 x.kind], [.int .i64 x.n, .slice A2 x.text.length c2], rfl, rfl, ⟨[.int .i64 x.n], [.slice A2 x.text.length c2], rfl, rfl, ⟨A2, c2, rfl, l2, h2⟩⟩⟩
theorem st68_mkO {H X : Hp} {F2 : Foot} {x : Cell} {A2 : Option Addr} {c2 : Nat} (h2 : Row tByte 5 H X F2 A2 c2 x.text) : st68.O H X F2 x [.int .i64 x.kind, .int .i64 x.n, .slice A2 x.text.length c2] := (pairO0 (a := tInt) (b := (pair tInt sl5)) (x := (x.kind, (x.n, x.text))) (c0 := [.int .i64 x.kind]) (c1 := [.int .i64 x.n, .slice A2 x.text.length c2]) rfl (pairO0 (a := tInt) (b := sl5) (x := (x.n, x.text)) (c0 := [.int .i64 x.n]) (c1 := [.slice A2 x.text.length c2]) rfl ⟨A2, c2, rfl, h2⟩))
theorem st68_openO {H X : Hp} {F : Foot} {x : Cell} {cs : List Value} (h : st68.O H X F x cs) : ∃ (A2 : Option Addr) (c2 : Nat) (F2 : Foot), cs = [.int .i64 x.kind, .int .i64 x.n, .slice A2 x.text.length c2] ∧ Row tByte 5 H X F2 A2 c2 x.text ∧ (∀ b, F2 b → F b) := by
  obtain ⟨_, _, K1, L1, rfl, rfl, ⟨_, _, K0, L0, rfl, rfl, ⟨A2, c2, rfl, h2⟩, d0, s0⟩, d1, s1⟩ := h
  exact ⟨A2, c2, _, rfl, h2, fun b hb => s1 b (.inr (s0 b (.inr (hb))))⟩
theorem st68_c0 {H X : Hp} {F : Foot} {x : Cell} {cs : List Value} (h : st68.O H X F x cs) : cs[0]? = some (.int .i64 x.kind) := by obtain ⟨_, _, _, rfl, _, _⟩ := st68_openO h; rfl
theorem st68_r0 {H : Hp} {x : Cell} {cs : List Value} (h : st68.R H x cs) : cs[0]? = some (.int .i64 x.kind) := by obtain ⟨_, _, rfl, _, _⟩ := st68_open h; rfl
theorem st68_c1 {H X : Hp} {F : Foot} {x : Cell} {cs : List Value} (h : st68.O H X F x cs) : cs[1]? = some (.int .i64 x.n) := by obtain ⟨_, _, _, rfl, _, _⟩ := st68_openO h; rfl
theorem st68_r1 {H : Hp} {x : Cell} {cs : List Value} (h : st68.R H x cs) : cs[1]? = some (.int .i64 x.n) := by obtain ⟨_, _, rfl, _, _⟩ := st68_open h; rfl
theorem st68_u0 {H X : Hp} {F1 F2 : Foot} {x : Cell} (y : Int) {cs : List Value} (h : st68.O H X F1 x cs) : st68.O H X (or2 F1 F2) {x with kind := y} (cs.take 0 ++ [.int .i64 y] ++ cs.drop 1) := by
  obtain ⟨_, _, _, rfl, h2, s2⟩ := st68_openO h
  exact st68_mkO (x := {x with kind := y}) (h2.mono fun b hb => .inl (s2 b hb))
theorem st68_u1 {H X : Hp} {F1 F2 : Foot} {x : Cell} (y : Int) {cs : List Value} (h : st68.O H X F1 x cs) : st68.O H X (or2 F1 F2) {x with n := y} (cs.take 1 ++ [.int .i64 y] ++ cs.drop 2) := by
  obtain ⟨_, _, _, rfl, h2, s2⟩ := st68_openO h
  exact st68_mkO (x := {x with n := y}) (h2.mono fun b hb => .inl (s2 b hb))
theorem st68_u2 {H X : Hp} {F1 F2 : Foot} {x : Cell} {y : List UInt8} {A : Option Addr} {c : Nat} {cs : List Value} (hy : Row tByte 5 H X F2 A c y) (h : st68.O H X F1 x cs) : st68.O H X (or2 F1 F2) {x with text := y} (cs.take 2 ++ [.slice A y.length c] ++ cs.drop 3) := by
  obtain ⟨_, _, _, rfl, h2, _⟩ := st68_openO h
  exact st68_mkO (x := {x with text := y}) (hy.mono fun b hb => .inr hb)
def z68 : Cell := ⟨(0 : Int), (0 : Int), ([] : List UInt8)⟩
theorem z68_O (H X : Hp) : st68.O H X no z68 [.int .i64 (0 : Int), .int .i64 (0 : Int), .slice none 0 0] := st68_mkO (x := z68) (Row.nil _ _ _ _ no)
theorem z68_R (H : Hp) : st68.R H z68 [.int .i64 (0 : Int), .int .i64 (0 : Int), .slice none 0 0] := st68_mkR (x := z68) (Nat.le_refl _) (Rd.nil _ _ _)
def laws_szByteS.f (x1 : List UInt8) (x6 : Int) : Option Int := (if (IntKind.i64.wrap (x6 - (x1.length : Int))) < 0 then some (-1) else some (IntKind.i64.wrap (x6 - (x1.length : Int))))
theorem laws_szByteS.calls (w : World) (H : Hp) (x1 : List UInt8) (A2 : Option Addr) (c3 : Nat) (x6 : Int) (h4 : Rd tByte H A2 x1) (l5 : x1.length ≤ c3) (S : Own [] H w) (r : Int) (M : laws_szByteS.f x1 x6 = some r) :
    Calls Try.prog 102 #[.slice A2 x1.length c3, .int .i64 x6] w (fun e e_w => e = .returned (.int .i64 r) ∧ Chg no w e_w) := by
  rw [laws_szByteS.f] at M
  refine enter (l := [.slice A2 x1.length c3, .int .i64 x6]) 12 Try.func102 rfl rfl rfl ?_
  have S0_ := S.st
  refine wp_seq ?_
  refine wp_region_lit ?_
  refine lv (d := 4) rfl rfl (by kernel_rfl) (e_assign (v := .int .i64 0) rfl) ?_
  refine wpList_nil ?_
  refine then_n ?_
  refine wp_seq ?_
  refine wp_region_lit ?_
  refine lv (d := 5) rfl rfl (by kernel_rfl) (e_move (v := .int .i64 x6) (by kernel_rfl)) ?_
  refine lv (d := 6) rfl rfl (by kernel_rfl) (e_move (v := .slice A2 x1.length c3) (by kernel_rfl)) ?_
  refine lv (d := 7) rfl rfl (by kernel_rfl) (e_len (A := A2) (n := x1.length) (c := c3) Try.underlying59 (by kernel_rfl)) ?_
  refine lv (d := 8) rfl rfl (by kernel_rfl) (e_sub (k := .i64) (a := x6) (b := (x1.length : Int)) (by kernel_rfl) (by kernel_rfl)) ?_
  refine lv (d := 1) rfl rfl (by kernel_rfl) (e_assign (v := .int .i64 (IntKind.i64.wrap (x6 - (x1.length : Int)))) (by kernel_rfl)) ?_
  refine wpList_nil ?_
  refine then_n ?_
  refine wp_seq ?_
  refine wp_seq ?_
  refine wp_region_lit ?_
  refine lv (d := 9) rfl rfl (by kernel_rfl) (e_move (v := .int .i64 (IntKind.i64.wrap (x6 - (x1.length : Int)))) (by kernel_rfl)) ?_
  refine lv (d := 10) rfl rfl (by kernel_rfl) (e_lss (k := .i64) (a := (IntKind.i64.wrap (x6 - (x1.length : Int)))) (b := 0) (by kernel_rfl) rfl) ?_
  refine wpList_nil ?_
  refine then_n ?_
  by_cases q7 : (IntKind.i64.wrap (x6 - (x1.length : Int))) < 0
  · replace M := ifp q7 M
    refine cond_t rfl (bt q7 (by kernel_rfl)) ?_
    refine wp_seq ?_
    refine wp_region_lit ?_
    refine lv (d := 4) rfl rfl (by kernel_rfl) (e_assign (v := .int .i64 (-1)) rfl) ?_
    refine wpList_nil ?_
    refine then_n ?_
    refine wp_ret ?_
    refine then_r ?_
    obtain rfl := Option.some.inj M
    exact ret1 rfl rfl  (show _ = .int .i64 (-1) from (by kernel_rfl)) ⟨rfl, S0_.chg⟩
  replace M := ifn q7 M
  refine cond_f rfl (bf q7 (by kernel_rfl)) ?_
  refine wp_skip ?_
  refine then_n ?_
  refine wp_seq ?_
  refine wp_region_lit ?_
  refine lv (d := 11) rfl rfl (by kernel_rfl) (e_move (v := .int .i64 (IntKind.i64.wrap (x6 - (x1.length : Int)))) (by kernel_rfl)) ?_
  refine lv (d := 4) rfl rfl (by kernel_rfl) (e_assign (v := .int .i64 (IntKind.i64.wrap (x6 - (x1.length : Int)))) (by kernel_rfl)) ?_
  refine wpList_nil ?_
  refine then_n ?_
  refine wp_ret ?_
  obtain rfl := Option.some.inj M
  exact ret1 rfl rfl  (show _ = .int .i64 (IntKind.i64.wrap (x6 - (x1.length : Int))) from (by kernel_rfl)) ⟨rfl, S0_.chg⟩

/-! laws_szCell -/
def laws_szCell.f (x1 : Cell) (x6 : Int) : Option Int := ((laws_szByteS.f x1.text x6).bind fun t12 => (if t12 < 0 then some (-1) else some t12))
theorem laws_szCell.calls (w : World) (H : Hp) (x1 : Cell) (A2 : Option Addr) (c3 : Nat) (x6 : Int) (h4 : Rd tByte H A2 x1.text) (l5 : x1.text.length ≤ c3) (S : Own [] H w) (r : Int) (M : laws_szCell.f x1 x6 = some r) :
    Calls Try.prog 55 #[.agg #[.int .i64 x1.kind, .int .i64 x1.n, .slice A2 x1.text.length c3], .int .i64 x6] w (fun e e_w => e = .returned (.int .i64 r) ∧ Chg no w e_w) := by
  rw [laws_szCell.f] at M
  refine enter (l := [.agg #[.int .i64 x1.kind, .int .i64 x1.n, .slice A2 x1.text.length c3], .int .i64 x6]) 12 Try.func55 rfl rfl rfl ?_
  have S0_ := S.st
  refine wp_seq ?_
  refine wp_region_lit ?_
  refine lve (d := 2) rfl rfl (by kernel_rfl) (new_blk (v := fun g_ => .pointer (some ⟨g_, 0, none⟩)) (cs := #[.int .i64 x1.kind, .int .i64 x1.n, .slice A2 x1.text.length c3]) (t := 68) S0_ (by kernel_rfl)) ?_
  rintro _ w7 ⟨g8, rfl, b9, S10, K11⟩
  refine lv (d := 4) rfl rfl (by kernel_rfl) (e_assign (v := .int .i64 0) rfl) ?_
  refine wpList_nil ?_
  refine then_n ?_
  refine wp_seq ?_
  refine wp_region_lit ?_
  refine lv (d := 5) rfl rfl (by kernel_rfl) (e_fieldAddr (b := g8) (off := 0) (o := 2) Try.underlying68 rfl rfl (sz := 1) (by kernel_rfl) (by decide) (by kernel_rfl)) ?_
  refine lv (d := 6) rfl rfl (by kernel_rfl) (e_load1 (ad := ⟨g8, 0 + 2, none⟩) (v := .slice A2 x1.text.length c3) Try.underlying59 rfl (by kernel_rfl) (blk_cell b9 rfl)) ?_
  refine lv (d := 7) rfl rfl (by kernel_rfl) (e_move (v := .int .i64 x6) (by kernel_rfl)) ?_
  obtain ⟨t12, u13, M⟩ := bnd M
  refine lcall (d := 8) rfl rfl (by kernel_rfl) (e_call (l := [.tmp 6, .tmp 7]) (vs := [.slice A2 x1.text.length c3, .int .i64 x6]) Try.func102 (by kernel_rfl) rfl (by kernel_rfl) rfl) (laws_szByteS.calls w7 H x1.text A2 c3 x6 h4 l5 S10.own0 t12 u13) ?_
  rintro _ w14 ⟨rfl, C15⟩
  refine ⟨_, rfl, ?_⟩
  obtain ⟨S16, K17⟩ := S10.still C15
  replace b9 := K17.blk 0 rfl b9
  refine lv (d := 1) rfl rfl (by kernel_rfl) (e_assign (v := .int .i64 t12) (by kernel_rfl)) ?_
  refine wpList_nil ?_
  refine then_n ?_
  refine wp_seq ?_
  refine wp_seq ?_
  refine wp_region_lit ?_
  refine lv (d := 9) rfl rfl (by kernel_rfl) (e_move (v := .int .i64 t12) (by kernel_rfl)) ?_
  refine lv (d := 10) rfl rfl (by kernel_rfl) (e_lss (k := .i64) (a := t12) (b := 0) (by kernel_rfl) rfl) ?_
  refine wpList_nil ?_
  refine then_n ?_
  by_cases q18 : t12 < 0
  · replace M := ifp q18 M
    refine cond_t rfl (bt q18 (by kernel_rfl)) ?_
    refine wp_seq ?_
    refine wp_region_lit ?_
    refine lv (d := 4) rfl rfl (by kernel_rfl) (e_assign (v := .int .i64 (-1)) rfl) ?_
    refine wpList_nil ?_
    refine then_n ?_
    refine wp_ret ?_
    refine then_r ?_
    obtain rfl := Option.some.inj M
    exact ret1 rfl rfl  (show _ = .int .i64 (-1) from (by kernel_rfl)) ⟨rfl, S16.chg⟩
  replace M := ifn q18 M
  refine cond_f rfl (bf q18 (by kernel_rfl)) ?_
  refine wp_skip ?_
  refine then_n ?_
  refine wp_seq ?_
  refine wp_region_lit ?_
  refine lv (d := 11) rfl rfl (by kernel_rfl) (e_move (v := .int .i64 t12) (by kernel_rfl)) ?_
  refine lv (d := 4) rfl rfl (by kernel_rfl) (e_assign (v := .int .i64 t12) (by kernel_rfl)) ?_
  refine wpList_nil ?_
  refine then_n ?_
  refine wp_ret ?_
  obtain rfl := Option.some.inj M
  exact ret1 rfl rfl  (show _ = .int .i64 t12 from (by kernel_rfl)) ⟨rfl, S16.chg⟩

/-! laws_szCellS -/
def laws_szCellS.l0 : Nat → (List Cell) → Int → Int → Option Int
  | 0, _, _, _ => none
  | k20 + 1, x1, x10, x11 => (if x11 < (x1.length : Int) then (if 0 ≤ x11 then ((laws_szCell.f (x1.getD ((x11).toNat) z68) x10).bind fun t33 => (if t33 < 0 then some (-1) else (laws_szCellS.l0 k20 x1 t33 (IntKind.i64.wrap (x11 + 1))))) else none) else some x10)
def laws_szCellS.f (k : Nat) (x1 : List Cell) (x6 : Int) : Option Int := (if (IntKind.i64.wrap (x6 - (x1.length : Int))) < 0 then some (-1) else (laws_szCellS.l0 k x1 (IntKind.i64.wrap (x6 - (x1.length : Int))) 0))
theorem laws_szCellS.calls (k : Nat) (w : World) (H : Hp) (x1 : List Cell) (A2 : Option Addr) (c3 : Nat) (x6 : Int) (h4 : Rd st68 H A2 x1) (l5 : x1.length ≤ c3) (S : Own [] H w) (r : Int) (M : laws_szCellS.f k x1 x6 = some r) :
    Calls Try.prog 14 #[.slice A2 x1.length c3, .int .i64 x6] w (fun e e_w => e = .returned (.int .i64 r) ∧ Chg no w e_w) := by
  rw [laws_szCellS.f] at M
  refine enter (l := [.slice A2 x1.length c3, .int .i64 x6]) 27 Try.func14 rfl rfl rfl ?_
  have S0_ := S.st
  refine wp_seq ?_
  refine wp_region_lit ?_
  refine lv (d := 4) rfl rfl (by kernel_rfl) (e_assign (v := .int .i64 0) rfl) ?_
  refine wpList_nil ?_
  refine then_n ?_
  refine wp_seq ?_
  refine wp_region_lit ?_
  refine lv (d := 6) rfl rfl (by kernel_rfl) (e_move (v := .int .i64 x6) (by kernel_rfl)) ?_
  refine lv (d := 7) rfl rfl (by kernel_rfl) (e_move (v := .slice A2 x1.length c3) (by kernel_rfl)) ?_
  refine lv (d := 8) rfl rfl (by kernel_rfl) (e_len (A := A2) (n := x1.length) (c := c3) Try.underlying22 (by kernel_rfl)) ?_
  refine lv (d := 9) rfl rfl (by kernel_rfl) (e_sub (k := .i64) (a := x6) (b := (x1.length : Int)) (by kernel_rfl) (by kernel_rfl)) ?_
  refine lv (d := 1) rfl rfl (by kernel_rfl) (e_assign (v := .int .i64 (IntKind.i64.wrap (x6 - (x1.length : Int)))) (by kernel_rfl)) ?_
  refine wpList_nil ?_
  refine then_n ?_
  refine wp_seq ?_
  refine wp_seq ?_
  refine wp_region_lit ?_
  refine lv (d := 10) rfl rfl (by kernel_rfl) (e_move (v := .int .i64 (IntKind.i64.wrap (x6 - (x1.length : Int)))) (by kernel_rfl)) ?_
  refine lv (d := 11) rfl rfl (by kernel_rfl) (e_lss (k := .i64) (a := (IntKind.i64.wrap (x6 - (x1.length : Int)))) (b := 0) (by kernel_rfl) rfl) ?_
  refine wpList_nil ?_
  refine then_n ?_
  by_cases q7 : (IntKind.i64.wrap (x6 - (x1.length : Int))) < 0
  · replace M := ifp q7 M
    refine cond_t rfl (bt q7 (by kernel_rfl)) ?_
    refine wp_seq ?_
    refine wp_region_lit ?_
    refine lv (d := 4) rfl rfl (by kernel_rfl) (e_assign (v := .int .i64 (-1)) rfl) ?_
    refine wpList_nil ?_
    refine then_n ?_
    refine wp_ret ?_
    refine then_r ?_
    obtain rfl := Option.some.inj M
    exact ret1 rfl rfl  (show _ = .int .i64 (-1) from (by kernel_rfl)) ⟨rfl, S0_.chg⟩
  replace M := ifn q7 M
  refine cond_f rfl (bf q7 (by kernel_rfl)) ?_
  refine wp_skip ?_
  refine then_n ?_
  refine wp_seq ?_
  refine wp_seq ?_
  refine wp_region_lit ?_
  refine lv (d := 5) rfl rfl (by kernel_rfl) (e_assign (v := .int .i64 0) rfl) ?_
  refine wpList_nil ?_
  refine then_n ?_
  refine wp_block ?_
  refine wp_loop_g (fun k18 a19 w8 => ∃ (f9 : Nat → Value) (x10 : Int) (x11 : Int), a19 = mk 27 f9 ∧ f9 0 = .slice A2 x1.length c3 ∧ f9 1 = .int .i64 x10 ∧ f9 5 = .int .i64 x11 ∧ St (anyOf []) H w [] H w8 ∧ laws_szCellS.l0 k18 x1 x10 x11 = some r) k ⟨_, (IntKind.i64.wrap (x6 - (x1.length : Int))), 0, rfl, (by kernel_rfl), (by kernel_rfl), (by kernel_rfl), S0_, M⟩ ?_
  clear M
  rintro k18 a19 w8 ⟨f9, x10, x11, rfl, e12, e13, e14, S15, M⟩
  rcases k18 with _ | k20
  · rw [laws_szCellS.l0] at M
    cases M
  rw [laws_szCellS.l0] at M
  refine wp_seq ?_
  refine wp_seq ?_
  refine wp_region_lit ?_
  refine lv (d := 12) rfl rfl (by kernel_rfl) (e_move (v := .int .i64 x11) (by exact e14)) ?_
  refine lv (d := 13) rfl rfl (by kernel_rfl) (e_move (v := .slice A2 x1.length c3) (by exact e12)) ?_
  refine lv (d := 14) rfl rfl (by kernel_rfl) (e_len (A := A2) (n := x1.length) (c := c3) Try.underlying22 (by kernel_rfl)) ?_
  refine lv (d := 15) rfl rfl (by kernel_rfl) (e_lss (k := .i64) (a := x11) (b := (x1.length : Int)) (by kernel_rfl) (by kernel_rfl)) ?_
  refine wpList_nil ?_
  refine then_n ?_
  by_cases q21 : x11 < (x1.length : Int)
  · replace M := ifp q21 M
    refine cond_t rfl (bt q21 (by kernel_rfl)) ?_
    refine wp_skip ?_
    refine then_n ?_
    refine wp_seq ?_
    refine wp_block ?_
    refine wp_seq ?_
    refine wp_region_lit ?_
    refine lv (d := 18) rfl rfl (by kernel_rfl) (e_move (v := .slice A2 x1.length c3) (by exact e12)) ?_
    refine lv (d := 19) rfl rfl (by kernel_rfl) (e_move (v := .int .i64 x11) (by exact e14)) ?_
    obtain ⟨q22, M⟩ := chk M
    obtain ⟨b23, o24, e25⟩ := Rd.addr h4 (show (x11).toNat < x1.length by omega)
    obtain ⟨y26, r27, k28⟩ := Rd.at h4 e25 (getD_some z68 (show (x11).toNat < x1.length by omega))
    obtain ⟨A29, c30, rfl, l31, h32⟩ := st68_open r27
    refine lv (d := 20) rfl rfl (by kernel_rfl) (e_indexAddr (b := b23) (off := o24) (n := x1.length) (c := c3) (sz := 3) (i := x11) (k := .i64) Try.underlying22 e25 (by kernel_rfl) (by kernel_rfl) (by kernel_rfl) q22 q21) ?_
    refine lv (d := 21) rfl rfl (by kernel_rfl) (e_loadS (b := b23) (off := o24 + (x11 : Int).toNat * 3) (cs := [.int .i64 ((x1.getD ((x11).toNat) z68).kind), .int .i64 ((x1.getD ((x11).toNat) z68).n), .slice A29 ((x1.getD ((x11).toNat) z68).text).length c30]) Try.underlying68 rfl (by kernel_rfl) (by kernel_rfl) (fun j_ u_ e_ => (hpx (S15.inv.cell (k28 j_ u_ e_))))) ?_
    refine lv (d := 22) rfl rfl (by kernel_rfl) (e_move (v := .int .i64 x10) (by exact e13)) ?_
    obtain ⟨t33, u34, M⟩ := bnd M
    refine lcall (d := 23) rfl rfl (by kernel_rfl) (e_call (l := [.tmp 21, .tmp 22]) (vs := [.agg #[.int .i64 ((x1.getD ((x11).toNat) z68).kind), .int .i64 ((x1.getD ((x11).toNat) z68).n), .slice A29 ((x1.getD ((x11).toNat) z68).text).length c30], .int .i64 x10]) Try.func55 (by kernel_rfl) rfl (by kernel_rfl) rfl) (laws_szCell.calls w8 H (x1.getD ((x11).toNat) z68) A29 c30 x10 h32 l31 S15.own0 t33 u34) ?_
    rintro _ w35 ⟨rfl, C36⟩
    refine ⟨_, rfl, ?_⟩
    obtain ⟨S37, K38⟩ := S15.still C36
    refine lv (d := 1) rfl rfl (by kernel_rfl) (e_assign (v := .int .i64 t33) (by kernel_rfl)) ?_
    refine wpList_nil ?_
    refine then_n ?_
    refine wp_seq ?_
    refine wp_region_lit ?_
    refine lv (d := 24) rfl rfl (by kernel_rfl) (e_move (v := .int .i64 t33) (by kernel_rfl)) ?_
    refine lv (d := 25) rfl rfl (by kernel_rfl) (e_lss (k := .i64) (a := t33) (b := 0) (by kernel_rfl) rfl) ?_
    refine wpList_nil ?_
    refine then_n ?_
    by_cases q39 : t33 < 0
    · replace M := ifp q39 M
      refine cond_t rfl (bt q39 (by kernel_rfl)) ?_
      refine wp_seq ?_
      refine wp_region_lit ?_
      refine lv (d := 4) rfl rfl (by kernel_rfl) (e_assign (v := .int .i64 (-1)) rfl) ?_
      refine wpList_nil ?_
      refine then_n ?_
      refine wp_ret ?_
      refine inb_r ?_
      refine then_r ?_
      refine then_r ?_
      refine inb_r ?_
      refine then_r ?_
      obtain rfl := Option.some.inj M
      exact ret1 rfl rfl  (show _ = .int .i64 (-1) from (by kernel_rfl)) ⟨rfl, S37.chg⟩
    replace M := ifn q39 M
    refine cond_f rfl (bf q39 (by kernel_rfl)) ?_
    refine wp_skip ?_
    refine inb_n ?_
    refine then_n ?_
    refine wp_region_lit ?_
    refine lv (d := 16) rfl rfl (by kernel_rfl) (e_move (v := .int .i64 x11) (by exact e14)) ?_
    refine lv (d := 17) rfl rfl (by kernel_rfl) (e_add (k := .i64) (a := x11) (b := 1) (by kernel_rfl) rfl) ?_
    refine lv (d := 5) rfl rfl (by kernel_rfl) (e_assign (v := .int .i64 (IntKind.i64.wrap (x11 + 1))) (by kernel_rfl)) ?_
    refine wpList_nil ?_
    refine then_n ?_
    exact ⟨k20, (by omega), _, t33, (IntKind.i64.wrap (x11 + 1)), rfl, (by exact e12), (by kernel_rfl), (by kernel_rfl), S37, M⟩
  replace M := ifn q21 M
  refine cond_f rfl (bf q21 (by kernel_rfl)) ?_
  refine wp_exit ?_
  refine then_e ?_
  refine then_e ?_
  refine inb_hit ?_
  refine then_n ?_
  refine wp_seq ?_
  refine wp_region_lit ?_
  refine lv (d := 26) rfl rfl (by kernel_rfl) (e_move (v := .int .i64 x10) (by exact e13)) ?_
  refine lv (d := 4) rfl rfl (by kernel_rfl) (e_assign (v := .int .i64 x10) (by kernel_rfl)) ?_
  refine wpList_nil ?_
  refine then_n ?_
  refine wp_ret ?_
  obtain rfl := Option.some.inj M
  exact ret1 rfl rfl  (show _ = .int .i64 x10 from (by kernel_rfl)) ⟨rfl, S15.chg⟩

/-! laws_toByteS -/
def st65 : Ty Cell := iso (pair tInt (pair tInt sl5)) (fun x => (x.kind, x.n, x.text))
theorem st65_open {H : Hp} {x : Cell} {cs : List Value} (h : st65.R H x cs) : ∃ (A2 : Option Addr) (c2 : Nat), cs = [.int .i64 x.kind, .int .i64 x.n, .slice A2 x.text.length c2] ∧ x.text.length ≤ c2 ∧ Rd tByte H A2 x.text := by
  obtain ⟨_, _, rfl, rfl, ⟨_, _, rfl, rfl, ⟨A2, c2, rfl, l2, h2⟩⟩⟩ := h
  exact ⟨A2, c2, rfl, l2, h2⟩
theorem st65_mkR {H : Hp} {x : Cell} {A2 : Option Addr} {c2 : Nat} (l2 : x.text.length ≤ c2) (h2 : Rd tByte H A2 x.text) : st65.R H x [.int .i64 x.kind, .int .i64 x.n, .slice A2 x.text.length c2] := ⟨[.int .i64 x.kind], [.int .i64 x.n, .slice A2 x.text.length c2], rfl, rfl, ⟨[.int .i64 x.n], [.slice A2 x.text.length c2], rfl, rfl, ⟨A2, c2, rfl, l2, h2⟩⟩⟩
theorem st65_mkO {H X : Hp} {F2 : Foot} {x : Cell} {A2 : Option Addr} {c2 : Nat} (h2 : Row tByte 5 H X F2 A2 c2 x.text) : st65.O H X F2 x [.int .i64 x.kind, .int .i64 x.n, .slice A2 x.text.length c2] := (pairO0 (a := tInt) (b := (pair tInt sl5)) (x := (x.kind, (x.n, x.text))) (c0 := [.int .i64 x.kind]) (c1 := [.int .i64 x.n, .slice A2 x.text.length c2]) rfl (pairO0 (a := tInt) (b := sl5) (x := (x.n, x.text)) (c0 := [.int .i64 x.n]) (c1 := [.slice A2 x.text.length c2]) rfl ⟨A2, c2, rfl, h2⟩))
theorem st65_openO {H X : Hp} {F : Foot} {x : Cell} {cs : List Value} (h : st65.O H X F x cs) : ∃ (A2 : Option Addr) (c2 : Nat) (F2 : Foot), cs = [.int .i64 x.kind, .int .i64 x.n, .slice A2 x.text.length c2] ∧ Row tByte 5 H X F2 A2 c2 x.text ∧ (∀ b, F2 b → F b) := by
  obtain ⟨_, _, K1, L1, rfl, rfl, ⟨_, _, K0, L0, rfl, rfl, ⟨A2, c2, rfl, h2⟩, d0, s0⟩, d1, s1⟩ := h
  exact ⟨A2, c2, _, rfl, h2, fun b hb => s1 b (.inr (s0 b (.inr (hb))))⟩
theorem st65_c0 {H X : Hp} {F : Foot} {x : Cell} {cs : List Value} (h : st65.O H X F x cs) : cs[0]? = some (.int .i64 x.kind) := by obtain ⟨_, _, _, rfl, _, _⟩ := st65_openO h; rfl
theorem st65_r0 {H : Hp} {x : Cell} {cs : List Value} (h : st65.R H x cs) : cs[0]? = some (.int .i64 x.kind) := by obtain ⟨_, _, rfl, _, _⟩ := st65_open h; rfl
theorem st65_c1 {H X : Hp} {F : Foot} {x : Cell} {cs : List Value} (h : st65.O H X F x cs) : cs[1]? = some (.int .i64 x.n) := by obtain ⟨_, _, _, rfl, _, _⟩ := st65_openO h; rfl
theorem st65_r1 {H : Hp} {x : Cell} {cs : List Value} (h : st65.R H x cs) : cs[1]? = some (.int .i64 x.n) := by obtain ⟨_, _, rfl, _, _⟩ := st65_open h; rfl
theorem st65_u0 {H X : Hp} {F1 F2 : Foot} {x : Cell} (y : Int) {cs : List Value} (h : st65.O H X F1 x cs) : st65.O H X (or2 F1 F2) {x with kind := y} (cs.take 0 ++ [.int .i64 y] ++ cs.drop 1) := by
  obtain ⟨_, _, _, rfl, h2, s2⟩ := st65_openO h
  exact st65_mkO (x := {x with kind := y}) (h2.mono fun b hb => .inl (s2 b hb))
theorem st65_u1 {H X : Hp} {F1 F2 : Foot} {x : Cell} (y : Int) {cs : List Value} (h : st65.O H X F1 x cs) : st65.O H X (or2 F1 F2) {x with n := y} (cs.take 1 ++ [.int .i64 y] ++ cs.drop 2) := by
  obtain ⟨_, _, _, rfl, h2, s2⟩ := st65_openO h
  exact st65_mkO (x := {x with n := y}) (h2.mono fun b hb => .inl (s2 b hb))
theorem st65_u2 {H X : Hp} {F1 F2 : Foot} {x : Cell} {y : List UInt8} {A : Option Addr} {c : Nat} {cs : List Value} (hy : Row tByte 5 H X F2 A c y) (h : st65.O H X F1 x cs) : st65.O H X (or2 F1 F2) {x with text := y} (cs.take 2 ++ [.slice A y.length c] ++ cs.drop 3) := by
  obtain ⟨_, _, _, rfl, h2, _⟩ := st65_openO h
  exact st65_mkO (x := {x with text := y}) (hy.mono fun b hb => .inr hb)
def z65 : Cell := ⟨(0 : Int), (0 : Int), ([] : List UInt8)⟩
theorem z65_O (H X : Hp) : st65.O H X no z65 [.int .i64 (0 : Int), .int .i64 (0 : Int), .slice none 0 0] := st65_mkO (x := z65) (Row.nil _ _ _ _ no)
theorem z65_R (H : Hp) : st65.R H z65 [.int .i64 (0 : Int), .int .i64 (0 : Int), .slice none 0 0] := st65_mkR (x := z65) (Nat.le_refl _) (Rd.nil _ _ _)
def laws_toByteS.l0 : Nat → (List UInt8) → Int → (List UInt8) → Option (List UInt8)
  | 0, _, _, _ => none
  | k29 + 1, x1, x17, x19 => (if x17 < (x1.length : Int) then (if 0 ≤ x17 then (if x17 < (((x1.length : Int)).toNat : Int) then (laws_toByteS.l0 k29 x1 (IntKind.i64.wrap (x17 + 1)) (x19.set ((x17).toNat) (x1.getD ((x17).toNat) (0 : UInt8)))) else none) else none) else some x19)
def laws_toByteS.f (k : Nat) (x1 : List UInt8) : Option (List UInt8) := (if 0 ≤ (x1.length : Int) then (if ((x1.length : Int)).toNat ≤ 281474976710656 then (laws_toByteS.l0 k x1 0 (List.replicate ((x1.length : Int)).toNat (0 : UInt8))) else none) else none)
theorem laws_toByteS.calls (k : Nat) (w : World) (H : Hp) (x1 : List UInt8) (A2 : Option Addr) (c3 : Nat) (h4 : Rd tByte H A2 x1) (l5 : x1.length ≤ c3) (S : Own [] H w) (r : List UInt8) (M : laws_toByteS.f k x1 = some r) :
    Calls Try.prog 103 #[.slice A2 x1.length c3] w (fun e e_w => ∃ (A_1 : Option Addr) (c_1 : Nat) (F_1 : Foot) (H_ : Hp), e = .returned (.slice A_1 r.length c_1) ∧ Row tByte 5 H_ (hp e_w) F_1 A_1 c_1 r ∧ St (anyOf []) H w [F_1] H_ e_w) := by
  rw [laws_toByteS.f] at M
  refine enter (l := [.slice A2 x1.length c3]) 22 Try.func103 rfl rfl rfl ?_
  have S0_ := S.st
  refine wp_seq ?_
  refine wp_region_lit ?_
  refine lv (d := 2) rfl rfl (by kernel_rfl) (e_assign (v := .slice none 0 0) rfl) ?_
  refine wpList_nil ?_
  refine then_n ?_
  refine wp_seq ?_
  refine wp_region_lit ?_
  refine lv (d := 5) rfl rfl (by kernel_rfl) (e_move (v := .slice A2 x1.length c3) (by kernel_rfl)) ?_
  refine lv (d := 6) rfl rfl (by kernel_rfl) (e_len (A := A2) (n := x1.length) (c := c3) Try.underlying59 (by kernel_rfl)) ?_
  obtain ⟨q6, M⟩ := chk M
  obtain ⟨q7, M⟩ := chk M
  refine lve (d := 7) rfl rfl (by kernel_rfl) (e_make (d := tByte) (k := .i64) (k2 := .i64) (n := (x1.length : Int)) (z := .int .u8 0) (zx := (0 : UInt8)) (bytes := 1) S0_ Try.underlying59 (by kernel_rfl) rfl (by decide) (fun _ => rfl) (by kernel_rfl) (by kernel_rfl) q6 (by omega) (by omega)) ?_
  rintro _ w8 ⟨A9, c10, F11, rfl, h12, S13, K14⟩
  refine lv (d := 3) rfl rfl (by kernel_rfl) (e_assign (v := .slice A9 (((x1.length : Int)).toNat) c10) (by kernel_rfl)) ?_
  refine wpList_nil ?_
  refine then_n ?_
  refine wp_seq ?_
  refine wp_seq ?_
  refine wp_region_lit ?_
  refine lv (d := 4) rfl rfl (by kernel_rfl) (e_assign (v := .int .i64 0) rfl) ?_
  refine wpList_nil ?_
  refine then_n ?_
  refine wp_block ?_
  refine wp_loop_g (fun k27 a28 w15 => ∃ (f16 : Nat → Value) (x17 : Int) (F18 : Foot) (x19 : List UInt8), a28 = mk 22 f16 ∧ f16 0 = .slice A2 x1.length c3 ∧ f16 3 = .slice A9 (((x1.length : Int)).toNat) c10 ∧ f16 4 = .int .i64 x17 ∧ Row tByte 5 H (hp w15) F18 A9 c10 x19 ∧ x19.length = ((x1.length : Int)).toNat ∧ St (anyOf []) H w [F18] H w15 ∧ laws_toByteS.l0 k27 x1 x17 x19 = some r) k ⟨_, 0, F11, (List.replicate ((x1.length : Int)).toNat (0 : UInt8)), rfl, (by kernel_rfl), (by kernel_rfl), (by kernel_rfl), h12, List.length_replicate, S13, M⟩ ?_
  clear M
  rintro k27 a28 w15 ⟨f16, x17, F18, x19, rfl, e21, e22, e23, h12, n20, S24, M⟩
  rcases k27 with _ | k29
  · rw [laws_toByteS.l0] at M
    cases M
  rw [laws_toByteS.l0] at M
  refine wp_seq ?_
  refine wp_seq ?_
  refine wp_region_lit ?_
  refine lv (d := 8) rfl rfl (by kernel_rfl) (e_move (v := .int .i64 x17) (by exact e23)) ?_
  refine lv (d := 9) rfl rfl (by kernel_rfl) (e_move (v := .slice A2 x1.length c3) (by exact e21)) ?_
  refine lv (d := 10) rfl rfl (by kernel_rfl) (e_len (A := A2) (n := x1.length) (c := c3) Try.underlying59 (by kernel_rfl)) ?_
  refine lv (d := 11) rfl rfl (by kernel_rfl) (e_lss (k := .i64) (a := x17) (b := (x1.length : Int)) (by kernel_rfl) (by kernel_rfl)) ?_
  refine wpList_nil ?_
  refine then_n ?_
  by_cases q30 : x17 < (x1.length : Int)
  · replace M := ifp q30 M
    refine cond_t rfl (bt q30 (by kernel_rfl)) ?_
    refine wp_skip ?_
    refine then_n ?_
    refine wp_seq ?_
    refine wp_block ?_
    refine wp_region_lit ?_
    refine lv (d := 14) rfl rfl (by kernel_rfl) (e_move (v := .slice A9 (((x1.length : Int)).toNat) c10) (by exact e22)) ?_
    refine lv (d := 15) rfl rfl (by kernel_rfl) (e_move (v := .int .i64 x17) (by exact e23)) ?_
    refine lv (d := 16) rfl rfl (by kernel_rfl) (e_move (v := .slice A2 x1.length c3) (by exact e21)) ?_
    refine lv (d := 17) rfl rfl (by kernel_rfl) (e_move (v := .int .i64 x17) (by exact e23)) ?_
    obtain ⟨q31, M⟩ := chk M
    obtain ⟨b32, o33, e34⟩ := Rd.addr h4 (show (x17).toNat < x1.length by omega)
    obtain ⟨y35, r36, k37⟩ := Rd.at h4 e34 (getD_some (0 : UInt8) (show (x17).toNat < x1.length by omega))
    obtain rfl := r36
    refine lv (d := 18) rfl rfl (by kernel_rfl) (e_indexAddr (b := b32) (off := o33) (n := x1.length) (c := c3) (sz := 1) (i := x17) (k := .i64) Try.underlying59 e34 (by kernel_rfl) (by kernel_rfl) (by kernel_rfl) q31 q30) ?_
    refine lv (d := 19) rfl rfl (by kernel_rfl) (e_load1 (ad := ⟨b32, o33 + (x17 : Int).toNat * 1, none⟩) (v := .int .u8 ((x1.getD ((x17).toNat) (0 : UInt8)).toNat : Int)) Try.underlying5 rfl (by kernel_rfl) (hpx (S24.inv.cell (k37 0 _ rfl)))) ?_
    obtain ⟨q38, M⟩ := chk M
    obtain ⟨b39, e41⟩ := Row.addr h12 (show (x17).toNat < x19.length by have : x19.length = ((x1.length : Int)).toNat := n20; omega)
    refine lv (d := 20) rfl rfl (by kernel_rfl) (e_indexAddr (b := b39) (off := 0) (n := ((x1.length : Int)).toNat) (c := c10) (sz := 1) (i := x17) (k := .i64) Try.underlying59 e41 (by kernel_rfl) (by kernel_rfl) (by kernel_rfl) q31 q38) ?_
    have S42 := S24.unit
    have S43 := S42.pull (F := F18) (Fr := [no]) 1 rfl rfl
    refine lse rfl rfl (by kernel_rfl) (e_setel (d := tByte) (b := b39) (i := (x17).toNat) (v := .int .u8 ((x1.getD ((x17).toNat) (0 : UInt8)).toNat : Int)) (vs := [.int .u8 ((x1.getD ((x17).toNat) (0 : UInt8)).toNat : Int)]) (yv := (x1.getD ((x17).toNat) (0 : UInt8))) S43 (by kernel_rfl) e41 (by kernel_rfl) rfl (by kernel_rfl) h12 (show (x17).toNat < x19.length by have : x19.length = ((x1.length : Int)).toNat := n20; omega) rfl) ?_
    rintro w44 ⟨F46, h45, S47, K48⟩
    clear h12
    refine wpList_nil ?_
    refine inb_n ?_
    refine then_n ?_
    refine wp_region_lit ?_
    refine lv (d := 12) rfl rfl (by kernel_rfl) (e_move (v := .int .i64 x17) (by exact e23)) ?_
    refine lv (d := 13) rfl rfl (by kernel_rfl) (e_add (k := .i64) (a := x17) (b := 1) (by kernel_rfl) rfl) ?_
    refine lv (d := 4) rfl rfl (by kernel_rfl) (e_assign (v := .int .i64 (IntKind.i64.wrap (x17 + 1))) (by kernel_rfl)) ?_
    refine wpList_nil ?_
    refine then_n ?_
    exact ⟨k29, (by omega), _, (IntKind.i64.wrap (x17 + 1)), F46, (x19.set ((x17).toNat) (x1.getD ((x17).toNat) (0 : UInt8))), rfl, (by exact e21), (by exact e22), (by kernel_rfl), h45, (List.length_set.trans n20), S47, M⟩
  replace M := ifn q30 M
  refine cond_f rfl (bf q30 (by kernel_rfl)) ?_
  refine wp_exit ?_
  refine then_e ?_
  refine then_e ?_
  refine inb_hit ?_
  refine then_n ?_
  refine wp_seq ?_
  refine wp_region_lit ?_
  refine lv (d := 21) rfl rfl (by kernel_rfl) (e_move (v := .slice A9 (((x1.length : Int)).toNat) c10) (by exact e22)) ?_
  refine lv (d := 2) rfl rfl (by kernel_rfl) (e_assign (v := .slice A9 (((x1.length : Int)).toNat) c10) (by kernel_rfl)) ?_
  refine wpList_nil ?_
  refine then_n ?_
  refine wp_ret ?_
  obtain rfl := Option.some.inj M
  exact ret1 rfl rfl  (show _ = .slice A9 (((x1.length : Int)).toNat) c10 from (by kernel_rfl)) ⟨A9, c10, F18, H, (by rw [(show x19.length = ((x1.length : Int)).toNat from n20)]), h12, S24⟩

/-! laws_toCell -/
def laws_toCell.f (k : Nat) (x1 : Cell) : Option Cell := ((laws_toByteS.f k x1.text).bind fun t29 => some (⟨x1.kind, x1.n, t29⟩ : Cell))
theorem laws_toCell.calls (k : Nat) (w : World) (H : Hp) (x1 : Cell) (A2 : Option Addr) (c3 : Nat) (h4 : Rd tByte H A2 x1.text) (l5 : x1.text.length ≤ c3) (S : Own [] H w) (r : Cell) (M : laws_toCell.f k x1 = some r) :
    Calls Try.prog 57 #[.agg #[.int .i64 x1.kind, .int .i64 x1.n, .slice A2 x1.text.length c3]] w (fun e e_w => ∃ (A_1 : Option Addr) (c_1 : Nat) (F_1 : Foot) (H_ : Hp), e = .returned (.agg #[.int .i64 r.kind, .int .i64 r.n, .slice A_1 r.text.length c_1]) ∧ Row tByte 5 H_ (hp e_w) F_1 A_1 c_1 r.text ∧ St (anyOf []) H w [F_1] H_ e_w) := by
  rw [laws_toCell.f] at M
  refine enter (l := [.agg #[.int .i64 x1.kind, .int .i64 x1.n, .slice A2 x1.text.length c3]]) 15 Try.func57 rfl rfl rfl ?_
  have S0_ := S.st
  refine wp_seq ?_
  refine wp_region_lit ?_
  refine lve (d := 1) rfl rfl (by kernel_rfl) (new_blk (v := fun g_ => .pointer (some ⟨g_, 0, none⟩)) (cs := #[.int .i64 x1.kind, .int .i64 x1.n, .slice A2 x1.text.length c3]) (t := 68) S0_ (by kernel_rfl)) ?_
  rintro _ w6 ⟨g7, rfl, b8, S9, K10⟩
  refine lve (d := 2) rfl rfl (by kernel_rfl) (new_blk (v := fun g_ => .pointer (some ⟨g_, 0, none⟩)) (cs := #[.int .i64 0, .int .i64 0, .slice none 0 0]) (t := 65) S9 (by kernel_rfl)) ?_
  rintro _ w11 ⟨g12, rfl, b13, S14, K15⟩
  replace b8 := K15.blk 0 rfl b8
  refine wpList_nil ?_
  refine then_n ?_
  refine wp_seq ?_
  refine wp_region_lit ?_
  refine lve (d := 3) rfl rfl (by kernel_rfl) (new_blk (v := fun g_ => .pointer (some ⟨g_, 0, none⟩)) (cs := #[.int .i64 0, .int .i64 0, .slice none 0 0]) (t := 65) S14 (by kernel_rfl)) ?_
  rintro _ w16 ⟨g17, rfl, b18, S19, K20⟩
  replace b13 := K20.blk 0 rfl b13
  replace b8 := K20.blk 1 rfl b8
  refine wpList_nil ?_
  refine then_n ?_
  refine wp_seq ?_
  refine wp_region_lit ?_
  refine lv (d := 4) rfl rfl (by kernel_rfl) (e_fieldAddr (b := g7) (off := 0) (o := 0) Try.underlying68 rfl rfl (sz := 1) (by kernel_rfl) (by decide) (by kernel_rfl)) ?_
  refine lv (d := 5) rfl rfl (by kernel_rfl) (e_load1 (ad := ⟨g7, 0 + 0, none⟩) (v := .int .i64 x1.kind) Try.underlying3 rfl (by kernel_rfl) (blk_cell b8 rfl)) ?_
  refine lv (d := 6) rfl rfl (by kernel_rfl) (e_fieldAddr (b := g17) (off := 0) (o := 0) Try.underlying65 rfl rfl (sz := 1) (by kernel_rfl) (by decide) (by kernel_rfl)) ?_
  refine lse rfl rfl (by kernel_rfl) (e_store (g := g17) (o := 0 + 0) (v := .int .i64 x1.kind) (cur' := #[.int .i64 x1.kind, .int .i64 0, .slice none 0 0]) (vs := [.int .i64 x1.kind]) S19 (by kernel_rfl) (by kernel_rfl) rfl (by kernel_rfl) b18 (Nat.le_of_ble_eq_true rfl) (List.forall_mem_cons.2 ⟨rfl, (fun _ h_ => by cases h_)⟩) rfl) ?_
  rintro w21 ⟨b22, S23, K24⟩
  replace b13 := K24.blk 0 rfl b13
  replace b8 := K24.blk 1 rfl b8
  clear b18
  refine wpList_nil ?_
  refine then_n ?_
  refine wp_seq ?_
  refine wp_region_lit ?_
  refine lv (d := 7) rfl rfl (by kernel_rfl) (e_fieldAddr (b := g7) (off := 0) (o := 1) Try.underlying68 rfl rfl (sz := 1) (by kernel_rfl) (by decide) (by kernel_rfl)) ?_
  refine lv (d := 8) rfl rfl (by kernel_rfl) (e_load1 (ad := ⟨g7, 0 + 1, none⟩) (v := .int .i64 x1.n) Try.underlying3 rfl (by kernel_rfl) (blk_cell b8 rfl)) ?_
  refine lv (d := 9) rfl rfl (by kernel_rfl) (e_fieldAddr (b := g17) (off := 0) (o := 1) Try.underlying65 rfl rfl (sz := 1) (by kernel_rfl) (by decide) (by kernel_rfl)) ?_
  refine lse rfl rfl (by kernel_rfl) (e_store (g := g17) (o := 0 + 1) (v := .int .i64 x1.n) (cur' := #[.int .i64 x1.kind, .int .i64 x1.n, .slice none 0 0]) (vs := [.int .i64 x1.n]) S23 (by kernel_rfl) (by kernel_rfl) rfl (by kernel_rfl) b22 (Nat.le_of_ble_eq_true rfl) (List.forall_mem_cons.2 ⟨rfl, (fun _ h_ => by cases h_)⟩) rfl) ?_
  rintro w25 ⟨b26, S27, K28⟩
  replace b13 := K28.blk 0 rfl b13
  replace b8 := K28.blk 1 rfl b8
  clear b22
  refine wpList_nil ?_
  refine then_n ?_
  refine wp_seq ?_
  refine wp_region_lit ?_
  refine lv (d := 10) rfl rfl (by kernel_rfl) (e_fieldAddr (b := g7) (off := 0) (o := 2) Try.underlying68 rfl rfl (sz := 1) (by kernel_rfl) (by decide) (by kernel_rfl)) ?_
  refine lv (d := 11) rfl rfl (by kernel_rfl) (e_load1 (ad := ⟨g7, 0 + 2, none⟩) (v := .slice A2 x1.text.length c3) Try.underlying59 rfl (by kernel_rfl) (blk_cell b8 rfl)) ?_
  obtain ⟨t29, u30, M⟩ := bnd M
  refine lcall (d := 12) rfl rfl (by kernel_rfl) (e_call (l := [.tmp 11]) (vs := [.slice A2 x1.text.length c3]) Try.func103 (by kernel_rfl) rfl (by kernel_rfl) rfl) (laws_toByteS.calls k w25 H x1.text A2 c3 h4 l5 (St.own' (Fa := []) (Fr := [(is g17), (is g12), (is g7)]) S27) t29 u30) ?_
  rintro _ w31 ⟨A34, c35, F37, H32, rfl, h36, T33⟩
  refine ⟨_, rfl, ?_⟩
  obtain ⟨S38, K39⟩ := St.call (Fa := []) (Fr := [(is g17), (is g12), (is g7)]) S27 T33
  replace b26 := K39.blk 0 rfl b26
  replace b13 := K39.blk 1 rfl b13
  replace b8 := K39.blk 2 rfl b8
  have E40 := T33.ext
  refine lv (d := 13) rfl rfl (by kernel_rfl) (e_fieldAddr (b := g17) (off := 0) (o := 2) Try.underlying65 rfl rfl (sz := 1) (by kernel_rfl) (by decide) (by kernel_rfl)) ?_
  have S41 := S38.pull (F := (is g17)) (Fr := [F37, (is g12), (is g7)]) 1 rfl rfl
  refine lse rfl rfl (by kernel_rfl) (e_store (g := g17) (o := 0 + 2) (v := .slice A34 t29.length c35) (cur' := #[.int .i64 x1.kind, .int .i64 x1.n, .slice A34 t29.length c35]) (vs := [.slice A34 t29.length c35]) S41 (by kernel_rfl) (by kernel_rfl) rfl (by kernel_rfl) b26 (Nat.le_of_ble_eq_true rfl) (List.forall_mem_cons.2 ⟨rfl, (fun _ h_ => by cases h_)⟩) rfl) ?_
  rintro w42 ⟨b43, S44, K45⟩
  replace h36 := h36.move (K45.at 0 rfl)
  replace b13 := K45.blk 1 rfl b13
  replace b8 := K45.blk 2 rfl b8
  clear b26
  refine wpList_nil ?_
  refine then_n ?_
  refine wp_seq ?_
  refine wp_region_lit ?_
  refine lv (d := 14) rfl rfl (by kernel_rfl) (e_loadS (b := g17) (off := 0) (cs := [.int .i64 x1.kind, .int .i64 x1.n, .slice A34 t29.length c35]) Try.underlying65 rfl (by kernel_rfl) (by kernel_rfl) (blk_cells b43 rfl)) ?_
  have S46 := S44.pull (F := (is g12)) (Fr := [(is g17), F37, (is g7)]) 2 rfl rfl
  refine lse rfl rfl (by kernel_rfl) (e_store (g := g12) (o := 0) (v := .agg #[.int .i64 x1.kind, .int .i64 x1.n, .slice A34 t29.length c35]) (cur' := #[.int .i64 x1.kind, .int .i64 x1.n, .slice A34 t29.length c35]) (vs := [.int .i64 x1.kind, .int .i64 x1.n, .slice A34 t29.length c35]) S46 (by kernel_rfl) (by kernel_rfl) rfl (by kernel_rfl) b13 (Nat.le_of_ble_eq_true rfl) (List.forall_mem_cons.2 ⟨rfl, (List.forall_mem_cons.2 ⟨rfl, (List.forall_mem_cons.2 ⟨rfl, (fun _ h_ => by cases h_)⟩)⟩)⟩) rfl) ?_
  rintro w47 ⟨b48, S49, K50⟩
  replace b43 := K50.blk 0 rfl b43
  replace h36 := h36.move (K50.at 1 rfl)
  replace b8 := K50.blk 2 rfl b8
  clear b13
  refine wpList_nil ?_
  refine then_n ?_
  refine wp_ret ?_
  obtain rfl := Option.some.inj M
  have S51 := S49.pull (F := F37) (Fr := [(is g12), (is g17), (is g7)]) 2 rfl rfl
  have S52 := St.first (Fa := [F37]) (Fr := [(is g12), (is g17), (is g7)]) S51
  exact retS (ty := 65) (cur := #[.int .i64 x1.kind, .int .i64 x1.n, .slice A34 t29.length c35]) rfl rfl (by kernel_rfl) b48 Try.underlying65 rfl (by kernel_rfl) ⟨A34, c35, F37, H32, rfl, h36, S52⟩

/-! laws_toCellS -/
def laws_toCellS.l0 : Nat → (List Cell) → Int → (List Cell) → Option (List Cell)
  | 0, _, _, _ => none
  | k31 + 1, x1, x19, x21 => (if x19 < (x1.length : Int) then (if 0 ≤ x19 then ((laws_toCell.f k31 (x1.getD ((x19).toNat) z68)).bind fun t44 => (if x19 < (((x1.length : Int)).toNat : Int) then (laws_toCellS.l0 k31 x1 (IntKind.i64.wrap (x19 + 1)) (x21.set ((x19).toNat) t44)) else none)) else none) else some x21)
def laws_toCellS.f (k : Nat) (x1 : List Cell) : Option (List Cell) := (if 0 ≤ (x1.length : Int) then (if ((x1.length : Int)).toNat ≤ 7036874417766 then (laws_toCellS.l0 k x1 0 (List.replicate ((x1.length : Int)).toNat z65)) else none) else none)
theorem laws_toCellS.calls (k : Nat) (w : World) (H : Hp) (x1 : List Cell) (A2 : Option Addr) (c3 : Nat) (h4 : Rd st68 H A2 x1) (l5 : x1.length ≤ c3) (S : Own [] H w) (r : List Cell) (M : laws_toCellS.f k x1 = some r) :
    Calls Try.prog 16 #[.slice A2 x1.length c3] w (fun e e_w => ∃ (A_1 : Option Addr) (c_1 : Nat) (F_1 : Foot) (H_ : Hp), e = .returned (.slice A_1 r.length c_1) ∧ Row st65 65 H_ (hp e_w) F_1 A_1 c_1 r ∧ St (anyOf []) H w [F_1] H_ e_w) := by
  rw [laws_toCellS.f] at M
  refine enter (l := [.slice A2 x1.length c3]) 23 Try.func16 rfl rfl rfl ?_
  have S0_ := S.st
  refine wp_seq ?_
  refine wp_region_lit ?_
  refine lv (d := 2) rfl rfl (by kernel_rfl) (e_assign (v := .slice none 0 0) rfl) ?_
  refine wpList_nil ?_
  refine then_n ?_
  refine wp_seq ?_
  refine wp_region_lit ?_
  refine lv (d := 5) rfl rfl (by kernel_rfl) (e_move (v := .slice A2 x1.length c3) (by kernel_rfl)) ?_
  refine lv (d := 6) rfl rfl (by kernel_rfl) (e_len (A := A2) (n := x1.length) (c := c3) Try.underlying22 (by kernel_rfl)) ?_
  obtain ⟨q6, M⟩ := chk M
  obtain ⟨q7, M⟩ := chk M
  refine lve (d := 7) rfl rfl (by kernel_rfl) (e_make (d := st65) (k := .i64) (k2 := .i64) (n := (x1.length : Int)) (z := .agg #[.int .i64 0, .int .i64 0, .slice none 0 0]) (zx := z65) (bytes := 40) S0_ Try.underlying25 (by kernel_rfl) rfl (by decide) (z65_O _) (by kernel_rfl) (by kernel_rfl) q6 (by omega) (by omega)) ?_
  rintro _ w8 ⟨A9, c10, F11, rfl, h12, S13, K14⟩
  refine lv (d := 3) rfl rfl (by kernel_rfl) (e_assign (v := .slice A9 (((x1.length : Int)).toNat) c10) (by kernel_rfl)) ?_
  refine wpList_nil ?_
  refine then_n ?_
  refine wp_seq ?_
  refine wp_seq ?_
  refine wp_region_lit ?_
  refine lv (d := 4) rfl rfl (by kernel_rfl) (e_assign (v := .int .i64 0) rfl) ?_
  refine wpList_nil ?_
  refine then_n ?_
  refine wp_block ?_
  refine wp_loop_g (fun k29 a30 w15 => ∃ (f16 : Nat → Value) (H17 : Hp) (x19 : Int) (F20 : Foot) (x21 : List Cell), a30 = mk 23 f16 ∧ f16 0 = .slice A2 x1.length c3 ∧ f16 3 = .slice A9 (((x1.length : Int)).toNat) c10 ∧ f16 4 = .int .i64 x19 ∧ Row st65 65 H17 (hp w15) F20 A9 c10 x21 ∧ x21.length = ((x1.length : Int)).toNat ∧ Ext H H17 ∧ St (anyOf []) H w [F20] H17 w15 ∧ laws_toCellS.l0 k29 x1 x19 x21 = some r) k ⟨_, H, 0, F11, (List.replicate ((x1.length : Int)).toNat z65), rfl, (by kernel_rfl), (by kernel_rfl), (by kernel_rfl), h12, List.length_replicate, (Ext.refl _), S13, M⟩ ?_
  clear M
  rintro k29 a30 w15 ⟨f16, H17, x19, F20, x21, rfl, e23, e24, e25, h12, n22, Y18, S26, M⟩
  rcases k29 with _ | k31
  · rw [laws_toCellS.l0] at M
    cases M
  rw [laws_toCellS.l0] at M
  refine wp_seq ?_
  refine wp_seq ?_
  refine wp_region_lit ?_
  refine lv (d := 8) rfl rfl (by kernel_rfl) (e_move (v := .int .i64 x19) (by exact e25)) ?_
  refine lv (d := 9) rfl rfl (by kernel_rfl) (e_move (v := .slice A2 x1.length c3) (by exact e23)) ?_
  refine lv (d := 10) rfl rfl (by kernel_rfl) (e_len (A := A2) (n := x1.length) (c := c3) Try.underlying22 (by kernel_rfl)) ?_
  refine lv (d := 11) rfl rfl (by kernel_rfl) (e_lss (k := .i64) (a := x19) (b := (x1.length : Int)) (by kernel_rfl) (by kernel_rfl)) ?_
  refine wpList_nil ?_
  refine then_n ?_
  by_cases q32 : x19 < (x1.length : Int)
  · replace M := ifp q32 M
    refine cond_t rfl (bt q32 (by kernel_rfl)) ?_
    refine wp_skip ?_
    refine then_n ?_
    refine wp_seq ?_
    refine wp_block ?_
    refine wp_region_lit ?_
    refine lv (d := 14) rfl rfl (by kernel_rfl) (e_move (v := .slice A9 (((x1.length : Int)).toNat) c10) (by exact e24)) ?_
    refine lv (d := 15) rfl rfl (by kernel_rfl) (e_move (v := .int .i64 x19) (by exact e25)) ?_
    refine lv (d := 16) rfl rfl (by kernel_rfl) (e_move (v := .slice A2 x1.length c3) (by exact e23)) ?_
    refine lv (d := 17) rfl rfl (by kernel_rfl) (e_move (v := .int .i64 x19) (by exact e25)) ?_
    obtain ⟨q33, M⟩ := chk M
    obtain ⟨b34, o35, e36⟩ := Rd.addr h4 (show (x19).toNat < x1.length by omega)
    obtain ⟨y37, r38, k39⟩ := Rd.at h4 e36 (getD_some z68 (show (x19).toNat < x1.length by omega))
    obtain ⟨A40, c41, rfl, l42, h43⟩ := st68_open r38
    refine lv (d := 18) rfl rfl (by kernel_rfl) (e_indexAddr (b := b34) (off := o35) (n := x1.length) (c := c3) (sz := 3) (i := x19) (k := .i64) Try.underlying22 e36 (by kernel_rfl) (by kernel_rfl) (by kernel_rfl) q33 q32) ?_
    refine lv (d := 19) rfl rfl (by kernel_rfl) (e_loadS (b := b34) (off := o35 + (x19 : Int).toNat * 3) (cs := [.int .i64 ((x1.getD ((x19).toNat) z68).kind), .int .i64 ((x1.getD ((x19).toNat) z68).n), .slice A40 ((x1.getD ((x19).toNat) z68).text).length c41]) Try.underlying68 rfl (by kernel_rfl) (by kernel_rfl) (fun j_ u_ e_ => (hpx (S26.inv.cell (Y18.cell (k39 j_ u_ e_)))))) ?_
    obtain ⟨t44, u45, M⟩ := bnd M
    refine lcall (d := 20) rfl rfl (by kernel_rfl) (e_call (l := [.tmp 19]) (vs := [.agg #[.int .i64 ((x1.getD ((x19).toNat) z68).kind), .int .i64 ((x1.getD ((x19).toNat) z68).n), .slice A40 ((x1.getD ((x19).toNat) z68).text).length c41]]) Try.func57 (by kernel_rfl) rfl (by kernel_rfl) rfl) (laws_toCell.calls k31 w15 H17 (x1.getD ((x19).toNat) z68) A40 c41 (h43.ext Y18) l42 (St.own' (Fa := []) (Fr := [F20]) S26) t44 u45) ?_
    rintro _ w46 ⟨A49, c50, F52, H47, rfl, h51, T48⟩
    refine ⟨_, rfl, ?_⟩
    obtain ⟨S53, K54⟩ := St.call (Fa := []) (Fr := [F20]) S26 T48
    replace h12 := h12.move (K54.at 0 rfl)
    have E55 := T48.ext
    replace h12 := h12.ext E55
    obtain ⟨q56, M⟩ := chk M
    obtain ⟨b57, e59⟩ := Row.addr h12 (show (x19).toNat < x21.length by have : x21.length = ((x1.length : Int)).toNat := n22; omega)
    refine lv (d := 21) rfl rfl (by kernel_rfl) (e_indexAddr (b := b57) (off := 0) (n := ((x1.length : Int)).toNat) (c := c10) (sz := 3) (i := x19) (k := .i64) Try.underlying25 e59 (by kernel_rfl) (by kernel_rfl) (by kernel_rfl) q33 q56) ?_
    have S60 := S53.pull (F := F20) (Fr := [F52]) 1 rfl rfl
    refine lse rfl rfl (by kernel_rfl) (e_setel (d := st65) (b := b57) (i := (x19).toNat) (v := .agg #[.int .i64 t44.kind, .int .i64 t44.n, .slice A49 t44.text.length c50]) (vs := [.int .i64 t44.kind, .int .i64 t44.n, .slice A49 t44.text.length c50]) (yv := t44) S60 (by kernel_rfl) e59 (by kernel_rfl) rfl (by kernel_rfl) h12 (show (x19).toNat < x21.length by have : x21.length = ((x1.length : Int)).toNat := n22; omega) (st65_mkO (x := t44) h51)) ?_
    rintro w61 ⟨F63, h62, S64, K65⟩
    clear h12
    refine wpList_nil ?_
    refine inb_n ?_
    refine then_n ?_
    refine wp_region_lit ?_
    refine lv (d := 12) rfl rfl (by kernel_rfl) (e_move (v := .int .i64 x19) (by exact e25)) ?_
    refine lv (d := 13) rfl rfl (by kernel_rfl) (e_add (k := .i64) (a := x19) (b := 1) (by kernel_rfl) rfl) ?_
    refine lv (d := 4) rfl rfl (by kernel_rfl) (e_assign (v := .int .i64 (IntKind.i64.wrap (x19 + 1))) (by kernel_rfl)) ?_
    refine wpList_nil ?_
    refine then_n ?_
    exact ⟨k31, (by omega), _, H47, (IntKind.i64.wrap (x19 + 1)), F63, (x21.set ((x19).toNat) t44), rfl, (by exact e23), (by exact e24), (by kernel_rfl), h62, (List.length_set.trans n22), (Y18.trans E55), S64, M⟩
  replace M := ifn q32 M
  refine cond_f rfl (bf q32 (by kernel_rfl)) ?_
  refine wp_exit ?_
  refine then_e ?_
  refine then_e ?_
  refine inb_hit ?_
  refine then_n ?_
  refine wp_seq ?_
  refine wp_region_lit ?_
  refine lv (d := 22) rfl rfl (by kernel_rfl) (e_move (v := .slice A9 (((x1.length : Int)).toNat) c10) (by exact e24)) ?_
  refine lv (d := 2) rfl rfl (by kernel_rfl) (e_assign (v := .slice A9 (((x1.length : Int)).toNat) c10) (by kernel_rfl)) ?_
  refine wpList_nil ?_
  refine then_n ?_
  refine wp_ret ?_
  obtain rfl := Option.some.inj M
  exact ret1 rfl rfl  (show _ = .slice A9 (((x1.length : Int)).toNat) c10 from (by kernel_rfl)) ⟨A9, c10, F20, H17, (by rw [(show x21.length = ((x1.length : Int)).toNat from n22)]), h12, S26⟩

/-! spec_l2cell -/
def spec_l2cell.f (x1 : Cell) : Option Bool := (if x1.kind = 0 then (if x1.n ≥ 0 then (if x1.n ≤ 1000000 then some (decide ((x1.text.length : Int) = 0)) else some false) else some false) else (if x1.kind = 1 then (if x1.n ≥ (-1000000000000000) then (if x1.n ≤ 1000000000000000 then some (decide ((x1.text.length : Int) = 0)) else some false) else some false) else (if (x1.text.length : Int) > 100 then some false else (if x1.kind = 2 then some (decide (x1.n = 0)) else (if x1.kind = 3 then (if x1.n ≥ 1 then some (decide (x1.n ≤ 20)) else some false) else some false)))))
theorem spec_l2cell.calls (w : World) (H : Hp) (x1 : Cell) (A2 : Option Addr) (c3 : Nat) (h4 : Rd tByte H A2 x1.text) (l5 : x1.text.length ≤ c3) (S : Own [] H w) (r : Bool) (M : spec_l2cell.f x1 = some r) :
    Calls Try.prog 56 #[.agg #[.int .i64 x1.kind, .int .i64 x1.n, .slice A2 x1.text.length c3]] w (fun e e_w => e = .returned (.bool r) ∧ Chg no w e_w) := by
  rw [spec_l2cell.f] at M
  refine enter (l := [.agg #[.int .i64 x1.kind, .int .i64 x1.n, .slice A2 x1.text.length c3]]) 60 Try.func56 rfl rfl rfl ?_
  have S0_ := S.st
  refine wp_seq ?_
  refine wp_region_lit ?_
  refine lve (d := 1) rfl rfl (by kernel_rfl) (new_blk (v := fun g_ => .pointer (some ⟨g_, 0, none⟩)) (cs := #[.int .i64 x1.kind, .int .i64 x1.n, .slice A2 x1.text.length c3]) (t := 65) S0_ (by kernel_rfl)) ?_
  rintro _ w6 ⟨g7, rfl, b8, S9, K10⟩
  refine lv (d := 2) rfl rfl (by kernel_rfl) (e_assign (v := .bool false) rfl) ?_
  refine wpList_nil ?_
  refine then_n ?_
  refine wp_seq ?_
  refine wp_seq ?_
  refine wp_region_lit ?_
  refine lv (d := 3) rfl rfl (by kernel_rfl) (e_fieldAddr (b := g7) (off := 0) (o := 0) Try.underlying65 rfl rfl (sz := 1) (by kernel_rfl) (by decide) (by kernel_rfl)) ?_
  refine lv (d := 4) rfl rfl (by kernel_rfl) (e_load1 (ad := ⟨g7, 0 + 0, none⟩) (v := .int .i64 x1.kind) Try.underlying3 rfl (by kernel_rfl) (blk_cell b8 rfl)) ?_
  refine lv (d := 5) rfl rfl (by kernel_rfl) (e_eql (k := .i64) (a := x1.kind) (b := 0) (by kernel_rfl) rfl) ?_
  refine wpList_nil ?_
  refine then_n ?_
  by_cases q11 : x1.kind = 0
  · replace M := ifp q11 M
    refine cond_t rfl (bt q11 (by kernel_rfl)) ?_
    refine wp_seq ?_
    refine wp_region_lit ?_
    refine lv (d := 6) rfl rfl (by kernel_rfl) (e_fieldAddr (b := g7) (off := 0) (o := 1) Try.underlying65 rfl rfl (sz := 1) (by kernel_rfl) (by decide) (by kernel_rfl)) ?_
    refine lv (d := 7) rfl rfl (by kernel_rfl) (e_load1 (ad := ⟨g7, 0 + 1, none⟩) (v := .int .i64 x1.n) Try.underlying3 rfl (by kernel_rfl) (blk_cell b8 rfl)) ?_
    refine lv (d := 8) rfl rfl (by kernel_rfl) (e_geq (k := .i64) (a := x1.n) (b := 0) (by kernel_rfl) rfl) ?_
    refine lv (d := 9) rfl rfl (by kernel_rfl) (e_move (v := .bool (decide (x1.n ≥ 0))) (by kernel_rfl)) ?_
    by_cases q12 : x1.n ≥ 0
    · replace M := ifp q12 M
      refine lvg (d := 10) (t := 9) rfl (by kernel_rfl) rfl (bt q12 (by kernel_rfl)) rfl (by kernel_rfl) (e_fieldAddr (b := g7) (off := 0) (o := 1) Try.underlying65 rfl rfl (sz := 1) (by kernel_rfl) (by decide) (by kernel_rfl)) ?_
      refine lvg (d := 11) (t := 9) rfl (by kernel_rfl) rfl (bt q12 (by kernel_rfl)) rfl (by kernel_rfl) (e_load1 (ad := ⟨g7, 0 + 1, none⟩) (v := .int .i64 x1.n) Try.underlying3 rfl (by kernel_rfl) (blk_cell b8 rfl)) ?_
      refine lvg (d := 12) (t := 9) rfl (by kernel_rfl) rfl (bt q12 (by kernel_rfl)) rfl (by kernel_rfl) (e_leq (k := .i64) (a := x1.n) (b := 1000000) (by kernel_rfl) rfl) ?_
      refine lv (d := 13) rfl rfl (by kernel_rfl) (e_pick_t (v := .bool (decide (x1.n ≤ 1000000))) (bt q12 (by kernel_rfl)) (by kernel_rfl)) ?_
      refine lv (d := 14) rfl rfl (by kernel_rfl) (e_move (v := .bool (decide (x1.n ≤ 1000000))) (by kernel_rfl)) ?_
      by_cases q13 : x1.n ≤ 1000000
      · replace M := ifp q13 M
        refine lvg (d := 15) (t := 14) rfl (by kernel_rfl) rfl (bt q13 (by kernel_rfl)) rfl (by kernel_rfl) (e_fieldAddr (b := g7) (off := 0) (o := 2) Try.underlying65 rfl rfl (sz := 1) (by kernel_rfl) (by decide) (by kernel_rfl)) ?_
        refine lvg (d := 16) (t := 14) rfl (by kernel_rfl) rfl (bt q13 (by kernel_rfl)) rfl (by kernel_rfl) (e_load1 (ad := ⟨g7, 0 + 2, none⟩) (v := .slice A2 x1.text.length c3) Try.underlying59 rfl (by kernel_rfl) (blk_cell b8 rfl)) ?_
        refine lvg (d := 17) (t := 14) rfl (by kernel_rfl) rfl (bt q13 (by kernel_rfl)) rfl (by kernel_rfl) (e_len (A := A2) (n := x1.text.length) (c := c3) Try.underlying59 (by kernel_rfl)) ?_
        refine lvg (d := 18) (t := 14) rfl (by kernel_rfl) rfl (bt q13 (by kernel_rfl)) rfl (by kernel_rfl) (e_eql (k := .i64) (a := (x1.text.length : Int)) (b := 0) (by kernel_rfl) rfl) ?_
        refine lv (d := 19) rfl rfl (by kernel_rfl) (e_pick_t (v := .bool (decide ((x1.text.length : Int) = 0))) (bt q13 (by kernel_rfl)) (by kernel_rfl)) ?_
        refine lv (d := 2) rfl rfl (by kernel_rfl) (e_assign (v := .bool (decide ((x1.text.length : Int) = 0))) (by kernel_rfl)) ?_
        refine wpList_nil ?_
        refine then_n ?_
        refine wp_ret ?_
        refine then_r ?_
        obtain rfl := Option.some.inj M
        exact ret1 rfl rfl  (show _ = .bool (decide ((x1.text.length : Int) = 0)) from (by kernel_rfl)) ⟨rfl, S9.chg⟩
      replace M := ifn q13 M
      refine lskip (t := 14) (c := false) rfl (by kernel_rfl) rfl (bf q13 (by kernel_rfl)) rfl rfl ?_
      refine lskip (t := 14) (c := false) rfl (by kernel_rfl) rfl (bf q13 (by kernel_rfl)) rfl rfl ?_
      refine lskip (t := 14) (c := false) rfl (by kernel_rfl) rfl (bf q13 (by kernel_rfl)) rfl rfl ?_
      refine lskip (t := 14) (c := false) rfl (by kernel_rfl) rfl (bf q13 (by kernel_rfl)) rfl rfl ?_
      refine lv (d := 19) rfl rfl (by kernel_rfl) (e_pick_f (v := .bool false) (bf q13 (by kernel_rfl)) rfl) ?_
      refine lv (d := 2) rfl rfl (by kernel_rfl) (e_assign (v := .bool false) (by kernel_rfl)) ?_
      refine wpList_nil ?_
      refine then_n ?_
      refine wp_ret ?_
      refine then_r ?_
      obtain rfl := Option.some.inj M
      exact ret1 rfl rfl  (show _ = .bool false from (by kernel_rfl)) ⟨rfl, S9.chg⟩
    replace M := ifn q12 M
    refine lskip (t := 9) (c := false) rfl (by kernel_rfl) rfl (bf q12 (by kernel_rfl)) rfl rfl ?_
    refine lskip (t := 9) (c := false) rfl (by kernel_rfl) rfl (bf q12 (by kernel_rfl)) rfl rfl ?_
    refine lskip (t := 9) (c := false) rfl (by kernel_rfl) rfl (bf q12 (by kernel_rfl)) rfl rfl ?_
    refine lv (d := 13) rfl rfl (by kernel_rfl) (e_pick_f (v := .bool false) (bf q12 (by kernel_rfl)) rfl) ?_
    refine lv (d := 14) rfl rfl (by kernel_rfl) (e_move (v := .bool false) (by kernel_rfl)) ?_
    refine lskip (t := 14) (c := false) rfl (by kernel_rfl) rfl (by kernel_rfl) rfl rfl ?_
    refine lskip (t := 14) (c := false) rfl (by kernel_rfl) rfl (by kernel_rfl) rfl rfl ?_
    refine lskip (t := 14) (c := false) rfl (by kernel_rfl) rfl (by kernel_rfl) rfl rfl ?_
    refine lskip (t := 14) (c := false) rfl (by kernel_rfl) rfl (by kernel_rfl) rfl rfl ?_
    refine lv (d := 19) rfl rfl (by kernel_rfl) (e_pick_f (v := .bool false) (by kernel_rfl) rfl) ?_
    refine lv (d := 2) rfl rfl (by kernel_rfl) (e_assign (v := .bool false) (by kernel_rfl)) ?_
    refine wpList_nil ?_
    refine then_n ?_
    refine wp_ret ?_
    refine then_r ?_
    obtain rfl := Option.some.inj M
    exact ret1 rfl rfl  (show _ = .bool false from (by kernel_rfl)) ⟨rfl, S9.chg⟩
  replace M := ifn q11 M
  refine cond_f rfl (bf q11 (by kernel_rfl)) ?_
  refine wp_skip ?_
  refine then_n ?_
  refine wp_seq ?_
  refine wp_seq ?_
  refine wp_region_lit ?_
  refine lv (d := 20) rfl rfl (by kernel_rfl) (e_fieldAddr (b := g7) (off := 0) (o := 0) Try.underlying65 rfl rfl (sz := 1) (by kernel_rfl) (by decide) (by kernel_rfl)) ?_
  refine lv (d := 21) rfl rfl (by kernel_rfl) (e_load1 (ad := ⟨g7, 0 + 0, none⟩) (v := .int .i64 x1.kind) Try.underlying3 rfl (by kernel_rfl) (blk_cell b8 rfl)) ?_
  refine lv (d := 22) rfl rfl (by kernel_rfl) (e_eql (k := .i64) (a := x1.kind) (b := 1) (by kernel_rfl) rfl) ?_
  refine wpList_nil ?_
  refine then_n ?_
  by_cases q14 : x1.kind = 1
  · replace M := ifp q14 M
    refine cond_t rfl (bt q14 (by kernel_rfl)) ?_
    refine wp_seq ?_
    refine wp_region_lit ?_
    refine lv (d := 23) rfl rfl (by kernel_rfl) (e_fieldAddr (b := g7) (off := 0) (o := 1) Try.underlying65 rfl rfl (sz := 1) (by kernel_rfl) (by decide) (by kernel_rfl)) ?_
    refine lv (d := 24) rfl rfl (by kernel_rfl) (e_load1 (ad := ⟨g7, 0 + 1, none⟩) (v := .int .i64 x1.n) Try.underlying3 rfl (by kernel_rfl) (blk_cell b8 rfl)) ?_
    refine lv (d := 25) rfl rfl (by kernel_rfl) (e_geq (k := .i64) (a := x1.n) (b := (-1000000000000000)) (by kernel_rfl) rfl) ?_
    refine lv (d := 26) rfl rfl (by kernel_rfl) (e_move (v := .bool (decide (x1.n ≥ (-1000000000000000)))) (by kernel_rfl)) ?_
    by_cases q15 : x1.n ≥ (-1000000000000000)
    · replace M := ifp q15 M
      refine lvg (d := 27) (t := 26) rfl (by kernel_rfl) rfl (bt q15 (by kernel_rfl)) rfl (by kernel_rfl) (e_fieldAddr (b := g7) (off := 0) (o := 1) Try.underlying65 rfl rfl (sz := 1) (by kernel_rfl) (by decide) (by kernel_rfl)) ?_
      refine lvg (d := 28) (t := 26) rfl (by kernel_rfl) rfl (bt q15 (by kernel_rfl)) rfl (by kernel_rfl) (e_load1 (ad := ⟨g7, 0 + 1, none⟩) (v := .int .i64 x1.n) Try.underlying3 rfl (by kernel_rfl) (blk_cell b8 rfl)) ?_
      refine lvg (d := 29) (t := 26) rfl (by kernel_rfl) rfl (bt q15 (by kernel_rfl)) rfl (by kernel_rfl) (e_leq (k := .i64) (a := x1.n) (b := 1000000000000000) (by kernel_rfl) rfl) ?_
      refine lv (d := 30) rfl rfl (by kernel_rfl) (e_pick_t (v := .bool (decide (x1.n ≤ 1000000000000000))) (bt q15 (by kernel_rfl)) (by kernel_rfl)) ?_
      refine lv (d := 31) rfl rfl (by kernel_rfl) (e_move (v := .bool (decide (x1.n ≤ 1000000000000000))) (by kernel_rfl)) ?_
      by_cases q16 : x1.n ≤ 1000000000000000
      · replace M := ifp q16 M
        refine lvg (d := 32) (t := 31) rfl (by kernel_rfl) rfl (bt q16 (by kernel_rfl)) rfl (by kernel_rfl) (e_fieldAddr (b := g7) (off := 0) (o := 2) Try.underlying65 rfl rfl (sz := 1) (by kernel_rfl) (by decide) (by kernel_rfl)) ?_
        refine lvg (d := 33) (t := 31) rfl (by kernel_rfl) rfl (bt q16 (by kernel_rfl)) rfl (by kernel_rfl) (e_load1 (ad := ⟨g7, 0 + 2, none⟩) (v := .slice A2 x1.text.length c3) Try.underlying59 rfl (by kernel_rfl) (blk_cell b8 rfl)) ?_
        refine lvg (d := 34) (t := 31) rfl (by kernel_rfl) rfl (bt q16 (by kernel_rfl)) rfl (by kernel_rfl) (e_len (A := A2) (n := x1.text.length) (c := c3) Try.underlying59 (by kernel_rfl)) ?_
        refine lvg (d := 35) (t := 31) rfl (by kernel_rfl) rfl (bt q16 (by kernel_rfl)) rfl (by kernel_rfl) (e_eql (k := .i64) (a := (x1.text.length : Int)) (b := 0) (by kernel_rfl) rfl) ?_
        refine lv (d := 36) rfl rfl (by kernel_rfl) (e_pick_t (v := .bool (decide ((x1.text.length : Int) = 0))) (bt q16 (by kernel_rfl)) (by kernel_rfl)) ?_
        refine lv (d := 2) rfl rfl (by kernel_rfl) (e_assign (v := .bool (decide ((x1.text.length : Int) = 0))) (by kernel_rfl)) ?_
        refine wpList_nil ?_
        refine then_n ?_
        refine wp_ret ?_
        refine then_r ?_
        obtain rfl := Option.some.inj M
        exact ret1 rfl rfl  (show _ = .bool (decide ((x1.text.length : Int) = 0)) from (by kernel_rfl)) ⟨rfl, S9.chg⟩
      replace M := ifn q16 M
      refine lskip (t := 31) (c := false) rfl (by kernel_rfl) rfl (bf q16 (by kernel_rfl)) rfl rfl ?_
      refine lskip (t := 31) (c := false) rfl (by kernel_rfl) rfl (bf q16 (by kernel_rfl)) rfl rfl ?_
      refine lskip (t := 31) (c := false) rfl (by kernel_rfl) rfl (bf q16 (by kernel_rfl)) rfl rfl ?_
      refine lskip (t := 31) (c := false) rfl (by kernel_rfl) rfl (bf q16 (by kernel_rfl)) rfl rfl ?_
      refine lv (d := 36) rfl rfl (by kernel_rfl) (e_pick_f (v := .bool false) (bf q16 (by kernel_rfl)) rfl) ?_
      refine lv (d := 2) rfl rfl (by kernel_rfl) (e_assign (v := .bool false) (by kernel_rfl)) ?_
      refine wpList_nil ?_
      refine then_n ?_
      refine wp_ret ?_
      refine then_r ?_
      obtain rfl := Option.some.inj M
      exact ret1 rfl rfl  (show _ = .bool false from (by kernel_rfl)) ⟨rfl, S9.chg⟩
    replace M := ifn q15 M
    refine lskip (t := 26) (c := false) rfl (by kernel_rfl) rfl (bf q15 (by kernel_rfl)) rfl rfl ?_
    refine lskip (t := 26) (c := false) rfl (by kernel_rfl) rfl (bf q15 (by kernel_rfl)) rfl rfl ?_
    refine lskip (t := 26) (c := false) rfl (by kernel_rfl) rfl (bf q15 (by kernel_rfl)) rfl rfl ?_
    refine lv (d := 30) rfl rfl (by kernel_rfl) (e_pick_f (v := .bool false) (bf q15 (by kernel_rfl)) rfl) ?_
    refine lv (d := 31) rfl rfl (by kernel_rfl) (e_move (v := .bool false) (by kernel_rfl)) ?_
    refine lskip (t := 31) (c := false) rfl (by kernel_rfl) rfl (by kernel_rfl) rfl rfl ?_
    refine lskip (t := 31) (c := false) rfl (by kernel_rfl) rfl (by kernel_rfl) rfl rfl ?_
    refine lskip (t := 31) (c := false) rfl (by kernel_rfl) rfl (by kernel_rfl) rfl rfl ?_
    refine lskip (t := 31) (c := false) rfl (by kernel_rfl) rfl (by kernel_rfl) rfl rfl ?_
    refine lv (d := 36) rfl rfl (by kernel_rfl) (e_pick_f (v := .bool false) (by kernel_rfl) rfl) ?_
    refine lv (d := 2) rfl rfl (by kernel_rfl) (e_assign (v := .bool false) (by kernel_rfl)) ?_
    refine wpList_nil ?_
    refine then_n ?_
    refine wp_ret ?_
    refine then_r ?_
    obtain rfl := Option.some.inj M
    exact ret1 rfl rfl  (show _ = .bool false from (by kernel_rfl)) ⟨rfl, S9.chg⟩
  replace M := ifn q14 M
  refine cond_f rfl (bf q14 (by kernel_rfl)) ?_
  refine wp_skip ?_
  refine then_n ?_
  refine wp_seq ?_
  refine wp_seq ?_
  refine wp_region_lit ?_
  refine lv (d := 37) rfl rfl (by kernel_rfl) (e_fieldAddr (b := g7) (off := 0) (o := 2) Try.underlying65 rfl rfl (sz := 1) (by kernel_rfl) (by decide) (by kernel_rfl)) ?_
  refine lv (d := 38) rfl rfl (by kernel_rfl) (e_load1 (ad := ⟨g7, 0 + 2, none⟩) (v := .slice A2 x1.text.length c3) Try.underlying59 rfl (by kernel_rfl) (blk_cell b8 rfl)) ?_
  refine lv (d := 39) rfl rfl (by kernel_rfl) (e_len (A := A2) (n := x1.text.length) (c := c3) Try.underlying59 (by kernel_rfl)) ?_
  refine lv (d := 40) rfl rfl (by kernel_rfl) (e_gtr (k := .i64) (a := (x1.text.length : Int)) (b := 100) (by kernel_rfl) rfl) ?_
  refine wpList_nil ?_
  refine then_n ?_
  by_cases q17 : (x1.text.length : Int) > 100
  · replace M := ifp q17 M
    refine cond_t rfl (bt q17 (by kernel_rfl)) ?_
    refine wp_seq ?_
    refine wp_region_lit ?_
    refine lv (d := 2) rfl rfl (by kernel_rfl) (e_assign (v := .bool false) rfl) ?_
    refine wpList_nil ?_
    refine then_n ?_
    refine wp_ret ?_
    refine then_r ?_
    obtain rfl := Option.some.inj M
    exact ret1 rfl rfl  (show _ = .bool false from (by kernel_rfl)) ⟨rfl, S9.chg⟩
  replace M := ifn q17 M
  refine cond_f rfl (bf q17 (by kernel_rfl)) ?_
  refine wp_skip ?_
  refine then_n ?_
  refine wp_seq ?_
  refine wp_seq ?_
  refine wp_region_lit ?_
  refine lv (d := 41) rfl rfl (by kernel_rfl) (e_fieldAddr (b := g7) (off := 0) (o := 0) Try.underlying65 rfl rfl (sz := 1) (by kernel_rfl) (by decide) (by kernel_rfl)) ?_
  refine lv (d := 42) rfl rfl (by kernel_rfl) (e_load1 (ad := ⟨g7, 0 + 0, none⟩) (v := .int .i64 x1.kind) Try.underlying3 rfl (by kernel_rfl) (blk_cell b8 rfl)) ?_
  refine lv (d := 43) rfl rfl (by kernel_rfl) (e_eql (k := .i64) (a := x1.kind) (b := 2) (by kernel_rfl) rfl) ?_
  refine wpList_nil ?_
  refine then_n ?_
  by_cases q18 : x1.kind = 2
  · replace M := ifp q18 M
    refine cond_t rfl (bt q18 (by kernel_rfl)) ?_
    refine wp_seq ?_
    refine wp_region_lit ?_
    refine lv (d := 44) rfl rfl (by kernel_rfl) (e_fieldAddr (b := g7) (off := 0) (o := 1) Try.underlying65 rfl rfl (sz := 1) (by kernel_rfl) (by decide) (by kernel_rfl)) ?_
    refine lv (d := 45) rfl rfl (by kernel_rfl) (e_load1 (ad := ⟨g7, 0 + 1, none⟩) (v := .int .i64 x1.n) Try.underlying3 rfl (by kernel_rfl) (blk_cell b8 rfl)) ?_
    refine lv (d := 46) rfl rfl (by kernel_rfl) (e_eql (k := .i64) (a := x1.n) (b := 0) (by kernel_rfl) rfl) ?_
    refine lv (d := 2) rfl rfl (by kernel_rfl) (e_assign (v := .bool (decide (x1.n = 0))) (by kernel_rfl)) ?_
    refine wpList_nil ?_
    refine then_n ?_
    refine wp_ret ?_
    refine then_r ?_
    obtain rfl := Option.some.inj M
    exact ret1 rfl rfl  (show _ = .bool (decide (x1.n = 0)) from (by kernel_rfl)) ⟨rfl, S9.chg⟩
  replace M := ifn q18 M
  refine cond_f rfl (bf q18 (by kernel_rfl)) ?_
  refine wp_skip ?_
  refine then_n ?_
  refine wp_seq ?_
  refine wp_region_lit ?_
  refine lv (d := 47) rfl rfl (by kernel_rfl) (e_fieldAddr (b := g7) (off := 0) (o := 0) Try.underlying65 rfl rfl (sz := 1) (by kernel_rfl) (by decide) (by kernel_rfl)) ?_
  refine lv (d := 48) rfl rfl (by kernel_rfl) (e_load1 (ad := ⟨g7, 0 + 0, none⟩) (v := .int .i64 x1.kind) Try.underlying3 rfl (by kernel_rfl) (blk_cell b8 rfl)) ?_
  refine lv (d := 49) rfl rfl (by kernel_rfl) (e_eql (k := .i64) (a := x1.kind) (b := 3) (by kernel_rfl) rfl) ?_
  refine lv (d := 50) rfl rfl (by kernel_rfl) (e_move (v := .bool (decide (x1.kind = 3))) (by kernel_rfl)) ?_
  by_cases q19 : x1.kind = 3
  · replace M := ifp q19 M
    refine lvg (d := 51) (t := 50) rfl (by kernel_rfl) rfl (bt q19 (by kernel_rfl)) rfl (by kernel_rfl) (e_fieldAddr (b := g7) (off := 0) (o := 1) Try.underlying65 rfl rfl (sz := 1) (by kernel_rfl) (by decide) (by kernel_rfl)) ?_
    refine lvg (d := 52) (t := 50) rfl (by kernel_rfl) rfl (bt q19 (by kernel_rfl)) rfl (by kernel_rfl) (e_load1 (ad := ⟨g7, 0 + 1, none⟩) (v := .int .i64 x1.n) Try.underlying3 rfl (by kernel_rfl) (blk_cell b8 rfl)) ?_
    refine lvg (d := 53) (t := 50) rfl (by kernel_rfl) rfl (bt q19 (by kernel_rfl)) rfl (by kernel_rfl) (e_geq (k := .i64) (a := x1.n) (b := 1) (by kernel_rfl) rfl) ?_
    refine lv (d := 54) rfl rfl (by kernel_rfl) (e_pick_t (v := .bool (decide (x1.n ≥ 1))) (bt q19 (by kernel_rfl)) (by kernel_rfl)) ?_
    refine lv (d := 55) rfl rfl (by kernel_rfl) (e_move (v := .bool (decide (x1.n ≥ 1))) (by kernel_rfl)) ?_
    by_cases q20 : x1.n ≥ 1
    · replace M := ifp q20 M
      refine lvg (d := 56) (t := 55) rfl (by kernel_rfl) rfl (bt q20 (by kernel_rfl)) rfl (by kernel_rfl) (e_fieldAddr (b := g7) (off := 0) (o := 1) Try.underlying65 rfl rfl (sz := 1) (by kernel_rfl) (by decide) (by kernel_rfl)) ?_
      refine lvg (d := 57) (t := 55) rfl (by kernel_rfl) rfl (bt q20 (by kernel_rfl)) rfl (by kernel_rfl) (e_load1 (ad := ⟨g7, 0 + 1, none⟩) (v := .int .i64 x1.n) Try.underlying3 rfl (by kernel_rfl) (blk_cell b8 rfl)) ?_
      refine lvg (d := 58) (t := 55) rfl (by kernel_rfl) rfl (bt q20 (by kernel_rfl)) rfl (by kernel_rfl) (e_leq (k := .i64) (a := x1.n) (b := 20) (by kernel_rfl) rfl) ?_
      refine lv (d := 59) rfl rfl (by kernel_rfl) (e_pick_t (v := .bool (decide (x1.n ≤ 20))) (bt q20 (by kernel_rfl)) (by kernel_rfl)) ?_
      refine lv (d := 2) rfl rfl (by kernel_rfl) (e_assign (v := .bool (decide (x1.n ≤ 20))) (by kernel_rfl)) ?_
      refine wpList_nil ?_
      refine then_n ?_
      refine wp_ret ?_
      obtain rfl := Option.some.inj M
      exact ret1 rfl rfl  (show _ = .bool (decide (x1.n ≤ 20)) from (by kernel_rfl)) ⟨rfl, S9.chg⟩
    replace M := ifn q20 M
    refine lskip (t := 55) (c := false) rfl (by kernel_rfl) rfl (bf q20 (by kernel_rfl)) rfl rfl ?_
    refine lskip (t := 55) (c := false) rfl (by kernel_rfl) rfl (bf q20 (by kernel_rfl)) rfl rfl ?_
    refine lskip (t := 55) (c := false) rfl (by kernel_rfl) rfl (bf q20 (by kernel_rfl)) rfl rfl ?_
    refine lv (d := 59) rfl rfl (by kernel_rfl) (e_pick_f (v := .bool false) (bf q20 (by kernel_rfl)) rfl) ?_
    refine lv (d := 2) rfl rfl (by kernel_rfl) (e_assign (v := .bool false) (by kernel_rfl)) ?_
    refine wpList_nil ?_
    refine then_n ?_
    refine wp_ret ?_
    obtain rfl := Option.some.inj M
    exact ret1 rfl rfl  (show _ = .bool false from (by kernel_rfl)) ⟨rfl, S9.chg⟩
  replace M := ifn q19 M
  refine lskip (t := 50) (c := false) rfl (by kernel_rfl) rfl (bf q19 (by kernel_rfl)) rfl rfl ?_
  refine lskip (t := 50) (c := false) rfl (by kernel_rfl) rfl (bf q19 (by kernel_rfl)) rfl rfl ?_
  refine lskip (t := 50) (c := false) rfl (by kernel_rfl) rfl (bf q19 (by kernel_rfl)) rfl rfl ?_
  refine lv (d := 54) rfl rfl (by kernel_rfl) (e_pick_f (v := .bool false) (bf q19 (by kernel_rfl)) rfl) ?_
  refine lv (d := 55) rfl rfl (by kernel_rfl) (e_move (v := .bool false) (by kernel_rfl)) ?_
  refine lskip (t := 55) (c := false) rfl (by kernel_rfl) rfl (by kernel_rfl) rfl rfl ?_
  refine lskip (t := 55) (c := false) rfl (by kernel_rfl) rfl (by kernel_rfl) rfl rfl ?_
  refine lskip (t := 55) (c := false) rfl (by kernel_rfl) rfl (by kernel_rfl) rfl rfl ?_
  refine lv (d := 59) rfl rfl (by kernel_rfl) (e_pick_f (v := .bool false) (by kernel_rfl) rfl) ?_
  refine lv (d := 2) rfl rfl (by kernel_rfl) (e_assign (v := .bool false) (by kernel_rfl)) ?_
  refine wpList_nil ?_
  refine then_n ?_
  refine wp_ret ?_
  obtain rfl := Option.some.inj M
  exact ret1 rfl rfl  (show _ = .bool false from (by kernel_rfl)) ⟨rfl, S9.chg⟩

/-! spec_ValidTerm -/
def spec_ValidTerm.l0 : Nat → (List Cell) → Int → Int → Option Bool
  | 0, _, _, _ => none
  | k19 + 1, x1, x9, x10 => (if x10 < (x1.length : Int) then (if x9 = 0 then some false else (if 0 ≤ x10 then ((spec_l2cell.f (x1.getD ((x10).toNat) z65)).bind fun t33 => (if ¬ (t33 = true) then some false else (if ((x1.getD ((x10).toNat) z65).kind) = 3 then (spec_ValidTerm.l0 k19 x1 (IntKind.i64.wrap ((IntKind.i64.wrap (x9 - 1)) + ((x1.getD ((x10).toNat) z65).n))) (IntKind.i64.wrap (x10 + 1))) else (spec_ValidTerm.l0 k19 x1 (IntKind.i64.wrap (x9 - 1)) (IntKind.i64.wrap (x10 + 1)))))) else none)) else some (decide (x9 = 0)))
def spec_ValidTerm.f (k : Nat) (x1 : List Cell) : Option Bool := (if (x1.length : Int) > 2000 then some false else (spec_ValidTerm.l0 k x1 1 0))
theorem spec_ValidTerm.calls (k : Nat) (w : World) (H : Hp) (x1 : List Cell) (A2 : Option Addr) (c3 : Nat) (h4 : Rd st65 H A2 x1) (l5 : x1.length ≤ c3) (S : Own [] H w) (r : Bool) (M : spec_ValidTerm.f k x1 = some r) :
    Calls Try.prog 15 #[.slice A2 x1.length c3] w (fun e e_w => e = .returned (.bool r) ∧ Chg no w e_w) := by
  rw [spec_ValidTerm.f] at M
  refine enter (l := [.slice A2 x1.length c3]) 41 Try.func15 rfl rfl rfl ?_
  have S0_ := S.st
  refine wp_seq ?_
  refine wp_region_lit ?_
  refine lv (d := 2) rfl rfl (by kernel_rfl) (e_assign (v := .bool false) rfl) ?_
  refine wpList_nil ?_
  refine then_n ?_
  refine wp_seq ?_
  refine wp_seq ?_
  refine wp_region_lit ?_
  refine lv (d := 5) rfl rfl (by kernel_rfl) (e_move (v := .slice A2 x1.length c3) (by kernel_rfl)) ?_
  refine lv (d := 6) rfl rfl (by kernel_rfl) (e_len (A := A2) (n := x1.length) (c := c3) Try.underlying25 (by kernel_rfl)) ?_
  refine lv (d := 7) rfl rfl (by kernel_rfl) (e_gtr (k := .i64) (a := (x1.length : Int)) (b := 2000) (by kernel_rfl) rfl) ?_
  refine wpList_nil ?_
  refine then_n ?_
  by_cases q6 : (x1.length : Int) > 2000
  · replace M := ifp q6 M
    refine cond_t rfl (bt q6 (by kernel_rfl)) ?_
    refine wp_seq ?_
    refine wp_region_lit ?_
    refine lv (d := 2) rfl rfl (by kernel_rfl) (e_assign (v := .bool false) rfl) ?_
    refine wpList_nil ?_
    refine then_n ?_
    refine wp_ret ?_
    refine then_r ?_
    obtain rfl := Option.some.inj M
    exact ret1 rfl rfl  (show _ = .bool false from (by kernel_rfl)) ⟨rfl, S0_.chg⟩
  replace M := ifn q6 M
  refine cond_f rfl (bf q6 (by kernel_rfl)) ?_
  refine wp_skip ?_
  refine then_n ?_
  refine wp_seq ?_
  refine wp_region_lit ?_
  refine lv (d := 3) rfl rfl (by kernel_rfl) (e_assign (v := .int .i64 1) rfl) ?_
  refine wpList_nil ?_
  refine then_n ?_
  refine wp_seq ?_
  refine wp_seq ?_
  refine wp_region_lit ?_
  refine lv (d := 4) rfl rfl (by kernel_rfl) (e_assign (v := .int .i64 0) rfl) ?_
  refine wpList_nil ?_
  refine then_n ?_
  refine wp_block ?_
  refine wp_loop_g (fun k17 a18 w7 => ∃ (f8 : Nat → Value) (x9 : Int) (x10 : Int), a18 = mk 41 f8 ∧ f8 0 = .slice A2 x1.length c3 ∧ f8 3 = .int .i64 x9 ∧ f8 4 = .int .i64 x10 ∧ St (anyOf []) H w [] H w7 ∧ spec_ValidTerm.l0 k17 x1 x9 x10 = some r) k ⟨_, 1, 0, rfl, (by kernel_rfl), (by kernel_rfl), (by kernel_rfl), S0_, M⟩ ?_
  clear M
  rintro k17 a18 w7 ⟨f8, x9, x10, rfl, e11, e12, e13, S14, M⟩
  rcases k17 with _ | k19
  · rw [spec_ValidTerm.l0] at M
    cases M
  rw [spec_ValidTerm.l0] at M
  refine wp_seq ?_
  refine wp_seq ?_
  refine wp_region_lit ?_
  refine lv (d := 8) rfl rfl (by kernel_rfl) (e_move (v := .int .i64 x10) (by exact e13)) ?_
  refine lv (d := 9) rfl rfl (by kernel_rfl) (e_move (v := .slice A2 x1.length c3) (by exact e11)) ?_
  refine lv (d := 10) rfl rfl (by kernel_rfl) (e_len (A := A2) (n := x1.length) (c := c3) Try.underlying25 (by kernel_rfl)) ?_
  refine lv (d := 11) rfl rfl (by kernel_rfl) (e_lss (k := .i64) (a := x10) (b := (x1.length : Int)) (by kernel_rfl) (by kernel_rfl)) ?_
  refine wpList_nil ?_
  refine then_n ?_
  by_cases q20 : x10 < (x1.length : Int)
  · replace M := ifp q20 M
    refine cond_t rfl (bt q20 (by kernel_rfl)) ?_
    refine wp_skip ?_
    refine then_n ?_
    refine wp_seq ?_
    refine wp_block ?_
    refine wp_seq ?_
    refine wp_seq ?_
    refine wp_region_lit ?_
    refine lv (d := 14) rfl rfl (by kernel_rfl) (e_move (v := .int .i64 x9) (by exact e12)) ?_
    refine lv (d := 15) rfl rfl (by kernel_rfl) (e_eql (k := .i64) (a := x9) (b := 0) (by kernel_rfl) rfl) ?_
    refine lv (d := 16) rfl rfl (by kernel_rfl) (e_move (v := .bool (decide (x9 = 0))) (by kernel_rfl)) ?_
    by_cases q21 : x9 = 0
    · replace M := ifp q21 M
      refine lskip (t := 16) (c := true) rfl (by kernel_rfl) rfl (bt q21 (by kernel_rfl)) rfl rfl ?_
      refine lskip (t := 16) (c := true) rfl (by kernel_rfl) rfl (bt q21 (by kernel_rfl)) rfl rfl ?_
      refine lskip (t := 16) (c := true) rfl (by kernel_rfl) rfl (bt q21 (by kernel_rfl)) rfl rfl ?_
      refine lskip (t := 16) (c := true) rfl (by kernel_rfl) rfl (bt q21 (by kernel_rfl)) rfl rfl ?_
      refine lskip (t := 16) (c := true) rfl (by kernel_rfl) rfl (bt q21 (by kernel_rfl)) rfl rfl ?_
      refine lskip (t := 16) (c := true) rfl (by kernel_rfl) rfl (bt q21 (by kernel_rfl)) rfl rfl ?_
      refine lv (d := 23) rfl rfl (by kernel_rfl) (e_pick_t (v := .bool true) (bt q21 (by kernel_rfl)) rfl) ?_
      refine wpList_nil ?_
      refine then_n ?_
      refine cond_t rfl (by kernel_rfl) ?_
      refine wp_seq ?_
      refine wp_region_lit ?_
      refine lv (d := 2) rfl rfl (by kernel_rfl) (e_assign (v := .bool false) rfl) ?_
      refine wpList_nil ?_
      refine then_n ?_
      refine wp_ret ?_
      refine then_r ?_
      refine inb_r ?_
      refine then_r ?_
      refine then_r ?_
      refine inb_r ?_
      refine then_r ?_
      obtain rfl := Option.some.inj M
      exact ret1 rfl rfl  (show _ = .bool false from (by kernel_rfl)) ⟨rfl, S14.chg⟩
    replace M := ifn q21 M
    refine lvg (d := 17) (t := 16) rfl (by kernel_rfl) rfl (bf q21 (by kernel_rfl)) rfl (by kernel_rfl) (e_move (v := .slice A2 x1.length c3) (by exact e11)) ?_
    refine lvg (d := 18) (t := 16) rfl (by kernel_rfl) rfl (bf q21 (by kernel_rfl)) rfl (by kernel_rfl) (e_move (v := .int .i64 x10) (by exact e13)) ?_
    obtain ⟨q22, M⟩ := chk M
    obtain ⟨b23, o24, e25⟩ := Rd.addr h4 (show (x10).toNat < x1.length by omega)
    obtain ⟨y26, r27, k28⟩ := Rd.at h4 e25 (getD_some z65 (show (x10).toNat < x1.length by omega))
    obtain ⟨A29, c30, rfl, l31, h32⟩ := st65_open r27
    refine lvg (d := 19) (t := 16) rfl (by kernel_rfl) rfl (bf q21 (by kernel_rfl)) rfl (by kernel_rfl) (e_indexAddr (b := b23) (off := o24) (n := x1.length) (c := c3) (sz := 3) (i := x10) (k := .i64) Try.underlying25 e25 (by kernel_rfl) (by kernel_rfl) (by kernel_rfl) q22 q20) ?_
    refine lvg (d := 20) (t := 16) rfl (by kernel_rfl) rfl (bf q21 (by kernel_rfl)) rfl (by kernel_rfl) (e_loadS (b := b23) (off := o24 + (x10 : Int).toNat * 3) (cs := [.int .i64 ((x1.getD ((x10).toNat) z65).kind), .int .i64 ((x1.getD ((x10).toNat) z65).n), .slice A29 ((x1.getD ((x10).toNat) z65).text).length c30]) Try.underlying65 rfl (by kernel_rfl) (by kernel_rfl) (fun j_ u_ e_ => (hpx (S14.inv.cell (k28 j_ u_ e_))))) ?_
    obtain ⟨t33, u34, M⟩ := bnd M
    refine lcallg (d := 21) (t := 16) rfl (by kernel_rfl) rfl (bf q21 (by kernel_rfl)) rfl (by kernel_rfl) (e_call (l := [.tmp 20]) (vs := [.agg #[.int .i64 ((x1.getD ((x10).toNat) z65).kind), .int .i64 ((x1.getD ((x10).toNat) z65).n), .slice A29 ((x1.getD ((x10).toNat) z65).text).length c30]]) Try.func56 (by kernel_rfl) rfl (by kernel_rfl) rfl) (spec_l2cell.calls w7 H (x1.getD ((x10).toNat) z65) A29 c30 h32 l31 S14.own0 t33 u34) ?_
    rintro _ w35 ⟨rfl, C36⟩
    refine ⟨_, rfl, ?_⟩
    obtain ⟨S37, K38⟩ := S14.still C36
    refine lvg (d := 22) (t := 16) rfl (by kernel_rfl) rfl (bf q21 (by kernel_rfl)) rfl (by kernel_rfl) (e_notv (c := t33) (by kernel_rfl)) ?_
    refine lv (d := 23) rfl rfl (by kernel_rfl) (e_pick_f (v := .bool (decide (¬ (t33 = true)))) (bf q21 (by kernel_rfl)) (by kernel_rfl)) ?_
    refine wpList_nil ?_
    refine then_n ?_
    by_cases q39 : ¬ (t33 = true)
    · replace M := ifp q39 M
      refine cond_t rfl (bt q39 (by kernel_rfl)) ?_
      refine wp_seq ?_
      refine wp_region_lit ?_
      refine lv (d := 2) rfl rfl (by kernel_rfl) (e_assign (v := .bool false) rfl) ?_
      refine wpList_nil ?_
      refine then_n ?_
      refine wp_ret ?_
      refine then_r ?_
      refine inb_r ?_
      refine then_r ?_
      refine then_r ?_
      refine inb_r ?_
      refine then_r ?_
      obtain rfl := Option.some.inj M
      exact ret1 rfl rfl  (show _ = .bool false from (by kernel_rfl)) ⟨rfl, S37.chg⟩
    replace M := ifn q39 M
    refine cond_f rfl (bf q39 (by kernel_rfl)) ?_
    refine wp_skip ?_
    refine then_n ?_
    refine wp_seq ?_
    refine wp_region_lit ?_
    refine lv (d := 24) rfl rfl (by kernel_rfl) (e_move (v := .int .i64 x9) (by exact e12)) ?_
    refine lv (d := 25) rfl rfl (by kernel_rfl) (e_sub (k := .i64) (a := x9) (b := 1) (by kernel_rfl) rfl) ?_
    refine lv (d := 3) rfl rfl (by kernel_rfl) (e_assign (v := .int .i64 (IntKind.i64.wrap (x9 - 1))) (by kernel_rfl)) ?_
    refine wpList_nil ?_
    refine then_n ?_
    refine wp_seq ?_
    refine wp_region_lit ?_
    refine lv (d := 26) rfl rfl (by kernel_rfl) (e_move (v := .slice A2 x1.length c3) (by exact e11)) ?_
    refine lv (d := 27) rfl rfl (by kernel_rfl) (e_move (v := .int .i64 x10) (by exact e13)) ?_
    obtain ⟨b40, o41, e42⟩ := Rd.addr h4 (show (x10).toNat < x1.length by omega)
    obtain ⟨y43, r44, k45⟩ := Rd.at h4 e42 (getD_some z65 (show (x10).toNat < x1.length by omega))
    obtain ⟨A46, c47, rfl, l48, h49⟩ := st65_open r44
    refine lv (d := 28) rfl rfl (by kernel_rfl) (e_indexAddr (b := b40) (off := o41) (n := x1.length) (c := c3) (sz := 3) (i := x10) (k := .i64) Try.underlying25 e42 (by kernel_rfl) (by kernel_rfl) (by kernel_rfl) q22 q20) ?_
    refine lv (d := 29) rfl rfl (by kernel_rfl) (e_fieldAddr (b := b40) (off := o41 + (x10 : Int).toNat * 3) (o := 0) Try.underlying65 rfl rfl (sz := 1) (by kernel_rfl) (by decide) (by kernel_rfl)) ?_
    refine lv (d := 30) rfl rfl (by kernel_rfl) (e_load1 (ad := ⟨b40, o41 + (x10 : Int).toNat * 3 + 0, none⟩) (v := .int .i64 ((x1.getD ((x10).toNat) z65).kind)) Try.underlying3 rfl (by kernel_rfl) (hpx (S37.inv.cell (k45 0 _ rfl)))) ?_
    refine lv (d := 31) rfl rfl (by kernel_rfl) (e_eql (k := .i64) (a := (x1.getD ((x10).toNat) z65).kind) (b := 3) (by kernel_rfl) rfl) ?_
    refine wpList_nil ?_
    refine then_n ?_
    by_cases q50 : ((x1.getD ((x10).toNat) z65).kind) = 3
    · replace M := ifp q50 M
      refine cond_t rfl (bt q50 (by kernel_rfl)) ?_
      refine wp_region_lit ?_
      refine lv (d := 32) rfl rfl (by kernel_rfl) (e_move (v := .int .i64 (IntKind.i64.wrap (x9 - 1))) (by kernel_rfl)) ?_
      refine lv (d := 33) rfl rfl (by kernel_rfl) (e_move (v := .slice A2 x1.length c3) (by exact e11)) ?_
      refine lv (d := 34) rfl rfl (by kernel_rfl) (e_move (v := .int .i64 x10) (by exact e13)) ?_
      obtain ⟨b51, o52, e53⟩ := Rd.addr h4 (show (x10).toNat < x1.length by omega)
      obtain ⟨y54, r55, k56⟩ := Rd.at h4 e53 (getD_some z65 (show (x10).toNat < x1.length by omega))
      obtain ⟨A57, c58, rfl, l59, h60⟩ := st65_open r55
      refine lv (d := 35) rfl rfl (by kernel_rfl) (e_indexAddr (b := b51) (off := o52) (n := x1.length) (c := c3) (sz := 3) (i := x10) (k := .i64) Try.underlying25 e53 (by kernel_rfl) (by kernel_rfl) (by kernel_rfl) q22 q20) ?_
      refine lv (d := 36) rfl rfl (by kernel_rfl) (e_fieldAddr (b := b51) (off := o52 + (x10 : Int).toNat * 3) (o := 1) Try.underlying65 rfl rfl (sz := 1) (by kernel_rfl) (by decide) (by kernel_rfl)) ?_
      refine lv (d := 37) rfl rfl (by kernel_rfl) (e_load1 (ad := ⟨b51, o52 + (x10 : Int).toNat * 3 + 1, none⟩) (v := .int .i64 ((x1.getD ((x10).toNat) z65).n)) Try.underlying3 rfl (by kernel_rfl) (hpx (S37.inv.cell (k56 1 _ rfl)))) ?_
      refine lv (d := 38) rfl rfl (by kernel_rfl) (e_add (k := .i64) (a := (IntKind.i64.wrap (x9 - 1))) (b := (x1.getD ((x10).toNat) z65).n) (by kernel_rfl) (by kernel_rfl)) ?_
      refine lv (d := 3) rfl rfl (by kernel_rfl) (e_assign (v := .int .i64 (IntKind.i64.wrap ((IntKind.i64.wrap (x9 - 1)) + ((x1.getD ((x10).toNat) z65).n)))) (by kernel_rfl)) ?_
      refine wpList_nil ?_
      refine inb_n ?_
      refine then_n ?_
      refine wp_region_lit ?_
      refine lv (d := 12) rfl rfl (by kernel_rfl) (e_move (v := .int .i64 x10) (by exact e13)) ?_
      refine lv (d := 13) rfl rfl (by kernel_rfl) (e_add (k := .i64) (a := x10) (b := 1) (by kernel_rfl) rfl) ?_
      refine lv (d := 4) rfl rfl (by kernel_rfl) (e_assign (v := .int .i64 (IntKind.i64.wrap (x10 + 1))) (by kernel_rfl)) ?_
      refine wpList_nil ?_
      refine then_n ?_
      exact ⟨k19, (by omega), _, (IntKind.i64.wrap ((IntKind.i64.wrap (x9 - 1)) + ((x1.getD ((x10).toNat) z65).n))), (IntKind.i64.wrap (x10 + 1)), rfl, (by exact e11), (by kernel_rfl), (by kernel_rfl), S37, M⟩
    replace M := ifn q50 M
    refine cond_f rfl (bf q50 (by kernel_rfl)) ?_
    refine wp_skip ?_
    refine inb_n ?_
    refine then_n ?_
    refine wp_region_lit ?_
    refine lv (d := 12) rfl rfl (by kernel_rfl) (e_move (v := .int .i64 x10) (by exact e13)) ?_
    refine lv (d := 13) rfl rfl (by kernel_rfl) (e_add (k := .i64) (a := x10) (b := 1) (by kernel_rfl) rfl) ?_
    refine lv (d := 4) rfl rfl (by kernel_rfl) (e_assign (v := .int .i64 (IntKind.i64.wrap (x10 + 1))) (by kernel_rfl)) ?_
    refine wpList_nil ?_
    refine then_n ?_
    exact ⟨k19, (by omega), _, (IntKind.i64.wrap (x9 - 1)), (IntKind.i64.wrap (x10 + 1)), rfl, (by exact e11), (by kernel_rfl), (by kernel_rfl), S37, M⟩
  replace M := ifn q20 M
  refine cond_f rfl (bf q20 (by kernel_rfl)) ?_
  refine wp_exit ?_
  refine then_e ?_
  refine then_e ?_
  refine inb_hit ?_
  refine then_n ?_
  refine wp_seq ?_
  refine wp_region_lit ?_
  refine lv (d := 39) rfl rfl (by kernel_rfl) (e_move (v := .int .i64 x9) (by exact e12)) ?_
  refine lv (d := 40) rfl rfl (by kernel_rfl) (e_eql (k := .i64) (a := x9) (b := 0) (by kernel_rfl) rfl) ?_
  refine lv (d := 2) rfl rfl (by kernel_rfl) (e_assign (v := .bool (decide (x9 = 0))) (by kernel_rfl)) ?_
  refine wpList_nil ?_
  refine then_n ?_
  refine wp_ret ?_
  obtain rfl := Option.some.inj M
  exact ret1 rfl rfl  (show _ = .bool (decide (x9 = 0)) from (by kernel_rfl)) ⟨rfl, S14.chg⟩

/-! spec_l2find -/
def spec_l2find.l0 : Nat → (List Int) → Int → Int → Option Int
  | 0, _, _, _ => none
  | k18 + 1, x1, x6, x9 => (if x9 < (x1.length : Int) then (if 0 ≤ x9 then (if (x1.getD ((x9).toNat) (0 : Int)) = x6 then some x9 else (spec_l2find.l0 k18 x1 x6 (IntKind.i64.wrap (x9 + 1)))) else none) else some (-1))
def spec_l2find.f (k : Nat) (x1 : List Int) (x6 : Int) : Option Int := (spec_l2find.l0 k x1 x6 0)
theorem spec_l2find.calls (k : Nat) (w : World) (H : Hp) (x1 : List Int) (A2 : Option Addr) (c3 : Nat) (x6 : Int) (h4 : Rd tInt H A2 x1) (l5 : x1.length ≤ c3) (S : Own [] H w) (r : Int) (M : spec_l2find.f k x1 x6 = some r) :
    Calls Try.prog 71 #[.slice A2 x1.length c3, .int .i64 x6] w (fun e e_w => e = .returned (.int .i64 r) ∧ Chg no w e_w) := by
  rw [spec_l2find.f] at M
  refine enter (l := [.slice A2 x1.length c3, .int .i64 x6]) 19 Try.func71 rfl rfl rfl ?_
  have S0_ := S.st
  refine wp_seq ?_
  refine wp_region_lit ?_
  refine lv (d := 4) rfl rfl (by kernel_rfl) (e_assign (v := .int .i64 0) rfl) ?_
  refine wpList_nil ?_
  refine then_n ?_
  refine wp_seq ?_
  refine wp_seq ?_
  refine wp_region_lit ?_
  refine lv (d := 5) rfl rfl (by kernel_rfl) (e_assign (v := .int .i64 0) rfl) ?_
  refine wpList_nil ?_
  refine then_n ?_
  refine wp_block ?_
  refine wp_loop_g (fun k16 a17 w7 => ∃ (f8 : Nat → Value) (x9 : Int), a17 = mk 19 f8 ∧ f8 0 = .slice A2 x1.length c3 ∧ f8 1 = .int .i64 x6 ∧ f8 5 = .int .i64 x9 ∧ St (anyOf []) H w [] H w7 ∧ spec_l2find.l0 k16 x1 x6 x9 = some r) k ⟨_, 0, rfl, (by kernel_rfl), (by kernel_rfl), (by kernel_rfl), S0_, M⟩ ?_
  clear M
  rintro k16 a17 w7 ⟨f8, x9, rfl, e10, e11, e12, S13, M⟩
  rcases k16 with _ | k18
  · rw [spec_l2find.l0] at M
    cases M
  rw [spec_l2find.l0] at M
  refine wp_seq ?_
  refine wp_seq ?_
  refine wp_region_lit ?_
  refine lv (d := 6) rfl rfl (by kernel_rfl) (e_move (v := .int .i64 x9) (by exact e12)) ?_
  refine lv (d := 7) rfl rfl (by kernel_rfl) (e_move (v := .slice A2 x1.length c3) (by exact e10)) ?_
  refine lv (d := 8) rfl rfl (by kernel_rfl) (e_len (A := A2) (n := x1.length) (c := c3) Try.underlying32 (by kernel_rfl)) ?_
  refine lv (d := 9) rfl rfl (by kernel_rfl) (e_lss (k := .i64) (a := x9) (b := (x1.length : Int)) (by kernel_rfl) (by kernel_rfl)) ?_
  refine wpList_nil ?_
  refine then_n ?_
  by_cases q19 : x9 < (x1.length : Int)
  · replace M := ifp q19 M
    refine cond_t rfl (bt q19 (by kernel_rfl)) ?_
    refine wp_skip ?_
    refine then_n ?_
    refine wp_seq ?_
    refine wp_block ?_
    refine wp_seq ?_
    refine wp_region_lit ?_
    refine lv (d := 12) rfl rfl (by kernel_rfl) (e_move (v := .slice A2 x1.length c3) (by exact e10)) ?_
    refine lv (d := 13) rfl rfl (by kernel_rfl) (e_move (v := .int .i64 x9) (by exact e12)) ?_
    obtain ⟨q20, M⟩ := chk M
    obtain ⟨b21, o22, e23⟩ := Rd.addr h4 (show (x9).toNat < x1.length by omega)
    obtain ⟨y24, r25, k26⟩ := Rd.at h4 e23 (getD_some (0 : Int) (show (x9).toNat < x1.length by omega))
    obtain rfl := r25
    refine lv (d := 14) rfl rfl (by kernel_rfl) (e_indexAddr (b := b21) (off := o22) (n := x1.length) (c := c3) (sz := 1) (i := x9) (k := .i64) Try.underlying32 e23 (by kernel_rfl) (by kernel_rfl) (by kernel_rfl) q20 q19) ?_
    refine lv (d := 15) rfl rfl (by kernel_rfl) (e_load1 (ad := ⟨b21, o22 + (x9 : Int).toNat * 1, none⟩) (v := .int .i64 (x1.getD ((x9).toNat) (0 : Int))) Try.underlying3 rfl (by kernel_rfl) (hpx (S13.inv.cell (k26 0 _ rfl)))) ?_
    refine lv (d := 16) rfl rfl (by kernel_rfl) (e_move (v := .int .i64 x6) (by exact e11)) ?_
    refine lv (d := 17) rfl rfl (by kernel_rfl) (e_eql (k := .i64) (a := (x1.getD ((x9).toNat) (0 : Int))) (b := x6) (by kernel_rfl) (by kernel_rfl)) ?_
    refine wpList_nil ?_
    refine then_n ?_
    by_cases q27 : (x1.getD ((x9).toNat) (0 : Int)) = x6
    · replace M := ifp q27 M
      refine cond_t rfl (bt q27 (by kernel_rfl)) ?_
      refine wp_seq ?_
      refine wp_region_lit ?_
      refine lv (d := 18) rfl rfl (by kernel_rfl) (e_move (v := .int .i64 x9) (by exact e12)) ?_
      refine lv (d := 4) rfl rfl (by kernel_rfl) (e_assign (v := .int .i64 x9) (by kernel_rfl)) ?_
      refine wpList_nil ?_
      refine then_n ?_
      refine wp_ret ?_
      refine inb_r ?_
      refine then_r ?_
      refine then_r ?_
      refine inb_r ?_
      refine then_r ?_
      obtain rfl := Option.some.inj M
      exact ret1 rfl rfl  (show _ = .int .i64 x9 from (by kernel_rfl)) ⟨rfl, S13.chg⟩
    replace M := ifn q27 M
    refine cond_f rfl (bf q27 (by kernel_rfl)) ?_
    refine wp_skip ?_
    refine inb_n ?_
    refine then_n ?_
    refine wp_region_lit ?_
    refine lv (d := 10) rfl rfl (by kernel_rfl) (e_move (v := .int .i64 x9) (by exact e12)) ?_
    refine lv (d := 11) rfl rfl (by kernel_rfl) (e_add (k := .i64) (a := x9) (b := 1) (by kernel_rfl) rfl) ?_
    refine lv (d := 5) rfl rfl (by kernel_rfl) (e_assign (v := .int .i64 (IntKind.i64.wrap (x9 + 1))) (by kernel_rfl)) ?_
    refine wpList_nil ?_
    refine then_n ?_
    exact ⟨k18, (by omega), _, (IntKind.i64.wrap (x9 + 1)), rfl, (by exact e10), (by exact e11), (by kernel_rfl), S13, M⟩
  replace M := ifn q19 M
  refine cond_f rfl (bf q19 (by kernel_rfl)) ?_
  refine wp_exit ?_
  refine then_e ?_
  refine then_e ?_
  refine inb_hit ?_
  refine then_n ?_
  refine wp_seq ?_
  refine wp_region_lit ?_
  refine lv (d := 4) rfl rfl (by kernel_rfl) (e_assign (v := .int .i64 (-1)) rfl) ?_
  refine wpList_nil ?_
  refine then_n ?_
  refine wp_ret ?_
  obtain rfl := Option.some.inj M
  exact ret1 rfl rfl  (show _ = .int .i64 (-1) from (by kernel_rfl)) ⟨rfl, S13.chg⟩

/-! spec_l2vars -/
def spec_l2vars_2.l0 : Nat → (List Cell) → (List Int) → Int → Option (List Int)
  | 0, _, _, _ => none
  | k27 + 1, x1, x13, x18 => (if x18 < (x1.length : Int) then (if 0 ≤ x18 then (if ((x1.getD ((x18).toNat) z65).kind) = 0 then ((spec_l2find.f k27 x13 ((x1.getD ((x18).toNat) z65).n)).bind fun t51 => (if t51 < 0 then (if x13.length + 1 ≤ 17592186044416 then (spec_l2vars_2.l0 k27 x1 (x13 ++ [(x1.getD ((x18).toNat) z65).n]) (IntKind.i64.wrap (x18 + 1))) else none) else (spec_l2vars_2.l0 k27 x1 x13 (IntKind.i64.wrap (x18 + 1))))) else (spec_l2vars_2.l0 k27 x1 x13 (IntKind.i64.wrap (x18 + 1)))) else none) else some x13)
def spec_l2vars_2.f (k : Nat) (x1 : List Cell) (x6 : List Int) : Option (List Int) := (spec_l2vars_2.l0 k x1 x6 0)
theorem spec_l2vars_2.calls (k : Nat) (w : World) (H : Hp) (x1 : List Cell) (A2 : Option Addr) (c3 : Nat) (x6 : List Int) (A7 : Option Addr) (c8 : Nat) (F10 : Foot) (h4 : Rd st65 H A2 x1) (l5 : x1.length ≤ c3) (h9 : Row tInt 3 H (hp w) F10 A7 c8 x6) (S : Own [F10] H w) (r : List Int) (M : spec_l2vars_2.f k x1 x6 = some r) :
    Calls Try.prog 63 #[.slice A2 x1.length c3, .slice A7 x6.length c8] w (fun e e_w => ∃ (A_1 : Option Addr) (c_1 : Nat) (F_1 : Foot) (H_ : Hp), e = .returned (.slice A_1 r.length c_1) ∧ Row tInt 3 H_ (hp e_w) F_1 A_1 c_1 r ∧ St (anyOf [F10]) H w [F_1] H_ e_w) := by
  rw [spec_l2vars_2.f] at M
  refine enter (l := [.slice A2 x1.length c3, .slice A7 x6.length c8]) 37 Try.func63 rfl rfl rfl ?_
  have S0_ := S.st
  refine wp_seq ?_
  refine wp_region_lit ?_
  refine lv (d := 4) rfl rfl (by kernel_rfl) (e_assign (v := .slice none 0 0) rfl) ?_
  refine wpList_nil ?_
  refine then_n ?_
  refine wp_seq ?_
  refine wp_seq ?_
  refine wp_region_lit ?_
  refine lv (d := 5) rfl rfl (by kernel_rfl) (e_assign (v := .int .i64 0) rfl) ?_
  refine wpList_nil ?_
  refine then_n ?_
  refine wp_block ?_
  refine wp_loop_g (fun k25 a26 w11 => ∃ (f12 : Nat → Value) (x13 : List Int) (A14 : Option Addr) (c15 : Nat) (F16 : Foot) (x18 : Int), a26 = mk 37 f12 ∧ f12 0 = .slice A2 x1.length c3 ∧ f12 1 = .slice A14 x13.length c15 ∧ f12 5 = .int .i64 x18 ∧ Row tInt 3 H (hp w11) F16 A14 c15 x13 ∧ St (anyOf [F10]) H w [F16] H w11 ∧ spec_l2vars_2.l0 k25 x1 x13 x18 = some r) k ⟨_, x6, A7, c8, F10, 0, rfl, (by kernel_rfl), (by kernel_rfl), (by kernel_rfl), h9, S0_, M⟩ ?_
  clear M
  rintro k25 a26 w11 ⟨f12, x13, A14, c15, F16, x18, rfl, e19, e20, e21, h17, S22, M⟩
  rcases k25 with _ | k27
  · rw [spec_l2vars_2.l0] at M
    cases M
  rw [spec_l2vars_2.l0] at M
  refine wp_seq ?_
  refine wp_seq ?_
  refine wp_region_lit ?_
  refine lv (d := 6) rfl rfl (by kernel_rfl) (e_move (v := .int .i64 x18) (by exact e21)) ?_
  refine lv (d := 7) rfl rfl (by kernel_rfl) (e_move (v := .slice A2 x1.length c3) (by exact e19)) ?_
  refine lv (d := 8) rfl rfl (by kernel_rfl) (e_len (A := A2) (n := x1.length) (c := c3) Try.underlying25 (by kernel_rfl)) ?_
  refine lv (d := 9) rfl rfl (by kernel_rfl) (e_lss (k := .i64) (a := x18) (b := (x1.length : Int)) (by kernel_rfl) (by kernel_rfl)) ?_
  refine wpList_nil ?_
  refine then_n ?_
  by_cases q28 : x18 < (x1.length : Int)
  · replace M := ifp q28 M
    refine cond_t rfl (bt q28 (by kernel_rfl)) ?_
    refine wp_skip ?_
    refine then_n ?_
    refine wp_seq ?_
    refine wp_block ?_
    refine wp_seq ?_
    refine wp_region_lit ?_
    refine lv (d := 12) rfl rfl (by kernel_rfl) (e_move (v := .slice A2 x1.length c3) (by exact e19)) ?_
    refine lv (d := 13) rfl rfl (by kernel_rfl) (e_move (v := .int .i64 x18) (by exact e21)) ?_
    obtain ⟨q29, M⟩ := chk M
    obtain ⟨b30, o31, e32⟩ := Rd.addr h4 (show (x18).toNat < x1.length by omega)
    obtain ⟨y33, r34, k35⟩ := Rd.at h4 e32 (getD_some z65 (show (x18).toNat < x1.length by omega))
    obtain ⟨A36, c37, rfl, l38, h39⟩ := st65_open r34
    refine lv (d := 14) rfl rfl (by kernel_rfl) (e_indexAddr (b := b30) (off := o31) (n := x1.length) (c := c3) (sz := 3) (i := x18) (k := .i64) Try.underlying25 e32 (by kernel_rfl) (by kernel_rfl) (by kernel_rfl) q29 q28) ?_
    refine lv (d := 15) rfl rfl (by kernel_rfl) (e_fieldAddr (b := b30) (off := o31 + (x18 : Int).toNat * 3) (o := 0) Try.underlying65 rfl rfl (sz := 1) (by kernel_rfl) (by decide) (by kernel_rfl)) ?_
    refine lv (d := 16) rfl rfl (by kernel_rfl) (e_load1 (ad := ⟨b30, o31 + (x18 : Int).toNat * 3 + 0, none⟩) (v := .int .i64 ((x1.getD ((x18).toNat) z65).kind)) Try.underlying3 rfl (by kernel_rfl) (hpx (S22.inv.cell (k35 0 _ rfl)))) ?_
    refine lv (d := 17) rfl rfl (by kernel_rfl) (e_eql (k := .i64) (a := (x1.getD ((x18).toNat) z65).kind) (b := 0) (by kernel_rfl) rfl) ?_
    refine lv (d := 18) rfl rfl (by kernel_rfl) (e_move (v := .bool (decide (((x1.getD ((x18).toNat) z65).kind) = 0))) (by kernel_rfl)) ?_
    by_cases q40 : ((x1.getD ((x18).toNat) z65).kind) = 0
    · replace M := ifp q40 M
      refine lvg (d := 19) (t := 18) rfl (by kernel_rfl) rfl (bt q40 (by kernel_rfl)) rfl (by kernel_rfl) (e_move (v := .slice A14 x13.length c15) (by exact e20)) ?_
      refine lvg (d := 20) (t := 18) rfl (by kernel_rfl) rfl (bt q40 (by kernel_rfl)) rfl (by kernel_rfl) (e_move (v := .slice A2 x1.length c3) (by exact e19)) ?_
      refine lvg (d := 21) (t := 18) rfl (by kernel_rfl) rfl (bt q40 (by kernel_rfl)) rfl (by kernel_rfl) (e_move (v := .int .i64 x18) (by exact e21)) ?_
      obtain ⟨b41, o42, e43⟩ := Rd.addr h4 (show (x18).toNat < x1.length by omega)
      obtain ⟨y44, r45, k46⟩ := Rd.at h4 e43 (getD_some z65 (show (x18).toNat < x1.length by omega))
      obtain ⟨A47, c48, rfl, l49, h50⟩ := st65_open r45
      refine lvg (d := 22) (t := 18) rfl (by kernel_rfl) rfl (bt q40 (by kernel_rfl)) rfl (by kernel_rfl) (e_indexAddr (b := b41) (off := o42) (n := x1.length) (c := c3) (sz := 3) (i := x18) (k := .i64) Try.underlying25 e43 (by kernel_rfl) (by kernel_rfl) (by kernel_rfl) q29 q28) ?_
      refine lvg (d := 23) (t := 18) rfl (by kernel_rfl) rfl (bt q40 (by kernel_rfl)) rfl (by kernel_rfl) (e_fieldAddr (b := b41) (off := o42 + (x18 : Int).toNat * 3) (o := 1) Try.underlying65 rfl rfl (sz := 1) (by kernel_rfl) (by decide) (by kernel_rfl)) ?_
      refine lvg (d := 24) (t := 18) rfl (by kernel_rfl) rfl (bt q40 (by kernel_rfl)) rfl (by kernel_rfl) (e_load1 (ad := ⟨b41, o42 + (x18 : Int).toNat * 3 + 1, none⟩) (v := .int .i64 ((x1.getD ((x18).toNat) z65).n)) Try.underlying3 rfl (by kernel_rfl) (hpx (S22.inv.cell (k46 1 _ rfl)))) ?_
      obtain ⟨t51, u52, M⟩ := bnd M
      refine lcallg (d := 25) (t := 18) rfl (by kernel_rfl) rfl (bt q40 (by kernel_rfl)) rfl (by kernel_rfl) (e_call (l := [.tmp 19, .tmp 24]) (vs := [.slice A14 x13.length c15, .int .i64 ((x1.getD ((x18).toNat) z65).n)]) Try.func71 (by kernel_rfl) rfl (by kernel_rfl) rfl) (by have l53 := h17.le; obtain ⟨H54, S55, E56, h57, z58⟩ := S22.frzRow h17; exact (spec_l2find.calls k27 w11 H54 x13 A14 c15 ((x1.getD ((x18).toNat) z65).n) h57 l53 S55.own0 t51 u52)) ?_
      rintro _ w59 ⟨rfl, C60⟩
      refine ⟨_, rfl, ?_⟩
      obtain ⟨S61, K62⟩ := S22.still C60
      replace h17 := h17.move (K62.at 0 rfl)
      refine lvg (d := 26) (t := 18) rfl (by kernel_rfl) rfl (bt q40 (by kernel_rfl)) rfl (by kernel_rfl) (e_lss (k := .i64) (a := t51) (b := 0) (by kernel_rfl) rfl) ?_
      refine lv (d := 27) rfl rfl (by kernel_rfl) (e_pick_t (v := .bool (decide (t51 < 0))) (bt q40 (by kernel_rfl)) (by kernel_rfl)) ?_
      refine wpList_nil ?_
      refine then_n ?_
      by_cases q63 : t51 < 0
      · replace M := ifp q63 M
        refine cond_t rfl (bt q63 (by kernel_rfl)) ?_
        refine wp_region_lit ?_
        refine lv (d := 28) rfl rfl (by kernel_rfl) (e_move (v := .slice A14 x13.length c15) (by exact e20)) ?_
        refine lv (d := 29) rfl rfl (by kernel_rfl) (e_move (v := .slice A2 x1.length c3) (by exact e19)) ?_
        refine lv (d := 30) rfl rfl (by kernel_rfl) (e_move (v := .int .i64 x18) (by exact e21)) ?_
        obtain ⟨b64, o65, e66⟩ := Rd.addr h4 (show (x18).toNat < x1.length by omega)
        obtain ⟨y67, r68, k69⟩ := Rd.at h4 e66 (getD_some z65 (show (x18).toNat < x1.length by omega))
        obtain ⟨A70, c71, rfl, l72, h73⟩ := st65_open r68
        refine lv (d := 31) rfl rfl (by kernel_rfl) (e_indexAddr (b := b64) (off := o65) (n := x1.length) (c := c3) (sz := 3) (i := x18) (k := .i64) Try.underlying25 e66 (by kernel_rfl) (by kernel_rfl) (by kernel_rfl) q29 q28) ?_
        refine lv (d := 32) rfl rfl (by kernel_rfl) (e_fieldAddr (b := b64) (off := o65 + (x18 : Int).toNat * 3) (o := 1) Try.underlying65 rfl rfl (sz := 1) (by kernel_rfl) (by decide) (by kernel_rfl)) ?_
        refine lv (d := 33) rfl rfl (by kernel_rfl) (e_load1 (ad := ⟨b64, o65 + (x18 : Int).toNat * 3 + 1, none⟩) (v := .int .i64 ((x1.getD ((x18).toNat) z65).n)) Try.underlying3 rfl (by kernel_rfl) (hpx (S61.inv.cell (k69 1 _ rfl)))) ?_
        refine lve (d := 34) rfl rfl (by kernel_rfl) (new_blk (v := fun g_ => .slice (some ⟨g_, 0, none⟩) 1 1) (cs := #[.int .i64 ((x1.getD ((x18).toNat) z65).n)]) (t := 3) S61 (by kernel_rfl)) ?_
        rintro _ w74 ⟨g75, rfl, b76, S77, K78⟩
        replace h17 := h17.move (K78.at 0 rfl)
        obtain ⟨q79, M⟩ := chk M
        have S80 := S77.pull (F := F16) (Fr := [(is g75)]) 1 rfl rfl
        have S81 := S80.unit
        have S82 := S81.pull (F := F16) (Fr := [no, (is g75)]) 1 rfl rfl
        refine lve (d := 35) rfl rfl (by kernel_rfl) (e_append (d := tInt) (n := x13.length) (xs := x13) (cap := c15) (A := A14) (ys := [(x1.getD ((x18).toNat) z65).n]) (A2 := (some ⟨g75, 0, none⟩)) (c2 := 1) (z := .int .i64 0) (bytes := 8) S82 Try.underlying32 (by kernel_rfl) rfl (by decide) (by kernel_rfl) rfl (by kernel_rfl) h17 (elsO_one1 rfl) (.inr (blk_news b76 rfl)) (show (x13.length + [(x1.getD ((x18).toNat) z65).n].length) * 8 ≤ _ by first | omega | (simp only [List.length_cons, List.length_nil]; omega)) (by decide)) ?_
        rintro _ w83 ⟨A84, c85, F86, rfl, h87, S88, K89⟩
        replace b76 := K89.blk 0 rfl b76
        refine lv (d := 1) rfl rfl (by kernel_rfl) (e_assign (v := .slice A84 ((x13 ++ [(x1.getD ((x18).toNat) z65).n]).length) c85) (by kernel_rfl)) ?_
        refine wpList_nil ?_
        refine inb_n ?_
        refine then_n ?_
        refine wp_region_lit ?_
        refine lv (d := 10) rfl rfl (by kernel_rfl) (e_move (v := .int .i64 x18) (by exact e21)) ?_
        refine lv (d := 11) rfl rfl (by kernel_rfl) (e_add (k := .i64) (a := x18) (b := 1) (by kernel_rfl) rfl) ?_
        refine lv (d := 5) rfl rfl (by kernel_rfl) (e_assign (v := .int .i64 (IntKind.i64.wrap (x18 + 1))) (by kernel_rfl)) ?_
        refine wpList_nil ?_
        refine then_n ?_
        have S90 := St.first (Fa := [F86]) (Fr := [(is g75)]) S88
        exact ⟨k27, (by omega), _, (x13 ++ [(x1.getD ((x18).toNat) z65).n]), A84, c85, F86, (IntKind.i64.wrap (x18 + 1)), rfl, (by exact e19), (by kernel_rfl), (by kernel_rfl), h87, S90, M⟩
      replace M := ifn q63 M
      refine cond_f rfl (bf q63 (by kernel_rfl)) ?_
      refine wp_skip ?_
      refine inb_n ?_
      refine then_n ?_
      refine wp_region_lit ?_
      refine lv (d := 10) rfl rfl (by kernel_rfl) (e_move (v := .int .i64 x18) (by exact e21)) ?_
      refine lv (d := 11) rfl rfl (by kernel_rfl) (e_add (k := .i64) (a := x18) (b := 1) (by kernel_rfl) rfl) ?_
      refine lv (d := 5) rfl rfl (by kernel_rfl) (e_assign (v := .int .i64 (IntKind.i64.wrap (x18 + 1))) (by kernel_rfl)) ?_
      refine wpList_nil ?_
      refine then_n ?_
      exact ⟨k27, (by omega), _, x13, A14, c15, F16, (IntKind.i64.wrap (x18 + 1)), rfl, (by exact e19), (by exact e20), (by kernel_rfl), h17, S61, M⟩
    replace M := ifn q40 M
    refine lskip (t := 18) (c := false) rfl (by kernel_rfl) rfl (bf q40 (by kernel_rfl)) rfl rfl ?_
    refine lskip (t := 18) (c := false) rfl (by kernel_rfl) rfl (bf q40 (by kernel_rfl)) rfl rfl ?_
    refine lskip (t := 18) (c := false) rfl (by kernel_rfl) rfl (bf q40 (by kernel_rfl)) rfl rfl ?_
    refine lskip (t := 18) (c := false) rfl (by kernel_rfl) rfl (bf q40 (by kernel_rfl)) rfl rfl ?_
    refine lskip (t := 18) (c := false) rfl (by kernel_rfl) rfl (bf q40 (by kernel_rfl)) rfl rfl ?_
    refine lskip (t := 18) (c := false) rfl (by kernel_rfl) rfl (bf q40 (by kernel_rfl)) rfl rfl ?_
    refine lskip (t := 18) (c := false) rfl (by kernel_rfl) rfl (bf q40 (by kernel_rfl)) rfl rfl ?_
    refine lskip (t := 18) (c := false) rfl (by kernel_rfl) rfl (bf q40 (by kernel_rfl)) rfl rfl ?_
    refine lv (d := 27) rfl rfl (by kernel_rfl) (e_pick_f (v := .bool false) (bf q40 (by kernel_rfl)) rfl) ?_
    refine wpList_nil ?_
    refine then_n ?_
    refine cond_f rfl (by kernel_rfl) ?_
    refine wp_skip ?_
    refine inb_n ?_
    refine then_n ?_
    refine wp_region_lit ?_
    refine lv (d := 10) rfl rfl (by kernel_rfl) (e_move (v := .int .i64 x18) (by exact e21)) ?_
    refine lv (d := 11) rfl rfl (by kernel_rfl) (e_add (k := .i64) (a := x18) (b := 1) (by kernel_rfl) rfl) ?_
    refine lv (d := 5) rfl rfl (by kernel_rfl) (e_assign (v := .int .i64 (IntKind.i64.wrap (x18 + 1))) (by kernel_rfl)) ?_
    refine wpList_nil ?_
    refine then_n ?_
    exact ⟨k27, (by omega), _, x13, A14, c15, F16, (IntKind.i64.wrap (x18 + 1)), rfl, (by exact e19), (by exact e20), (by kernel_rfl), h17, S22, M⟩
  replace M := ifn q28 M
  refine cond_f rfl (bf q28 (by kernel_rfl)) ?_
  refine wp_exit ?_
  refine then_e ?_
  refine then_e ?_
  refine inb_hit ?_
  refine then_n ?_
  refine wp_seq ?_
  refine wp_region_lit ?_
  refine lv (d := 36) rfl rfl (by kernel_rfl) (e_move (v := .slice A14 x13.length c15) (by exact e20)) ?_
  refine lv (d := 4) rfl rfl (by kernel_rfl) (e_assign (v := .slice A14 x13.length c15) (by kernel_rfl)) ?_
  refine wpList_nil ?_
  refine then_n ?_
  refine wp_ret ?_
  obtain rfl := Option.some.inj M
  exact ret1 rfl rfl  (show _ = .slice A14 x13.length c15 from (by kernel_rfl)) ⟨A14, c15, F16, H, rfl, h17, S22⟩

/-! spec_l1copy -/
def spec_l1copy.f (x1 : List UInt8) : Option (List UInt8) := (if 0 + x1.length ≤ 140737488355328 then some x1 else none)
theorem spec_l1copy.calls (w : World) (H : Hp) (x1 : List UInt8) (A2 : Option Addr) (c3 : Nat) (h4 : Rd tByte H A2 x1) (l5 : x1.length ≤ c3) (S : Own [] H w) (r : List UInt8) (M : spec_l1copy.f x1 = some r) :
    Calls Try.prog 113 #[.slice A2 x1.length c3] w (fun e e_w => ∃ (A_1 : Option Addr) (c_1 : Nat) (F_1 : Foot) (H_ : Hp), e = .returned (.slice A_1 r.length c_1) ∧ Row tByte 5 H_ (hp e_w) F_1 A_1 c_1 r ∧ St (anyOf []) H w [F_1] H_ e_w) := by
  rw [spec_l1copy.f] at M
  refine enter (l := [.slice A2 x1.length c3]) 7 Try.func113 rfl rfl rfl ?_
  have S0_ := S.st
  refine wp_seq ?_
  refine wp_region_lit ?_
  refine lv (d := 2) rfl rfl (by kernel_rfl) (e_assign (v := .slice none 0 0) rfl) ?_
  refine wpList_nil ?_
  refine then_n ?_
  refine wp_seq ?_
  refine wp_region_lit ?_
  refine lv (d := 3) rfl rfl (by kernel_rfl) (e_assign (v := .slice none 0 0) rfl) ?_
  refine wpList_nil ?_
  refine then_n ?_
  refine wp_seq ?_
  refine wp_region_lit ?_
  refine lv (d := 4) rfl rfl (by kernel_rfl) (e_move (v := .slice none 0 0) (by kernel_rfl)) ?_
  refine lv (d := 5) rfl rfl (by kernel_rfl) (e_move (v := .slice A2 x1.length c3) (by kernel_rfl)) ?_
  obtain ⟨y6, h7, h8⟩ := Rd.news (d := tByte) (ro_scal _ _) S0_ h4
  obtain ⟨q9, M⟩ := chk M
  have S10 := S0_.unit
  have S11 := S10.unit
  have S12 := S11.pull (F := no) (Fr := [no]) 1 rfl rfl
  refine lve (d := 6) rfl rfl (by kernel_rfl) (e_append (d := tByte) (n := 0) (xs := []) (cap := 0) (A := none) (ys := x1) (A2 := A2) (c2 := c3) (z := .int .u8 0) (bytes := 1) S12 Try.underlying59 (by kernel_rfl) rfl (by decide) (by kernel_rfl) rfl (by kernel_rfl) (Row.nil _ _ _ _ no) h7 h8 (show (0 + x1.length) * 1 ≤ _ by first | omega | (simp only [List.length_cons, List.length_nil]; omega)) (by decide)) ?_
  rintro _ w13 ⟨A14, c15, F16, rfl, h17, S18, K19⟩
  replace h17 : Row tByte 5 H (hp w13) F16 A14 c15 x1 := h17
  refine lv (d := 2) rfl rfl (by kernel_rfl) (e_assign (v := .slice A14 x1.length c15) (by kernel_rfl)) ?_
  refine wpList_nil ?_
  refine then_n ?_
  refine wp_ret ?_
  obtain rfl := Option.some.inj M
  exact ret1 rfl rfl  (show _ = .slice A14 x1.length c15 from (by kernel_rfl)) ⟨A14, c15, F16, H, rfl, h17, S18⟩

/-! spec_l2copy -/
def spec_l2copy.l0 : Nat → (List Cell) → (List Cell) → Int → Option (List Cell)
  | 0, _, _, _ => none
  | k24 + 1, x1, x10, x15 => (if x15 < (x1.length : Int) then (if 0 ≤ x15 then ((spec_l1copy.f ((x1.getD ((x15).toNat) z65).text)).bind fun t95 => (if x10.length + 1 ≤ 3518437208883 then (spec_l2copy.l0 k24 x1 (x10 ++ [(⟨(x1.getD ((x15).toNat) z65).kind, (x1.getD ((x15).toNat) z65).n, t95⟩ : Cell)]) (IntKind.i64.wrap (x15 + 1))) else none)) else none) else some x10)
def spec_l2copy.f (k : Nat) (x1 : List Cell) : Option (List Cell) := (spec_l2copy.l0 k x1 [] 0)
theorem spec_l2copy.calls (k : Nat) (w : World) (H : Hp) (x1 : List Cell) (A2 : Option Addr) (c3 : Nat) (h4 : Rd st65 H A2 x1) (l5 : x1.length ≤ c3) (S : Own [] H w) (r : List Cell) (M : spec_l2copy.f k x1 = some r) :
    Calls Try.prog 75 #[.slice A2 x1.length c3] w (fun e e_w => ∃ (A_1 : Option Addr) (c_1 : Nat) (F_1 : Foot) (H_ : Hp), e = .returned (.slice A_1 r.length c_1) ∧ Row st65 65 H_ (hp e_w) F_1 A_1 c_1 r ∧ St (anyOf []) H w [F_1] H_ e_w) := by
  rw [spec_l2copy.f] at M
  refine enter (l := [.slice A2 x1.length c3]) 32 Try.func75 rfl rfl rfl ?_
  have S0_ := S.st
  refine wp_seq ?_
  refine wp_region_lit ?_
  refine lv (d := 2) rfl rfl (by kernel_rfl) (e_assign (v := .slice none 0 0) rfl) ?_
  refine wpList_nil ?_
  refine then_n ?_
  refine wp_seq ?_
  refine wp_region_lit ?_
  refine lv (d := 3) rfl rfl (by kernel_rfl) (e_assign (v := .slice none 0 0) rfl) ?_
  refine wpList_nil ?_
  refine then_n ?_
  refine wp_seq ?_
  refine wp_seq ?_
  refine wp_region_lit ?_
  refine lv (d := 4) rfl rfl (by kernel_rfl) (e_assign (v := .int .i64 0) rfl) ?_
  refine wpList_nil ?_
  refine then_n ?_
  refine wp_block ?_
  have S25 := S0_.unit
  refine wp_loop_g (fun k22 a23 w6 => ∃ (f7 : Nat → Value) (H8 : Hp) (x10 : List Cell) (A11 : Option Addr) (c12 : Nat) (F13 : Foot) (x15 : Int), a23 = mk 32 f7 ∧ f7 0 = .slice A2 x1.length c3 ∧ f7 3 = .slice A11 x10.length c12 ∧ f7 4 = .int .i64 x15 ∧ Row st65 65 H8 (hp w6) F13 A11 c12 x10 ∧ Ext H H8 ∧ St (anyOf []) H w [F13] H8 w6 ∧ spec_l2copy.l0 k22 x1 x10 x15 = some r) k ⟨_, H, [], none, 0, no, 0, rfl, (by kernel_rfl), (by kernel_rfl), (by kernel_rfl), (Row.nil _ _ _ _ _), (Ext.refl _), S25, M⟩ ?_
  clear M
  rintro k22 a23 w6 ⟨f7, H8, x10, A11, c12, F13, x15, rfl, e16, e17, e18, h14, Y9, S19, M⟩
  rcases k22 with _ | k24
  · rw [spec_l2copy.l0] at M
    cases M
  rw [spec_l2copy.l0] at M
  refine wp_seq ?_
  refine wp_seq ?_
  refine wp_region_lit ?_
  refine lv (d := 5) rfl rfl (by kernel_rfl) (e_move (v := .int .i64 x15) (by exact e18)) ?_
  refine lv (d := 6) rfl rfl (by kernel_rfl) (e_move (v := .slice A2 x1.length c3) (by exact e16)) ?_
  refine lv (d := 7) rfl rfl (by kernel_rfl) (e_len (A := A2) (n := x1.length) (c := c3) Try.underlying25 (by kernel_rfl)) ?_
  refine lv (d := 8) rfl rfl (by kernel_rfl) (e_lss (k := .i64) (a := x15) (b := (x1.length : Int)) (by kernel_rfl) (by kernel_rfl)) ?_
  refine wpList_nil ?_
  refine then_n ?_
  by_cases q26 : x15 < (x1.length : Int)
  · replace M := ifp q26 M
    refine cond_t rfl (bt q26 (by kernel_rfl)) ?_
    refine wp_skip ?_
    refine then_n ?_
    refine wp_seq ?_
    refine wp_block ?_
    refine region_mix (S := (fun (L_ : Array Bool) (w_ : World) => Ext H8 (hp w_) ∧ True)) (by kernel_rfl) S19 ?_
    intro w27 S28 K29 hc30
    have hs31 : (fun (L_ : Array Bool) (w_ : World) => Ext H8 (hp w_) ∧ True) (Array.replicate 21 false) w27 := ⟨S28.inv, trivial⟩
    replace h14 := h14.move (K29.at 0 rfl)
    refine xv (i := 0) (d := 11) rfl rfl rfl (by kernel_rfl) (by kernel_rfl) (fun _ _ => Iff.rfl) hc30 hs31 (fun L_ w_ hc_ hu_ hs_ => e_move (v := .slice A11 x10.length c12) (by exact e17)) ?_; intro hc32 hs33
    refine xv (i := 1) (d := 12) rfl rfl rfl (by kernel_rfl) (by kernel_rfl) (fun _ _ => Iff.rfl) hc32 hs33 (fun L_ w_ hc_ hu_ hs_ => e_move (v := .slice A2 x1.length c3) (by exact e16)) ?_; intro hc34 hs35
    refine xv (i := 2) (d := 13) rfl rfl rfl (by kernel_rfl) (by kernel_rfl) (fun _ _ => Iff.rfl) hc34 hs35 (fun L_ w_ hc_ hu_ hs_ => e_move (v := .int .i64 x15) (by exact e18)) ?_; intro hc36 hs37
    obtain ⟨q38, M⟩ := chk M
    obtain ⟨b39, o40, e41⟩ := Rd.addr h4 (show (x15).toNat < x1.length by omega)
    obtain ⟨y42, r43, k44⟩ := Rd.at h4 e41 (getD_some z65 (show (x15).toNat < x1.length by omega))
    obtain ⟨A45, c46, rfl, l47, h48⟩ := st65_open r43
    refine xv (i := 3) (d := 14) rfl rfl rfl (by kernel_rfl) (by kernel_rfl) (fun _ _ => Iff.rfl) hc36 hs37 (fun L_ w_ hc_ hu_ hs_ => e_indexAddr (b := b39) (off := o40) (n := x1.length) (c := c3) (sz := 3) (i := x15) (k := .i64) Try.underlying25 e41 (by kernel_rfl) (by kernel_rfl) (by kernel_rfl) q38 q26) ?_; intro hc49 hs50
    refine xv (i := 4) (d := 15) rfl rfl rfl (by kernel_rfl) (by kernel_rfl) (fun _ _ => Iff.rfl) hc49 hs50 (fun L_ w_ hc_ hu_ hs_ => e_fieldAddr (b := b39) (off := o40 + (x15 : Int).toNat * 3) (o := 0) Try.underlying65 rfl rfl (sz := 1) (by kernel_rfl) (by decide) (by kernel_rfl)) ?_; intro hc51 hs52
    refine xv (i := 5) (d := 16) rfl rfl rfl (by kernel_rfl) (by kernel_rfl) (fun _ _ => Iff.rfl) hc51 hs52 (fun L_ w_ hc_ hu_ hs_ => e_load1 (ad := ⟨b39, o40 + (x15 : Int).toNat * 3 + 0, none⟩) (v := .int .i64 ((x1.getD ((x15).toNat) z65).kind)) Try.underlying3 rfl (by kernel_rfl) (hpx (hs_.1.cell (Y9.cell (k44 0 _ rfl))))) ?_; intro hc53 hs54
    refine xv (i := 6) (d := 17) rfl rfl rfl (by kernel_rfl) (by kernel_rfl) (fun _ _ => Iff.rfl) hc53 hs54 (fun L_ w_ hc_ hu_ hs_ => e_move (v := .slice A2 x1.length c3) (by exact e16)) ?_; intro hc55 hs56
    refine xv (i := 7) (d := 18) rfl rfl rfl (by kernel_rfl) (by kernel_rfl) (fun _ _ => Iff.rfl) hc55 hs56 (fun L_ w_ hc_ hu_ hs_ => e_move (v := .int .i64 x15) (by exact e18)) ?_; intro hc57 hs58
    obtain ⟨b59, o60, e61⟩ := Rd.addr h4 (show (x15).toNat < x1.length by omega)
    obtain ⟨y62, r63, k64⟩ := Rd.at h4 e61 (getD_some z65 (show (x15).toNat < x1.length by omega))
    obtain ⟨A65, c66, rfl, l67, h68⟩ := st65_open r63
    refine xv (i := 8) (d := 19) rfl rfl rfl (by kernel_rfl) (by kernel_rfl) (fun _ _ => Iff.rfl) hc57 hs58 (fun L_ w_ hc_ hu_ hs_ => e_indexAddr (b := b59) (off := o60) (n := x1.length) (c := c3) (sz := 3) (i := x15) (k := .i64) Try.underlying25 e61 (by kernel_rfl) (by kernel_rfl) (by kernel_rfl) q38 q26) ?_; intro hc69 hs70
    refine xv (i := 9) (d := 20) rfl rfl rfl (by kernel_rfl) (by kernel_rfl) (fun _ _ => Iff.rfl) hc69 hs70 (fun L_ w_ hc_ hu_ hs_ => e_fieldAddr (b := b59) (off := o60 + (x15 : Int).toNat * 3) (o := 1) Try.underlying65 rfl rfl (sz := 1) (by kernel_rfl) (by decide) (by kernel_rfl)) ?_; intro hc71 hs72
    refine xv (i := 10) (d := 21) rfl rfl rfl (by kernel_rfl) (by kernel_rfl) (fun _ _ => Iff.rfl) hc71 hs72 (fun L_ w_ hc_ hu_ hs_ => e_load1 (ad := ⟨b59, o60 + (x15 : Int).toNat * 3 + 1, none⟩) (v := .int .i64 ((x1.getD ((x15).toNat) z65).n)) Try.underlying3 rfl (by kernel_rfl) (hpx (hs_.1.cell (Y9.cell (k64 1 _ rfl))))) ?_; intro hc73 hs74
    refine xv (i := 11) (d := 22) rfl rfl rfl (by kernel_rfl) (by kernel_rfl) (fun _ _ => Iff.rfl) hc73 hs74 (fun L_ w_ hc_ hu_ hs_ => e_move (v := .slice A2 x1.length c3) (by exact e16)) ?_; intro hc75 hs76
    refine xone (i := 12) (by kernel_rfl) hc75 ?_
    refine yo (i := 12) (d := 23) rfl rfl (wanted_none rfl _) (by kernel_rfl) (by kernel_rfl) (fun _ _ => Iff.rfl) hs76 (e_move (v := .int .i64 x15) (by exact e18)) ?_; intro hc77 hs78
    obtain ⟨b79, o80, e81⟩ := Rd.addr h4 (show (x15).toNat < x1.length by omega)
    obtain ⟨y82, r83, k84⟩ := Rd.at h4 e81 (getD_some z65 (show (x15).toNat < x1.length by omega))
    obtain ⟨A85, c86, rfl, l87, h88⟩ := st65_open r83
    refine xone (i := 13) (by kernel_rfl) hc77 ?_
    refine yo (i := 13) (d := 24) rfl rfl (wanted_none rfl _) (by kernel_rfl) (by kernel_rfl) (fun _ _ => Iff.rfl) hs78 (e_indexAddr (b := b79) (off := o80) (n := x1.length) (c := c3) (sz := 3) (i := x15) (k := .i64) Try.underlying25 e81 (by kernel_rfl) (by kernel_rfl) (by kernel_rfl) q38 q26) ?_; intro hc89 hs90
    refine xone (i := 14) (by kernel_rfl) hc89 ?_
    refine yo (i := 14) (d := 25) rfl rfl (wanted_none rfl _) (by kernel_rfl) (by kernel_rfl) (fun _ _ => Iff.rfl) hs90 (e_fieldAddr (b := b79) (off := o80 + (x15 : Int).toNat * 3) (o := 2) Try.underlying65 rfl rfl (sz := 1) (by kernel_rfl) (by decide) (by kernel_rfl)) ?_; intro hc91 hs92
    refine xone (i := 15) (by kernel_rfl) hc91 ?_
    refine yo (i := 15) (d := 26) rfl rfl (wanted_none rfl _) (by kernel_rfl) (by kernel_rfl) (fun _ _ => Iff.rfl) hs92 (e_load1 (ad := ⟨b79, o80 + (x15 : Int).toNat * 3 + 2, none⟩) (v := .slice A85 ((x1.getD ((x15).toNat) z65).text).length c86) Try.underlying59 rfl (by kernel_rfl) (hpx (S28.inv.cell (Y9.cell (k84 2 _ rfl))))) ?_; intro hc93 hs94
    obtain ⟨t95, u96, M⟩ := bnd M
    refine xone (i := 16) (by kernel_rfl) hc93 ?_
    refine yc (i := 16) rfl (wanted_none rfl _) (by kernel_rfl) (by kernel_rfl) (e_call (l := [.tmp 26]) (vs := [.slice A85 ((x1.getD ((x15).toNat) z65).text).length c86]) Try.func113 (by kernel_rfl) rfl (by kernel_rfl) rfl) (spec_l1copy.calls w27 H8 ((x1.getD ((x15).toNat) z65).text) A85 c86 (h88.ext Y9) l87 (St.own' (Fa := []) (Fr := [F13]) S28) t95 u96) ?_
    rintro hc104 _ w97 ⟨A100, c101, F103, H98, rfl, h102, T99⟩
    refine ⟨_, rfl, ?_⟩
    obtain ⟨S105, K106⟩ := St.call (Fa := []) (Fr := [F13]) S28 T99
    replace h14 := h14.move (K106.at 0 rfl)
    have E107 := T99.ext
    replace h14 := h14.ext E107
    refine ⟨⟨(Ext.trans E107 S105.inv), trivial⟩, fun hs108 => ?_⟩
    refine xone (i := 17) (by kernel_rfl) hc104 ?_
    refine yo (i := 17) (d := 28) rfl rfl (wanted_none rfl _) (by kernel_rfl) (by kernel_rfl) (fun _ _ => Iff.rfl) hs108 (show _ = Result.ok (Next.value (.agg #[.int .i64 ((x1.getD ((x15).toNat) z65).kind), .int .i64 ((x1.getD ((x15).toNat) z65).n), .slice A100 t95.length c101])) w97 from by kernel_rfl) ?_; intro hc109 hs110
    refine xone (i := 18) (by kernel_rfl) hc109 ?_
    refine ye (i := 18) (d := 29) rfl rfl (wanted_none rfl _) (by kernel_rfl) (by kernel_rfl) (new_blk (v := fun g_ => .slice (some ⟨g_, 0, none⟩) 1 1) (cs := #[.int .i64 ((x1.getD ((x15).toNat) z65).kind), .int .i64 ((x1.getD ((x15).toNat) z65).n), .slice A100 t95.length c101]) (t := 65) S105 (by kernel_rfl)) ?_
    rintro hc116 _ w111 ⟨g112, rfl, b113, S114, K115⟩
    replace h102 := h102.move (K115.at 0 rfl)
    replace h14 := h14.move (K115.at 1 rfl)
    refine ⟨⟨(Ext.trans E107 S114.inv), trivial⟩, fun hs117 => ?_⟩
    obtain ⟨q118, M⟩ := chk M
    have S119 := S114.pull (F := F103) (Fr := [(is g112), F13]) 1 rfl rfl
    have S120 := S119.pull (F := F13) (Fr := [F103, (is g112)]) 2 rfl rfl
    refine xone (i := 19) (by kernel_rfl) hc116 ?_
    refine ye (i := 19) (d := 30) rfl rfl (wanted_none rfl _) (by kernel_rfl) (by kernel_rfl) (e_append (d := st65) (n := x10.length) (xs := x10) (cap := c12) (A := A11) (ys := [(⟨(x1.getD ((x15).toNat) z65).kind, (x1.getD ((x15).toNat) z65).n, t95⟩ : Cell)]) (A2 := (some ⟨g112, 0, none⟩)) (c2 := 1) (z := .agg #[.int .i64 0, .int .i64 0, .slice none 0 0]) (bytes := 40) S120 Try.underlying25 (by kernel_rfl) rfl (by decide) (by kernel_rfl) rfl (by kernel_rfl) h14 (elsO_one1 (st65_mkO (x := (⟨(x1.getD ((x15).toNat) z65).kind, (x1.getD ((x15).toNat) z65).n, t95⟩ : Cell)) h102)) (.inr (blk_news b113 rfl)) (show (x10.length + [(⟨(x1.getD ((x15).toNat) z65).kind, (x1.getD ((x15).toNat) z65).n, t95⟩ : Cell)].length) * 40 ≤ _ by first | omega | (simp only [List.length_cons, List.length_nil]; omega)) (by decide)) ?_
    rintro hc128 _ w121 ⟨A122, c123, F124, rfl, h125, S126, K127⟩
    replace b113 := K127.blk 0 rfl b113
    refine ⟨⟨(Ext.trans E107 S126.inv), trivial⟩, fun hs129 => ?_⟩
    refine xone (i := 20) (by kernel_rfl) hc128 ?_
    refine yo (i := 20) (d := 3) rfl rfl (wanted_none rfl _) (by kernel_rfl) (by kernel_rfl) (fun _ _ => Iff.rfl) hs129 (e_assign (v := .slice A122 ((x10 ++ [(⟨(x1.getD ((x15).toNat) z65).kind, (x1.getD ((x15).toNat) z65).n, t95⟩ : Cell)]).length) c123) (by kernel_rfl)) ?_; intro hc130 hs131
    refine xn (by kernel_rfl) ?_ _
    refine inb_n ?_
    refine then_n ?_
    refine wp_region_lit ?_
    refine lv (d := 9) rfl rfl (by kernel_rfl) (e_move (v := .int .i64 x15) (by exact e18)) ?_
    refine lv (d := 10) rfl rfl (by kernel_rfl) (e_add (k := .i64) (a := x15) (b := 1) (by kernel_rfl) rfl) ?_
    refine lv (d := 4) rfl rfl (by kernel_rfl) (e_assign (v := .int .i64 (IntKind.i64.wrap (x15 + 1))) (by kernel_rfl)) ?_
    refine wpList_nil ?_
    refine then_n ?_
    have S132 := St.first (Fa := [F124]) (Fr := [(is g112)]) S126
    exact ⟨k24, (by omega), _, H98, (x10 ++ [(⟨(x1.getD ((x15).toNat) z65).kind, (x1.getD ((x15).toNat) z65).n, t95⟩ : Cell)]), A122, c123, F124, (IntKind.i64.wrap (x15 + 1)), rfl, (by exact e16), (by kernel_rfl), (by kernel_rfl), h125, (Y9.trans E107), S132, M⟩
  replace M := ifn q26 M
  refine cond_f rfl (bf q26 (by kernel_rfl)) ?_
  refine wp_exit ?_
  refine then_e ?_
  refine then_e ?_
  refine inb_hit ?_
  refine then_n ?_
  refine wp_seq ?_
  refine wp_region_lit ?_
  refine lv (d := 31) rfl rfl (by kernel_rfl) (e_move (v := .slice A11 x10.length c12) (by exact e17)) ?_
  refine lv (d := 2) rfl rfl (by kernel_rfl) (e_assign (v := .slice A11 x10.length c12) (by kernel_rfl)) ?_
  refine wpList_nil ?_
  refine then_n ?_
  refine wp_ret ?_
  obtain rfl := Option.some.inj M
  exact ret1 rfl rfl  (show _ = .slice A11 x10.length c12 from (by kernel_rfl)) ⟨A11, c12, F13, H8, rfl, h14, S19⟩

/-! spec_l2renumber -/
def spec_l2renumber.l0 : Nat → (List Int) → (List Cell) → Int → (List Cell) → Option (List Cell)
  | 0, _, _, _, _ => none
  | k37 + 1, x6, t11, x25, x27 => (if x25 < (t11.length : Int) then (if 0 ≤ x25 then (if ((x27.getD ((x25).toNat) z65).kind) = 0 then ((spec_l2find.f k37 x6 ((x27.getD ((x25).toNat) z65).n)).bind fun t47 => (spec_l2renumber.l0 k37 x6 t11 (IntKind.i64.wrap (x25 + 1)) (x27.set ((x25).toNat) ({(x27.getD ((x25).toNat) z65) with n := t47})))) else (spec_l2renumber.l0 k37 x6 t11 (IntKind.i64.wrap (x25 + 1)) x27)) else none) else some x27)
def spec_l2renumber.f (k : Nat) (x1 : List Cell) (x6 : List Int) : Option (List Cell) := ((spec_l2copy.f k x1).bind fun t11 => (spec_l2renumber.l0 k x6 t11 0 t11))
theorem spec_l2renumber.calls (k : Nat) (w : World) (H : Hp) (x1 : List Cell) (A2 : Option Addr) (c3 : Nat) (x6 : List Int) (A7 : Option Addr) (c8 : Nat) (h4 : Rd st65 H A2 x1) (l5 : x1.length ≤ c3) (h9 : Rd tInt H A7 x6) (l10 : x6.length ≤ c8) (S : Own [] H w) (r : List Cell) (M : spec_l2renumber.f k x1 x6 = some r) :
    Calls Try.prog 66 #[.slice A2 x1.length c3, .slice A7 x6.length c8] w (fun e e_w => ∃ (A_1 : Option Addr) (c_1 : Nat) (F_1 : Foot) (H_ : Hp), e = .returned (.slice A_1 r.length c_1) ∧ Row st65 65 H_ (hp e_w) F_1 A_1 c_1 r ∧ St (anyOf []) H w [F_1] H_ e_w) := by
  rw [spec_l2renumber.f] at M
  refine enter (l := [.slice A2 x1.length c3, .slice A7 x6.length c8]) 33 Try.func66 rfl rfl rfl ?_
  have S0_ := S.st
  refine wp_seq ?_
  refine wp_region_lit ?_
  refine lv (d := 4) rfl rfl (by kernel_rfl) (e_assign (v := .slice none 0 0) rfl) ?_
  refine wpList_nil ?_
  refine then_n ?_
  refine wp_seq ?_
  refine wp_region_lit ?_
  refine lv (d := 7) rfl rfl (by kernel_rfl) (e_move (v := .slice A2 x1.length c3) (by kernel_rfl)) ?_
  obtain ⟨t11, u12, M⟩ := bnd M
  refine lcall (d := 8) rfl rfl (by kernel_rfl) (e_call (l := [.tmp 7]) (vs := [.slice A2 x1.length c3]) Try.func75 (by kernel_rfl) rfl (by kernel_rfl) rfl) (spec_l2copy.calls k w H x1 A2 c3 h4 l5 (St.own' (Fa := []) (Fr := []) S0_) t11 u12) ?_
  rintro _ w13 ⟨A16, c17, F19, H14, rfl, h18, T15⟩
  refine ⟨_, rfl, ?_⟩
  obtain ⟨S20, K21⟩ := St.call (Fa := []) (Fr := []) S0_ T15
  have E22 := T15.ext
  refine lv (d := 5) rfl rfl (by kernel_rfl) (e_assign (v := .slice A16 t11.length c17) (by kernel_rfl)) ?_
  refine wpList_nil ?_
  refine then_n ?_
  refine wp_seq ?_
  refine wp_seq ?_
  refine wp_region_lit ?_
  refine lv (d := 6) rfl rfl (by kernel_rfl) (e_assign (v := .int .i64 0) rfl) ?_
  refine wpList_nil ?_
  refine then_n ?_
  refine wp_block ?_
  refine wp_loop_g (fun k35 a36 w23 => ∃ (f24 : Nat → Value) (x25 : Int) (F26 : Foot) (x27 : List Cell), a36 = mk 33 f24 ∧ f24 1 = .slice A7 x6.length c8 ∧ f24 5 = .slice A16 t11.length c17 ∧ f24 6 = .int .i64 x25 ∧ Row st65 65 H14 (hp w23) F26 A16 c17 x27 ∧ x27.length = t11.length ∧ St (anyOf []) H w [F26] H14 w23 ∧ spec_l2renumber.l0 k35 x6 t11 x25 x27 = some r) k ⟨_, 0, F19, t11, rfl, (by kernel_rfl), (by kernel_rfl), (by kernel_rfl), h18, rfl, S20, M⟩ ?_
  clear M
  rintro k35 a36 w23 ⟨f24, x25, F26, x27, rfl, e29, e30, e31, h18, n28, S32, M⟩
  rcases k35 with _ | k37
  · rw [spec_l2renumber.l0] at M
    cases M
  rw [spec_l2renumber.l0] at M
  refine wp_seq ?_
  refine wp_seq ?_
  refine wp_region_lit ?_
  refine lv (d := 9) rfl rfl (by kernel_rfl) (e_move (v := .int .i64 x25) (by exact e31)) ?_
  refine lv (d := 10) rfl rfl (by kernel_rfl) (e_move (v := .slice A16 t11.length c17) (by exact e30)) ?_
  refine lv (d := 11) rfl rfl (by kernel_rfl) (e_len (A := A16) (n := t11.length) (c := c17) Try.underlying25 (by kernel_rfl)) ?_
  refine lv (d := 12) rfl rfl (by kernel_rfl) (e_lss (k := .i64) (a := x25) (b := (t11.length : Int)) (by kernel_rfl) (by kernel_rfl)) ?_
  refine wpList_nil ?_
  refine then_n ?_
  by_cases q38 : x25 < (t11.length : Int)
  · replace M := ifp q38 M
    refine cond_t rfl (bt q38 (by kernel_rfl)) ?_
    refine wp_skip ?_
    refine then_n ?_
    refine wp_seq ?_
    refine wp_block ?_
    refine wp_seq ?_
    refine wp_region_lit ?_
    refine lv (d := 15) rfl rfl (by kernel_rfl) (e_move (v := .slice A16 t11.length c17) (by exact e30)) ?_
    refine lv (d := 16) rfl rfl (by kernel_rfl) (e_move (v := .int .i64 x25) (by exact e31)) ?_
    obtain ⟨q39, M⟩ := chk M
    obtain ⟨b40, e42⟩ := Row.addr h18 (show (x25).toNat < x27.length by have : x27.length = t11.length := n28; omega)
    refine lv (d := 17) rfl rfl (by kernel_rfl) (e_indexAddr (b := b40) (off := 0) (n := t11.length) (c := c17) (sz := 3) (i := x25) (k := .i64) Try.underlying25 e42 (by kernel_rfl) (by kernel_rfl) (by kernel_rfl) q39 q38) ?_
    refine lv (d := 18) rfl rfl (by kernel_rfl) (e_fieldAddr (b := b40) (off := 0 + (x25 : Int).toNat * 3) (o := 0) Try.underlying65 rfl rfl (sz := 1) (by kernel_rfl) (by decide) (by kernel_rfl)) ?_
    refine lv (d := 19) rfl rfl (by kernel_rfl) (e_load1 (ad := ⟨b40, 0 + (x25 : Int).toNat * 3 + 0, none⟩) (v := .int .i64 ((x27.getD ((x25).toNat) z65).kind)) Try.underlying3 rfl (by kernel_rfl) (hpx (Row.pick (j := 0) (u := .int .i64 ((x27.getD ((x25).toNat) z65).kind)) h18 e42 (getD_some z65 (show (x25).toNat < x27.length by have : x27.length = t11.length := n28; omega)) (fun _ _ o_ => st65_c0 o_)))) ?_
    refine lv (d := 20) rfl rfl (by kernel_rfl) (e_eql (k := .i64) (a := (x27.getD ((x25).toNat) z65).kind) (b := 0) (by kernel_rfl) rfl) ?_
    refine wpList_nil ?_
    refine then_n ?_
    by_cases q43 : ((x27.getD ((x25).toNat) z65).kind) = 0
    · replace M := ifp q43 M
      refine cond_t rfl (bt q43 (by kernel_rfl)) ?_
      refine wp_region_lit ?_
      refine lv (d := 21) rfl rfl (by kernel_rfl) (e_move (v := .slice A16 t11.length c17) (by exact e30)) ?_
      refine lv (d := 22) rfl rfl (by kernel_rfl) (e_move (v := .int .i64 x25) (by exact e31)) ?_
      refine lv (d := 23) rfl rfl (by kernel_rfl) (e_move (v := .slice A7 x6.length c8) (by exact e29)) ?_
      refine lv (d := 24) rfl rfl (by kernel_rfl) (e_move (v := .slice A16 t11.length c17) (by exact e30)) ?_
      refine lv (d := 25) rfl rfl (by kernel_rfl) (e_move (v := .int .i64 x25) (by exact e31)) ?_
      obtain ⟨b44, e46⟩ := Row.addr h18 (show (x25).toNat < x27.length by have : x27.length = t11.length := n28; omega)
      refine lv (d := 26) rfl rfl (by kernel_rfl) (e_indexAddr (b := b44) (off := 0) (n := t11.length) (c := c17) (sz := 3) (i := x25) (k := .i64) Try.underlying25 e46 (by kernel_rfl) (by kernel_rfl) (by kernel_rfl) q39 q38) ?_
      refine lv (d := 27) rfl rfl (by kernel_rfl) (e_fieldAddr (b := b44) (off := 0 + (x25 : Int).toNat * 3) (o := 1) Try.underlying65 rfl rfl (sz := 1) (by kernel_rfl) (by decide) (by kernel_rfl)) ?_
      refine lv (d := 28) rfl rfl (by kernel_rfl) (e_load1 (ad := ⟨b44, 0 + (x25 : Int).toNat * 3 + 1, none⟩) (v := .int .i64 ((x27.getD ((x25).toNat) z65).n)) Try.underlying3 rfl (by kernel_rfl) (hpx (Row.pick (j := 1) (u := .int .i64 ((x27.getD ((x25).toNat) z65).n)) h18 e46 (getD_some z65 (show (x25).toNat < x27.length by have : x27.length = t11.length := n28; omega)) (fun _ _ o_ => st65_c1 o_)))) ?_
      obtain ⟨t47, u48, M⟩ := bnd M
      refine lcall (d := 29) rfl rfl (by kernel_rfl) (e_call (l := [.tmp 23, .tmp 28]) (vs := [.slice A7 x6.length c8, .int .i64 ((x27.getD ((x25).toNat) z65).n)]) Try.func71 (by kernel_rfl) rfl (by kernel_rfl) rfl) (spec_l2find.calls k37 w23 H14 x6 A7 c8 ((x27.getD ((x25).toNat) z65).n) (h9.ext E22) l10 S32.own0 t47 u48) ?_
      rintro _ w49 ⟨rfl, C50⟩
      refine ⟨_, rfl, ?_⟩
      obtain ⟨S51, K52⟩ := S32.still C50
      replace h18 := h18.move (K52.at 0 rfl)
      obtain ⟨b53, e55⟩ := Row.addr h18 (show (x25).toNat < x27.length by have : x27.length = t11.length := n28; omega)
      refine lv (d := 30) rfl rfl (by kernel_rfl) (e_indexAddr (b := b53) (off := 0) (n := t11.length) (c := c17) (sz := 3) (i := x25) (k := .i64) Try.underlying25 e55 (by kernel_rfl) (by kernel_rfl) (by kernel_rfl) q39 q38) ?_
      refine lv (d := 31) rfl rfl (by kernel_rfl) (e_fieldAddr (b := b53) (off := 0 + (x25 : Int).toNat * 3) (o := 1) Try.underlying65 rfl rfl (sz := 1) (by kernel_rfl) (by decide) (by kernel_rfl)) ?_
      have S56 := S51.unit
      have S57 := S56.pull (F := F26) (Fr := [no]) 1 rfl rfl
      refine lse rfl rfl (by kernel_rfl) (e_setpart (d := st65) (b := b53) (i := (x25).toNat) (j := 1) (v := .int .i64 t47) (vs := [.int .i64 t47]) (yv := {(x27.getD ((x25).toNat) z65) with n := t47}) S57 (by kernel_rfl) e55 (by kernel_rfl) rfl (by kernel_rfl) h18 (getD_some z65 (show (x25).toNat < x27.length by have : x27.length = t11.length := n28; omega)) (Nat.le_of_ble_eq_true rfl) (List.forall_mem_cons.2 ⟨rfl, (fun _ h_ => by cases h_)⟩) (fun _ _ _ o_ => st65_u1 t47 o_)) ?_
      rintro w58 ⟨F60, h59, S61, K62⟩
      clear h18
      refine wpList_nil ?_
      refine inb_n ?_
      refine then_n ?_
      refine wp_region_lit ?_
      refine lv (d := 13) rfl rfl (by kernel_rfl) (e_move (v := .int .i64 x25) (by exact e31)) ?_
      refine lv (d := 14) rfl rfl (by kernel_rfl) (e_add (k := .i64) (a := x25) (b := 1) (by kernel_rfl) rfl) ?_
      refine lv (d := 6) rfl rfl (by kernel_rfl) (e_assign (v := .int .i64 (IntKind.i64.wrap (x25 + 1))) (by kernel_rfl)) ?_
      refine wpList_nil ?_
      refine then_n ?_
      exact ⟨k37, (by omega), _, (IntKind.i64.wrap (x25 + 1)), F60, (x27.set ((x25).toNat) ({(x27.getD ((x25).toNat) z65) with n := t47})), rfl, (by exact e29), (by exact e30), (by kernel_rfl), h59, (List.length_set.trans n28), S61, M⟩
    replace M := ifn q43 M
    refine cond_f rfl (bf q43 (by kernel_rfl)) ?_
    refine wp_skip ?_
    refine inb_n ?_
    refine then_n ?_
    refine wp_region_lit ?_
    refine lv (d := 13) rfl rfl (by kernel_rfl) (e_move (v := .int .i64 x25) (by exact e31)) ?_
    refine lv (d := 14) rfl rfl (by kernel_rfl) (e_add (k := .i64) (a := x25) (b := 1) (by kernel_rfl) rfl) ?_
    refine lv (d := 6) rfl rfl (by kernel_rfl) (e_assign (v := .int .i64 (IntKind.i64.wrap (x25 + 1))) (by kernel_rfl)) ?_
    refine wpList_nil ?_
    refine then_n ?_
    exact ⟨k37, (by omega), _, (IntKind.i64.wrap (x25 + 1)), F26, x27, rfl, (by exact e29), (by exact e30), (by kernel_rfl), h18, n28, S32, M⟩
  replace M := ifn q38 M
  refine cond_f rfl (bf q38 (by kernel_rfl)) ?_
  refine wp_exit ?_
  refine then_e ?_
  refine then_e ?_
  refine inb_hit ?_
  refine then_n ?_
  refine wp_seq ?_
  refine wp_region_lit ?_
  refine lv (d := 32) rfl rfl (by kernel_rfl) (e_move (v := .slice A16 t11.length c17) (by exact e30)) ?_
  refine lv (d := 4) rfl rfl (by kernel_rfl) (e_assign (v := .slice A16 t11.length c17) (by kernel_rfl)) ?_
  refine wpList_nil ?_
  refine then_n ?_
  refine wp_ret ?_
  obtain rfl := Option.some.inj M
  exact ret1 rfl rfl  (show _ = .slice A16 t11.length c17 from (by kernel_rfl)) ⟨A16, c17, F26, H14, (by rw [(show x27.length = t11.length from n28)]), h18, S32⟩

/-! spec_Renumber -/
def spec_Renumber.f (k : Nat) (x1 : List Cell) : Option (List Cell) := ((spec_ValidTerm.f k x1).bind fun t6 => (if ¬ (t6 = true) then some [] else ((spec_l2vars_2.f k x1 []).bind fun t15 => ((spec_l2renumber.f k x1 t15).bind fun t33 => some t33))))
theorem spec_Renumber.calls (k : Nat) (w : World) (H : Hp) (x1 : List Cell) (A2 : Option Addr) (c3 : Nat) (h4 : Rd st65 H A2 x1) (l5 : x1.length ≤ c3) (S : Own [] H w) (r : List Cell) (M : spec_Renumber.f k x1 = some r) :
    Calls Try.prog 27 #[.slice A2 x1.length c3] w (fun e e_w => ∃ (A_1 : Option Addr) (c_1 : Nat) (F_1 : Foot) (H_ : Hp), e = .returned (.slice A_1 r.length c_1) ∧ Row st65 65 H_ (hp e_w) F_1 A_1 c_1 r ∧ St (anyOf []) H w [F_1] H_ e_w) := by
  rw [spec_Renumber.f] at M
  refine enter (l := [.slice A2 x1.length c3]) 10 Try.func27 rfl rfl rfl ?_
  have S0_ := S.st
  refine wp_seq ?_
  refine wp_region_lit ?_
  refine lv (d := 2) rfl rfl (by kernel_rfl) (e_assign (v := .slice none 0 0) rfl) ?_
  refine wpList_nil ?_
  refine then_n ?_
  refine wp_seq ?_
  refine wp_seq ?_
  refine wp_region_lit ?_
  refine lv (d := 3) rfl rfl (by kernel_rfl) (e_move (v := .slice A2 x1.length c3) (by kernel_rfl)) ?_
  obtain ⟨t6, u7, M⟩ := bnd M
  refine lcall (d := 4) rfl rfl (by kernel_rfl) (e_call (l := [.tmp 3]) (vs := [.slice A2 x1.length c3]) Try.func15 (by kernel_rfl) rfl (by kernel_rfl) rfl) (spec_ValidTerm.calls k w H x1 A2 c3 h4 l5 S0_.own0 t6 u7) ?_
  rintro _ w8 ⟨rfl, C9⟩
  refine ⟨_, rfl, ?_⟩
  obtain ⟨S10, K11⟩ := S0_.still C9
  refine lv (d := 5) rfl rfl (by kernel_rfl) (e_notv (c := t6) (by kernel_rfl)) ?_
  refine wpList_nil ?_
  refine then_n ?_
  by_cases q12 : ¬ (t6 = true)
  · replace M := ifp q12 M
    refine cond_t rfl (bt q12 (by kernel_rfl)) ?_
    refine wp_seq ?_
    refine wp_region_lit ?_
    refine lv (d := 2) rfl rfl (by kernel_rfl) (e_assign (v := .slice none 0 0) rfl) ?_
    refine wpList_nil ?_
    refine then_n ?_
    refine wp_ret ?_
    refine then_r ?_
    obtain rfl := Option.some.inj M
    have S13 := S10.unit
    exact ret1 rfl rfl  (show _ = .slice none 0 0 from (by kernel_rfl)) ⟨none, 0, no, H, rfl, (Row.nil _ _ _ _ no), S13⟩
  replace M := ifn q12 M
  refine cond_f rfl (bf q12 (by kernel_rfl)) ?_
  refine wp_skip ?_
  refine then_n ?_
  refine wp_seq ?_
  refine wp_region_lit ?_
  refine lv (d := 6) rfl rfl (by kernel_rfl) (e_move (v := .slice A2 x1.length c3) (by kernel_rfl)) ?_
  refine lv (d := 7) rfl rfl (by kernel_rfl) (e_move (v := .slice A2 x1.length c3) (by kernel_rfl)) ?_
  have S14 := S10.unit
  obtain ⟨t15, u16, M⟩ := bnd M
  refine lcall (d := 8) rfl rfl (by kernel_rfl) (e_call (l := [.tmp 7, .const (.slice none 0 0)]) (vs := [.slice A2 x1.length c3, .slice none 0 0]) Try.func63 (by kernel_rfl) rfl (by kernel_rfl) rfl) (spec_l2vars_2.calls k w8 H x1 A2 c3 [] none 0 no h4 l5 (Row.nil _ _ _ _ no) (St.own' (Fa := [no]) (Fr := []) S14) t15 u16) ?_
  rintro _ w17 ⟨A20, c21, F23, H18, rfl, h22, T19⟩
  refine ⟨_, rfl, ?_⟩
  obtain ⟨S24, K25⟩ := St.call (Fa := [no]) (Fr := []) S14 T19
  have E26 := T19.ext
  have l27 := h22.le
  obtain ⟨H28, S29, E30, h31, z32⟩ := S24.frzRow h22
  obtain ⟨t33, u34, M⟩ := bnd M
  refine lcall (d := 9) rfl rfl (by kernel_rfl) (e_call (l := [.tmp 6, .tmp 8]) (vs := [.slice A2 x1.length c3, .slice A20 t15.length c21]) Try.func66 (by kernel_rfl) rfl (by kernel_rfl) rfl) (spec_l2renumber.calls k w17 H28 x1 A2 c3 t15 A20 c21 (h4.ext (E26.trans E30)) l5 h31 l27 (St.own' (Fa := []) (Fr := []) S29) t33 u34) ?_
  rintro _ w35 ⟨A38, c39, F41, H36, rfl, h40, T37⟩
  refine ⟨_, rfl, ?_⟩
  obtain ⟨S42, K43⟩ := St.call (Fa := []) (Fr := []) S29 T37
  have E44 := T37.ext
  refine lv (d := 2) rfl rfl (by kernel_rfl) (e_assign (v := .slice A38 t33.length c39) (by kernel_rfl)) ?_
  refine wpList_nil ?_
  refine then_n ?_
  refine wp_ret ?_
  obtain rfl := Option.some.inj M
  exact ret1 rfl rfl  (show _ = .slice A38 t33.length c39 from (by kernel_rfl)) ⟨A38, c39, F41, H36, rfl, h40, S42⟩

/-! spec_l2sign -/
def spec_l2sign.f (x1 : Bool) : Option Int := (if x1 = true then some (-1) else some 1)
theorem spec_l2sign.calls (w : World) (H : Hp) (x1 : Bool) (S : Own [] H w) (r : Int) (M : spec_l2sign.f x1 = some r) :
    Calls Try.prog 105 #[.bool x1] w (fun e e_w => e = .returned (.int .i64 r) ∧ Chg no w e_w) := by
  rw [spec_l2sign.f] at M
  refine enter (l := [.bool x1]) 4 Try.func105 rfl rfl rfl ?_
  have S0_ := S.st
  refine wp_seq ?_
  refine wp_region_lit ?_
  refine lv (d := 2) rfl rfl (by kernel_rfl) (e_assign (v := .int .i64 0) rfl) ?_
  refine wpList_nil ?_
  refine then_n ?_
  refine wp_seq ?_
  refine wp_seq ?_
  refine wp_region_lit ?_
  refine lv (d := 3) rfl rfl (by kernel_rfl) (e_move (v := .bool x1) (by kernel_rfl)) ?_
  refine wpList_nil ?_
  refine then_n ?_
  by_cases q2 : x1 = true
  · replace M := ifp q2 M
    refine cond_t rfl (bvt q2 (by kernel_rfl)) ?_
    refine wp_seq ?_
    refine wp_region_lit ?_
    refine lv (d := 2) rfl rfl (by kernel_rfl) (e_assign (v := .int .i64 (-1)) rfl) ?_
    refine wpList_nil ?_
    refine then_n ?_
    refine wp_ret ?_
    refine then_r ?_
    obtain rfl := Option.some.inj M
    exact ret1 rfl rfl  (show _ = .int .i64 (-1) from (by kernel_rfl)) ⟨rfl, S0_.chg⟩
  replace M := ifn q2 M
  refine cond_f rfl (bvf q2 (by kernel_rfl)) ?_
  refine wp_skip ?_
  refine then_n ?_
  refine wp_seq ?_
  refine wp_region_lit ?_
  refine lv (d := 2) rfl rfl (by kernel_rfl) (e_assign (v := .int .i64 1) rfl) ?_
  refine wpList_nil ?_
  refine then_n ?_
  refine wp_ret ?_
  obtain rfl := Option.some.inj M
  exact ret1 rfl rfl  (show _ = .int .i64 1 from (by kernel_rfl)) ⟨rfl, S0_.chg⟩

/-! spec_l2compare -/
def spec_l2compare.l0 : Nat → (List Cell) → (List Cell) → Int → Option Int
  | 0, _, _, _ => none
  | k22 + 1, x1, x6, x13 => (if x13 < (x1.length : Int) then (if x13 < (x6.length : Int) then (if 0 ≤ x13 then (if ((x1.getD ((x13).toNat) z65).kind) ≠ ((x6.getD ((x13).toNat) z65).kind) then ((spec_l2sign.f (decide (((x1.getD ((x13).toNat) z65).kind) < ((x6.getD ((x13).toNat) z65).kind)))).bind fun t65 => some t65) else (if ((x1.getD ((x13).toNat) z65).n) ≠ ((x6.getD ((x13).toNat) z65).n) then ((spec_l2sign.f (decide (((x1.getD ((x13).toNat) z65).n) < ((x6.getD ((x13).toNat) z65).n)))).bind fun t72 => some t72) else (if (x1.getD ((x13).toNat) z65).text ≠ (x6.getD ((x13).toNat) z65).text then ((spec_l2sign.f (Op.bytesLess ((x1.getD ((x13).toNat) z65).text) ((x6.getD ((x13).toNat) z65).text))).bind fun t79 => some t79) else (spec_l2compare.l0 k22 x1 x6 (IntKind.i64.wrap (x13 + 1)))))) else none) else some 0) else some 0)
def spec_l2compare.f (k : Nat) (x1 : List Cell) (x6 : List Cell) : Option Int := (spec_l2compare.l0 k x1 x6 0)
theorem spec_l2compare.calls (k : Nat) (w : World) (H : Hp) (x1 : List Cell) (A2 : Option Addr) (c3 : Nat) (x6 : List Cell) (A7 : Option Addr) (c8 : Nat) (h4 : Rd st65 H A2 x1) (l5 : x1.length ≤ c3) (h9 : Rd st65 H A7 x6) (l10 : x6.length ≤ c8) (S : Own [] H w) (r : Int) (M : spec_l2compare.f k x1 x6 = some r) :
    Calls Try.prog 60 #[.slice A2 x1.length c3, .slice A7 x6.length c8] w (fun e e_w => e = .returned (.int .i64 r) ∧ Chg no w e_w) := by
  rw [spec_l2compare.f] at M
  refine enter (l := [.slice A2 x1.length c3, .slice A7 x6.length c8]) 65 Try.func60 rfl rfl rfl ?_
  have S0_ := S.st
  refine wp_seq ?_
  refine wp_region_lit ?_
  refine lv (d := 4) rfl rfl (by kernel_rfl) (e_assign (v := .int .i64 0) rfl) ?_
  refine wpList_nil ?_
  refine then_n ?_
  refine wp_seq ?_
  refine wp_seq ?_
  refine wp_region_lit ?_
  refine lv (d := 5) rfl rfl (by kernel_rfl) (e_assign (v := .int .i64 0) rfl) ?_
  refine wpList_nil ?_
  refine then_n ?_
  refine wp_block ?_
  refine wp_loop_g (fun k20 a21 w11 => ∃ (f12 : Nat → Value) (x13 : Int), a21 = mk 65 f12 ∧ f12 0 = .slice A2 x1.length c3 ∧ f12 1 = .slice A7 x6.length c8 ∧ f12 5 = .int .i64 x13 ∧ St (anyOf []) H w [] H w11 ∧ spec_l2compare.l0 k20 x1 x6 x13 = some r) k ⟨_, 0, rfl, (by kernel_rfl), (by kernel_rfl), (by kernel_rfl), S0_, M⟩ ?_
  clear M
  rintro k20 a21 w11 ⟨f12, x13, rfl, e14, e15, e16, S17, M⟩
  rcases k20 with _ | k22
  · rw [spec_l2compare.l0] at M
    cases M
  rw [spec_l2compare.l0] at M
  refine wp_seq ?_
  refine wp_seq ?_
  refine wp_region_lit ?_
  refine lv (d := 8) rfl rfl (by kernel_rfl) (e_move (v := .int .i64 x13) (by exact e16)) ?_
  refine lv (d := 9) rfl rfl (by kernel_rfl) (e_move (v := .slice A2 x1.length c3) (by exact e14)) ?_
  refine lv (d := 10) rfl rfl (by kernel_rfl) (e_len (A := A2) (n := x1.length) (c := c3) Try.underlying25 (by kernel_rfl)) ?_
  refine lv (d := 11) rfl rfl (by kernel_rfl) (e_lss (k := .i64) (a := x13) (b := (x1.length : Int)) (by kernel_rfl) (by kernel_rfl)) ?_
  refine lv (d := 12) rfl rfl (by kernel_rfl) (e_move (v := .bool (decide (x13 < (x1.length : Int)))) (by kernel_rfl)) ?_
  by_cases q23 : x13 < (x1.length : Int)
  · replace M := ifp q23 M
    refine lvg (d := 13) (t := 12) rfl (by kernel_rfl) rfl (bt q23 (by kernel_rfl)) rfl (by kernel_rfl) (e_move (v := .int .i64 x13) (by exact e16)) ?_
    refine lvg (d := 14) (t := 12) rfl (by kernel_rfl) rfl (bt q23 (by kernel_rfl)) rfl (by kernel_rfl) (e_move (v := .slice A7 x6.length c8) (by exact e15)) ?_
    refine lvg (d := 15) (t := 12) rfl (by kernel_rfl) rfl (bt q23 (by kernel_rfl)) rfl (by kernel_rfl) (e_len (A := A7) (n := x6.length) (c := c8) Try.underlying25 (by kernel_rfl)) ?_
    refine lvg (d := 16) (t := 12) rfl (by kernel_rfl) rfl (bt q23 (by kernel_rfl)) rfl (by kernel_rfl) (e_lss (k := .i64) (a := x13) (b := (x6.length : Int)) (by kernel_rfl) (by kernel_rfl)) ?_
    refine lv (d := 17) rfl rfl (by kernel_rfl) (e_pick_t (v := .bool (decide (x13 < (x6.length : Int)))) (bt q23 (by kernel_rfl)) (by kernel_rfl)) ?_
    refine wpList_nil ?_
    refine then_n ?_
    by_cases q24 : x13 < (x6.length : Int)
    · replace M := ifp q24 M
      refine cond_t rfl (bt q24 (by kernel_rfl)) ?_
      refine wp_skip ?_
      refine then_n ?_
      refine wp_seq ?_
      refine wp_block ?_
      refine wp_seq ?_
      refine wp_region_lit ?_
      refine lv (d := 20) rfl rfl (by kernel_rfl) (e_move (v := .slice A2 x1.length c3) (by exact e14)) ?_
      refine lv (d := 21) rfl rfl (by kernel_rfl) (e_move (v := .int .i64 x13) (by exact e16)) ?_
      obtain ⟨q25, M⟩ := chk M
      obtain ⟨b26, o27, e28⟩ := Rd.addr h4 (show (x13).toNat < x1.length by omega)
      obtain ⟨y29, r30, k31⟩ := Rd.at h4 e28 (getD_some z65 (show (x13).toNat < x1.length by omega))
      obtain ⟨A32, c33, rfl, l34, h35⟩ := st65_open r30
      refine lv (d := 22) rfl rfl (by kernel_rfl) (e_indexAddr (b := b26) (off := o27) (n := x1.length) (c := c3) (sz := 3) (i := x13) (k := .i64) Try.underlying25 e28 (by kernel_rfl) (by kernel_rfl) (by kernel_rfl) q25 q23) ?_
      refine lv (d := 23) rfl rfl (by kernel_rfl) (e_loadS (b := b26) (off := o27 + (x13 : Int).toNat * 3) (cs := [.int .i64 ((x1.getD ((x13).toNat) z65).kind), .int .i64 ((x1.getD ((x13).toNat) z65).n), .slice A32 ((x1.getD ((x13).toNat) z65).text).length c33]) Try.underlying65 rfl (by kernel_rfl) (by kernel_rfl) (fun j_ u_ e_ => (hpx (S17.inv.cell (k31 j_ u_ e_))))) ?_
      refine lve (d := 6) rfl rfl (by kernel_rfl) (new_blk (v := fun g_ => .pointer (some ⟨g_, 0, none⟩)) (cs := #[.int .i64 0, .int .i64 0, .slice none 0 0]) (t := 65) S17 (by kernel_rfl)) ?_
      rintro _ w36 ⟨g37, rfl, b38, S39, K40⟩
      refine lse rfl rfl (by kernel_rfl) (e_store (g := g37) (o := 0) (v := .agg #[.int .i64 ((x1.getD ((x13).toNat) z65).kind), .int .i64 ((x1.getD ((x13).toNat) z65).n), .slice A32 ((x1.getD ((x13).toNat) z65).text).length c33]) (cur' := #[.int .i64 ((x1.getD ((x13).toNat) z65).kind), .int .i64 ((x1.getD ((x13).toNat) z65).n), .slice A32 ((x1.getD ((x13).toNat) z65).text).length c33]) (vs := [.int .i64 ((x1.getD ((x13).toNat) z65).kind), .int .i64 ((x1.getD ((x13).toNat) z65).n), .slice A32 ((x1.getD ((x13).toNat) z65).text).length c33]) S39 (by kernel_rfl) (by kernel_rfl) rfl (by kernel_rfl) b38 (Nat.le_of_ble_eq_true rfl) (List.forall_mem_cons.2 ⟨rfl, (List.forall_mem_cons.2 ⟨rfl, (List.forall_mem_cons.2 ⟨rfl, (fun _ h_ => by cases h_)⟩)⟩)⟩) rfl) ?_
      rintro w41 ⟨b42, S43, K44⟩
      clear b38
      refine wpList_nil ?_
      refine then_n ?_
      refine wp_seq ?_
      refine wp_region_lit ?_
      refine lv (d := 24) rfl rfl (by kernel_rfl) (e_move (v := .slice A7 x6.length c8) (by exact e15)) ?_
      refine lv (d := 25) rfl rfl (by kernel_rfl) (e_move (v := .int .i64 x13) (by exact e16)) ?_
      obtain ⟨b45, o46, e47⟩ := Rd.addr h9 (show (x13).toNat < x6.length by omega)
      obtain ⟨y48, r49, k50⟩ := Rd.at h9 e47 (getD_some z65 (show (x13).toNat < x6.length by omega))
      obtain ⟨A51, c52, rfl, l53, h54⟩ := st65_open r49
      refine lv (d := 26) rfl rfl (by kernel_rfl) (e_indexAddr (b := b45) (off := o46) (n := x6.length) (c := c8) (sz := 3) (i := x13) (k := .i64) Try.underlying25 e47 (by kernel_rfl) (by kernel_rfl) (by kernel_rfl) q25 q24) ?_
      refine lv (d := 27) rfl rfl (by kernel_rfl) (e_loadS (b := b45) (off := o46 + (x13 : Int).toNat * 3) (cs := [.int .i64 ((x6.getD ((x13).toNat) z65).kind), .int .i64 ((x6.getD ((x13).toNat) z65).n), .slice A51 ((x6.getD ((x13).toNat) z65).text).length c52]) Try.underlying65 rfl (by kernel_rfl) (by kernel_rfl) (fun j_ u_ e_ => (hpx (S43.inv.cell (k50 j_ u_ e_))))) ?_
      refine lve (d := 7) rfl rfl (by kernel_rfl) (new_blk (v := fun g_ => .pointer (some ⟨g_, 0, none⟩)) (cs := #[.int .i64 0, .int .i64 0, .slice none 0 0]) (t := 65) S43 (by kernel_rfl)) ?_
      rintro _ w55 ⟨g56, rfl, b57, S58, K59⟩
      replace b42 := K59.blk 0 rfl b42
      refine lse rfl rfl (by kernel_rfl) (e_store (g := g56) (o := 0) (v := .agg #[.int .i64 ((x6.getD ((x13).toNat) z65).kind), .int .i64 ((x6.getD ((x13).toNat) z65).n), .slice A51 ((x6.getD ((x13).toNat) z65).text).length c52]) (cur' := #[.int .i64 ((x6.getD ((x13).toNat) z65).kind), .int .i64 ((x6.getD ((x13).toNat) z65).n), .slice A51 ((x6.getD ((x13).toNat) z65).text).length c52]) (vs := [.int .i64 ((x6.getD ((x13).toNat) z65).kind), .int .i64 ((x6.getD ((x13).toNat) z65).n), .slice A51 ((x6.getD ((x13).toNat) z65).text).length c52]) S58 (by kernel_rfl) (by kernel_rfl) rfl (by kernel_rfl) b57 (Nat.le_of_ble_eq_true rfl) (List.forall_mem_cons.2 ⟨rfl, (List.forall_mem_cons.2 ⟨rfl, (List.forall_mem_cons.2 ⟨rfl, (fun _ h_ => by cases h_)⟩)⟩)⟩) rfl) ?_
      rintro w60 ⟨b61, S62, K63⟩
      replace b42 := K63.blk 0 rfl b42
      clear b57
      refine wpList_nil ?_
      refine then_n ?_
      refine wp_seq ?_
      refine wp_seq ?_
      refine wp_region_lit ?_
      refine lv (d := 28) rfl rfl (by kernel_rfl) (e_fieldAddr (b := g37) (off := 0) (o := 0) Try.underlying65 rfl rfl (sz := 1) (by kernel_rfl) (by decide) (by kernel_rfl)) ?_
      refine lv (d := 29) rfl rfl (by kernel_rfl) (e_load1 (ad := ⟨g37, 0 + 0, none⟩) (v := .int .i64 ((x1.getD ((x13).toNat) z65).kind)) Try.underlying3 rfl (by kernel_rfl) (blk_cell b42 rfl)) ?_
      refine lv (d := 30) rfl rfl (by kernel_rfl) (e_fieldAddr (b := g56) (off := 0) (o := 0) Try.underlying65 rfl rfl (sz := 1) (by kernel_rfl) (by decide) (by kernel_rfl)) ?_
      refine lv (d := 31) rfl rfl (by kernel_rfl) (e_load1 (ad := ⟨g56, 0 + 0, none⟩) (v := .int .i64 ((x6.getD ((x13).toNat) z65).kind)) Try.underlying3 rfl (by kernel_rfl) (blk_cell b61 rfl)) ?_
      refine lv (d := 32) rfl rfl (by kernel_rfl) (e_neq (k := .i64) (a := (x1.getD ((x13).toNat) z65).kind) (b := (x6.getD ((x13).toNat) z65).kind) (by kernel_rfl) (by kernel_rfl)) ?_
      refine wpList_nil ?_
      refine then_n ?_
      by_cases q64 : ((x1.getD ((x13).toNat) z65).kind) ≠ ((x6.getD ((x13).toNat) z65).kind)
      · replace M := ifp q64 M
        refine cond_t rfl (bt q64 (by kernel_rfl)) ?_
        refine wp_seq ?_
        refine wp_region_lit ?_
        refine lv (d := 33) rfl rfl (by kernel_rfl) (e_fieldAddr (b := g37) (off := 0) (o := 0) Try.underlying65 rfl rfl (sz := 1) (by kernel_rfl) (by decide) (by kernel_rfl)) ?_
        refine lv (d := 34) rfl rfl (by kernel_rfl) (e_load1 (ad := ⟨g37, 0 + 0, none⟩) (v := .int .i64 ((x1.getD ((x13).toNat) z65).kind)) Try.underlying3 rfl (by kernel_rfl) (blk_cell b42 rfl)) ?_
        refine lv (d := 35) rfl rfl (by kernel_rfl) (e_fieldAddr (b := g56) (off := 0) (o := 0) Try.underlying65 rfl rfl (sz := 1) (by kernel_rfl) (by decide) (by kernel_rfl)) ?_
        refine lv (d := 36) rfl rfl (by kernel_rfl) (e_load1 (ad := ⟨g56, 0 + 0, none⟩) (v := .int .i64 ((x6.getD ((x13).toNat) z65).kind)) Try.underlying3 rfl (by kernel_rfl) (blk_cell b61 rfl)) ?_
        refine lv (d := 37) rfl rfl (by kernel_rfl) (e_lss (k := .i64) (a := (x1.getD ((x13).toNat) z65).kind) (b := (x6.getD ((x13).toNat) z65).kind) (by kernel_rfl) (by kernel_rfl)) ?_
        obtain ⟨t65, u66, M⟩ := bnd M
        refine lcall (d := 38) rfl rfl (by kernel_rfl) (e_call (l := [.tmp 37]) (vs := [.bool (decide (((x1.getD ((x13).toNat) z65).kind) < ((x6.getD ((x13).toNat) z65).kind)))]) Try.func105 (by kernel_rfl) rfl (by kernel_rfl) rfl) (spec_l2sign.calls w60 H (decide (((x1.getD ((x13).toNat) z65).kind) < ((x6.getD ((x13).toNat) z65).kind)))  S62.own0 t65 u66) ?_
        rintro _ w67 ⟨rfl, C68⟩
        refine ⟨_, rfl, ?_⟩
        obtain ⟨S69, K70⟩ := S62.still C68
        replace b61 := K70.blk 0 rfl b61
        replace b42 := K70.blk 1 rfl b42
        refine lv (d := 4) rfl rfl (by kernel_rfl) (e_assign (v := .int .i64 t65) (by kernel_rfl)) ?_
        refine wpList_nil ?_
        refine then_n ?_
        refine wp_ret ?_
        refine then_r ?_
        refine inb_r ?_
        refine then_r ?_
        refine then_r ?_
        refine inb_r ?_
        refine then_r ?_
        obtain rfl := Option.some.inj M
        exact ret1 rfl rfl  (show _ = .int .i64 t65 from (by kernel_rfl)) ⟨rfl, S69.chg⟩
      replace M := ifn q64 M
      refine cond_f rfl (bf q64 (by kernel_rfl)) ?_
      refine wp_skip ?_
      refine then_n ?_
      refine wp_seq ?_
      refine wp_seq ?_
      refine wp_region_lit ?_
      refine lv (d := 39) rfl rfl (by kernel_rfl) (e_fieldAddr (b := g37) (off := 0) (o := 1) Try.underlying65 rfl rfl (sz := 1) (by kernel_rfl) (by decide) (by kernel_rfl)) ?_
      refine lv (d := 40) rfl rfl (by kernel_rfl) (e_load1 (ad := ⟨g37, 0 + 1, none⟩) (v := .int .i64 ((x1.getD ((x13).toNat) z65).n)) Try.underlying3 rfl (by kernel_rfl) (blk_cell b42 rfl)) ?_
      refine lv (d := 41) rfl rfl (by kernel_rfl) (e_fieldAddr (b := g56) (off := 0) (o := 1) Try.underlying65 rfl rfl (sz := 1) (by kernel_rfl) (by decide) (by kernel_rfl)) ?_
      refine lv (d := 42) rfl rfl (by kernel_rfl) (e_load1 (ad := ⟨g56, 0 + 1, none⟩) (v := .int .i64 ((x6.getD ((x13).toNat) z65).n)) Try.underlying3 rfl (by kernel_rfl) (blk_cell b61 rfl)) ?_
      refine lv (d := 43) rfl rfl (by kernel_rfl) (e_neq (k := .i64) (a := (x1.getD ((x13).toNat) z65).n) (b := (x6.getD ((x13).toNat) z65).n) (by kernel_rfl) (by kernel_rfl)) ?_
      refine wpList_nil ?_
      refine then_n ?_
      by_cases q71 : ((x1.getD ((x13).toNat) z65).n) ≠ ((x6.getD ((x13).toNat) z65).n)
      · replace M := ifp q71 M
        refine cond_t rfl (bt q71 (by kernel_rfl)) ?_
        refine wp_seq ?_
        refine wp_region_lit ?_
        refine lv (d := 44) rfl rfl (by kernel_rfl) (e_fieldAddr (b := g37) (off := 0) (o := 1) Try.underlying65 rfl rfl (sz := 1) (by kernel_rfl) (by decide) (by kernel_rfl)) ?_
        refine lv (d := 45) rfl rfl (by kernel_rfl) (e_load1 (ad := ⟨g37, 0 + 1, none⟩) (v := .int .i64 ((x1.getD ((x13).toNat) z65).n)) Try.underlying3 rfl (by kernel_rfl) (blk_cell b42 rfl)) ?_
        refine lv (d := 46) rfl rfl (by kernel_rfl) (e_fieldAddr (b := g56) (off := 0) (o := 1) Try.underlying65 rfl rfl (sz := 1) (by kernel_rfl) (by decide) (by kernel_rfl)) ?_
        refine lv (d := 47) rfl rfl (by kernel_rfl) (e_load1 (ad := ⟨g56, 0 + 1, none⟩) (v := .int .i64 ((x6.getD ((x13).toNat) z65).n)) Try.underlying3 rfl (by kernel_rfl) (blk_cell b61 rfl)) ?_
        refine lv (d := 48) rfl rfl (by kernel_rfl) (e_lss (k := .i64) (a := (x1.getD ((x13).toNat) z65).n) (b := (x6.getD ((x13).toNat) z65).n) (by kernel_rfl) (by kernel_rfl)) ?_
        obtain ⟨t72, u73, M⟩ := bnd M
        refine lcall (d := 49) rfl rfl (by kernel_rfl) (e_call (l := [.tmp 48]) (vs := [.bool (decide (((x1.getD ((x13).toNat) z65).n) < ((x6.getD ((x13).toNat) z65).n)))]) Try.func105 (by kernel_rfl) rfl (by kernel_rfl) rfl) (spec_l2sign.calls w60 H (decide (((x1.getD ((x13).toNat) z65).n) < ((x6.getD ((x13).toNat) z65).n)))  S62.own0 t72 u73) ?_
        rintro _ w74 ⟨rfl, C75⟩
        refine ⟨_, rfl, ?_⟩
        obtain ⟨S76, K77⟩ := S62.still C75
        replace b61 := K77.blk 0 rfl b61
        replace b42 := K77.blk 1 rfl b42
        refine lv (d := 4) rfl rfl (by kernel_rfl) (e_assign (v := .int .i64 t72) (by kernel_rfl)) ?_
        refine wpList_nil ?_
        refine then_n ?_
        refine wp_ret ?_
        refine then_r ?_
        refine inb_r ?_
        refine then_r ?_
        refine then_r ?_
        refine inb_r ?_
        refine then_r ?_
        obtain rfl := Option.some.inj M
        exact ret1 rfl rfl  (show _ = .int .i64 t72 from (by kernel_rfl)) ⟨rfl, S76.chg⟩
      replace M := ifn q71 M
      refine cond_f rfl (bf q71 (by kernel_rfl)) ?_
      refine wp_skip ?_
      refine then_n ?_
      refine wp_seq ?_
      refine wp_region_lit ?_
      refine lv (d := 50) rfl rfl (by kernel_rfl) (e_fieldAddr (b := g37) (off := 0) (o := 2) Try.underlying65 rfl rfl (sz := 1) (by kernel_rfl) (by decide) (by kernel_rfl)) ?_
      refine lv (d := 51) rfl rfl (by kernel_rfl) (e_load1 (ad := ⟨g37, 0 + 2, none⟩) (v := .slice A32 ((x1.getD ((x13).toNat) z65).text).length c33) Try.underlying59 rfl (by kernel_rfl) (blk_cell b42 rfl)) ?_
      refine lv (d := 52) rfl rfl (by kernel_rfl) (e_conv_bs (A := A32) (n := ((x1.getD ((x13).toNat) z65).text).length) (c := c33) (xs := (x1.getD ((x13).toNat) z65).text) Try.underlying59 Try.underlying5 Try.underlying9 (by kernel_rfl) rfl (Rd.bytesE S62.inv h35)) ?_
      refine lv (d := 53) rfl rfl (by kernel_rfl) (e_fieldAddr (b := g56) (off := 0) (o := 2) Try.underlying65 rfl rfl (sz := 1) (by kernel_rfl) (by decide) (by kernel_rfl)) ?_
      refine lv (d := 54) rfl rfl (by kernel_rfl) (e_load1 (ad := ⟨g56, 0 + 2, none⟩) (v := .slice A51 ((x6.getD ((x13).toNat) z65).text).length c52) Try.underlying59 rfl (by kernel_rfl) (blk_cell b61 rfl)) ?_
      refine lv (d := 55) rfl rfl (by kernel_rfl) (e_conv_bs (A := A51) (n := ((x6.getD ((x13).toNat) z65).text).length) (c := c52) (xs := (x6.getD ((x13).toNat) z65).text) Try.underlying59 Try.underlying5 Try.underlying9 (by kernel_rfl) rfl (Rd.bytesE S62.inv h54)) ?_
      refine lv (d := 56) rfl rfl (by kernel_rfl) (e_sneq (p := (x1.getD ((x13).toNat) z65).text) (q := (x6.getD ((x13).toNat) z65).text) (by kernel_rfl) (by kernel_rfl)) ?_
      refine wpList_nil ?_
      refine then_n ?_
      by_cases q78 : (x1.getD ((x13).toNat) z65).text ≠ (x6.getD ((x13).toNat) z65).text
      · replace M := ifp q78 M
        refine cond_t rfl (bt q78 (by kernel_rfl)) ?_
        refine wp_seq ?_
        refine wp_region_lit ?_
        refine lv (d := 57) rfl rfl (by kernel_rfl) (e_fieldAddr (b := g37) (off := 0) (o := 2) Try.underlying65 rfl rfl (sz := 1) (by kernel_rfl) (by decide) (by kernel_rfl)) ?_
        refine lv (d := 58) rfl rfl (by kernel_rfl) (e_load1 (ad := ⟨g37, 0 + 2, none⟩) (v := .slice A32 ((x1.getD ((x13).toNat) z65).text).length c33) Try.underlying59 rfl (by kernel_rfl) (blk_cell b42 rfl)) ?_
        refine lv (d := 59) rfl rfl (by kernel_rfl) (e_conv_bs (A := A32) (n := ((x1.getD ((x13).toNat) z65).text).length) (c := c33) (xs := (x1.getD ((x13).toNat) z65).text) Try.underlying59 Try.underlying5 Try.underlying9 (by kernel_rfl) rfl (Rd.bytesE S62.inv h35)) ?_
        refine lv (d := 60) rfl rfl (by kernel_rfl) (e_fieldAddr (b := g56) (off := 0) (o := 2) Try.underlying65 rfl rfl (sz := 1) (by kernel_rfl) (by decide) (by kernel_rfl)) ?_
        refine lv (d := 61) rfl rfl (by kernel_rfl) (e_load1 (ad := ⟨g56, 0 + 2, none⟩) (v := .slice A51 ((x6.getD ((x13).toNat) z65).text).length c52) Try.underlying59 rfl (by kernel_rfl) (blk_cell b61 rfl)) ?_
        refine lv (d := 62) rfl rfl (by kernel_rfl) (e_conv_bs (A := A51) (n := ((x6.getD ((x13).toNat) z65).text).length) (c := c52) (xs := (x6.getD ((x13).toNat) z65).text) Try.underlying59 Try.underlying5 Try.underlying9 (by kernel_rfl) rfl (Rd.bytesE S62.inv h54)) ?_
        refine lv (d := 63) rfl rfl (by kernel_rfl) (e_slss (p := (x1.getD ((x13).toNat) z65).text) (q := (x6.getD ((x13).toNat) z65).text) (by kernel_rfl) (by kernel_rfl)) ?_
        obtain ⟨t79, u80, M⟩ := bnd M
        refine lcall (d := 64) rfl rfl (by kernel_rfl) (e_call (l := [.tmp 63]) (vs := [.bool (Op.bytesLess ((x1.getD ((x13).toNat) z65).text) ((x6.getD ((x13).toNat) z65).text))]) Try.func105 (by kernel_rfl) rfl (by kernel_rfl) rfl) (spec_l2sign.calls w60 H (Op.bytesLess ((x1.getD ((x13).toNat) z65).text) ((x6.getD ((x13).toNat) z65).text))  S62.own0 t79 u80) ?_
        rintro _ w81 ⟨rfl, C82⟩
        refine ⟨_, rfl, ?_⟩
        obtain ⟨S83, K84⟩ := S62.still C82
        replace b61 := K84.blk 0 rfl b61
        replace b42 := K84.blk 1 rfl b42
        refine lv (d := 4) rfl rfl (by kernel_rfl) (e_assign (v := .int .i64 t79) (by kernel_rfl)) ?_
        refine wpList_nil ?_
        refine then_n ?_
        refine wp_ret ?_
        refine inb_r ?_
        refine then_r ?_
        refine then_r ?_
        refine inb_r ?_
        refine then_r ?_
        obtain rfl := Option.some.inj M
        exact ret1 rfl rfl  (show _ = .int .i64 t79 from (by kernel_rfl)) ⟨rfl, S83.chg⟩
      replace M := ifn q78 M
      refine cond_f rfl (bf q78 (by kernel_rfl)) ?_
      refine wp_skip ?_
      refine inb_n ?_
      refine then_n ?_
      refine wp_region_lit ?_
      refine lv (d := 18) rfl rfl (by kernel_rfl) (e_move (v := .int .i64 x13) (by exact e16)) ?_
      refine lv (d := 19) rfl rfl (by kernel_rfl) (e_add (k := .i64) (a := x13) (b := 1) (by kernel_rfl) rfl) ?_
      refine lv (d := 5) rfl rfl (by kernel_rfl) (e_assign (v := .int .i64 (IntKind.i64.wrap (x13 + 1))) (by kernel_rfl)) ?_
      refine wpList_nil ?_
      refine then_n ?_
      have S85 := St.first (Fa := []) (Fr := [(is g56), (is g37)]) S62
      exact ⟨k22, (by omega), _, (IntKind.i64.wrap (x13 + 1)), rfl, (by exact e14), (by exact e15), (by kernel_rfl), S85, M⟩
    replace M := ifn q24 M
    refine cond_f rfl (bf q24 (by kernel_rfl)) ?_
    refine wp_exit ?_
    refine then_e ?_
    refine then_e ?_
    refine inb_hit ?_
    refine then_n ?_
    refine wp_seq ?_
    refine wp_region_lit ?_
    refine lv (d := 4) rfl rfl (by kernel_rfl) (e_assign (v := .int .i64 0) rfl) ?_
    refine wpList_nil ?_
    refine then_n ?_
    refine wp_ret ?_
    obtain rfl := Option.some.inj M
    exact ret1 rfl rfl  (show _ = .int .i64 0 from (by kernel_rfl)) ⟨rfl, S17.chg⟩
  replace M := ifn q23 M
  refine lskip (t := 12) (c := false) rfl (by kernel_rfl) rfl (bf q23 (by kernel_rfl)) rfl rfl ?_
  refine lskip (t := 12) (c := false) rfl (by kernel_rfl) rfl (bf q23 (by kernel_rfl)) rfl rfl ?_
  refine lskip (t := 12) (c := false) rfl (by kernel_rfl) rfl (bf q23 (by kernel_rfl)) rfl rfl ?_
  refine lskip (t := 12) (c := false) rfl (by kernel_rfl) rfl (bf q23 (by kernel_rfl)) rfl rfl ?_
  refine lv (d := 17) rfl rfl (by kernel_rfl) (e_pick_f (v := .bool false) (bf q23 (by kernel_rfl)) rfl) ?_
  refine wpList_nil ?_
  refine then_n ?_
  refine cond_f rfl (by kernel_rfl) ?_
  refine wp_exit ?_
  refine then_e ?_
  refine then_e ?_
  refine inb_hit ?_
  refine then_n ?_
  refine wp_seq ?_
  refine wp_region_lit ?_
  refine lv (d := 4) rfl rfl (by kernel_rfl) (e_assign (v := .int .i64 0) rfl) ?_
  refine wpList_nil ?_
  refine then_n ?_
  refine wp_ret ?_
  obtain rfl := Option.some.inj M
  exact ret1 rfl rfl  (show _ = .int .i64 0 from (by kernel_rfl)) ⟨rfl, S17.chg⟩

/-! spec_Variant -/
def spec_Variant.f (k : Nat) (x1 : List Cell) (x6 : List Cell) : Option Bool := ((spec_ValidTerm.f k x1).bind fun t11 => (if ¬ (t11 = true) then some false else ((spec_ValidTerm.f k x6).bind fun t18 => (if ¬ (t18 = true) then some false else (if (x1.length : Int) ≠ (x6.length : Int) then some false else ((spec_Renumber.f k x1).bind fun t26 => ((spec_Renumber.f k x6).bind fun t38 => ((spec_l2compare.f k t26 t38).bind fun t50 => some (decide (t50 = 0))))))))))
theorem spec_Variant.calls (k : Nat) (w : World) (H : Hp) (x1 : List Cell) (A2 : Option Addr) (c3 : Nat) (x6 : List Cell) (A7 : Option Addr) (c8 : Nat) (h4 : Rd st65 H A2 x1) (l5 : x1.length ≤ c3) (h9 : Rd st65 H A7 x6) (l10 : x6.length ≤ c8) (S : Own [] H w) (r : Bool) (M : spec_Variant.f k x1 x6 = some r) :
    Calls Try.prog 32 #[.slice A2 x1.length c3, .slice A7 x6.length c8] w (fun e e_w => e = .returned (.bool r) ∧ Chg no w e_w) := by
  rw [spec_Variant.f] at M
  refine enter (l := [.slice A2 x1.length c3, .slice A7 x6.length c8]) 26 Try.func32 rfl rfl rfl ?_
  have S0_ := S.st
  refine wp_seq ?_
  refine wp_region_lit ?_
  refine lv (d := 4) rfl rfl (by kernel_rfl) (e_assign (v := .bool false) rfl) ?_
  refine wpList_nil ?_
  refine then_n ?_
  refine wp_seq ?_
  refine wp_seq ?_
  refine wp_region_lit ?_
  refine lv (d := 5) rfl rfl (by kernel_rfl) (e_move (v := .slice A2 x1.length c3) (by kernel_rfl)) ?_
  obtain ⟨t11, u12, M⟩ := bnd M
  refine lcall (d := 6) rfl rfl (by kernel_rfl) (e_call (l := [.tmp 5]) (vs := [.slice A2 x1.length c3]) Try.func15 (by kernel_rfl) rfl (by kernel_rfl) rfl) (spec_ValidTerm.calls k w H x1 A2 c3 h4 l5 S0_.own0 t11 u12) ?_
  rintro _ w13 ⟨rfl, C14⟩
  refine ⟨_, rfl, ?_⟩
  obtain ⟨S15, K16⟩ := S0_.still C14
  refine lv (d := 7) rfl rfl (by kernel_rfl) (e_notv (c := t11) (by kernel_rfl)) ?_
  refine lv (d := 8) rfl rfl (by kernel_rfl) (e_move (v := .bool (decide (¬ (t11 = true)))) (by kernel_rfl)) ?_
  by_cases q17 : ¬ (t11 = true)
  · replace M := ifp q17 M
    refine lskip (t := 8) (c := true) rfl (by kernel_rfl) rfl (bt q17 (by kernel_rfl)) rfl rfl ?_
    refine lskip (t := 8) (c := true) rfl (by kernel_rfl) rfl (bt q17 (by kernel_rfl)) rfl rfl ?_
    refine lskip (t := 8) (c := true) rfl (by kernel_rfl) rfl (bt q17 (by kernel_rfl)) rfl rfl ?_
    refine lv (d := 12) rfl rfl (by kernel_rfl) (e_pick_t (v := .bool true) (bt q17 (by kernel_rfl)) rfl) ?_
    refine lv (d := 13) rfl rfl (by kernel_rfl) (e_move (v := .bool true) (by kernel_rfl)) ?_
    refine lskip (t := 13) (c := true) rfl (by kernel_rfl) rfl (by kernel_rfl) rfl rfl ?_
    refine lskip (t := 13) (c := true) rfl (by kernel_rfl) rfl (by kernel_rfl) rfl rfl ?_
    refine lskip (t := 13) (c := true) rfl (by kernel_rfl) rfl (by kernel_rfl) rfl rfl ?_
    refine lskip (t := 13) (c := true) rfl (by kernel_rfl) rfl (by kernel_rfl) rfl rfl ?_
    refine lskip (t := 13) (c := true) rfl (by kernel_rfl) rfl (by kernel_rfl) rfl rfl ?_
    refine lv (d := 19) rfl rfl (by kernel_rfl) (e_pick_t (v := .bool true) (by kernel_rfl) rfl) ?_
    refine wpList_nil ?_
    refine then_n ?_
    refine cond_t rfl (by kernel_rfl) ?_
    refine wp_seq ?_
    refine wp_region_lit ?_
    refine lv (d := 4) rfl rfl (by kernel_rfl) (e_assign (v := .bool false) rfl) ?_
    refine wpList_nil ?_
    refine then_n ?_
    refine wp_ret ?_
    refine then_r ?_
    obtain rfl := Option.some.inj M
    exact ret1 rfl rfl  (show _ = .bool false from (by kernel_rfl)) ⟨rfl, S15.chg⟩
  replace M := ifn q17 M
  refine lvg (d := 9) (t := 8) rfl (by kernel_rfl) rfl (bf q17 (by kernel_rfl)) rfl (by kernel_rfl) (e_move (v := .slice A7 x6.length c8) (by kernel_rfl)) ?_
  obtain ⟨t18, u19, M⟩ := bnd M
  refine lcallg (d := 10) (t := 8) rfl (by kernel_rfl) rfl (bf q17 (by kernel_rfl)) rfl (by kernel_rfl) (e_call (l := [.tmp 9]) (vs := [.slice A7 x6.length c8]) Try.func15 (by kernel_rfl) rfl (by kernel_rfl) rfl) (spec_ValidTerm.calls k w13 H x6 A7 c8 h9 l10 S15.own0 t18 u19) ?_
  rintro _ w20 ⟨rfl, C21⟩
  refine ⟨_, rfl, ?_⟩
  obtain ⟨S22, K23⟩ := S15.still C21
  refine lvg (d := 11) (t := 8) rfl (by kernel_rfl) rfl (bf q17 (by kernel_rfl)) rfl (by kernel_rfl) (e_notv (c := t18) (by kernel_rfl)) ?_
  refine lv (d := 12) rfl rfl (by kernel_rfl) (e_pick_f (v := .bool (decide (¬ (t18 = true)))) (bf q17 (by kernel_rfl)) (by kernel_rfl)) ?_
  refine lv (d := 13) rfl rfl (by kernel_rfl) (e_move (v := .bool (decide (¬ (t18 = true)))) (by kernel_rfl)) ?_
  by_cases q24 : ¬ (t18 = true)
  · replace M := ifp q24 M
    refine lskip (t := 13) (c := true) rfl (by kernel_rfl) rfl (bt q24 (by kernel_rfl)) rfl rfl ?_
    refine lskip (t := 13) (c := true) rfl (by kernel_rfl) rfl (bt q24 (by kernel_rfl)) rfl rfl ?_
    refine lskip (t := 13) (c := true) rfl (by kernel_rfl) rfl (bt q24 (by kernel_rfl)) rfl rfl ?_
    refine lskip (t := 13) (c := true) rfl (by kernel_rfl) rfl (bt q24 (by kernel_rfl)) rfl rfl ?_
    refine lskip (t := 13) (c := true) rfl (by kernel_rfl) rfl (bt q24 (by kernel_rfl)) rfl rfl ?_
    refine lv (d := 19) rfl rfl (by kernel_rfl) (e_pick_t (v := .bool true) (bt q24 (by kernel_rfl)) rfl) ?_
    refine wpList_nil ?_
    refine then_n ?_
    refine cond_t rfl (by kernel_rfl) ?_
    refine wp_seq ?_
    refine wp_region_lit ?_
    refine lv (d := 4) rfl rfl (by kernel_rfl) (e_assign (v := .bool false) rfl) ?_
    refine wpList_nil ?_
    refine then_n ?_
    refine wp_ret ?_
    refine then_r ?_
    obtain rfl := Option.some.inj M
    exact ret1 rfl rfl  (show _ = .bool false from (by kernel_rfl)) ⟨rfl, S22.chg⟩
  replace M := ifn q24 M
  refine lvg (d := 14) (t := 13) rfl (by kernel_rfl) rfl (bf q24 (by kernel_rfl)) rfl (by kernel_rfl) (e_move (v := .slice A2 x1.length c3) (by kernel_rfl)) ?_
  refine lvg (d := 15) (t := 13) rfl (by kernel_rfl) rfl (bf q24 (by kernel_rfl)) rfl (by kernel_rfl) (e_len (A := A2) (n := x1.length) (c := c3) Try.underlying25 (by kernel_rfl)) ?_
  refine lvg (d := 16) (t := 13) rfl (by kernel_rfl) rfl (bf q24 (by kernel_rfl)) rfl (by kernel_rfl) (e_move (v := .slice A7 x6.length c8) (by kernel_rfl)) ?_
  refine lvg (d := 17) (t := 13) rfl (by kernel_rfl) rfl (bf q24 (by kernel_rfl)) rfl (by kernel_rfl) (e_len (A := A7) (n := x6.length) (c := c8) Try.underlying25 (by kernel_rfl)) ?_
  refine lvg (d := 18) (t := 13) rfl (by kernel_rfl) rfl (bf q24 (by kernel_rfl)) rfl (by kernel_rfl) (e_neq (k := .i64) (a := (x1.length : Int)) (b := (x6.length : Int)) (by kernel_rfl) (by kernel_rfl)) ?_
  refine lv (d := 19) rfl rfl (by kernel_rfl) (e_pick_f (v := .bool (decide ((x1.length : Int) ≠ (x6.length : Int)))) (bf q24 (by kernel_rfl)) (by kernel_rfl)) ?_
  refine wpList_nil ?_
  refine then_n ?_
  by_cases q25 : (x1.length : Int) ≠ (x6.length : Int)
  · replace M := ifp q25 M
    refine cond_t rfl (bt q25 (by kernel_rfl)) ?_
    refine wp_seq ?_
    refine wp_region_lit ?_
    refine lv (d := 4) rfl rfl (by kernel_rfl) (e_assign (v := .bool false) rfl) ?_
    refine wpList_nil ?_
    refine then_n ?_
    refine wp_ret ?_
    refine then_r ?_
    obtain rfl := Option.some.inj M
    exact ret1 rfl rfl  (show _ = .bool false from (by kernel_rfl)) ⟨rfl, S22.chg⟩
  replace M := ifn q25 M
  refine cond_f rfl (bf q25 (by kernel_rfl)) ?_
  refine wp_skip ?_
  refine then_n ?_
  refine wp_seq ?_
  refine wp_region_lit ?_
  refine lv (d := 20) rfl rfl (by kernel_rfl) (e_move (v := .slice A2 x1.length c3) (by kernel_rfl)) ?_
  obtain ⟨t26, u27, M⟩ := bnd M
  refine lcall (d := 21) rfl rfl (by kernel_rfl) (e_call (l := [.tmp 20]) (vs := [.slice A2 x1.length c3]) Try.func27 (by kernel_rfl) rfl (by kernel_rfl) rfl) (spec_Renumber.calls k w20 H x1 A2 c3 h4 l5 (St.own' (Fa := []) (Fr := []) S22) t26 u27) ?_
  rintro _ w28 ⟨A31, c32, F34, H29, rfl, h33, T30⟩
  refine ⟨_, rfl, ?_⟩
  obtain ⟨S35, K36⟩ := St.call (Fa := []) (Fr := []) S22 T30
  have E37 := T30.ext
  refine lv (d := 22) rfl rfl (by kernel_rfl) (e_move (v := .slice A7 x6.length c8) (by kernel_rfl)) ?_
  obtain ⟨t38, u39, M⟩ := bnd M
  refine lcall (d := 23) rfl rfl (by kernel_rfl) (e_call (l := [.tmp 22]) (vs := [.slice A7 x6.length c8]) Try.func27 (by kernel_rfl) rfl (by kernel_rfl) rfl) (spec_Renumber.calls k w28 H29 x6 A7 c8 (h9.ext E37) l10 (St.own' (Fa := []) (Fr := [F34]) S35) t38 u39) ?_
  rintro _ w40 ⟨A43, c44, F46, H41, rfl, h45, T42⟩
  refine ⟨_, rfl, ?_⟩
  obtain ⟨S47, K48⟩ := St.call (Fa := []) (Fr := [F34]) S35 T42
  replace h33 := h33.move (K48.at 0 rfl)
  have E49 := T42.ext
  replace h33 := h33.ext E49
  obtain ⟨t50, u51, M⟩ := bnd M
  refine lcall (d := 24) rfl rfl (by kernel_rfl) (e_call (l := [.tmp 21, .tmp 23]) (vs := [.slice A31 t26.length c32, .slice A43 t38.length c44]) Try.func60 (by kernel_rfl) rfl (by kernel_rfl) rfl) (by have l52 := h33.le; have S53 := S47.pull (F := F34) (Fr := [F46]) 1 rfl rfl; obtain ⟨H54, S55, E56, h57, z58⟩ := S53.frzRow h33; replace h45 := h45.ext E56; have l59 := h45.le; obtain ⟨H60, S61, E62, h63, z64⟩ := S55.frzRow h45; exact (spec_l2compare.calls k w40 H60 t26 A31 c32 t38 A43 c44 (h57.ext E62) l52 h63 l59 S61.own0 t50 u51)) ?_
  rintro _ w65 ⟨rfl, C66⟩
  refine ⟨_, rfl, ?_⟩
  obtain ⟨S67, K68⟩ := S47.still C66
  replace h45 := h45.move (K68.at 0 rfl)
  replace h33 := h33.move (K68.at 1 rfl)
  refine lv (d := 25) rfl rfl (by kernel_rfl) (e_eql (k := .i64) (a := t50) (b := 0) (by kernel_rfl) rfl) ?_
  refine lv (d := 4) rfl rfl (by kernel_rfl) (e_assign (v := .bool (decide (t50 = 0))) (by kernel_rfl)) ?_
  refine wpList_nil ?_
  refine then_n ?_
  refine wp_ret ?_
  obtain rfl := Option.some.inj M
  exact ret1 rfl rfl  (show _ = .bool (decide (t50 = 0)) from (by kernel_rfl)) ⟨rfl, S67.chg⟩

/-! impl_cellOk -/
def impl_cellOk.f (x1 : Cell) : Option Bool := (if x1.kind = 0 then (if x1.n ≥ 0 then (if x1.n ≤ 1000000 then some (decide ((x1.text.length : Int) = 0)) else some false) else some false) else (if x1.kind = 1 then (if x1.n ≥ (-1000000000000000) then (if x1.n ≤ 1000000000000000 then some (decide ((x1.text.length : Int) = 0)) else some false) else some false) else (if x1.kind = 2 then (if x1.n = 0 then some (decide ((x1.text.length : Int) ≤ 100)) else some false) else (if x1.kind = 3 then (if x1.n ≥ 1 then (if x1.n ≤ 20 then some (decide ((x1.text.length : Int) ≤ 100)) else some false) else some false) else some false))))
theorem impl_cellOk.calls (w : World) (H : Hp) (x1 : Cell) (A2 : Option Addr) (c3 : Nat) (h4 : Rd tByte H A2 x1.text) (l5 : x1.text.length ≤ c3) (S : Own [] H w) (r : Bool) (M : impl_cellOk.f x1 = some r) :
    Calls Try.prog 58 #[.agg #[.int .i64 x1.kind, .int .i64 x1.n, .slice A2 x1.text.length c3]] w (fun e e_w => e = .returned (.bool r) ∧ Chg no w e_w) := by
  rw [impl_cellOk.f] at M
  refine enter (l := [.agg #[.int .i64 x1.kind, .int .i64 x1.n, .slice A2 x1.text.length c3]]) 64 Try.func58 rfl rfl rfl ?_
  have S0_ := S.st
  refine wp_seq ?_
  refine wp_region_lit ?_
  refine lve (d := 1) rfl rfl (by kernel_rfl) (new_blk (v := fun g_ => .pointer (some ⟨g_, 0, none⟩)) (cs := #[.int .i64 x1.kind, .int .i64 x1.n, .slice A2 x1.text.length c3]) (t := 65) S0_ (by kernel_rfl)) ?_
  rintro _ w6 ⟨g7, rfl, b8, S9, K10⟩
  refine lv (d := 2) rfl rfl (by kernel_rfl) (e_assign (v := .bool false) rfl) ?_
  refine wpList_nil ?_
  refine then_n ?_
  refine wp_seq ?_
  refine wp_seq ?_
  refine wp_region_lit ?_
  refine lv (d := 3) rfl rfl (by kernel_rfl) (e_fieldAddr (b := g7) (off := 0) (o := 0) Try.underlying65 rfl rfl (sz := 1) (by kernel_rfl) (by decide) (by kernel_rfl)) ?_
  refine lv (d := 4) rfl rfl (by kernel_rfl) (e_load1 (ad := ⟨g7, 0 + 0, none⟩) (v := .int .i64 x1.kind) Try.underlying3 rfl (by kernel_rfl) (blk_cell b8 rfl)) ?_
  refine wpList_nil ?_
  refine then_n ?_
  refine wp_block ?_
  refine wp_seq ?_
  refine wp_region_lit ?_
  refine lv (d := 6) rfl rfl (by kernel_rfl) (e_eql (k := .i64) (a := x1.kind) (b := 0) (by kernel_rfl) rfl) ?_
  refine lv (d := 5) rfl rfl (by kernel_rfl) (e_assign (v := .bool (decide (x1.kind = 0))) (by kernel_rfl)) ?_
  refine wpList_nil ?_
  refine then_n ?_
  by_cases q11 : x1.kind = 0
  · replace M := ifp q11 M
    refine cond_t rfl (bt q11 (by kernel_rfl)) ?_
    refine wp_seq ?_
    refine wp_region_lit ?_
    refine lv (d := 7) rfl rfl (by kernel_rfl) (e_fieldAddr (b := g7) (off := 0) (o := 1) Try.underlying65 rfl rfl (sz := 1) (by kernel_rfl) (by decide) (by kernel_rfl)) ?_
    refine lv (d := 8) rfl rfl (by kernel_rfl) (e_load1 (ad := ⟨g7, 0 + 1, none⟩) (v := .int .i64 x1.n) Try.underlying3 rfl (by kernel_rfl) (blk_cell b8 rfl)) ?_
    refine lv (d := 9) rfl rfl (by kernel_rfl) (e_geq (k := .i64) (a := x1.n) (b := 0) (by kernel_rfl) rfl) ?_
    refine lv (d := 10) rfl rfl (by kernel_rfl) (e_move (v := .bool (decide (x1.n ≥ 0))) (by kernel_rfl)) ?_
    by_cases q12 : x1.n ≥ 0
    · replace M := ifp q12 M
      refine lvg (d := 11) (t := 10) rfl (by kernel_rfl) rfl (bt q12 (by kernel_rfl)) rfl (by kernel_rfl) (e_fieldAddr (b := g7) (off := 0) (o := 1) Try.underlying65 rfl rfl (sz := 1) (by kernel_rfl) (by decide) (by kernel_rfl)) ?_
      refine lvg (d := 12) (t := 10) rfl (by kernel_rfl) rfl (bt q12 (by kernel_rfl)) rfl (by kernel_rfl) (e_load1 (ad := ⟨g7, 0 + 1, none⟩) (v := .int .i64 x1.n) Try.underlying3 rfl (by kernel_rfl) (blk_cell b8 rfl)) ?_
      refine lvg (d := 13) (t := 10) rfl (by kernel_rfl) rfl (bt q12 (by kernel_rfl)) rfl (by kernel_rfl) (e_leq (k := .i64) (a := x1.n) (b := 1000000) (by kernel_rfl) rfl) ?_
      refine lv (d := 14) rfl rfl (by kernel_rfl) (e_pick_t (v := .bool (decide (x1.n ≤ 1000000))) (bt q12 (by kernel_rfl)) (by kernel_rfl)) ?_
      refine lv (d := 15) rfl rfl (by kernel_rfl) (e_move (v := .bool (decide (x1.n ≤ 1000000))) (by kernel_rfl)) ?_
      by_cases q13 : x1.n ≤ 1000000
      · replace M := ifp q13 M
        refine lvg (d := 16) (t := 15) rfl (by kernel_rfl) rfl (bt q13 (by kernel_rfl)) rfl (by kernel_rfl) (e_fieldAddr (b := g7) (off := 0) (o := 2) Try.underlying65 rfl rfl (sz := 1) (by kernel_rfl) (by decide) (by kernel_rfl)) ?_
        refine lvg (d := 17) (t := 15) rfl (by kernel_rfl) rfl (bt q13 (by kernel_rfl)) rfl (by kernel_rfl) (e_load1 (ad := ⟨g7, 0 + 2, none⟩) (v := .slice A2 x1.text.length c3) Try.underlying59 rfl (by kernel_rfl) (blk_cell b8 rfl)) ?_
        refine lvg (d := 18) (t := 15) rfl (by kernel_rfl) rfl (bt q13 (by kernel_rfl)) rfl (by kernel_rfl) (e_len (A := A2) (n := x1.text.length) (c := c3) Try.underlying59 (by kernel_rfl)) ?_
        refine lvg (d := 19) (t := 15) rfl (by kernel_rfl) rfl (bt q13 (by kernel_rfl)) rfl (by kernel_rfl) (e_eql (k := .i64) (a := (x1.text.length : Int)) (b := 0) (by kernel_rfl) rfl) ?_
        refine lv (d := 20) rfl rfl (by kernel_rfl) (e_pick_t (v := .bool (decide ((x1.text.length : Int) = 0))) (bt q13 (by kernel_rfl)) (by kernel_rfl)) ?_
        refine lv (d := 2) rfl rfl (by kernel_rfl) (e_assign (v := .bool (decide ((x1.text.length : Int) = 0))) (by kernel_rfl)) ?_
        refine wpList_nil ?_
        refine then_n ?_
        refine wp_ret ?_
        refine inb_r ?_
        refine then_r ?_
        obtain rfl := Option.some.inj M
        exact ret1 rfl rfl  (show _ = .bool (decide ((x1.text.length : Int) = 0)) from (by kernel_rfl)) ⟨rfl, S9.chg⟩
      replace M := ifn q13 M
      refine lskip (t := 15) (c := false) rfl (by kernel_rfl) rfl (bf q13 (by kernel_rfl)) rfl rfl ?_
      refine lskip (t := 15) (c := false) rfl (by kernel_rfl) rfl (bf q13 (by kernel_rfl)) rfl rfl ?_
      refine lskip (t := 15) (c := false) rfl (by kernel_rfl) rfl (bf q13 (by kernel_rfl)) rfl rfl ?_
      refine lskip (t := 15) (c := false) rfl (by kernel_rfl) rfl (bf q13 (by kernel_rfl)) rfl rfl ?_
      refine lv (d := 20) rfl rfl (by kernel_rfl) (e_pick_f (v := .bool false) (bf q13 (by kernel_rfl)) rfl) ?_
      refine lv (d := 2) rfl rfl (by kernel_rfl) (e_assign (v := .bool false) (by kernel_rfl)) ?_
      refine wpList_nil ?_
      refine then_n ?_
      refine wp_ret ?_
      refine inb_r ?_
      refine then_r ?_
      obtain rfl := Option.some.inj M
      exact ret1 rfl rfl  (show _ = .bool false from (by kernel_rfl)) ⟨rfl, S9.chg⟩
    replace M := ifn q12 M
    refine lskip (t := 10) (c := false) rfl (by kernel_rfl) rfl (bf q12 (by kernel_rfl)) rfl rfl ?_
    refine lskip (t := 10) (c := false) rfl (by kernel_rfl) rfl (bf q12 (by kernel_rfl)) rfl rfl ?_
    refine lskip (t := 10) (c := false) rfl (by kernel_rfl) rfl (bf q12 (by kernel_rfl)) rfl rfl ?_
    refine lv (d := 14) rfl rfl (by kernel_rfl) (e_pick_f (v := .bool false) (bf q12 (by kernel_rfl)) rfl) ?_
    refine lv (d := 15) rfl rfl (by kernel_rfl) (e_move (v := .bool false) (by kernel_rfl)) ?_
    refine lskip (t := 15) (c := false) rfl (by kernel_rfl) rfl (by kernel_rfl) rfl rfl ?_
    refine lskip (t := 15) (c := false) rfl (by kernel_rfl) rfl (by kernel_rfl) rfl rfl ?_
    refine lskip (t := 15) (c := false) rfl (by kernel_rfl) rfl (by kernel_rfl) rfl rfl ?_
    refine lskip (t := 15) (c := false) rfl (by kernel_rfl) rfl (by kernel_rfl) rfl rfl ?_
    refine lv (d := 20) rfl rfl (by kernel_rfl) (e_pick_f (v := .bool false) (by kernel_rfl) rfl) ?_
    refine lv (d := 2) rfl rfl (by kernel_rfl) (e_assign (v := .bool false) (by kernel_rfl)) ?_
    refine wpList_nil ?_
    refine then_n ?_
    refine wp_ret ?_
    refine inb_r ?_
    refine then_r ?_
    obtain rfl := Option.some.inj M
    exact ret1 rfl rfl  (show _ = .bool false from (by kernel_rfl)) ⟨rfl, S9.chg⟩
  replace M := ifn q11 M
  refine cond_f rfl (bf q11 (by kernel_rfl)) ?_
  refine wp_seq ?_
  refine wp_region_lit ?_
  refine lv (d := 22) rfl rfl (by kernel_rfl) (e_eql (k := .i64) (a := x1.kind) (b := 1) (by kernel_rfl) rfl) ?_
  refine lv (d := 21) rfl rfl (by kernel_rfl) (e_assign (v := .bool (decide (x1.kind = 1))) (by kernel_rfl)) ?_
  refine wpList_nil ?_
  refine then_n ?_
  by_cases q14 : x1.kind = 1
  · replace M := ifp q14 M
    refine cond_t rfl (bt q14 (by kernel_rfl)) ?_
    refine wp_seq ?_
    refine wp_region_lit ?_
    refine lv (d := 23) rfl rfl (by kernel_rfl) (e_fieldAddr (b := g7) (off := 0) (o := 1) Try.underlying65 rfl rfl (sz := 1) (by kernel_rfl) (by decide) (by kernel_rfl)) ?_
    refine lv (d := 24) rfl rfl (by kernel_rfl) (e_load1 (ad := ⟨g7, 0 + 1, none⟩) (v := .int .i64 x1.n) Try.underlying3 rfl (by kernel_rfl) (blk_cell b8 rfl)) ?_
    refine lv (d := 25) rfl rfl (by kernel_rfl) (e_geq (k := .i64) (a := x1.n) (b := (-1000000000000000)) (by kernel_rfl) rfl) ?_
    refine lv (d := 26) rfl rfl (by kernel_rfl) (e_move (v := .bool (decide (x1.n ≥ (-1000000000000000)))) (by kernel_rfl)) ?_
    by_cases q15 : x1.n ≥ (-1000000000000000)
    · replace M := ifp q15 M
      refine lvg (d := 27) (t := 26) rfl (by kernel_rfl) rfl (bt q15 (by kernel_rfl)) rfl (by kernel_rfl) (e_fieldAddr (b := g7) (off := 0) (o := 1) Try.underlying65 rfl rfl (sz := 1) (by kernel_rfl) (by decide) (by kernel_rfl)) ?_
      refine lvg (d := 28) (t := 26) rfl (by kernel_rfl) rfl (bt q15 (by kernel_rfl)) rfl (by kernel_rfl) (e_load1 (ad := ⟨g7, 0 + 1, none⟩) (v := .int .i64 x1.n) Try.underlying3 rfl (by kernel_rfl) (blk_cell b8 rfl)) ?_
      refine lvg (d := 29) (t := 26) rfl (by kernel_rfl) rfl (bt q15 (by kernel_rfl)) rfl (by kernel_rfl) (e_leq (k := .i64) (a := x1.n) (b := 1000000000000000) (by kernel_rfl) rfl) ?_
      refine lv (d := 30) rfl rfl (by kernel_rfl) (e_pick_t (v := .bool (decide (x1.n ≤ 1000000000000000))) (bt q15 (by kernel_rfl)) (by kernel_rfl)) ?_
      refine lv (d := 31) rfl rfl (by kernel_rfl) (e_move (v := .bool (decide (x1.n ≤ 1000000000000000))) (by kernel_rfl)) ?_
      by_cases q16 : x1.n ≤ 1000000000000000
      · replace M := ifp q16 M
        refine lvg (d := 32) (t := 31) rfl (by kernel_rfl) rfl (bt q16 (by kernel_rfl)) rfl (by kernel_rfl) (e_fieldAddr (b := g7) (off := 0) (o := 2) Try.underlying65 rfl rfl (sz := 1) (by kernel_rfl) (by decide) (by kernel_rfl)) ?_
        refine lvg (d := 33) (t := 31) rfl (by kernel_rfl) rfl (bt q16 (by kernel_rfl)) rfl (by kernel_rfl) (e_load1 (ad := ⟨g7, 0 + 2, none⟩) (v := .slice A2 x1.text.length c3) Try.underlying59 rfl (by kernel_rfl) (blk_cell b8 rfl)) ?_
        refine lvg (d := 34) (t := 31) rfl (by kernel_rfl) rfl (bt q16 (by kernel_rfl)) rfl (by kernel_rfl) (e_len (A := A2) (n := x1.text.length) (c := c3) Try.underlying59 (by kernel_rfl)) ?_
        refine lvg (d := 35) (t := 31) rfl (by kernel_rfl) rfl (bt q16 (by kernel_rfl)) rfl (by kernel_rfl) (e_eql (k := .i64) (a := (x1.text.length : Int)) (b := 0) (by kernel_rfl) rfl) ?_
        refine lv (d := 36) rfl rfl (by kernel_rfl) (e_pick_t (v := .bool (decide ((x1.text.length : Int) = 0))) (bt q16 (by kernel_rfl)) (by kernel_rfl)) ?_
        refine lv (d := 2) rfl rfl (by kernel_rfl) (e_assign (v := .bool (decide ((x1.text.length : Int) = 0))) (by kernel_rfl)) ?_
        refine wpList_nil ?_
        refine then_n ?_
        refine wp_ret ?_
        refine inb_r ?_
        refine then_r ?_
        obtain rfl := Option.some.inj M
        exact ret1 rfl rfl  (show _ = .bool (decide ((x1.text.length : Int) = 0)) from (by kernel_rfl)) ⟨rfl, S9.chg⟩
      replace M := ifn q16 M
      refine lskip (t := 31) (c := false) rfl (by kernel_rfl) rfl (bf q16 (by kernel_rfl)) rfl rfl ?_
      refine lskip (t := 31) (c := false) rfl (by kernel_rfl) rfl (bf q16 (by kernel_rfl)) rfl rfl ?_
      refine lskip (t := 31) (c := false) rfl (by kernel_rfl) rfl (bf q16 (by kernel_rfl)) rfl rfl ?_
      refine lskip (t := 31) (c := false) rfl (by kernel_rfl) rfl (bf q16 (by kernel_rfl)) rfl rfl ?_
      refine lv (d := 36) rfl rfl (by kernel_rfl) (e_pick_f (v := .bool false) (bf q16 (by kernel_rfl)) rfl) ?_
      refine lv (d := 2) rfl rfl (by kernel_rfl) (e_assign (v := .bool false) (by kernel_rfl)) ?_
      refine wpList_nil ?_
      refine then_n ?_
      refine wp_ret ?_
      refine inb_r ?_
      refine then_r ?_
      obtain rfl := Option.some.inj M
      exact ret1 rfl rfl  (show _ = .bool false from (by kernel_rfl)) ⟨rfl, S9.chg⟩
    replace M := ifn q15 M
    refine lskip (t := 26) (c := false) rfl (by kernel_rfl) rfl (bf q15 (by kernel_rfl)) rfl rfl ?_
    refine lskip (t := 26) (c := false) rfl (by kernel_rfl) rfl (bf q15 (by kernel_rfl)) rfl rfl ?_
    refine lskip (t := 26) (c := false) rfl (by kernel_rfl) rfl (bf q15 (by kernel_rfl)) rfl rfl ?_
    refine lv (d := 30) rfl rfl (by kernel_rfl) (e_pick_f (v := .bool false) (bf q15 (by kernel_rfl)) rfl) ?_
    refine lv (d := 31) rfl rfl (by kernel_rfl) (e_move (v := .bool false) (by kernel_rfl)) ?_
    refine lskip (t := 31) (c := false) rfl (by kernel_rfl) rfl (by kernel_rfl) rfl rfl ?_
    refine lskip (t := 31) (c := false) rfl (by kernel_rfl) rfl (by kernel_rfl) rfl rfl ?_
    refine lskip (t := 31) (c := false) rfl (by kernel_rfl) rfl (by kernel_rfl) rfl rfl ?_
    refine lskip (t := 31) (c := false) rfl (by kernel_rfl) rfl (by kernel_rfl) rfl rfl ?_
    refine lv (d := 36) rfl rfl (by kernel_rfl) (e_pick_f (v := .bool false) (by kernel_rfl) rfl) ?_
    refine lv (d := 2) rfl rfl (by kernel_rfl) (e_assign (v := .bool false) (by kernel_rfl)) ?_
    refine wpList_nil ?_
    refine then_n ?_
    refine wp_ret ?_
    refine inb_r ?_
    refine then_r ?_
    obtain rfl := Option.some.inj M
    exact ret1 rfl rfl  (show _ = .bool false from (by kernel_rfl)) ⟨rfl, S9.chg⟩
  replace M := ifn q14 M
  refine cond_f rfl (bf q14 (by kernel_rfl)) ?_
  refine wp_seq ?_
  refine wp_region_lit ?_
  refine lv (d := 38) rfl rfl (by kernel_rfl) (e_eql (k := .i64) (a := x1.kind) (b := 2) (by kernel_rfl) rfl) ?_
  refine lv (d := 37) rfl rfl (by kernel_rfl) (e_assign (v := .bool (decide (x1.kind = 2))) (by kernel_rfl)) ?_
  refine wpList_nil ?_
  refine then_n ?_
  by_cases q17 : x1.kind = 2
  · replace M := ifp q17 M
    refine cond_t rfl (bt q17 (by kernel_rfl)) ?_
    refine wp_seq ?_
    refine wp_region_lit ?_
    refine lv (d := 39) rfl rfl (by kernel_rfl) (e_fieldAddr (b := g7) (off := 0) (o := 1) Try.underlying65 rfl rfl (sz := 1) (by kernel_rfl) (by decide) (by kernel_rfl)) ?_
    refine lv (d := 40) rfl rfl (by kernel_rfl) (e_load1 (ad := ⟨g7, 0 + 1, none⟩) (v := .int .i64 x1.n) Try.underlying3 rfl (by kernel_rfl) (blk_cell b8 rfl)) ?_
    refine lv (d := 41) rfl rfl (by kernel_rfl) (e_eql (k := .i64) (a := x1.n) (b := 0) (by kernel_rfl) rfl) ?_
    refine lv (d := 42) rfl rfl (by kernel_rfl) (e_move (v := .bool (decide (x1.n = 0))) (by kernel_rfl)) ?_
    by_cases q18 : x1.n = 0
    · replace M := ifp q18 M
      refine lvg (d := 43) (t := 42) rfl (by kernel_rfl) rfl (bt q18 (by kernel_rfl)) rfl (by kernel_rfl) (e_fieldAddr (b := g7) (off := 0) (o := 2) Try.underlying65 rfl rfl (sz := 1) (by kernel_rfl) (by decide) (by kernel_rfl)) ?_
      refine lvg (d := 44) (t := 42) rfl (by kernel_rfl) rfl (bt q18 (by kernel_rfl)) rfl (by kernel_rfl) (e_load1 (ad := ⟨g7, 0 + 2, none⟩) (v := .slice A2 x1.text.length c3) Try.underlying59 rfl (by kernel_rfl) (blk_cell b8 rfl)) ?_
      refine lvg (d := 45) (t := 42) rfl (by kernel_rfl) rfl (bt q18 (by kernel_rfl)) rfl (by kernel_rfl) (e_len (A := A2) (n := x1.text.length) (c := c3) Try.underlying59 (by kernel_rfl)) ?_
      refine lvg (d := 46) (t := 42) rfl (by kernel_rfl) rfl (bt q18 (by kernel_rfl)) rfl (by kernel_rfl) (e_leq (k := .i64) (a := (x1.text.length : Int)) (b := 100) (by kernel_rfl) rfl) ?_
      refine lv (d := 47) rfl rfl (by kernel_rfl) (e_pick_t (v := .bool (decide ((x1.text.length : Int) ≤ 100))) (bt q18 (by kernel_rfl)) (by kernel_rfl)) ?_
      refine lv (d := 2) rfl rfl (by kernel_rfl) (e_assign (v := .bool (decide ((x1.text.length : Int) ≤ 100))) (by kernel_rfl)) ?_
      refine wpList_nil ?_
      refine then_n ?_
      refine wp_ret ?_
      refine inb_r ?_
      refine then_r ?_
      obtain rfl := Option.some.inj M
      exact ret1 rfl rfl  (show _ = .bool (decide ((x1.text.length : Int) ≤ 100)) from (by kernel_rfl)) ⟨rfl, S9.chg⟩
    replace M := ifn q18 M
    refine lskip (t := 42) (c := false) rfl (by kernel_rfl) rfl (bf q18 (by kernel_rfl)) rfl rfl ?_
    refine lskip (t := 42) (c := false) rfl (by kernel_rfl) rfl (bf q18 (by kernel_rfl)) rfl rfl ?_
    refine lskip (t := 42) (c := false) rfl (by kernel_rfl) rfl (bf q18 (by kernel_rfl)) rfl rfl ?_
    refine lskip (t := 42) (c := false) rfl (by kernel_rfl) rfl (bf q18 (by kernel_rfl)) rfl rfl ?_
    refine lv (d := 47) rfl rfl (by kernel_rfl) (e_pick_f (v := .bool false) (bf q18 (by kernel_rfl)) rfl) ?_
    refine lv (d := 2) rfl rfl (by kernel_rfl) (e_assign (v := .bool false) (by kernel_rfl)) ?_
    refine wpList_nil ?_
    refine then_n ?_
    refine wp_ret ?_
    refine inb_r ?_
    refine then_r ?_
    obtain rfl := Option.some.inj M
    exact ret1 rfl rfl  (show _ = .bool false from (by kernel_rfl)) ⟨rfl, S9.chg⟩
  replace M := ifn q17 M
  refine cond_f rfl (bf q17 (by kernel_rfl)) ?_
  refine wp_seq ?_
  refine wp_region_lit ?_
  refine lv (d := 49) rfl rfl (by kernel_rfl) (e_eql (k := .i64) (a := x1.kind) (b := 3) (by kernel_rfl) rfl) ?_
  refine lv (d := 48) rfl rfl (by kernel_rfl) (e_assign (v := .bool (decide (x1.kind = 3))) (by kernel_rfl)) ?_
  refine wpList_nil ?_
  refine then_n ?_
  by_cases q19 : x1.kind = 3
  · replace M := ifp q19 M
    refine cond_t rfl (bt q19 (by kernel_rfl)) ?_
    refine wp_seq ?_
    refine wp_region_lit ?_
    refine lv (d := 50) rfl rfl (by kernel_rfl) (e_fieldAddr (b := g7) (off := 0) (o := 1) Try.underlying65 rfl rfl (sz := 1) (by kernel_rfl) (by decide) (by kernel_rfl)) ?_
    refine lv (d := 51) rfl rfl (by kernel_rfl) (e_load1 (ad := ⟨g7, 0 + 1, none⟩) (v := .int .i64 x1.n) Try.underlying3 rfl (by kernel_rfl) (blk_cell b8 rfl)) ?_
    refine lv (d := 52) rfl rfl (by kernel_rfl) (e_geq (k := .i64) (a := x1.n) (b := 1) (by kernel_rfl) rfl) ?_
    refine lv (d := 53) rfl rfl (by kernel_rfl) (e_move (v := .bool (decide (x1.n ≥ 1))) (by kernel_rfl)) ?_
    by_cases q20 : x1.n ≥ 1
    · replace M := ifp q20 M
      refine lvg (d := 54) (t := 53) rfl (by kernel_rfl) rfl (bt q20 (by kernel_rfl)) rfl (by kernel_rfl) (e_fieldAddr (b := g7) (off := 0) (o := 1) Try.underlying65 rfl rfl (sz := 1) (by kernel_rfl) (by decide) (by kernel_rfl)) ?_
      refine lvg (d := 55) (t := 53) rfl (by kernel_rfl) rfl (bt q20 (by kernel_rfl)) rfl (by kernel_rfl) (e_load1 (ad := ⟨g7, 0 + 1, none⟩) (v := .int .i64 x1.n) Try.underlying3 rfl (by kernel_rfl) (blk_cell b8 rfl)) ?_
      refine lvg (d := 56) (t := 53) rfl (by kernel_rfl) rfl (bt q20 (by kernel_rfl)) rfl (by kernel_rfl) (e_leq (k := .i64) (a := x1.n) (b := 20) (by kernel_rfl) rfl) ?_
      refine lv (d := 57) rfl rfl (by kernel_rfl) (e_pick_t (v := .bool (decide (x1.n ≤ 20))) (bt q20 (by kernel_rfl)) (by kernel_rfl)) ?_
      refine lv (d := 58) rfl rfl (by kernel_rfl) (e_move (v := .bool (decide (x1.n ≤ 20))) (by kernel_rfl)) ?_
      by_cases q21 : x1.n ≤ 20
      · replace M := ifp q21 M
        refine lvg (d := 59) (t := 58) rfl (by kernel_rfl) rfl (bt q21 (by kernel_rfl)) rfl (by kernel_rfl) (e_fieldAddr (b := g7) (off := 0) (o := 2) Try.underlying65 rfl rfl (sz := 1) (by kernel_rfl) (by decide) (by kernel_rfl)) ?_
        refine lvg (d := 60) (t := 58) rfl (by kernel_rfl) rfl (bt q21 (by kernel_rfl)) rfl (by kernel_rfl) (e_load1 (ad := ⟨g7, 0 + 2, none⟩) (v := .slice A2 x1.text.length c3) Try.underlying59 rfl (by kernel_rfl) (blk_cell b8 rfl)) ?_
        refine lvg (d := 61) (t := 58) rfl (by kernel_rfl) rfl (bt q21 (by kernel_rfl)) rfl (by kernel_rfl) (e_len (A := A2) (n := x1.text.length) (c := c3) Try.underlying59 (by kernel_rfl)) ?_
        refine lvg (d := 62) (t := 58) rfl (by kernel_rfl) rfl (bt q21 (by kernel_rfl)) rfl (by kernel_rfl) (e_leq (k := .i64) (a := (x1.text.length : Int)) (b := 100) (by kernel_rfl) rfl) ?_
        refine lv (d := 63) rfl rfl (by kernel_rfl) (e_pick_t (v := .bool (decide ((x1.text.length : Int) ≤ 100))) (bt q21 (by kernel_rfl)) (by kernel_rfl)) ?_
        refine lv (d := 2) rfl rfl (by kernel_rfl) (e_assign (v := .bool (decide ((x1.text.length : Int) ≤ 100))) (by kernel_rfl)) ?_
        refine wpList_nil ?_
        refine then_n ?_
        refine wp_ret ?_
        refine inb_r ?_
        refine then_r ?_
        obtain rfl := Option.some.inj M
        exact ret1 rfl rfl  (show _ = .bool (decide ((x1.text.length : Int) ≤ 100)) from (by kernel_rfl)) ⟨rfl, S9.chg⟩
      replace M := ifn q21 M
      refine lskip (t := 58) (c := false) rfl (by kernel_rfl) rfl (bf q21 (by kernel_rfl)) rfl rfl ?_
      refine lskip (t := 58) (c := false) rfl (by kernel_rfl) rfl (bf q21 (by kernel_rfl)) rfl rfl ?_
      refine lskip (t := 58) (c := false) rfl (by kernel_rfl) rfl (bf q21 (by kernel_rfl)) rfl rfl ?_
      refine lskip (t := 58) (c := false) rfl (by kernel_rfl) rfl (bf q21 (by kernel_rfl)) rfl rfl ?_
      refine lv (d := 63) rfl rfl (by kernel_rfl) (e_pick_f (v := .bool false) (bf q21 (by kernel_rfl)) rfl) ?_
      refine lv (d := 2) rfl rfl (by kernel_rfl) (e_assign (v := .bool false) (by kernel_rfl)) ?_
      refine wpList_nil ?_
      refine then_n ?_
      refine wp_ret ?_
      refine inb_r ?_
      refine then_r ?_
      obtain rfl := Option.some.inj M
      exact ret1 rfl rfl  (show _ = .bool false from (by kernel_rfl)) ⟨rfl, S9.chg⟩
    replace M := ifn q20 M
    refine lskip (t := 53) (c := false) rfl (by kernel_rfl) rfl (bf q20 (by kernel_rfl)) rfl rfl ?_
    refine lskip (t := 53) (c := false) rfl (by kernel_rfl) rfl (bf q20 (by kernel_rfl)) rfl rfl ?_
    refine lskip (t := 53) (c := false) rfl (by kernel_rfl) rfl (bf q20 (by kernel_rfl)) rfl rfl ?_
    refine lv (d := 57) rfl rfl (by kernel_rfl) (e_pick_f (v := .bool false) (bf q20 (by kernel_rfl)) rfl) ?_
    refine lv (d := 58) rfl rfl (by kernel_rfl) (e_move (v := .bool false) (by kernel_rfl)) ?_
    refine lskip (t := 58) (c := false) rfl (by kernel_rfl) rfl (by kernel_rfl) rfl rfl ?_
    refine lskip (t := 58) (c := false) rfl (by kernel_rfl) rfl (by kernel_rfl) rfl rfl ?_
    refine lskip (t := 58) (c := false) rfl (by kernel_rfl) rfl (by kernel_rfl) rfl rfl ?_
    refine lskip (t := 58) (c := false) rfl (by kernel_rfl) rfl (by kernel_rfl) rfl rfl ?_
    refine lv (d := 63) rfl rfl (by kernel_rfl) (e_pick_f (v := .bool false) (by kernel_rfl) rfl) ?_
    refine lv (d := 2) rfl rfl (by kernel_rfl) (e_assign (v := .bool false) (by kernel_rfl)) ?_
    refine wpList_nil ?_
    refine then_n ?_
    refine wp_ret ?_
    refine inb_r ?_
    refine then_r ?_
    obtain rfl := Option.some.inj M
    exact ret1 rfl rfl  (show _ = .bool false from (by kernel_rfl)) ⟨rfl, S9.chg⟩
  replace M := ifn q19 M
  refine cond_f rfl (bf q19 (by kernel_rfl)) ?_
  refine wp_skip ?_
  refine inb_n ?_
  refine then_n ?_
  refine wp_seq ?_
  refine wp_region_lit ?_
  refine lv (d := 2) rfl rfl (by kernel_rfl) (e_assign (v := .bool false) rfl) ?_
  refine wpList_nil ?_
  refine then_n ?_
  refine wp_ret ?_
  obtain rfl := Option.some.inj M
  exact ret1 rfl rfl  (show _ = .bool false from (by kernel_rfl)) ⟨rfl, S9.chg⟩

/-! impl_ValidTerm -/
def impl_ValidTerm.l0 : Nat → (List Cell) → Int → Int → Option Bool
  | 0, _, _, _ => none
  | k20 + 1, x1, x9, x10 => (if x10 < (x1.length : Int) then (if 0 ≤ x10 then (if x9 = 0 then some false else ((impl_cellOk.f (x1.getD ((x10).toNat) z65)).bind fun t43 => (if ¬ (t43 = true) then some false else (if ((x1.getD ((x10).toNat) z65).kind) = 3 then (impl_ValidTerm.l0 k20 x1 (IntKind.i64.wrap ((IntKind.i64.wrap (x9 - 1)) + ((x1.getD ((x10).toNat) z65).n))) (IntKind.i64.wrap (x10 + 1))) else (impl_ValidTerm.l0 k20 x1 (IntKind.i64.wrap (x9 - 1)) (IntKind.i64.wrap (x10 + 1))))))) else none) else some (decide (x9 = 0)))
def impl_ValidTerm.f (k : Nat) (x1 : List Cell) : Option Bool := (if (x1.length : Int) > 2000 then some false else (impl_ValidTerm.l0 k x1 1 0))
theorem impl_ValidTerm.calls (k : Nat) (w : World) (H : Hp) (x1 : List Cell) (A2 : Option Addr) (c3 : Nat) (h4 : Rd st65 H A2 x1) (l5 : x1.length ≤ c3) (S : Own [] H w) (r : Bool) (M : impl_ValidTerm.f k x1 = some r) :
    Calls Try.prog 17 #[.slice A2 x1.length c3] w (fun e e_w => e = .returned (.bool r) ∧ Chg no w e_w) := by
  rw [impl_ValidTerm.f] at M
  refine enter (l := [.slice A2 x1.length c3]) 34 Try.func17 rfl rfl rfl ?_
  have S0_ := S.st
  refine wp_seq ?_
  refine wp_region_lit ?_
  refine lv (d := 2) rfl rfl (by kernel_rfl) (e_assign (v := .bool false) rfl) ?_
  refine wpList_nil ?_
  refine then_n ?_
  refine wp_seq ?_
  refine wp_seq ?_
  refine wp_region_lit ?_
  refine lv (d := 6) rfl rfl (by kernel_rfl) (e_move (v := .slice A2 x1.length c3) (by kernel_rfl)) ?_
  refine lv (d := 7) rfl rfl (by kernel_rfl) (e_len (A := A2) (n := x1.length) (c := c3) Try.underlying25 (by kernel_rfl)) ?_
  refine lv (d := 8) rfl rfl (by kernel_rfl) (e_gtr (k := .i64) (a := (x1.length : Int)) (b := 2000) (by kernel_rfl) rfl) ?_
  refine wpList_nil ?_
  refine then_n ?_
  by_cases q6 : (x1.length : Int) > 2000
  · replace M := ifp q6 M
    refine cond_t rfl (bt q6 (by kernel_rfl)) ?_
    refine wp_seq ?_
    refine wp_region_lit ?_
    refine lv (d := 2) rfl rfl (by kernel_rfl) (e_assign (v := .bool false) rfl) ?_
    refine wpList_nil ?_
    refine then_n ?_
    refine wp_ret ?_
    refine then_r ?_
    obtain rfl := Option.some.inj M
    exact ret1 rfl rfl  (show _ = .bool false from (by kernel_rfl)) ⟨rfl, S0_.chg⟩
  replace M := ifn q6 M
  refine cond_f rfl (bf q6 (by kernel_rfl)) ?_
  refine wp_skip ?_
  refine then_n ?_
  refine wp_seq ?_
  refine wp_region_lit ?_
  refine lv (d := 3) rfl rfl (by kernel_rfl) (e_assign (v := .int .i64 1) rfl) ?_
  refine wpList_nil ?_
  refine then_n ?_
  refine wp_seq ?_
  refine wp_seq ?_
  refine wp_region_lit ?_
  refine lv (d := 9) rfl rfl (by kernel_rfl) (e_move (v := .slice A2 x1.length c3) (by kernel_rfl)) ?_
  refine lv (d := 10) rfl rfl (by kernel_rfl) (e_len (A := A2) (n := x1.length) (c := c3) Try.underlying25 (by kernel_rfl)) ?_
  refine lv (d := 11) rfl rfl (by kernel_rfl) (e_move (v := .int .i64 0) rfl) ?_
  refine wpList_nil ?_
  refine then_n ?_
  refine wp_block ?_
  refine wp_loop_g (fun k18 a19 w7 => ∃ (f8 : Nat → Value) (x9 : Int) (x10 : Int), a19 = mk 34 f8 ∧ f8 3 = .int .i64 x9 ∧ f8 9 = .slice A2 x1.length c3 ∧ f8 10 = .int .i64 (x1.length : Int) ∧ f8 11 = .int .i64 x10 ∧ St (anyOf []) H w [] H w7 ∧ impl_ValidTerm.l0 k18 x1 x9 x10 = some r) k ⟨_, 1, 0, rfl, (by kernel_rfl), (by kernel_rfl), (by kernel_rfl), (by kernel_rfl), S0_, M⟩ ?_
  clear M
  rintro k18 a19 w7 ⟨f8, x9, x10, rfl, e11, e12, e13, e14, S15, M⟩
  rcases k18 with _ | k20
  · rw [impl_ValidTerm.l0] at M
    cases M
  rw [impl_ValidTerm.l0] at M
  refine wp_seq ?_
  refine wp_region_lit ?_
  refine lv (d := 12) rfl rfl (by kernel_rfl) (e_lss (k := .i64) (a := x10) (b := (x1.length : Int)) (by exact e14) (by exact e13)) ?_
  refine wpList_nil ?_
  refine then_n ?_
  refine wp_seq ?_
  by_cases q21 : x10 < (x1.length : Int)
  · replace M := ifp q21 M
    refine cond_t rfl (bt q21 (by kernel_rfl)) ?_
    refine wp_skip ?_
    refine then_n ?_
    refine wp_seq ?_
    refine wp_block ?_
    refine wp_seq ?_
    refine wp_region_lit ?_
    obtain ⟨q22, M⟩ := chk M
    obtain ⟨b23, o24, e25⟩ := Rd.addr h4 (show (x10).toNat < x1.length by omega)
    obtain ⟨y26, r27, k28⟩ := Rd.at h4 e25 (getD_some z65 (show (x10).toNat < x1.length by omega))
    obtain ⟨A29, c30, rfl, l31, h32⟩ := st65_open r27
    refine lv (d := 13) rfl rfl (by kernel_rfl) (e_indexAddr (b := b23) (off := o24) (n := x1.length) (c := c3) (sz := 3) (i := x10) (k := .i64) Try.underlying25 e25 (by kernel_rfl) (by exact e12) (by exact e14) q22 q21) ?_
    refine lv (d := 14) rfl rfl (by kernel_rfl) (e_loadS (b := b23) (off := o24 + (x10 : Int).toNat * 3) (cs := [.int .i64 ((x1.getD ((x10).toNat) z65).kind), .int .i64 ((x1.getD ((x10).toNat) z65).n), .slice A29 ((x1.getD ((x10).toNat) z65).text).length c30]) Try.underlying65 rfl (by kernel_rfl) (by kernel_rfl) (fun j_ u_ e_ => (hpx (S15.inv.cell (k28 j_ u_ e_))))) ?_
    refine lve (d := 5) rfl rfl (by kernel_rfl) (new_blk (v := fun g_ => .pointer (some ⟨g_, 0, none⟩)) (cs := #[.int .i64 0, .int .i64 0, .slice none 0 0]) (t := 65) S15 (by kernel_rfl)) ?_
    rintro _ w33 ⟨g34, rfl, b35, S36, K37⟩
    refine lse rfl rfl (by kernel_rfl) (e_store (g := g34) (o := 0) (v := .agg #[.int .i64 ((x1.getD ((x10).toNat) z65).kind), .int .i64 ((x1.getD ((x10).toNat) z65).n), .slice A29 ((x1.getD ((x10).toNat) z65).text).length c30]) (cur' := #[.int .i64 ((x1.getD ((x10).toNat) z65).kind), .int .i64 ((x1.getD ((x10).toNat) z65).n), .slice A29 ((x1.getD ((x10).toNat) z65).text).length c30]) (vs := [.int .i64 ((x1.getD ((x10).toNat) z65).kind), .int .i64 ((x1.getD ((x10).toNat) z65).n), .slice A29 ((x1.getD ((x10).toNat) z65).text).length c30]) S36 (by kernel_rfl) (by kernel_rfl) rfl (by kernel_rfl) b35 (Nat.le_of_ble_eq_true rfl) (List.forall_mem_cons.2 ⟨rfl, (List.forall_mem_cons.2 ⟨rfl, (List.forall_mem_cons.2 ⟨rfl, (fun _ h_ => by cases h_)⟩)⟩)⟩) rfl) ?_
    rintro w38 ⟨b39, S40, K41⟩
    clear b35
    refine wpList_nil ?_
    refine then_n ?_
    refine wp_seq ?_
    refine wp_seq ?_
    refine wp_region_lit ?_
    refine lv (d := 15) rfl rfl (by kernel_rfl) (e_move (v := .int .i64 x9) (by exact e11)) ?_
    refine lv (d := 16) rfl rfl (by kernel_rfl) (e_eql (k := .i64) (a := x9) (b := 0) (by kernel_rfl) rfl) ?_
    refine lv (d := 17) rfl rfl (by kernel_rfl) (e_move (v := .bool (decide (x9 = 0))) (by kernel_rfl)) ?_
    by_cases q42 : x9 = 0
    · replace M := ifp q42 M
      refine lskip (t := 17) (c := true) rfl (by kernel_rfl) rfl (bt q42 (by kernel_rfl)) rfl rfl ?_
      refine lskip (t := 17) (c := true) rfl (by kernel_rfl) rfl (bt q42 (by kernel_rfl)) rfl rfl ?_
      refine lskip (t := 17) (c := true) rfl (by kernel_rfl) rfl (bt q42 (by kernel_rfl)) rfl rfl ?_
      refine lv (d := 21) rfl rfl (by kernel_rfl) (e_pick_t (v := .bool true) (bt q42 (by kernel_rfl)) rfl) ?_
      refine wpList_nil ?_
      refine then_n ?_
      refine cond_t rfl (by kernel_rfl) ?_
      refine wp_seq ?_
      refine wp_region_lit ?_
      refine lv (d := 2) rfl rfl (by kernel_rfl) (e_assign (v := .bool false) rfl) ?_
      refine wpList_nil ?_
      refine then_n ?_
      refine wp_ret ?_
      refine then_r ?_
      refine inb_r ?_
      refine then_r ?_
      refine then_r ?_
      refine inb_r ?_
      refine then_r ?_
      obtain rfl := Option.some.inj M
      exact ret1 rfl rfl  (show _ = .bool false from (by kernel_rfl)) ⟨rfl, S40.chg⟩
    replace M := ifn q42 M
    refine lvg (d := 18) (t := 17) rfl (by kernel_rfl) rfl (bf q42 (by kernel_rfl)) rfl (by kernel_rfl) (e_loadS (b := g34) (off := 0) (cs := [.int .i64 ((x1.getD ((x10).toNat) z65).kind), .int .i64 ((x1.getD ((x10).toNat) z65).n), .slice A29 ((x1.getD ((x10).toNat) z65).text).length c30]) Try.underlying65 rfl (by kernel_rfl) (by kernel_rfl) (blk_cells b39 rfl)) ?_
    obtain ⟨t43, u44, M⟩ := bnd M
    refine lcallg (d := 19) (t := 17) rfl (by kernel_rfl) rfl (bf q42 (by kernel_rfl)) rfl (by kernel_rfl) (e_call (l := [.tmp 18]) (vs := [.agg #[.int .i64 ((x1.getD ((x10).toNat) z65).kind), .int .i64 ((x1.getD ((x10).toNat) z65).n), .slice A29 ((x1.getD ((x10).toNat) z65).text).length c30]]) Try.func58 (by kernel_rfl) rfl (by kernel_rfl) rfl) (impl_cellOk.calls w38 H (x1.getD ((x10).toNat) z65) A29 c30 h32 l31 S40.own0 t43 u44) ?_
    rintro _ w45 ⟨rfl, C46⟩
    refine ⟨_, rfl, ?_⟩
    obtain ⟨S47, K48⟩ := S40.still C46
    replace b39 := K48.blk 0 rfl b39
    refine lvg (d := 20) (t := 17) rfl (by kernel_rfl) rfl (bf q42 (by kernel_rfl)) rfl (by kernel_rfl) (e_notv (c := t43) (by kernel_rfl)) ?_
    refine lv (d := 21) rfl rfl (by kernel_rfl) (e_pick_f (v := .bool (decide (¬ (t43 = true)))) (bf q42 (by kernel_rfl)) (by kernel_rfl)) ?_
    refine wpList_nil ?_
    refine then_n ?_
    by_cases q49 : ¬ (t43 = true)
    · replace M := ifp q49 M
      refine cond_t rfl (bt q49 (by kernel_rfl)) ?_
      refine wp_seq ?_
      refine wp_region_lit ?_
      refine lv (d := 2) rfl rfl (by kernel_rfl) (e_assign (v := .bool false) rfl) ?_
      refine wpList_nil ?_
      refine then_n ?_
      refine wp_ret ?_
      refine then_r ?_
      refine inb_r ?_
      refine then_r ?_
      refine then_r ?_
      refine inb_r ?_
      refine then_r ?_
      obtain rfl := Option.some.inj M
      exact ret1 rfl rfl  (show _ = .bool false from (by kernel_rfl)) ⟨rfl, S47.chg⟩
    replace M := ifn q49 M
    refine cond_f rfl (bf q49 (by kernel_rfl)) ?_
    refine wp_skip ?_
    refine then_n ?_
    refine wp_seq ?_
    refine wp_region_lit ?_
    refine lv (d := 22) rfl rfl (by kernel_rfl) (e_move (v := .int .i64 x9) (by exact e11)) ?_
    refine lv (d := 23) rfl rfl (by kernel_rfl) (e_sub (k := .i64) (a := x9) (b := 1) (by kernel_rfl) rfl) ?_
    refine lv (d := 3) rfl rfl (by kernel_rfl) (e_assign (v := .int .i64 (IntKind.i64.wrap (x9 - 1))) (by kernel_rfl)) ?_
    refine wpList_nil ?_
    refine then_n ?_
    refine wp_seq ?_
    refine wp_region_lit ?_
    refine lv (d := 24) rfl rfl (by kernel_rfl) (e_fieldAddr (b := g34) (off := 0) (o := 0) Try.underlying65 rfl rfl (sz := 1) (by kernel_rfl) (by decide) (by kernel_rfl)) ?_
    refine lv (d := 25) rfl rfl (by kernel_rfl) (e_load1 (ad := ⟨g34, 0 + 0, none⟩) (v := .int .i64 ((x1.getD ((x10).toNat) z65).kind)) Try.underlying3 rfl (by kernel_rfl) (blk_cell b39 rfl)) ?_
    refine lv (d := 26) rfl rfl (by kernel_rfl) (e_eql (k := .i64) (a := (x1.getD ((x10).toNat) z65).kind) (b := 3) (by kernel_rfl) rfl) ?_
    refine wpList_nil ?_
    refine then_n ?_
    by_cases q50 : ((x1.getD ((x10).toNat) z65).kind) = 3
    · replace M := ifp q50 M
      refine cond_t rfl (bt q50 (by kernel_rfl)) ?_
      refine wp_region_lit ?_
      refine lv (d := 27) rfl rfl (by kernel_rfl) (e_move (v := .int .i64 (IntKind.i64.wrap (x9 - 1))) (by kernel_rfl)) ?_
      refine lv (d := 28) rfl rfl (by kernel_rfl) (e_fieldAddr (b := g34) (off := 0) (o := 1) Try.underlying65 rfl rfl (sz := 1) (by kernel_rfl) (by decide) (by kernel_rfl)) ?_
      refine lv (d := 29) rfl rfl (by kernel_rfl) (e_load1 (ad := ⟨g34, 0 + 1, none⟩) (v := .int .i64 ((x1.getD ((x10).toNat) z65).n)) Try.underlying3 rfl (by kernel_rfl) (blk_cell b39 rfl)) ?_
      refine lv (d := 30) rfl rfl (by kernel_rfl) (e_add (k := .i64) (a := (IntKind.i64.wrap (x9 - 1))) (b := (x1.getD ((x10).toNat) z65).n) (by kernel_rfl) (by kernel_rfl)) ?_
      refine lv (d := 3) rfl rfl (by kernel_rfl) (e_assign (v := .int .i64 (IntKind.i64.wrap ((IntKind.i64.wrap (x9 - 1)) + ((x1.getD ((x10).toNat) z65).n)))) (by kernel_rfl)) ?_
      refine wpList_nil ?_
      refine inb_n ?_
      refine then_n ?_
      refine wp_region_lit ?_
      refine lv (d := 31) rfl rfl (by kernel_rfl) (e_add (k := .i64) (a := x10) (b := 1) (by exact e14) rfl) ?_
      refine lv (d := 11) rfl rfl (by kernel_rfl) (e_move (v := .int .i64 (IntKind.i64.wrap (x10 + 1))) (by kernel_rfl)) ?_
      refine wpList_nil ?_
      refine then_n ?_
      have S51 := St.first (Fa := []) (Fr := [(is g34)]) S47
      exact ⟨k20, (by omega), _, (IntKind.i64.wrap ((IntKind.i64.wrap (x9 - 1)) + ((x1.getD ((x10).toNat) z65).n))), (IntKind.i64.wrap (x10 + 1)), rfl, (by kernel_rfl), (by exact e12), (by exact e13), (by kernel_rfl), S51, M⟩
    replace M := ifn q50 M
    refine cond_f rfl (bf q50 (by kernel_rfl)) ?_
    refine wp_skip ?_
    refine inb_n ?_
    refine then_n ?_
    refine wp_region_lit ?_
    refine lv (d := 31) rfl rfl (by kernel_rfl) (e_add (k := .i64) (a := x10) (b := 1) (by exact e14) rfl) ?_
    refine lv (d := 11) rfl rfl (by kernel_rfl) (e_move (v := .int .i64 (IntKind.i64.wrap (x10 + 1))) (by kernel_rfl)) ?_
    refine wpList_nil ?_
    refine then_n ?_
    have S52 := St.first (Fa := []) (Fr := [(is g34)]) S47
    exact ⟨k20, (by omega), _, (IntKind.i64.wrap (x9 - 1)), (IntKind.i64.wrap (x10 + 1)), rfl, (by kernel_rfl), (by exact e12), (by exact e13), (by kernel_rfl), S52, M⟩
  replace M := ifn q21 M
  refine cond_f rfl (bf q21 (by kernel_rfl)) ?_
  refine wp_exit ?_
  refine then_e ?_
  refine then_e ?_
  refine inb_hit ?_
  refine then_n ?_
  refine wp_seq ?_
  refine wp_region_lit ?_
  refine lv (d := 32) rfl rfl (by kernel_rfl) (e_move (v := .int .i64 x9) (by exact e11)) ?_
  refine lv (d := 33) rfl rfl (by kernel_rfl) (e_eql (k := .i64) (a := x9) (b := 0) (by kernel_rfl) rfl) ?_
  refine lv (d := 2) rfl rfl (by kernel_rfl) (e_assign (v := .bool (decide (x9 = 0))) (by kernel_rfl)) ?_
  refine wpList_nil ?_
  refine then_n ?_
  refine wp_ret ?_
  obtain rfl := Option.some.inj M
  exact ret1 rfl rfl  (show _ = .bool (decide (x9 = 0)) from (by kernel_rfl)) ⟨rfl, S15.chg⟩

/-! impl_fromCells -/
mutual
def impl_fromCells.l0 : Nat → (List Cell) → (List Cell) → Int → (List Tm) → Option (Tm × (List Cell))
  | 0, _, _, _, _ => none
  | k61 + 1, x1, x41, x46, x47 => (if x46 < ((x1.getD 0 z65).n) then ((impl_fromCells.f k61 x41).bind fun t66 => (if x47.length + 1 ≤ 17592186044416 then (impl_fromCells.l0 k61 x1 t66.2 (IntKind.i64.wrap (x46 + 1)) (x47 ++ [t66.1])) else none)) else some ((Tm.mk ((x1.getD 0 z65).kind) ((x1.getD 0 z65).n) ((x1.getD 0 z65).text) x47), x41))
def impl_fromCells.f : Nat → (List Cell) → Option (Tm × (List Cell))
  | 0, _ => none
  | k1_ + 1, x1 => (if 0 < (x1.length : Int) then (if 1 ≤ (x1.length : Int) then (if ((x1.getD 0 z65).kind) = 3 then (impl_fromCells.l0 k1_ x1 (x1.drop ((1 : Int).toNat)) 0 []) else some ((Tm.mk ((x1.getD 0 z65).kind) ((x1.getD 0 z65).n) ((x1.getD 0 z65).text) []), (x1.drop ((1 : Int).toNat)))) else none) else none)
end
theorem impl_fromCells.all : ∀ (K : Nat), (∀ (k : Nat), k < K → ∀ (w : World) (H : Hp) (x1 : List Cell) (A2 : Option Addr) (c3 : Nat) (h4 : Rd st65 H A2 x1) (l5 : x1.length ≤ c3) (S : Own [] H w) (r : Tm × (List Cell)) (M : impl_fromCells.f k x1 = some r), Calls Try.prog 108 #[.slice A2 x1.length c3] w (fun e e_w => ∃ (g_1 : Nat) (A_1 : Option Addr) (c_1 : Nat) (H_ : Hp), e = .returned (.tuple #[.pointer (some ⟨g_1, 0, none⟩), .slice A_1 r.2.length c_1]) ∧ NodeR 125 H_ r.1 (.pointer (some ⟨g_1, 0, none⟩)) ∧ Rd st65 H_ A_1 r.2 ∧ r.2.length ≤ c_1 ∧ St (anyOf []) H w [] H_ e_w)) := by
  intro K
  induction K with
  | zero => intro k hk; omega
  | succ K ih =>
    intro k hk w H x1 A2 c3 h4 l5 S r M
    rcases k with _ | k1_
    · rw [impl_fromCells.f] at M
      cases M
    rw [impl_fromCells.f] at M
    refine enter (l := [.slice A2 x1.length c3]) 48 Try.func108 rfl rfl rfl ?_
    have S0_ := S.st
    refine wp_seq ?_
    refine wp_region_lit ?_
    refine lv (d := 2) rfl rfl (by kernel_rfl) (e_assign (v := .pointer none) rfl) ?_
    refine lv (d := 3) rfl rfl (by kernel_rfl) (e_assign (v := .slice none 0 0) rfl) ?_
    refine wpList_nil ?_
    refine then_n ?_
    refine wp_seq ?_
    refine wp_region_lit ?_
    refine lv (d := 8) rfl rfl (by kernel_rfl) (e_move (v := .slice A2 x1.length c3) (by kernel_rfl)) ?_
    obtain ⟨q6, M⟩ := chk M
    obtain ⟨b7, o8, e9⟩ := Rd.addr h4 (show 0 < x1.length by omega)
    obtain ⟨y10, r11, k12⟩ := Rd.at h4 e9 (getD_some z65 (show 0 < x1.length by omega))
    obtain ⟨A13, c14, rfl, l15, h16⟩ := st65_open r11
    refine lv (d := 9) rfl rfl (by kernel_rfl) (e_indexAddr (b := b7) (off := o8) (n := x1.length) (c := c3) (sz := 3) (i := 0) (k := .i64) Try.underlying25 e9 (by kernel_rfl) (by kernel_rfl) rfl (by omega) q6) ?_
    refine lv (d := 10) rfl rfl (by kernel_rfl) (e_loadS (b := b7) (off := o8 + (0 : Int).toNat * 3) (cs := [.int .i64 ((x1.getD 0 z65).kind), .int .i64 ((x1.getD 0 z65).n), .slice A13 ((x1.getD 0 z65).text).length c14]) Try.underlying65 rfl (by kernel_rfl) (by kernel_rfl) (fun j_ u_ e_ => (hpx (S0_.inv.cell (k12 j_ u_ e_))))) ?_
    refine lve (d := 4) rfl rfl (by kernel_rfl) (new_blk (v := fun g_ => .pointer (some ⟨g_, 0, none⟩)) (cs := #[.int .i64 0, .int .i64 0, .slice none 0 0]) (t := 65) S0_ (by kernel_rfl)) ?_
    rintro _ w17 ⟨g18, rfl, b19, S20, K21⟩
    refine lse rfl rfl (by kernel_rfl) (e_store (g := g18) (o := 0) (v := .agg #[.int .i64 ((x1.getD 0 z65).kind), .int .i64 ((x1.getD 0 z65).n), .slice A13 ((x1.getD 0 z65).text).length c14]) (cur' := #[.int .i64 ((x1.getD 0 z65).kind), .int .i64 ((x1.getD 0 z65).n), .slice A13 ((x1.getD 0 z65).text).length c14]) (vs := [.int .i64 ((x1.getD 0 z65).kind), .int .i64 ((x1.getD 0 z65).n), .slice A13 ((x1.getD 0 z65).text).length c14]) S20 (by kernel_rfl) (by kernel_rfl) rfl (by kernel_rfl) b19 (Nat.le_of_ble_eq_true rfl) (List.forall_mem_cons.2 ⟨rfl, (List.forall_mem_cons.2 ⟨rfl, (List.forall_mem_cons.2 ⟨rfl, (fun _ h_ => by cases h_)⟩)⟩)⟩) rfl) ?_
    rintro w22 ⟨b23, S24, K25⟩
    clear b19
    refine wpList_nil ?_
    refine then_n ?_
    refine wp_seq ?_
    refine wp_region_lit ?_
    refine lv (d := 11) rfl rfl (by kernel_rfl) (e_move (v := .slice A2 x1.length c3) (by kernel_rfl)) ?_
    obtain ⟨q26, M⟩ := chk M
    obtain ⟨A27, h30, l29, h28⟩ := Rd.sub1 (d := st65) (n := x1.length) (m := 3) (cap := c3) (a := 1) rfl h4 (by decide) q26 rfl l5
    refine lv (d := 12) rfl rfl (by kernel_rfl) (e_slice_l (n := x1.length) (m := 3) (cap := c3) (A := A2) (a := 1) (k := .i64) Try.underlying25 (by kernel_rfl) (by kernel_rfl) rfl (by decide) q26 l5 h30) ?_
    refine lv (d := 0) rfl rfl (by kernel_rfl) (e_assign (v := .slice A27 (x1.drop ((1 : Int).toNat)).length (c3 - ((1 : Int).toNat))) (by kernel_rfl)) ?_
    refine wpList_nil ?_
    refine then_n ?_
    refine wp_seq ?_
    refine wp_region_lit ?_
    refine lv (d := 13) rfl rfl (by kernel_rfl) (e_fieldAddr (b := g18) (off := 0) (o := 0) Try.underlying65 rfl rfl (sz := 1) (by kernel_rfl) (by decide) (by kernel_rfl)) ?_
    refine lv (d := 14) rfl rfl (by kernel_rfl) (e_load1 (ad := ⟨g18, 0 + 0, none⟩) (v := .int .i64 ((x1.getD 0 z65).kind)) Try.underlying3 rfl (by kernel_rfl) (blk_cell b23 rfl)) ?_
    refine lv (d := 15) rfl rfl (by kernel_rfl) (e_fieldAddr (b := g18) (off := 0) (o := 1) Try.underlying65 rfl rfl (sz := 1) (by kernel_rfl) (by decide) (by kernel_rfl)) ?_
    refine lv (d := 16) rfl rfl (by kernel_rfl) (e_load1 (ad := ⟨g18, 0 + 1, none⟩) (v := .int .i64 ((x1.getD 0 z65).n)) Try.underlying3 rfl (by kernel_rfl) (blk_cell b23 rfl)) ?_
    refine lv (d := 17) rfl rfl (by kernel_rfl) (e_fieldAddr (b := g18) (off := 0) (o := 2) Try.underlying65 rfl rfl (sz := 1) (by kernel_rfl) (by decide) (by kernel_rfl)) ?_
    refine lv (d := 18) rfl rfl (by kernel_rfl) (e_load1 (ad := ⟨g18, 0 + 2, none⟩) (v := .slice A13 ((x1.getD 0 z65).text).length c14) Try.underlying59 rfl (by kernel_rfl) (blk_cell b23 rfl)) ?_
    refine lv (d := 19) rfl rfl (by kernel_rfl) (e_conv_bs (A := A13) (n := ((x1.getD 0 z65).text).length) (c := c14) (xs := (x1.getD 0 z65).text) Try.underlying59 Try.underlying5 Try.underlying9 (by kernel_rfl) rfl (Rd.bytesE S24.inv h16)) ?_
    refine lv (d := 20) rfl rfl (by kernel_rfl) (show _ = Result.ok (Next.value (.agg #[.int .i64 ((x1.getD 0 z65).kind), .int .i64 ((x1.getD 0 z65).n), str ((x1.getD 0 z65).text), .slice none 0 0])) w22 from by kernel_rfl) ?_
    refine lve (d := 21) rfl rfl (by kernel_rfl) (new_blk (v := fun g_ => .pointer (some ⟨g_, 0, none⟩)) (cs := #[.int .i64 ((x1.getD 0 z65).kind), .int .i64 ((x1.getD 0 z65).n), str ((x1.getD 0 z65).text), .slice none 0 0]) (t := 125) S24 (by kernel_rfl)) ?_
    rintro _ w31 ⟨g32, rfl, b33, S34, K35⟩
    replace b23 := K35.blk 0 rfl b23
    refine lv (d := 5) rfl rfl (by kernel_rfl) (e_assign (v := .pointer (some ⟨g32, 0, none⟩)) (by kernel_rfl)) ?_
    refine wpList_nil ?_
    refine then_n ?_
    refine wp_seq ?_
    refine wp_seq ?_
    refine wp_region_lit ?_
    refine lv (d := 22) rfl rfl (by kernel_rfl) (e_fieldAddr (b := g18) (off := 0) (o := 0) Try.underlying65 rfl rfl (sz := 1) (by kernel_rfl) (by decide) (by kernel_rfl)) ?_
    refine lv (d := 23) rfl rfl (by kernel_rfl) (e_load1 (ad := ⟨g18, 0 + 0, none⟩) (v := .int .i64 ((x1.getD 0 z65).kind)) Try.underlying3 rfl (by kernel_rfl) (blk_cell b23 rfl)) ?_
    refine lv (d := 24) rfl rfl (by kernel_rfl) (e_eql (k := .i64) (a := (x1.getD 0 z65).kind) (b := 3) (by kernel_rfl) rfl) ?_
    refine wpList_nil ?_
    refine then_n ?_
    by_cases q36 : ((x1.getD 0 z65).kind) = 3
    · replace M := ifp q36 M
      refine cond_t rfl (bt q36 (by kernel_rfl)) ?_
      refine wp_seq ?_
      refine wp_region_lit ?_
      refine lv (d := 6) rfl rfl (by kernel_rfl) (e_assign (v := .int .i64 0) rfl) ?_
      refine wpList_nil ?_
      refine then_n ?_
      refine wp_block ?_
      have S62 := S34.unit
      have S63 := S62.pull (F := (is g18)) (Fr := [no, (is g32)]) 2 rfl rfl
      have S64 := S63.pull (F := (is g32)) (Fr := [(is g18), no]) 2 rfl rfl
      refine wp_loop_g (fun k59 a60 w37 => ∃ (f38 : Nat → Value) (H39 : Hp) (x41 : List Cell) (A42 : Option Addr) (c43 : Nat) (x46 : Int) (x47 : List Tm) (A48 : Option Addr) (c49 : Nat) (F50 : Foot), k59 < K ∧ a60 = mk 48 f38 ∧ f38 0 = .slice A42 x41.length c43 ∧ f38 4 = .pointer (some ⟨g18, 0, none⟩) ∧ f38 5 = .pointer (some ⟨g32, 0, none⟩) ∧ f38 6 = .int .i64 x46 ∧ w37.heap[g32]? = some (.cells #[.int .i64 ((x1.getD 0 z65).kind), .int .i64 ((x1.getD 0 z65).n), str ((x1.getD 0 z65).text), .slice A48 x47.length c49] 125 (0, 0)) ∧ w37.heap[g18]? = some (.cells #[.int .i64 ((x1.getD 0 z65).kind), .int .i64 ((x1.getD 0 z65).n), .slice A13 ((x1.getD 0 z65).text).length c14] 65 (0, 0)) ∧ Row (node 125) 74 H39 (hp w37) F50 A48 c49 x47 ∧ Rd st65 H39 A42 x41 ∧ x41.length ≤ c43 ∧ Ext H H39 ∧ St (anyOf []) H w [(is g32), (is g18), F50] H39 w37 ∧ impl_fromCells.l0 k59 x1 x41 x46 x47 = some r) k1_ ⟨_, H, (x1.drop ((1 : Int).toNat)), A27, (c3 - ((1 : Int).toNat)), 0, [], none, 0, no, (by omega), rfl, (by kernel_rfl), (by kernel_rfl), (by kernel_rfl), (by kernel_rfl), b33, b23, (Row.nil _ _ _ _ _), h28, l29, (Ext.refl _), S64, M⟩ ?_
      clear M
      rintro k59 a60 w37 ⟨f38, H39, x41, A42, c43, x46, x47, A48, c49, F50, z57, rfl, e52, e53, e54, e55, b33, b23, h51, h44, l45, Y40, S56, M⟩
      rcases k59 with _ | k61
      · rw [impl_fromCells.l0] at M
        cases M
      rw [impl_fromCells.l0] at M
      refine wp_seq ?_
      refine wp_seq ?_
      refine wp_region_lit ?_
      refine lv (d := 25) rfl rfl (by kernel_rfl) (e_move (v := .int .i64 x46) (by exact e55)) ?_
      refine lv (d := 26) rfl rfl (by kernel_rfl) (e_fieldAddr (b := g18) (off := 0) (o := 1) Try.underlying65 rfl rfl (sz := 1) (by kernel_rfl) (by decide) (by exact e53)) ?_
      refine lv (d := 27) rfl rfl (by kernel_rfl) (e_load1 (ad := ⟨g18, 0 + 1, none⟩) (v := .int .i64 ((x1.getD 0 z65).n)) Try.underlying3 rfl (by kernel_rfl) (blk_cell b23 rfl)) ?_
      refine lv (d := 28) rfl rfl (by kernel_rfl) (e_lss (k := .i64) (a := x46) (b := (x1.getD 0 z65).n) (by kernel_rfl) (by kernel_rfl)) ?_
      refine wpList_nil ?_
      refine then_n ?_
      by_cases q65 : x46 < ((x1.getD 0 z65).n)
      · replace M := ifp q65 M
        refine cond_t rfl (bt q65 (by kernel_rfl)) ?_
        refine wp_skip ?_
        refine then_n ?_
        refine wp_seq ?_
        refine wp_block ?_
        refine wp_seq ?_
        refine wp_region_lit ?_
        refine lv (d := 7) rfl rfl (by kernel_rfl) (e_assign (v := .pointer none) rfl) ?_
        refine wpList_nil ?_
        refine then_n ?_
        refine wp_seq ?_
        refine wp_region_lit ?_
        refine lv (d := 32) rfl rfl (by kernel_rfl) (e_move (v := .slice A42 x41.length c43) (by exact e52)) ?_
        obtain ⟨t66, u67, M⟩ := bnd M
        refine lcall (d := 33) rfl rfl (by kernel_rfl) (e_call (l := [.tmp 32]) (vs := [.slice A42 x41.length c43]) Try.func108 (by kernel_rfl) rfl (by kernel_rfl) rfl) (ih k61 (by omega) w37 H39 x41 A42 c43 h44 l45 (St.own' (Fa := []) (Fr := [(is g32), (is g18), F50]) S56) t66 u67) ?_
        rintro _ w68 ⟨g71, A73, c74, H69, rfl, h72, h75, l76, T70⟩
        refine ⟨_, rfl, ?_⟩
        obtain ⟨S77, K78⟩ := St.call (Fa := []) (Fr := [(is g32), (is g18), F50]) S56 T70
        replace b33 := K78.blk 0 rfl b33
        replace b23 := K78.blk 1 rfl b23
        replace h51 := h51.move (K78.at 2 rfl)
        have E79 := T70.ext
        replace h51 := h51.ext E79
        refine lv (d := 31) rfl rfl (by kernel_rfl) (e_move (v := .tuple #[.pointer (some ⟨g71, 0, none⟩), .slice A73 t66.2.length c74]) (by kernel_rfl)) ?_
        refine lv (d := 34) rfl rfl (by kernel_rfl) (e_extract (vs := #[.pointer (some ⟨g71, 0, none⟩), .slice A73 t66.2.length c74]) (v := .pointer (some ⟨g71, 0, none⟩)) (by kernel_rfl) rfl) ?_
        refine lv (d := 35) rfl rfl (by kernel_rfl) (e_extract (vs := #[.pointer (some ⟨g71, 0, none⟩), .slice A73 t66.2.length c74]) (v := .slice A73 t66.2.length c74) (by kernel_rfl) rfl) ?_
        refine lv (d := 7) rfl rfl (by kernel_rfl) (e_assign (v := .pointer (some ⟨g71, 0, none⟩)) (by kernel_rfl)) ?_
        refine lv (d := 0) rfl rfl (by kernel_rfl) (e_assign (v := .slice A73 t66.2.length c74) (by kernel_rfl)) ?_
        refine wpList_nil ?_
        refine then_n ?_
        refine wp_region_lit ?_
        refine lv (d := 36) rfl rfl (by kernel_rfl) (e_move (v := .pointer (some ⟨g32, 0, none⟩)) (by exact e54)) ?_
        refine lv (d := 37) rfl rfl (by kernel_rfl) (e_move (v := .pointer (some ⟨g32, 0, none⟩)) (by exact e54)) ?_
        refine lv (d := 38) rfl rfl (by kernel_rfl) (e_nilCheck (ad := ⟨g32, 0, none⟩) (by kernel_rfl)) ?_
        refine lv (d := 39) rfl rfl (by kernel_rfl) (e_fieldAddr (b := g32) (off := 0) (o := 3) Try.underlying125 rfl rfl (sz := 1) (by kernel_rfl) (by decide) (by kernel_rfl)) ?_
        refine lv (d := 40) rfl rfl (by kernel_rfl) (e_load1 (ad := ⟨g32, 0 + 3, none⟩) (v := .slice A48 x47.length c49) Try.underlying87 rfl (by kernel_rfl) (blk_cell b33 rfl)) ?_
        refine lv (d := 41) rfl rfl (by kernel_rfl) (e_move (v := .pointer (some ⟨g71, 0, none⟩)) (by kernel_rfl)) ?_
        refine lve (d := 42) rfl rfl (by kernel_rfl) (new_blk (v := fun g_ => .slice (some ⟨g_, 0, none⟩) 1 1) (cs := #[.pointer (some ⟨g71, 0, none⟩)]) (t := 74) S77 (by kernel_rfl)) ?_
        rintro _ w80 ⟨g81, rfl, b82, S83, K84⟩
        replace b33 := K84.blk 0 rfl b33
        replace b23 := K84.blk 1 rfl b23
        replace h51 := h51.move (K84.at 2 rfl)
        obtain ⟨q85, M⟩ := chk M
        have S86 := S83.pull (F := F50) (Fr := [(is g81), (is g32), (is g18)]) 3 rfl rfl
        have S87 := S86.unit
        have S88 := S87.pull (F := F50) (Fr := [no, (is g81), (is g32), (is g18)]) 1 rfl rfl
        refine lve (d := 43) rfl rfl (by kernel_rfl) (e_append (d := (node 125)) (n := x47.length) (xs := x47) (cap := c49) (A := A48) (ys := [t66.1]) (A2 := (some ⟨g81, 0, none⟩)) (c2 := 1) (z := .pointer none) (bytes := 8) S88 Try.underlying87 (by kernel_rfl) rfl (by decide) (by kernel_rfl) rfl (by kernel_rfl) h51 (elsO_one1 ⟨_, rfl, h72⟩) (.inr (blk_news b82 rfl)) (show (x47.length + [t66.1].length) * 8 ≤ _ by first | omega | (simp only [List.length_cons, List.length_nil]; omega)) (by decide)) ?_
        rintro _ w89 ⟨A90, c91, F92, rfl, h93, S94, K95⟩
        replace b82 := K95.blk 0 rfl b82
        replace b33 := K95.blk 1 rfl b33
        replace b23 := K95.blk 2 rfl b23
        refine lv (d := 44) rfl rfl (by kernel_rfl) (e_nilCheck (ad := ⟨g32, 0, none⟩) (by kernel_rfl)) ?_
        refine lv (d := 45) rfl rfl (by kernel_rfl) (e_fieldAddr (b := g32) (off := 0) (o := 3) Try.underlying125 rfl rfl (sz := 1) (by kernel_rfl) (by decide) (by kernel_rfl)) ?_
        have S96 := S94.pull (F := (is g32)) (Fr := [F92, (is g81), (is g18)]) 2 rfl rfl
        refine lse rfl rfl (by kernel_rfl) (e_store (g := g32) (o := 0 + 3) (v := .slice A90 ((x47 ++ [t66.1]).length) c91) (cur' := #[.int .i64 ((x1.getD 0 z65).kind), .int .i64 ((x1.getD 0 z65).n), str ((x1.getD 0 z65).text), .slice A90 ((x47 ++ [t66.1]).length) c91]) (vs := [.slice A90 ((x47 ++ [t66.1]).length) c91]) S96 (by kernel_rfl) (by kernel_rfl) rfl (by kernel_rfl) b33 (Nat.le_of_ble_eq_true rfl) (List.forall_mem_cons.2 ⟨rfl, (fun _ h_ => by cases h_)⟩) rfl) ?_
        rintro w97 ⟨b98, S99, K100⟩
        replace h93 := h93.move (K100.at 0 rfl)
        replace b82 := K100.blk 1 rfl b82
        replace b23 := K100.blk 2 rfl b23
        clear b33
        refine wpList_nil ?_
        refine inb_n ?_
        refine then_n ?_
        refine wp_region_lit ?_
        refine lv (d := 29) rfl rfl (by kernel_rfl) (e_move (v := .int .i64 x46) (by exact e55)) ?_
        refine lv (d := 30) rfl rfl (by kernel_rfl) (e_add (k := .i64) (a := x46) (b := 1) (by kernel_rfl) rfl) ?_
        refine lv (d := 6) rfl rfl (by kernel_rfl) (e_assign (v := .int .i64 (IntKind.i64.wrap (x46 + 1))) (by kernel_rfl)) ?_
        refine wpList_nil ?_
        refine then_n ?_
        have S101 := S99.pull (F := F92) (Fr := [(is g32), (is g81), (is g18)]) 1 rfl rfl
        have S102 := S101.pull (F := (is g18)) (Fr := [F92, (is g32), (is g81)]) 3 rfl rfl
        have S103 := S102.pull (F := (is g32)) (Fr := [(is g18), F92, (is g81)]) 2 rfl rfl
        have S104 := St.first (Fa := [(is g32), (is g18), F92]) (Fr := [(is g81)]) S103
        exact ⟨k61, (by omega), _, H69, t66.2, A73, c74, (IntKind.i64.wrap (x46 + 1)), (x47 ++ [t66.1]), A90, c91, F92, (by omega), rfl, (by kernel_rfl), (by exact e53), (by exact e54), (by kernel_rfl), b98, b23, h93, h75, l76, (Y40.trans E79), S104, M⟩
      replace M := ifn q65 M
      refine cond_f rfl (bf q65 (by kernel_rfl)) ?_
      refine wp_exit ?_
      refine then_e ?_
      refine then_e ?_
      refine inb_hit ?_
      refine then_n ?_
      refine wp_seq ?_
      refine wp_region_lit ?_
      refine lv (d := 46) rfl rfl (by kernel_rfl) (e_move (v := .pointer (some ⟨g32, 0, none⟩)) (by exact e54)) ?_
      refine lv (d := 47) rfl rfl (by kernel_rfl) (e_move (v := .slice A42 x41.length c43) (by exact e52)) ?_
      refine lv (d := 2) rfl rfl (by kernel_rfl) (e_assign (v := .pointer (some ⟨g32, 0, none⟩)) (by kernel_rfl)) ?_
      refine lv (d := 3) rfl rfl (by kernel_rfl) (e_assign (v := .slice A42 x41.length c43) (by kernel_rfl)) ?_
      refine wpList_nil ?_
      refine then_n ?_
      refine wp_ret ?_
      have l105 := h51.le
      have S106 := S56.pull (F := F50) (Fr := [(is g32), (is g18)]) 2 rfl rfl
      obtain ⟨H107, S108, E109, h110, z111⟩ := S106.frzRow h51
      obtain ⟨H112, S113, E114, h115, z116⟩ := S108.frzBlk b33
      have h117 : NodeR 125 H112 (Tm.mk ((x1.getD 0 z65).kind) ((x1.getD 0 z65).n) ((x1.getD 0 z65).text) x47) (.pointer (some ⟨g32, 0, none⟩)) := node_mk (A := A48) (c := c49) h115 rfl l105 (h110.ext E114)
      obtain rfl := Option.some.inj M
      have S118 := St.first (Fa := []) (Fr := [(is g18)]) S113
      exact ret2 rfl rfl rfl (show _ = .pointer (some ⟨g32, 0, none⟩) from (by kernel_rfl)) (show _ = .slice A42 x41.length c43 from (by kernel_rfl)) ⟨g32, A42, c43, H112, rfl, h117, (h44.ext (E109.trans E114)), l45, S118⟩
    replace M := ifn q36 M
    refine cond_f rfl (bf q36 (by kernel_rfl)) ?_
    refine wp_skip ?_
    refine then_n ?_
    refine wp_seq ?_
    refine wp_region_lit ?_
    refine lv (d := 46) rfl rfl (by kernel_rfl) (e_move (v := .pointer (some ⟨g32, 0, none⟩)) (by kernel_rfl)) ?_
    refine lv (d := 47) rfl rfl (by kernel_rfl) (e_move (v := .slice A27 (x1.drop ((1 : Int).toNat)).length (c3 - ((1 : Int).toNat))) (by kernel_rfl)) ?_
    refine lv (d := 2) rfl rfl (by kernel_rfl) (e_assign (v := .pointer (some ⟨g32, 0, none⟩)) (by kernel_rfl)) ?_
    refine lv (d := 3) rfl rfl (by kernel_rfl) (e_assign (v := .slice A27 (x1.drop ((1 : Int).toNat)).length (c3 - ((1 : Int).toNat))) (by kernel_rfl)) ?_
    refine wpList_nil ?_
    refine then_n ?_
    refine wp_ret ?_
    obtain ⟨H119, S120, E121, h122, z123⟩ := S34.frzBlk b33
    have h124 : NodeR 125 H119 (Tm.mk ((x1.getD 0 z65).kind) ((x1.getD 0 z65).n) ((x1.getD 0 z65).text) []) (.pointer (some ⟨g32, 0, none⟩)) := node_mk (A := none) (c := 0) h122 rfl (Nat.le_refl _) (Rd.nil _ _ _)
    obtain rfl := Option.some.inj M
    have S125 := St.first (Fa := []) (Fr := [(is g18)]) S120
    exact ret2 rfl rfl rfl (show _ = .pointer (some ⟨g32, 0, none⟩) from (by kernel_rfl)) (show _ = .slice A27 (x1.drop ((1 : Int).toNat)).length (c3 - ((1 : Int).toNat)) from (by kernel_rfl)) ⟨g32, A27, (c3 - ((1 : Int).toNat)), H119, rfl, h124, (h28.ext E121), l29, S125⟩
theorem impl_fromCells.calls (k : Nat) (w : World) (H : Hp) (x1 : List Cell) (A2 : Option Addr) (c3 : Nat) (h4 : Rd st65 H A2 x1) (l5 : x1.length ≤ c3) (S : Own [] H w) (r : Tm × (List Cell)) (M : impl_fromCells.f k x1 = some r) :
    Calls Try.prog 108 #[.slice A2 x1.length c3] w (fun e e_w => ∃ (g_1 : Nat) (A_1 : Option Addr) (c_1 : Nat) (H_ : Hp), e = .returned (.tuple #[.pointer (some ⟨g_1, 0, none⟩), .slice A_1 r.2.length c_1]) ∧ NodeR 125 H_ r.1 (.pointer (some ⟨g_1, 0, none⟩)) ∧ Rd st65 H_ A_1 r.2 ∧ r.2.length ≤ c_1 ∧ St (anyOf []) H w [] H_ e_w) := (impl_fromCells.all (k + 1)) k (Nat.lt_succ_self k) w H x1 A2 c3 h4 l5 S r M

/-! impl_tree -/
def impl_tree.f (k : Nat) (x1 : List Cell) : Option Tm := ((impl_fromCells.f k x1).bind fun t6 => some t6.1)
theorem impl_tree.calls (k : Nat) (w : World) (H : Hp) (x1 : List Cell) (A2 : Option Addr) (c3 : Nat) (h4 : Rd st65 H A2 x1) (l5 : x1.length ≤ c3) (S : Own [] H w) (r : Tm) (M : impl_tree.f k x1 = some r) :
    Calls Try.prog 62 #[.slice A2 x1.length c3] w (fun e e_w => ∃ (g_1 : Nat) (H_ : Hp), e = .returned (.pointer (some ⟨g_1, 0, none⟩)) ∧ NodeR 125 H_ r (.pointer (some ⟨g_1, 0, none⟩)) ∧ St (anyOf []) H w [] H_ e_w) := by
  rw [impl_tree.f] at M
  refine enter (l := [.slice A2 x1.length c3]) 11 Try.func62 rfl rfl rfl ?_
  have S0_ := S.st
  refine wp_seq ?_
  refine wp_region_lit ?_
  refine lv (d := 2) rfl rfl (by kernel_rfl) (e_assign (v := .pointer none) rfl) ?_
  refine wpList_nil ?_
  refine then_n ?_
  refine wp_seq ?_
  refine wp_region_lit ?_
  refine lv (d := 6) rfl rfl (by kernel_rfl) (e_move (v := .slice A2 x1.length c3) (by kernel_rfl)) ?_
  obtain ⟨t6, u7, M⟩ := bnd M
  refine lcall (d := 7) rfl rfl (by kernel_rfl) (e_call (l := [.tmp 6]) (vs := [.slice A2 x1.length c3]) Try.func108 (by kernel_rfl) rfl (by kernel_rfl) rfl) (impl_fromCells.calls k w H x1 A2 c3 h4 l5 (St.own' (Fa := []) (Fr := []) S0_) t6 u7) ?_
  rintro _ w8 ⟨g11, A13, c14, H9, rfl, h12, h15, l16, T10⟩
  refine ⟨_, rfl, ?_⟩
  obtain ⟨S17, K18⟩ := St.call (Fa := []) (Fr := []) S0_ T10
  have E19 := T10.ext
  refine lv (d := 5) rfl rfl (by kernel_rfl) (e_move (v := .tuple #[.pointer (some ⟨g11, 0, none⟩), .slice A13 t6.2.length c14]) (by kernel_rfl)) ?_
  refine lv (d := 8) rfl rfl (by kernel_rfl) (e_extract (vs := #[.pointer (some ⟨g11, 0, none⟩), .slice A13 t6.2.length c14]) (v := .pointer (some ⟨g11, 0, none⟩)) (by kernel_rfl) rfl) ?_
  refine lv (d := 9) rfl rfl (by kernel_rfl) (e_extract (vs := #[.pointer (some ⟨g11, 0, none⟩), .slice A13 t6.2.length c14]) (v := .slice A13 t6.2.length c14) (by kernel_rfl) rfl) ?_
  refine lv (d := 3) rfl rfl (by kernel_rfl) (e_assign (v := .pointer (some ⟨g11, 0, none⟩)) (by kernel_rfl)) ?_
  refine lv (d := 4) rfl rfl (by kernel_rfl) (e_assign (v := .slice A13 t6.2.length c14) (by kernel_rfl)) ?_
  refine wpList_nil ?_
  refine then_n ?_
  refine wp_seq ?_
  refine wp_region_lit ?_
  refine lv (d := 10) rfl rfl (by kernel_rfl) (e_move (v := .pointer (some ⟨g11, 0, none⟩)) (by kernel_rfl)) ?_
  refine lv (d := 2) rfl rfl (by kernel_rfl) (e_assign (v := .pointer (some ⟨g11, 0, none⟩)) (by kernel_rfl)) ?_
  refine wpList_nil ?_
  refine then_n ?_
  refine wp_ret ?_
  obtain rfl := Option.some.inj M
  exact ret1 rfl rfl  (show _ = .pointer (some ⟨g11, 0, none⟩) from (by kernel_rfl)) ⟨g11, H9, rfl, h12, S17⟩

/-! impl_counter -/
def impl_counter.f (x1 : Int) : Option ((List (Int × Int)) × Int) := some ([], x1)
theorem impl_counter.calls (w : World) (H : Hp) (x1 : Int) (S : Own [] H w) (r : (List (Int × Int)) × Int) (M : impl_counter.f x1 = some r) :
    Calls Try.prog 111 #[.int .i64 x1] w (fun e e_w => ∃ (g_1 : Nat) (g_2 : Nat) (g_3 : Nat) (H_ : Hp), e = .returned (.func (.func 127) #[] #[.pointer (some ⟨g_1, 0, none⟩), .pointer (some ⟨g_3, 0, none⟩)]) ∧ MapO encI tInt H_ (hp e_w) g_2 r.1 ∧ e_w.heap[g_1]? = some (.cells #[.map (some g_2)] 153 (0, 0)) ∧ e_w.heap[g_3]? = some (.cells #[.int .i64 r.2] 3 (0, 0)) ∧ St (anyOf []) H w [(is g_1), (is g_2), (is g_3)] H_ e_w) := by
  rw [impl_counter.f] at M
  refine enter (l := [.int .i64 x1]) 6 Try.func111 rfl rfl rfl ?_
  have S0_ := S.st
  refine wp_seq ?_
  refine wp_region_lit ?_
  refine lve (d := 1) rfl rfl (by kernel_rfl) (new_blk (v := fun g_ => .pointer (some ⟨g_, 0, none⟩)) (cs := #[.int .i64 x1]) (t := 3) S0_ (by kernel_rfl)) ?_
  rintro _ w2 ⟨g3, rfl, b4, S5, K6⟩
  refine lv (d := 2) rfl rfl (by kernel_rfl) (e_assign (v := .nilFunc) rfl) ?_
  refine wpList_nil ?_
  refine then_n ?_
  refine wp_seq ?_
  refine wp_region_lit ?_
  refine lve (d := 4) rfl rfl (by kernel_rfl) (e_makeMap S5 encI tInt) ?_
  rintro _ w7 ⟨g8, rfl, h9, S10, K11⟩
  replace b4 := K11.blk 0 rfl b4
  refine lve (d := 3) rfl rfl (by kernel_rfl) (new_blk (v := fun g_ => .pointer (some ⟨g_, 0, none⟩)) (cs := #[.map none]) (t := 153) S10 (by kernel_rfl)) ?_
  rintro _ w12 ⟨g13, rfl, b14, S15, K16⟩
  replace h9 := h9.move (K16.at 0 rfl)
  replace b4 := K16.blk 1 rfl b4
  refine lse rfl rfl (by kernel_rfl) (e_store (g := g13) (o := 0) (v := .map (some g8)) (cur' := #[.map (some g8)]) (vs := [.map (some g8)]) S15 (by kernel_rfl) (by kernel_rfl) rfl (by kernel_rfl) b14 (Nat.le_of_ble_eq_true rfl) (List.forall_mem_cons.2 ⟨rfl, (fun _ h_ => by cases h_)⟩) rfl) ?_
  rintro w17 ⟨b18, S19, K20⟩
  replace h9 := h9.move (K20.at 0 rfl)
  replace b4 := K20.blk 1 rfl b4
  clear b14
  refine wpList_nil ?_
  refine then_n ?_
  refine wp_seq ?_
  refine wp_region_lit ?_
  refine lv (d := 5) rfl rfl (by kernel_rfl) (e_makeFunc (cs := [.tmp 3, .tmp 1]) (vs := [.pointer (some ⟨g13, 0, none⟩), .pointer (some ⟨g3, 0, none⟩)]) (by kernel_rfl)) ?_
  refine lv (d := 2) rfl rfl (by kernel_rfl) (e_assign (v := .func (.func 127) #[] #[.pointer (some ⟨g13, 0, none⟩), .pointer (some ⟨g3, 0, none⟩)]) (by kernel_rfl)) ?_
  refine wpList_nil ?_
  refine then_n ?_
  refine wp_ret ?_
  obtain rfl := Option.some.inj M
  exact ret1 rfl rfl  (show _ = .func (.func 127) #[] #[.pointer (some ⟨g13, 0, none⟩), .pointer (some ⟨g3, 0, none⟩)] from (by kernel_rfl)) ⟨g13, g8, g3, H, rfl, h9, b18, b4, S19⟩

/-! impl_variable -/
def impl_variable.f (x1 : Int) : Option Tm := some (Tm.mk 0 x1 ([] : List UInt8) [])
theorem impl_variable.calls (w : World) (H : Hp) (x1 : Int) (S : Own [] H w) (r : Tm) (M : impl_variable.f x1 = some r) :
    Calls Try.prog 94 #[.int .i64 x1] w (fun e e_w => ∃ (g_1 : Nat) (H_ : Hp), e = .returned (.pointer (some ⟨g_1, 0, none⟩)) ∧ NodeR 125 H_ r (.pointer (some ⟨g_1, 0, none⟩)) ∧ St (anyOf []) H w [] H_ e_w) := by
  rw [impl_variable.f] at M
  refine enter (l := [.int .i64 x1]) 6 Try.func94 rfl rfl rfl ?_
  have S0_ := S.st
  refine wp_seq ?_
  refine wp_region_lit ?_
  refine lv (d := 2) rfl rfl (by kernel_rfl) (e_assign (v := .pointer none) rfl) ?_
  refine wpList_nil ?_
  refine then_n ?_
  refine wp_seq ?_
  refine wp_region_lit ?_
  refine lv (d := 3) rfl rfl (by kernel_rfl) (e_move (v := .int .i64 x1) (by kernel_rfl)) ?_
  refine lv (d := 4) rfl rfl (by kernel_rfl) (show _ = Result.ok (Next.value (.agg #[.int .i64 0, .int .i64 x1, str ([] : List UInt8), .slice none 0 0])) w from by kernel_rfl) ?_
  refine lve (d := 5) rfl rfl (by kernel_rfl) (new_blk (v := fun g_ => .pointer (some ⟨g_, 0, none⟩)) (cs := #[.int .i64 0, .int .i64 x1, str ([] : List UInt8), .slice none 0 0]) (t := 125) S0_ (by kernel_rfl)) ?_
  rintro _ w2 ⟨g3, rfl, b4, S5, K6⟩
  refine lv (d := 2) rfl rfl (by kernel_rfl) (e_assign (v := .pointer (some ⟨g3, 0, none⟩)) (by kernel_rfl)) ?_
  refine wpList_nil ?_
  refine then_n ?_
  refine wp_ret ?_
  obtain ⟨H7, S8, E9, h10, z11⟩ := S5.frzBlk b4
  have h12 : NodeR 125 H7 (Tm.mk 0 x1 ([] : List UInt8) []) (.pointer (some ⟨g3, 0, none⟩)) := node_mk (A := none) (c := 0) h10 rfl (Nat.le_refl _) (Rd.nil _ _ _)
  obtain rfl := Option.some.inj M
  exact ret1 rfl rfl  (show _ = .pointer (some ⟨g3, 0, none⟩) from (by kernel_rfl)) ⟨g3, H7, rfl, h12, S8⟩

/-! impl_counter_c1 -/
def impl_counter_c1.f (x1 : Int) (x2 : List (Int × Int)) (x7 : Int) : Option (Tm × (List (Int × Int))) := (if (mget x2 x1).isSome = true then ((impl_variable.f ((mget x2 x1).getD (0 : Int))).bind fun t14 => some (t14, x2)) else ((impl_variable.f (IntKind.i64.wrap (x7 + (x2.length : Int)))).bind fun t31 => some (t31, (mset x2 x1 (IntKind.i64.wrap (x7 + (x2.length : Int)))))))
theorem impl_counter_c1.calls (w : World) (H : Hp) (x1 : Int) (x2 : List (Int × Int)) (g3 : Nat) (g5 : Nat) (x7 : Int) (g8 : Nat) (h6 : MapO encI tInt H (hp w) g5 x2) (b4 : w.heap[g3]? = some (.cells #[.map (some g5)] 153 (0, 0))) (b9 : w.heap[g8]? = some (.cells #[.int .i64 x7] 3 (0, 0))) (S : Own [(is g5), (is g3), (is g8)] H w) (r : Tm × (List (Int × Int))) (M : impl_counter_c1.f x1 x2 x7 = some r) :
    Calls Try.prog 127 #[.int .i64 x1, .pointer (some ⟨g3, 0, none⟩), .pointer (some ⟨g8, 0, none⟩)] w (fun e e_w => ∃ (g_1 : Nat) (H_ : Hp), e = .returned (.pointer (some ⟨g_1, 0, none⟩)) ∧ MapO encI tInt H_ (hp e_w) g5 r.2 ∧ e_w.heap[g3]? = some (.cells #[.map (some g5)] 153 (0, 0)) ∧ e_w.heap[g8]? = some (.cells #[.int .i64 x7] 3 (0, 0)) ∧ NodeR 125 H_ r.1 (.pointer (some ⟨g_1, 0, none⟩)) ∧ St (anyOf [(is g5), (is g3), (is g8)]) H w [(is g3), (is g5), (is g8)] H_ e_w) := by
  rw [impl_counter_c1.f] at M
  refine enter (l := [.int .i64 x1, .pointer (some ⟨g3, 0, none⟩), .pointer (some ⟨g8, 0, none⟩)]) 24 Try.func127 rfl rfl rfl ?_
  have S0_ := S.st
  refine wp_seq ?_
  refine wp_region_lit ?_
  refine lv (d := 4) rfl rfl (by kernel_rfl) (e_assign (v := .pointer none) rfl) ?_
  refine wpList_nil ?_
  refine then_n ?_
  refine wp_seq ?_
  refine wp_region_lit ?_
  refine lv (d := 8) rfl rfl (by kernel_rfl) (e_load1 (ad := ⟨g3, 0, none⟩) (v := .map (some g5)) Try.underlying153 rfl (by kernel_rfl) (blk_cell b4 rfl)) ?_
  refine lv (d := 9) rfl rfl (by kernel_rfl) (e_move (v := .int .i64 x1) (by kernel_rfl)) ?_
  by_cases q10 : (mget x2 x1).isSome = true
  · replace M := ifp q10 M
    obtain ⟨v11, r12, k13⟩ := MapO.look h6 keyI (some_getD q10 (0 : Int))
    obtain rfl := cons1 r12
    refine lv (d := 10) rfl rfl (by kernel_rfl) (e_lookv (k := x1) k13 keyI Try.underlying153 Try.underlying3 (by kernel_rfl) (by kernel_rfl) (.int .i64 0) (by kernel_rfl)) ?_
    refine lv (d := 7) rfl rfl (by kernel_rfl) (e_move (v := .tuple #[.int .i64 ((mget x2 x1).getD (0 : Int)), .bool true]) (by kernel_rfl)) ?_
    refine lv (d := 11) rfl rfl (by kernel_rfl) (e_extract (vs := #[.int .i64 ((mget x2 x1).getD (0 : Int)), .bool true]) (v := .int .i64 ((mget x2 x1).getD (0 : Int))) (by kernel_rfl) rfl) ?_
    refine lv (d := 12) rfl rfl (by kernel_rfl) (e_extract (vs := #[.int .i64 ((mget x2 x1).getD (0 : Int)), .bool true]) (v := .bool true) (by kernel_rfl) rfl) ?_
    refine lv (d := 5) rfl rfl (by kernel_rfl) (e_assign (v := .int .i64 ((mget x2 x1).getD (0 : Int))) (by kernel_rfl)) ?_
    refine lv (d := 6) rfl rfl (by kernel_rfl) (e_assign (v := .bool true) (by kernel_rfl)) ?_
    refine wpList_nil ?_
    refine then_n ?_
    refine wp_seq ?_
    refine wp_seq ?_
    refine wp_region_lit ?_
    refine lv (d := 13) rfl rfl (by kernel_rfl) (e_move (v := .bool true) (by kernel_rfl)) ?_
    refine lv (d := 14) rfl rfl (by kernel_rfl) (e_not (c := true) (by kernel_rfl)) ?_
    refine wpList_nil ?_
    refine then_n ?_
    refine cond_f rfl (by kernel_rfl) ?_
    refine wp_skip ?_
    refine then_n ?_
    refine wp_seq ?_
    refine wp_region_lit ?_
    refine lv (d := 22) rfl rfl (by kernel_rfl) (e_move (v := .int .i64 ((mget x2 x1).getD (0 : Int))) (by kernel_rfl)) ?_
    obtain ⟨t14, u15, M⟩ := bnd M
    refine lcall (d := 23) rfl rfl (by kernel_rfl) (e_call (l := [.tmp 22]) (vs := [.int .i64 ((mget x2 x1).getD (0 : Int))]) Try.func94 (by kernel_rfl) rfl (by kernel_rfl) rfl) (impl_variable.calls w H ((mget x2 x1).getD (0 : Int))  (St.own' (Fa := []) (Fr := [(is g5), (is g3), (is g8)]) S0_) t14 u15) ?_
    rintro _ w16 ⟨g19, H17, rfl, h20, T18⟩
    refine ⟨_, rfl, ?_⟩
    obtain ⟨S21, K22⟩ := St.call (Fa := []) (Fr := [(is g5), (is g3), (is g8)]) S0_ T18
    replace h6 := h6.move (K22.at 0 rfl)
    replace b4 := K22.blk 1 rfl b4
    replace b9 := K22.blk 2 rfl b9
    have E23 := T18.ext
    replace h6 := h6.ext E23
    refine lv (d := 4) rfl rfl (by kernel_rfl) (e_assign (v := .pointer (some ⟨g19, 0, none⟩)) (by kernel_rfl)) ?_
    refine wpList_nil ?_
    refine then_n ?_
    refine wp_ret ?_
    obtain rfl := Option.some.inj M
    have S24 := S21.pull (F := (is g8)) (Fr := [(is g5), (is g3)]) 2 rfl rfl
    have S25 := S24.pull (F := (is g5)) (Fr := [(is g8), (is g3)]) 1 rfl rfl
    have S26 := S25.pull (F := (is g3)) (Fr := [(is g5), (is g8)]) 2 rfl rfl
    exact ret1 rfl rfl  (show _ = .pointer (some ⟨g19, 0, none⟩) from (by kernel_rfl)) ⟨g19, H17, rfl, h6, b4, b9, h20, S26⟩
  replace M := ifn q10 M
  refine lv (d := 10) rfl rfl (by kernel_rfl) (e_look_f (k := x1) h6 keyI Try.underlying153 Try.underlying3 (by kernel_rfl) (by kernel_rfl) (is_none q10) (.int .i64 0) (by kernel_rfl)) ?_
  refine lv (d := 7) rfl rfl (by kernel_rfl) (e_move (v := .tuple #[.int .i64 0, .bool false]) (by kernel_rfl)) ?_
  refine lv (d := 11) rfl rfl (by kernel_rfl) (e_extract (vs := #[.int .i64 0, .bool false]) (v := .int .i64 0) (by kernel_rfl) rfl) ?_
  refine lv (d := 12) rfl rfl (by kernel_rfl) (e_extract (vs := #[.int .i64 0, .bool false]) (v := .bool false) (by kernel_rfl) rfl) ?_
  refine lv (d := 5) rfl rfl (by kernel_rfl) (e_assign (v := .int .i64 0) (by kernel_rfl)) ?_
  refine lv (d := 6) rfl rfl (by kernel_rfl) (e_assign (v := .bool false) (by kernel_rfl)) ?_
  refine wpList_nil ?_
  refine then_n ?_
  refine wp_seq ?_
  refine wp_seq ?_
  refine wp_region_lit ?_
  refine lv (d := 13) rfl rfl (by kernel_rfl) (e_move (v := .bool false) (by kernel_rfl)) ?_
  refine lv (d := 14) rfl rfl (by kernel_rfl) (e_not (c := false) (by kernel_rfl)) ?_
  refine wpList_nil ?_
  refine then_n ?_
  refine cond_t rfl (by kernel_rfl) ?_
  refine wp_seq ?_
  refine wp_region_lit ?_
  refine lv (d := 15) rfl rfl (by kernel_rfl) (e_load1 (ad := ⟨g8, 0, none⟩) (v := .int .i64 x7) Try.underlying3 rfl (by kernel_rfl) (blk_cell b9 rfl)) ?_
  refine lv (d := 16) rfl rfl (by kernel_rfl) (e_load1 (ad := ⟨g3, 0, none⟩) (v := .map (some g5)) Try.underlying153 rfl (by kernel_rfl) (blk_cell b4 rfl)) ?_
  refine lv (d := 17) rfl rfl (by kernel_rfl) (e_mapLen h6 Try.underlying153 (by kernel_rfl)) ?_
  refine lv (d := 18) rfl rfl (by kernel_rfl) (e_add (k := .i64) (a := x7) (b := (x2.length : Int)) (by kernel_rfl) (by kernel_rfl)) ?_
  refine lv (d := 5) rfl rfl (by kernel_rfl) (e_assign (v := .int .i64 (IntKind.i64.wrap (x7 + (x2.length : Int)))) (by kernel_rfl)) ?_
  refine wpList_nil ?_
  refine then_n ?_
  refine wp_region_lit ?_
  refine lv (d := 19) rfl rfl (by kernel_rfl) (e_load1 (ad := ⟨g3, 0, none⟩) (v := .map (some g5)) Try.underlying153 rfl (by kernel_rfl) (blk_cell b4 rfl)) ?_
  refine lv (d := 20) rfl rfl (by kernel_rfl) (e_move (v := .int .i64 x1) (by kernel_rfl)) ?_
  refine lv (d := 21) rfl rfl (by kernel_rfl) (e_move (v := .int .i64 (IntKind.i64.wrap (x7 + (x2.length : Int)))) (by kernel_rfl)) ?_
  refine lse rfl rfl (by kernel_rfl) (e_mapUpdate (k := x1) (a := (IntKind.i64.wrap (x7 + (x2.length : Int)))) S0_ h6 keyI Try.underlying153 Try.underlying3 (by kernel_rfl) (by kernel_rfl) (by kernel_rfl) rfl) ?_
  rintro w27 ⟨h28, S29, K30⟩
  replace b4 := K30.blk 0 rfl b4
  replace b9 := K30.blk 1 rfl b9
  clear h6
  refine wpList_nil ?_
  refine then_n ?_
  refine wp_seq ?_
  refine wp_region_lit ?_
  refine lv (d := 22) rfl rfl (by kernel_rfl) (e_move (v := .int .i64 (IntKind.i64.wrap (x7 + (x2.length : Int)))) (by kernel_rfl)) ?_
  obtain ⟨t31, u32, M⟩ := bnd M
  refine lcall (d := 23) rfl rfl (by kernel_rfl) (e_call (l := [.tmp 22]) (vs := [.int .i64 (IntKind.i64.wrap (x7 + (x2.length : Int)))]) Try.func94 (by kernel_rfl) rfl (by kernel_rfl) rfl) (impl_variable.calls w27 H (IntKind.i64.wrap (x7 + (x2.length : Int)))  (St.own' (Fa := []) (Fr := [(is g5), (is g3), (is g8)]) S29) t31 u32) ?_
  rintro _ w33 ⟨g36, H34, rfl, h37, T35⟩
  refine ⟨_, rfl, ?_⟩
  obtain ⟨S38, K39⟩ := St.call (Fa := []) (Fr := [(is g5), (is g3), (is g8)]) S29 T35
  replace h28 := h28.move (K39.at 0 rfl)
  replace b4 := K39.blk 1 rfl b4
  replace b9 := K39.blk 2 rfl b9
  have E40 := T35.ext
  replace h28 := h28.ext E40
  refine lv (d := 4) rfl rfl (by kernel_rfl) (e_assign (v := .pointer (some ⟨g36, 0, none⟩)) (by kernel_rfl)) ?_
  refine wpList_nil ?_
  refine then_n ?_
  refine wp_ret ?_
  obtain rfl := Option.some.inj M
  have S41 := S38.pull (F := (is g8)) (Fr := [(is g5), (is g3)]) 2 rfl rfl
  have S42 := S41.pull (F := (is g5)) (Fr := [(is g8), (is g3)]) 1 rfl rfl
  have S43 := S42.pull (F := (is g3)) (Fr := [(is g5), (is g8)]) 2 rfl rfl
  exact ret1 rfl rfl  (show _ = .pointer (some ⟨g36, 0, none⟩) from (by kernel_rfl)) ⟨g36, H34, rfl, h28, b4, b9, h37, S43⟩

/-! impl_node_mapped -/
mutual
def impl_node_mapped.l0 : Nat → Tm → Int → Int → (List (Int × Int)) → (List Tm) → Option (Tm × (List (Int × Int)))
  | 0, _, _, _, _, _ => none
  | k91 + 1, x1, x9, x74, x75, x76 => (if x74 < (x1.args.length : Int) then (if 0 ≤ x74 then ((impl_node_mapped.f k91 (x1.args.getD ((x74).toNat) (Tm.mk 0 0 [] [])) x75 x9).bind fun t131 => (if x76.length + 1 ≤ 17592186044416 then (impl_node_mapped.l0 k91 x1 x9 (IntKind.i64.wrap (x74 + 1)) t131.2 (x76 ++ [t131.1])) else none)) else none) else some ((Tm.mk 3 x1.n x1.text x76), x75))
def impl_node_mapped.f : Nat → Tm → (List (Int × Int)) → Int → Option (Tm × (List (Int × Int)))
  | 0, _, _, _ => none
  | k1_ + 1, x1, x4, x9 => (if x1.kind = 0 then ((impl_counter_c1.f x1.n x4 x9).bind fun t24 => some (t24.1, t24.2)) else (if x1.kind = 3 then (impl_node_mapped.l0 k1_ x1 x9 0 x4 []) else some (x1, x4)))
end
theorem impl_node_mapped.all : ∀ (K : Nat), (∀ (k : Nat), k < K → ∀ (w : World) (H : Hp) (x1 : Tm) (g2 : Nat) (x4 : List (Int × Int)) (g5 : Nat) (g7 : Nat) (x9 : Int) (g10 : Nat) (h3 : NodeR 125 H x1 (.pointer (some ⟨g2, 0, none⟩))) (h8 : MapO encI tInt H (hp w) g7 x4) (b6 : w.heap[g5]? = some (.cells #[.map (some g7)] 153 (0, 0))) (b11 : w.heap[g10]? = some (.cells #[.int .i64 x9] 3 (0, 0))) (S : Own [(is g7), (is g5), (is g10)] H w) (r : Tm × (List (Int × Int))) (M : impl_node_mapped.f k x1 x4 x9 = some r), Calls Try.prog 110 #[.pointer (some ⟨g2, 0, none⟩), .func (.func 127) #[] #[.pointer (some ⟨g5, 0, none⟩), .pointer (some ⟨g10, 0, none⟩)]] w (fun e e_w => ∃ (g_1 : Nat) (H_ : Hp), e = .returned (.pointer (some ⟨g_1, 0, none⟩)) ∧ MapO encI tInt H_ (hp e_w) g7 r.2 ∧ e_w.heap[g5]? = some (.cells #[.map (some g7)] 153 (0, 0)) ∧ e_w.heap[g10]? = some (.cells #[.int .i64 x9] 3 (0, 0)) ∧ NodeR 125 H_ r.1 (.pointer (some ⟨g_1, 0, none⟩)) ∧ St (anyOf [(is g7), (is g5), (is g10)]) H w [(is g5), (is g7), (is g10)] H_ e_w)) := by
  intro K
  induction K with
  | zero => intro k hk; omega
  | succ K ih =>
    intro k hk w H x1 g2 x4 g5 g7 x9 g10 h3 h8 b6 b11 S r M
    rcases k with _ | k1_
    · rw [impl_node_mapped.f] at M
      cases M
    rw [impl_node_mapped.f] at M
    refine enter (l := [.pointer (some ⟨g2, 0, none⟩), .func (.func 127) #[] #[.pointer (some ⟨g5, 0, none⟩), .pointer (some ⟨g10, 0, none⟩)]]) 56 Try.func110 rfl rfl rfl ?_
    have S0_ := S.st
    refine wp_seq ?_
    refine wp_region_lit ?_
    refine lv (d := 4) rfl rfl (by kernel_rfl) (e_assign (v := .pointer none) rfl) ?_
    refine wpList_nil ?_
    refine then_n ?_
    refine wp_seq ?_
    refine wp_seq ?_
    refine wp_region_lit ?_
    refine lv (d := 8) rfl rfl (by kernel_rfl) (e_move (v := .pointer (some ⟨g2, 0, none⟩)) (by kernel_rfl)) ?_
    refine lv (d := 9) rfl rfl (by kernel_rfl) (e_nilCheck (ad := ⟨g2, 0, none⟩) (by kernel_rfl)) ?_
    refine lv (d := 10) rfl rfl (by kernel_rfl) (e_fieldAddr (b := g2) (off := 0) (o := 0) Try.underlying125 rfl rfl (sz := 1) (by kernel_rfl) (by decide) (by kernel_rfl)) ?_
    obtain ⟨A12, c13, y14, q15, h16, h17, l18, h19⟩ := node_open h3
    refine lv (d := 11) rfl rfl (by kernel_rfl) (e_load1 (ad := ⟨g2, 0 + 0, none⟩) (v := .int .i64 x1.kind) Try.underlying3 rfl (by kernel_rfl) (blk_cells (S0_.inv _ _ h16) h17 0 _ rfl)) ?_
    refine wpList_nil ?_
    refine then_n ?_
    refine wp_block ?_
    refine wp_seq ?_
    refine wp_region_lit ?_
    refine lv (d := 13) rfl rfl (by kernel_rfl) (e_eql (k := .i64) (a := x1.kind) (b := 0) (by kernel_rfl) rfl) ?_
    refine lv (d := 12) rfl rfl (by kernel_rfl) (e_assign (v := .bool (decide (x1.kind = 0))) (by kernel_rfl)) ?_
    refine wpList_nil ?_
    refine then_n ?_
    by_cases q20 : x1.kind = 0
    · replace M := ifp q20 M
      refine cond_t rfl (bt q20 (by kernel_rfl)) ?_
      refine wp_seq ?_
      refine wp_region_lit ?_
      refine lv (d := 14) rfl rfl (by kernel_rfl) (e_move (v := .func (.func 127) #[] #[.pointer (some ⟨g5, 0, none⟩), .pointer (some ⟨g10, 0, none⟩)]) (by kernel_rfl)) ?_
      refine lv (d := 15) rfl rfl (by kernel_rfl) (e_move (v := .pointer (some ⟨g2, 0, none⟩)) (by kernel_rfl)) ?_
      refine lv (d := 16) rfl rfl (by kernel_rfl) (e_nilCheck (ad := ⟨g2, 0, none⟩) (by kernel_rfl)) ?_
      refine lv (d := 17) rfl rfl (by kernel_rfl) (e_fieldAddr (b := g2) (off := 0) (o := 1) Try.underlying125 rfl rfl (sz := 1) (by kernel_rfl) (by decide) (by kernel_rfl)) ?_
      refine lv (d := 18) rfl rfl (by kernel_rfl) (e_load1 (ad := ⟨g2, 0 + 1, none⟩) (v := .int .i64 x1.n) Try.underlying3 rfl (by kernel_rfl) (blk_cells (S0_.inv _ _ h16) h17 1 _ rfl)) ?_
      have S21 := S0_.pull (F := (is g10)) (Fr := [(is g7), (is g5)]) 2 rfl rfl
      have S22 := S21.pull (F := (is g5)) (Fr := [(is g10), (is g7)]) 2 rfl rfl
      have S23 := S22.pull (F := (is g7)) (Fr := [(is g5), (is g10)]) 2 rfl rfl
      obtain ⟨t24, u25, M⟩ := bnd M
      refine lcall (d := 19) rfl rfl (by kernel_rfl) (e_callv (l := [.tmp 18]) (vs := [.int .i64 x1.n]) (cs := [.pointer (some ⟨g5, 0, none⟩), .pointer (some ⟨g10, 0, none⟩)]) Try.func127 (by kernel_rfl) rfl (by kernel_rfl) (by kernel_rfl)) (impl_counter_c1.calls w H x1.n x4 g5 g7 x9 g10 h8 b6 b11 (St.own' (Fa := [(is g7), (is g5), (is g10)]) (Fr := []) S23) t24 u25) ?_
      rintro _ w26 ⟨g32, H27, rfl, h29, b30, b31, h33, T28⟩
      refine ⟨_, rfl, ?_⟩
      obtain ⟨S34, K35⟩ := St.call (Fa := [(is g7), (is g5), (is g10)]) (Fr := []) S23 T28
      have E36 := T28.ext
      refine lv (d := 4) rfl rfl (by kernel_rfl) (e_assign (v := .pointer (some ⟨g32, 0, none⟩)) (by kernel_rfl)) ?_
      refine wpList_nil ?_
      refine then_n ?_
      refine wp_ret ?_
      refine inb_r ?_
      refine then_r ?_
      obtain rfl := Option.some.inj M
      exact ret1 rfl rfl  (show _ = .pointer (some ⟨g32, 0, none⟩) from (by kernel_rfl)) ⟨g32, H27, rfl, h29, b30, b31, h33, S34⟩
    replace M := ifn q20 M
    refine cond_f rfl (bf q20 (by kernel_rfl)) ?_
    refine wp_seq ?_
    refine wp_region_lit ?_
    refine lv (d := 21) rfl rfl (by kernel_rfl) (e_eql (k := .i64) (a := x1.kind) (b := 3) (by kernel_rfl) rfl) ?_
    refine lv (d := 20) rfl rfl (by kernel_rfl) (e_assign (v := .bool (decide (x1.kind = 3))) (by kernel_rfl)) ?_
    refine wpList_nil ?_
    refine then_n ?_
    by_cases q37 : x1.kind = 3
    · replace M := ifp q37 M
      refine cond_t rfl (bt q37 (by kernel_rfl)) ?_
      refine wp_seq ?_
      refine region_mix (S := (fun (L_ : Array Bool) (w_ : World) => Ext H (hp w_) ∧ True)) (by kernel_rfl) S0_ ?_
      intro w38 S39 K40 hc41
      have hs42 : (fun (L_ : Array Bool) (w_ : World) => Ext H (hp w_) ∧ True) (Array.replicate 11 false) w38 := ⟨S39.inv, trivial⟩
      replace h8 := h8.move (K40.at 0 rfl)
      replace b6 := K40.blk 1 rfl b6
      replace b11 := K40.blk 2 rfl b11
      refine xv (i := 0) (d := 22) rfl rfl rfl (by kernel_rfl) (by kernel_rfl) (fun _ _ => Iff.rfl) hc41 hs42 (fun L_ w_ hc_ hu_ hs_ => e_move (v := .pointer (some ⟨g2, 0, none⟩)) (by kernel_rfl)) ?_; intro hc43 hs44
      refine xv (i := 1) (d := 23) rfl rfl rfl (by kernel_rfl) (by kernel_rfl) (fun _ _ => Iff.rfl) hc43 hs44 (fun L_ w_ hc_ hu_ hs_ => e_nilCheck (ad := ⟨g2, 0, none⟩) (by kernel_rfl)) ?_; intro hc45 hs46
      refine xv (i := 2) (d := 24) rfl rfl rfl (by kernel_rfl) (by kernel_rfl) (fun _ _ => Iff.rfl) hc45 hs46 (fun L_ w_ hc_ hu_ hs_ => e_fieldAddr (b := g2) (off := 0) (o := 1) Try.underlying125 rfl rfl (sz := 1) (by kernel_rfl) (by decide) (by kernel_rfl)) ?_; intro hc47 hs48
      refine xv (i := 3) (d := 25) rfl rfl rfl (by kernel_rfl) (by kernel_rfl) (fun _ _ => Iff.rfl) hc47 hs48 (fun L_ w_ hc_ hu_ hs_ => e_load1 (ad := ⟨g2, 0 + 1, none⟩) (v := .int .i64 x1.n) Try.underlying3 rfl (by kernel_rfl) (blk_cells (hs_.1 _ _ h16) h17 1 _ rfl)) ?_; intro hc49 hs50
      refine xone (i := 4) (by kernel_rfl) hc49 ?_
      refine yo (i := 4) (d := 26) rfl rfl (wanted_none rfl _) (by kernel_rfl) (by kernel_rfl) (fun _ _ => Iff.rfl) hs50 (e_move (v := .pointer (some ⟨g2, 0, none⟩)) (by kernel_rfl)) ?_; intro hc51 hs52
      refine xone (i := 5) (by kernel_rfl) hc51 ?_
      refine yo (i := 5) (d := 27) rfl rfl (wanted_none rfl _) (by kernel_rfl) (by kernel_rfl) (fun _ _ => Iff.rfl) hs52 (e_nilCheck (ad := ⟨g2, 0, none⟩) (by kernel_rfl)) ?_; intro hc53 hs54
      refine xone (i := 6) (by kernel_rfl) hc53 ?_
      refine yo (i := 6) (d := 28) rfl rfl (wanted_none rfl _) (by kernel_rfl) (by kernel_rfl) (fun _ _ => Iff.rfl) hs54 (e_fieldAddr (b := g2) (off := 0) (o := 2) Try.underlying125 rfl rfl (sz := 1) (by kernel_rfl) (by decide) (by kernel_rfl)) ?_; intro hc55 hs56
      refine xone (i := 7) (by kernel_rfl) hc55 ?_
      refine yo (i := 7) (d := 29) rfl rfl (wanted_none rfl _) (by kernel_rfl) (by kernel_rfl) (fun _ _ => Iff.rfl) hs56 (e_load1 (ad := ⟨g2, 0 + 2, none⟩) (v := str x1.text) Try.underlying9 rfl (by kernel_rfl) (blk_cells (S39.inv _ _ h16) h17 2 _ rfl)) ?_; intro hc57 hs58
      refine xone (i := 8) (by kernel_rfl) hc57 ?_
      refine yo (i := 8) (d := 30) rfl rfl (wanted_none rfl _) (by kernel_rfl) (by kernel_rfl) (fun _ _ => Iff.rfl) hs58 (show _ = Result.ok (Next.value (.agg #[.int .i64 3, .int .i64 x1.n, str x1.text, .slice none 0 0])) w38 from by kernel_rfl) ?_; intro hc59 hs60
      refine xone (i := 9) (by kernel_rfl) hc59 ?_
      refine ye (i := 9) (d := 31) rfl rfl (wanted_none rfl _) (by kernel_rfl) (by kernel_rfl) (new_blk (v := fun g_ => .pointer (some ⟨g_, 0, none⟩)) (cs := #[.int .i64 3, .int .i64 x1.n, str x1.text, .slice none 0 0]) (t := 125) S39 (by kernel_rfl)) ?_
      rintro hc66 _ w61 ⟨g62, rfl, b63, S64, K65⟩
      replace h8 := h8.move (K65.at 0 rfl)
      replace b6 := K65.blk 1 rfl b6
      replace b11 := K65.blk 2 rfl b11
      refine ⟨⟨S64.inv, trivial⟩, fun hs67 => ?_⟩
      refine xone (i := 10) (by kernel_rfl) hc66 ?_
      refine yo (i := 10) (d := 5) rfl rfl (wanted_none rfl _) (by kernel_rfl) (by kernel_rfl) (fun _ _ => Iff.rfl) hs67 (e_assign (v := .pointer (some ⟨g62, 0, none⟩)) (by kernel_rfl)) ?_; intro hc68 hs69
      refine xn (by kernel_rfl) ?_ _
      refine then_n ?_
      refine wp_seq ?_
      refine wp_seq ?_
      refine wp_region_lit ?_
      refine lv (d := 32) rfl rfl (by kernel_rfl) (e_move (v := .pointer (some ⟨g2, 0, none⟩)) (by kernel_rfl)) ?_
      refine lv (d := 33) rfl rfl (by kernel_rfl) (e_nilCheck (ad := ⟨g2, 0, none⟩) (by kernel_rfl)) ?_
      refine lv (d := 34) rfl rfl (by kernel_rfl) (e_fieldAddr (b := g2) (off := 0) (o := 3) Try.underlying125 rfl rfl (sz := 1) (by kernel_rfl) (by decide) (by kernel_rfl)) ?_
      refine lv (d := 35) rfl rfl (by kernel_rfl) (e_load1 (ad := ⟨g2, 0 + 3, none⟩) (v := .slice A12 x1.args.length c13) Try.underlying87 rfl (by kernel_rfl) (blk_cells (S64.inv _ _ h16) h17 3 _ rfl)) ?_
      refine lv (d := 36) rfl rfl (by kernel_rfl) (e_len (A := A12) (n := x1.args.length) (c := c13) Try.underlying87 (by kernel_rfl)) ?_
      refine lv (d := 37) rfl rfl (by kernel_rfl) (e_move (v := .int .i64 0) rfl) ?_
      refine wpList_nil ?_
      refine then_n ?_
      refine wp_block ?_
      have S92 := S64.unit
      have S93 := S92.pull (F := (is g10)) (Fr := [no, (is g62), (is g7), (is g5)]) 4 rfl rfl
      have S94 := S93.pull (F := (is g5)) (Fr := [(is g10), no, (is g62), (is g7)]) 4 rfl rfl
      have S95 := S94.pull (F := (is g7)) (Fr := [(is g5), (is g10), no, (is g62)]) 4 rfl rfl
      have S96 := S95.pull (F := (is g62)) (Fr := [(is g7), (is g5), (is g10), no]) 4 rfl rfl
      refine wp_loop_g (fun k89 a90 w70 => ∃ (f71 : Nat → Value) (H72 : Hp) (x74 : Int) (x75 : List (Int × Int)) (x76 : List Tm) (A77 : Option Addr) (c78 : Nat) (F79 : Foot), k89 < K ∧ a90 = mk 56 f71 ∧ f71 1 = .func (.func 127) #[] #[.pointer (some ⟨g5, 0, none⟩), .pointer (some ⟨g10, 0, none⟩)] ∧ f71 5 = .pointer (some ⟨g62, 0, none⟩) ∧ f71 35 = .slice A12 x1.args.length c13 ∧ f71 36 = .int .i64 (x1.args.length : Int) ∧ f71 37 = .int .i64 x74 ∧ w70.heap[g62]? = some (.cells #[.int .i64 3, .int .i64 x1.n, str x1.text, .slice A77 x76.length c78] 125 (0, 0)) ∧ MapO encI tInt H72 (hp w70) g7 x75 ∧ w70.heap[g5]? = some (.cells #[.map (some g7)] 153 (0, 0)) ∧ w70.heap[g10]? = some (.cells #[.int .i64 x9] 3 (0, 0)) ∧ Row (node 125) 74 H72 (hp w70) F79 A77 c78 x76 ∧ Ext H H72 ∧ St (anyOf [(is g7), (is g5), (is g10)]) H w [(is g62), (is g7), (is g5), (is g10), F79] H72 w70 ∧ impl_node_mapped.l0 k89 x1 x9 x74 x75 x76 = some r) k1_ ⟨_, H, 0, x4, [], none, 0, no, (by omega), rfl, (by kernel_rfl), (by kernel_rfl), (by kernel_rfl), (by kernel_rfl), (by kernel_rfl), b63, h8, b6, b11, (Row.nil _ _ _ _ _), (Ext.refl _), S96, M⟩ ?_
      clear M
      rintro k89 a90 w70 ⟨f71, H72, x74, x75, x76, A77, c78, F79, z87, rfl, e81, e82, e83, e84, e85, b63, h8, b6, b11, h80, Y73, S86, M⟩
      rcases k89 with _ | k91
      · rw [impl_node_mapped.l0] at M
        cases M
      rw [impl_node_mapped.l0] at M
      refine wp_seq ?_
      refine wp_region_lit ?_
      refine lv (d := 38) rfl rfl (by kernel_rfl) (e_lss (k := .i64) (a := x74) (b := (x1.args.length : Int)) (by exact e85) (by exact e84)) ?_
      refine wpList_nil ?_
      refine then_n ?_
      refine wp_seq ?_
      by_cases q97 : x74 < (x1.args.length : Int)
      · replace M := ifp q97 M
        refine cond_t rfl (bt q97 (by kernel_rfl)) ?_
        refine wp_skip ?_
        refine then_n ?_
        refine wp_seq ?_
        refine wp_block ?_
        refine wp_seq ?_
        refine wp_region_lit ?_
        obtain ⟨q98, M⟩ := chk M
        obtain ⟨b99, o100, e101⟩ := Rd.addr h19 (show (x74).toNat < x1.args.length by omega)
        obtain ⟨y102, r103, k104⟩ := Rd.at h19 e101 (getD_some (Tm.mk 0 0 [] []) (show (x74).toNat < x1.args.length by omega))
        obtain ⟨v105, rfl, h106⟩ := r103
        obtain ⟨g107, rfl⟩ := node_ptr h106
        refine lv (d := 39) rfl rfl (by kernel_rfl) (e_indexAddr (b := b99) (off := o100) (n := x1.args.length) (c := c13) (sz := 1) (i := x74) (k := .i64) Try.underlying87 e101 (by kernel_rfl) (by exact e83) (by exact e85) q98 q97) ?_
        refine lv (d := 40) rfl rfl (by kernel_rfl) (e_load1 (ad := ⟨b99, o100 + (x74 : Int).toNat * 1, none⟩) (v := .pointer (some ⟨g107, 0, none⟩)) Try.underlying74 rfl (by kernel_rfl) (hpx (S86.inv.cell (Y73.cell (k104 0 _ rfl))))) ?_
        refine lv (d := 7) rfl rfl (by kernel_rfl) (e_assign (v := .pointer (some ⟨g107, 0, none⟩)) (by kernel_rfl)) ?_
        refine wpList_nil ?_
        refine then_n ?_
        refine region_mix (S := (fun (L_ : Array Bool) (w_ : World) => Ext H72 (hp w_) ∧ (L_.getD 12 true = false → (∀ b_, (is g62) b_ → hp w_ b_ = hp w70 b_)))) (by kernel_rfl) S86 ?_
        intro w108 S109 K110 hc111
        have o112 := b63
        have hs113 : (fun (L_ : Array Bool) (w_ : World) => Ext H72 (hp w_) ∧ (L_.getD 12 true = false → (∀ b_, (is g62) b_ → hp w_ b_ = hp w70 b_))) (Array.replicate 13 false) w108 := ⟨S109.inv, (fun _ => (fun b_ h_ => K110.at 0 rfl b_ h_))⟩
        replace b63 := K110.blk 0 rfl b63
        replace h8 := h8.move (K110.at 1 rfl)
        replace b6 := K110.blk 2 rfl b6
        replace b11 := K110.blk 3 rfl b11
        replace h80 := h80.move (K110.at 4 rfl)
        refine xv (i := 0) (d := 41) rfl rfl rfl (by kernel_rfl) (by kernel_rfl) (fun L_ w_ => by simp only [getD_set_ne true (show (0 : Nat) ≠ 12 by decide)]) hc111 hs113 (fun L_ w_ hc_ hu_ hs_ => e_move (v := .pointer (some ⟨g62, 0, none⟩)) (by exact e82)) ?_; intro hc114 hs115
        refine xv (i := 1) (d := 42) rfl rfl rfl (by kernel_rfl) (by kernel_rfl) (fun L_ w_ => by simp only [getD_set_ne true (show (1 : Nat) ≠ 12 by decide)]) hc114 hs115 (fun L_ w_ hc_ hu_ hs_ => e_move (v := .pointer (some ⟨g62, 0, none⟩)) (by exact e82)) ?_; intro hc116 hs117
        refine xv (i := 2) (d := 43) rfl rfl rfl (by kernel_rfl) (by kernel_rfl) (fun L_ w_ => by simp only [getD_set_ne true (show (2 : Nat) ≠ 12 by decide)]) hc116 hs117 (fun L_ w_ hc_ hu_ hs_ => e_nilCheck (ad := ⟨g62, 0, none⟩) (by kernel_rfl)) ?_; intro hc118 hs119
        refine xv (i := 3) (d := 44) rfl rfl rfl (by kernel_rfl) (by kernel_rfl) (fun L_ w_ => by simp only [getD_set_ne true (show (3 : Nat) ≠ 12 by decide)]) hc118 hs119 (fun L_ w_ hc_ hu_ hs_ => e_fieldAddr (b := g62) (off := 0) (o := 3) Try.underlying125 rfl rfl (sz := 1) (by kernel_rfl) (by decide) (by kernel_rfl)) ?_; intro hc120 hs121
        refine xv (i := 4) (d := 45) rfl rfl rfl (by kernel_rfl) (by kernel_rfl) (fun L_ w_ => by simp only [getD_set_ne true (show (4 : Nat) ≠ 12 by decide)]) hc120 hs121 (fun L_ w_ hc_ hu_ hs_ => e_load1 (ad := ⟨g62, 0 + 3, none⟩) (v := .slice A77 x76.length c78) Try.underlying87 rfl (by kernel_rfl) (blk_cell (((hs_.2 (unl 9 12 4 hc_ hu_ (by kernel_rfl))) _ rfl).trans o112) rfl)) ?_; intro hc122 hs123
        refine xv (i := 5) (d := 46) rfl rfl rfl (by kernel_rfl) (by kernel_rfl) (fun L_ w_ => by simp only [getD_set_ne true (show (5 : Nat) ≠ 12 by decide)]) hc122 hs123 (fun L_ w_ hc_ hu_ hs_ => e_move (v := .pointer (some ⟨g107, 0, none⟩)) (by kernel_rfl)) ?_; intro hc124 hs125
        refine xone (i := 6) (by kernel_rfl) hc124 ?_
        refine yo (i := 6) (d := 47) rfl rfl (wanted_none rfl _) (by kernel_rfl) (by kernel_rfl) (fun L_ w_ => by simp only [getD_set_ne true (show (6 : Nat) ≠ 12 by decide)]) hs125 (e_move (v := .func (.func 127) #[] #[.pointer (some ⟨g5, 0, none⟩), .pointer (some ⟨g10, 0, none⟩)]) (by exact e81)) ?_; intro hc126 hs127
        have S128 := S109.pull (F := (is g10)) (Fr := [(is g62), (is g7), (is g5), F79]) 3 rfl rfl
        have S129 := S128.pull (F := (is g5)) (Fr := [(is g10), (is g62), (is g7), F79]) 3 rfl rfl
        have S130 := S129.pull (F := (is g7)) (Fr := [(is g5), (is g10), (is g62), F79]) 3 rfl rfl
        obtain ⟨t131, u132, M⟩ := bnd M
        refine xone (i := 7) (by kernel_rfl) hc126 ?_
        refine yc (i := 7) rfl (wanted_none rfl _) (by kernel_rfl) (by kernel_rfl) (e_call (l := [.tmp 46, .tmp 47]) (vs := [.pointer (some ⟨g107, 0, none⟩), .func (.func 127) #[] #[.pointer (some ⟨g5, 0, none⟩), .pointer (some ⟨g10, 0, none⟩)]]) Try.func110 (by kernel_rfl) rfl (by kernel_rfl) rfl) (ih k91 (by omega) w108 H72 (x1.args.getD ((x74).toNat) (Tm.mk 0 0 [] [])) g107 x75 g5 g7 x9 g10 (h106.ext' Y73) h8 b6 b11 (St.own' (Fa := [(is g7), (is g5), (is g10)]) (Fr := [(is g62), F79]) S130) t131 u132) ?_
        rintro hc141 _ w133 ⟨g139, H134, rfl, h136, b137, b138, h140, T135⟩
        refine ⟨_, rfl, ?_⟩
        obtain ⟨S142, K143⟩ := St.call (Fa := [(is g7), (is g5), (is g10)]) (Fr := [(is g62), F79]) S130 T135
        replace b63 := K143.blk 0 rfl b63
        replace h80 := h80.move (K143.at 1 rfl)
        have E144 := T135.ext
        replace h80 := h80.ext E144
        refine ⟨⟨(Ext.trans E144 S142.inv), (fun q_ => (fun b_ h_ => (K143.at 0 rfl b_ h_).trans ((hs127.2 (by decide +kernel)) b_ h_)))⟩, fun hs145 => ?_⟩
        refine xone (i := 8) (by kernel_rfl) hc141 ?_
        refine ye (i := 8) (d := 49) rfl rfl (wanted_none rfl _) (by kernel_rfl) (by kernel_rfl) (new_blk (v := fun g_ => .slice (some ⟨g_, 0, none⟩) 1 1) (cs := #[.pointer (some ⟨g139, 0, none⟩)]) (t := 74) S142 (by kernel_rfl)) ?_
        rintro hc151 _ w146 ⟨g147, rfl, b148, S149, K150⟩
        replace b137 := K150.blk 0 rfl b137
        replace h136 := h136.move (K150.at 1 rfl)
        replace b138 := K150.blk 2 rfl b138
        replace b63 := K150.blk 3 rfl b63
        replace h80 := h80.move (K150.at 4 rfl)
        refine ⟨⟨(Ext.trans E144 S149.inv), (fun q_ => (fun b_ h_ => (K150.at 3 rfl b_ h_).trans ((hs145.2 (by decide +kernel)) b_ h_)))⟩, fun hs152 => ?_⟩
        obtain ⟨q153, M⟩ := chk M
        have S154 := S149.pull (F := F79) (Fr := [(is g147), (is g5), (is g7), (is g10), (is g62)]) 5 rfl rfl
        have S155 := S154.unit
        have S156 := S155.pull (F := F79) (Fr := [no, (is g147), (is g5), (is g7), (is g10), (is g62)]) 1 rfl rfl
        refine xone (i := 9) (by kernel_rfl) hc151 ?_
        refine ye (i := 9) (d := 50) rfl rfl (wanted_none rfl _) (by kernel_rfl) (by kernel_rfl) (e_append (d := (node 125)) (n := x76.length) (xs := x76) (cap := c78) (A := A77) (ys := [t131.1]) (A2 := (some ⟨g147, 0, none⟩)) (c2 := 1) (z := .pointer none) (bytes := 8) S156 Try.underlying87 (by kernel_rfl) rfl (by decide) (by kernel_rfl) rfl (by kernel_rfl) h80 (elsO_one1 ⟨_, rfl, h140⟩) (.inr (blk_news b148 rfl)) (show (x76.length + [t131.1].length) * 8 ≤ _ by first | omega | (simp only [List.length_cons, List.length_nil]; omega)) (by decide)) ?_
        rintro hc164 _ w157 ⟨A158, c159, F160, rfl, h161, S162, K163⟩
        replace b148 := K163.blk 0 rfl b148
        replace b137 := K163.blk 1 rfl b137
        replace h136 := h136.move (K163.at 2 rfl)
        replace b138 := K163.blk 3 rfl b138
        replace b63 := K163.blk 4 rfl b63
        refine ⟨⟨(Ext.trans E144 S162.inv), (fun q_ => (fun b_ h_ => (K163.at 4 rfl b_ h_).trans ((hs152.2 (by decide +kernel)) b_ h_)))⟩, fun hs165 => ?_⟩
        refine xone (i := 10) (by kernel_rfl) hc164 ?_
        refine yo (i := 10) (d := 51) rfl rfl (wanted_none rfl _) (by kernel_rfl) (by kernel_rfl) (fun L_ w_ => by simp only [getD_set_ne true (show (10 : Nat) ≠ 12 by decide)]) hs165 (e_nilCheck (ad := ⟨g62, 0, none⟩) (by kernel_rfl)) ?_; intro hc166 hs167
        refine xone (i := 11) (by kernel_rfl) hc166 ?_
        refine yo (i := 11) (d := 52) rfl rfl (wanted_none rfl _) (by kernel_rfl) (by kernel_rfl) (fun L_ w_ => by simp only [getD_set_ne true (show (11 : Nat) ≠ 12 by decide)]) hs167 (e_fieldAddr (b := g62) (off := 0) (o := 3) Try.underlying125 rfl rfl (sz := 1) (by kernel_rfl) (by decide) (by kernel_rfl)) ?_; intro hc168 hs169
        have S170 := S162.pull (F := (is g62)) (Fr := [F160, (is g147), (is g5), (is g7), (is g10)]) 5 rfl rfl
        refine xone (i := 12) (by kernel_rfl) hc168 ?_
        refine ys (i := 12) rfl rfl (wanted_none rfl _) (by kernel_rfl) (by kernel_rfl) (e_store (g := g62) (o := 0 + 3) (v := .slice A158 ((x76 ++ [t131.1]).length) c159) (cur' := #[.int .i64 3, .int .i64 x1.n, str x1.text, .slice A158 ((x76 ++ [t131.1]).length) c159]) (vs := [.slice A158 ((x76 ++ [t131.1]).length) c159]) S170 (by kernel_rfl) (by kernel_rfl) rfl (by kernel_rfl) b63 (Nat.le_of_ble_eq_true rfl) (List.forall_mem_cons.2 ⟨rfl, (fun _ h_ => by cases h_)⟩) rfl) ?_
        rintro hc175 w171 ⟨b172, S173, K174⟩
        replace h161 := h161.move (K174.at 0 rfl)
        replace b148 := K174.blk 1 rfl b148
        replace b137 := K174.blk 2 rfl b137
        replace h136 := h136.move (K174.at 3 rfl)
        replace b138 := K174.blk 4 rfl b138
        refine ⟨⟨(Ext.trans E144 S173.inv), (fun q_ => absurd q_ (by decide +kernel))⟩, fun hs176 => ?_⟩
        clear b63
        refine xn (by kernel_rfl) ?_ _
        refine inb_n ?_
        refine then_n ?_
        refine wp_region_lit ?_
        refine lv (d := 53) rfl rfl (by kernel_rfl) (e_add (k := .i64) (a := x74) (b := 1) (by exact e85) rfl) ?_
        refine lv (d := 37) rfl rfl (by kernel_rfl) (e_move (v := .int .i64 (IntKind.i64.wrap (x74 + 1))) (by kernel_rfl)) ?_
        refine wpList_nil ?_
        refine then_n ?_
        have S177 := S173.pull (F := F160) (Fr := [(is g62), (is g147), (is g5), (is g7), (is g10)]) 1 rfl rfl
        have S178 := S177.pull (F := (is g10)) (Fr := [F160, (is g62), (is g147), (is g5), (is g7)]) 5 rfl rfl
        have S179 := S178.pull (F := (is g5)) (Fr := [(is g10), F160, (is g62), (is g147), (is g7)]) 4 rfl rfl
        have S180 := S179.pull (F := (is g7)) (Fr := [(is g5), (is g10), F160, (is g62), (is g147)]) 5 rfl rfl
        have S181 := S180.pull (F := (is g62)) (Fr := [(is g7), (is g5), (is g10), F160, (is g147)]) 4 rfl rfl
        have S182 := St.first (Fa := [(is g62), (is g7), (is g5), (is g10), F160]) (Fr := [(is g147)]) S181
        exact ⟨k91, (by omega), _, H134, (IntKind.i64.wrap (x74 + 1)), t131.2, (x76 ++ [t131.1]), A158, c159, F160, (by omega), rfl, (by exact e81), (by exact e82), (by exact e83), (by exact e84), (by kernel_rfl), b172, h136, b137, b138, h161, (Y73.trans E144), S182, M⟩
      replace M := ifn q97 M
      refine cond_f rfl (bf q97 (by kernel_rfl)) ?_
      refine wp_exit ?_
      refine then_e ?_
      refine then_e ?_
      refine inb_hit ?_
      refine then_n ?_
      refine wp_seq ?_
      refine wp_region_lit ?_
      refine lv (d := 54) rfl rfl (by kernel_rfl) (e_move (v := .pointer (some ⟨g62, 0, none⟩)) (by exact e82)) ?_
      refine lv (d := 4) rfl rfl (by kernel_rfl) (e_assign (v := .pointer (some ⟨g62, 0, none⟩)) (by kernel_rfl)) ?_
      refine wpList_nil ?_
      refine then_n ?_
      refine wp_ret ?_
      refine inb_r ?_
      refine then_r ?_
      have l183 := h80.le
      have S184 := S86.pull (F := F79) (Fr := [(is g62), (is g7), (is g5), (is g10)]) 4 rfl rfl
      obtain ⟨H185, S186, E187, h188, z189⟩ := S184.frzRow h80
      replace h8 := h8.ext E187
      obtain ⟨H190, S191, E192, h193, z194⟩ := S186.frzBlk b63
      replace h8 := h8.ext E192
      have h195 : NodeR 125 H190 (Tm.mk 3 x1.n x1.text x76) (.pointer (some ⟨g62, 0, none⟩)) := node_mk (A := A77) (c := c78) h193 rfl l183 (h188.ext E192)
      obtain rfl := Option.some.inj M
      have S196 := S191.pull (F := (is g10)) (Fr := [(is g7), (is g5)]) 2 rfl rfl
      have S197 := S196.pull (F := (is g7)) (Fr := [(is g10), (is g5)]) 1 rfl rfl
      have S198 := S197.pull (F := (is g5)) (Fr := [(is g7), (is g10)]) 2 rfl rfl
      exact ret1 rfl rfl  (show _ = .pointer (some ⟨g62, 0, none⟩) from (by kernel_rfl)) ⟨g62, H190, rfl, h8, b6, b11, h195, S198⟩
    replace M := ifn q37 M
    refine cond_f rfl (bf q37 (by kernel_rfl)) ?_
    refine wp_skip ?_
    refine inb_n ?_
    refine then_n ?_
    refine wp_seq ?_
    refine wp_region_lit ?_
    refine lv (d := 55) rfl rfl (by kernel_rfl) (e_move (v := .pointer (some ⟨g2, 0, none⟩)) (by kernel_rfl)) ?_
    refine lv (d := 4) rfl rfl (by kernel_rfl) (e_assign (v := .pointer (some ⟨g2, 0, none⟩)) (by kernel_rfl)) ?_
    refine wpList_nil ?_
    refine then_n ?_
    refine wp_ret ?_
    obtain rfl := Option.some.inj M
    have S199 := S0_.pull (F := (is g10)) (Fr := [(is g7), (is g5)]) 2 rfl rfl
    have S200 := S199.pull (F := (is g7)) (Fr := [(is g10), (is g5)]) 1 rfl rfl
    have S201 := S200.pull (F := (is g5)) (Fr := [(is g7), (is g10)]) 2 rfl rfl
    exact ret1 rfl rfl  (show _ = .pointer (some ⟨g2, 0, none⟩) from (by kernel_rfl)) ⟨g2, H, rfl, h8, b6, b11, h3, S201⟩
theorem impl_node_mapped.calls (k : Nat) (w : World) (H : Hp) (x1 : Tm) (g2 : Nat) (x4 : List (Int × Int)) (g5 : Nat) (g7 : Nat) (x9 : Int) (g10 : Nat) (h3 : NodeR 125 H x1 (.pointer (some ⟨g2, 0, none⟩))) (h8 : MapO encI tInt H (hp w) g7 x4) (b6 : w.heap[g5]? = some (.cells #[.map (some g7)] 153 (0, 0))) (b11 : w.heap[g10]? = some (.cells #[.int .i64 x9] 3 (0, 0))) (S : Own [(is g7), (is g5), (is g10)] H w) (r : Tm × (List (Int × Int))) (M : impl_node_mapped.f k x1 x4 x9 = some r) :
    Calls Try.prog 110 #[.pointer (some ⟨g2, 0, none⟩), .func (.func 127) #[] #[.pointer (some ⟨g5, 0, none⟩), .pointer (some ⟨g10, 0, none⟩)]] w (fun e e_w => ∃ (g_1 : Nat) (H_ : Hp), e = .returned (.pointer (some ⟨g_1, 0, none⟩)) ∧ MapO encI tInt H_ (hp e_w) g7 r.2 ∧ e_w.heap[g5]? = some (.cells #[.map (some g7)] 153 (0, 0)) ∧ e_w.heap[g10]? = some (.cells #[.int .i64 x9] 3 (0, 0)) ∧ NodeR 125 H_ r.1 (.pointer (some ⟨g_1, 0, none⟩)) ∧ St (anyOf [(is g7), (is g5), (is g10)]) H w [(is g5), (is g7), (is g10)] H_ e_w) := (impl_node_mapped.all (k + 1)) k (Nat.lt_succ_self k) w H x1 g2 x4 g5 g7 x9 g10 h3 h8 b6 b11 S r M
end Go.Proofs.Ytognefkopbbdnaa
