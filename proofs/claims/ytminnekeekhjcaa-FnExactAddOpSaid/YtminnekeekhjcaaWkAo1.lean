import Derived.Test.YtminnekeekhjcaaProg
import Derived.Test.YtminnekeekhjcaaSo
import Derived.Test.YtminnekeekhjcaaY18
namespace Go.Proofs.Ytminnekeekhjcaa
open Go.Sx Go.Sy
attribute [local irreducible] Go.wpList Go.wpStill Go.wpQuiet Go.Code.wp
set_option maxRecDepth 100000
set_option maxHeartbeats 1000000
set_option linter.unusedVariables false
set_option linter.unusedSimpArgs false

/-! laws_szByteS -/
def st44 : Ty Sy.Op := iso (pair sl5 (pair tInt tInt)) (fun x => (x.name, x.pri, x.typ))
theorem st44_open {H : Hp} {x : Sy.Op} {cs : List Value} (h : st44.R H x cs) : ∃ (A0 : Option Addr) (c0 : Nat), cs = [.slice A0 x.name.length c0, .int .i64 x.pri, .int .i64 x.typ] ∧ x.name.length ≤ c0 ∧ Rd tByte H A0 x.name := by
  obtain ⟨_, _, rfl, ⟨A0, c0, rfl, l0, h0⟩, ⟨_, _, rfl, rfl, rfl⟩⟩ := h
  exact ⟨A0, c0, rfl, l0, h0⟩
theorem st44_mkR {H : Hp} {x : Sy.Op} {A0 : Option Addr} {c0 : Nat} (l0 : x.name.length ≤ c0) (h0 : Rd tByte H A0 x.name) : st44.R H x [.slice A0 x.name.length c0, .int .i64 x.pri, .int .i64 x.typ] := ⟨[.slice A0 x.name.length c0], [.int .i64 x.pri, .int .i64 x.typ], rfl, ⟨A0, c0, rfl, l0, h0⟩, ⟨[.int .i64 x.pri], [.int .i64 x.typ], rfl, rfl, rfl⟩⟩
theorem st44_mkO {H X : Hp} {F0 : Foot} {x : Sy.Op} {A0 : Option Addr} {c0 : Nat} (h0 : Row tByte 5 H X F0 A0 c0 x.name) : st44.O H X F0 x [.slice A0 x.name.length c0, .int .i64 x.pri, .int .i64 x.typ] := (pairO1 (a := sl5) (b := (pair tInt tInt)) (x := (x.name, (x.pri, x.typ))) (c0 := [.slice A0 x.name.length c0]) (c1 := [.int .i64 x.pri, .int .i64 x.typ]) ⟨A0, c0, rfl, h0⟩ (pairO0 (a := tInt) (b := tInt) (x := (x.pri, x.typ)) (c0 := [.int .i64 x.pri]) (c1 := [.int .i64 x.typ]) (F := no) rfl rfl))
theorem st44_openO {H X : Hp} {F : Foot} {x : Sy.Op} {cs : List Value} (h : st44.O H X F x cs) : ∃ (A0 : Option Addr) (c0 : Nat) (F0 : Foot), cs = [.slice A0 x.name.length c0, .int .i64 x.pri, .int .i64 x.typ] ∧ Row tByte 5 H X F0 A0 c0 x.name ∧ (∀ b, F0 b → F b) := by
  obtain ⟨_, _, K1, L1, rfl, ⟨A0, c0, rfl, h0⟩, ⟨_, _, K0, L0, rfl, rfl, rfl, d0, s0⟩, d1, s1⟩ := h
  exact ⟨A0, c0, _, rfl, h0, fun b hb => s1 b (.inl (hb))⟩
theorem st44_c1 {H X : Hp} {F : Foot} {x : Sy.Op} {cs : List Value} (h : st44.O H X F x cs) : cs[1]? = some (.int .i64 x.pri) := by obtain ⟨_, _, _, rfl, _, _⟩ := st44_openO h; rfl
theorem st44_r1 {H : Hp} {x : Sy.Op} {cs : List Value} (h : st44.R H x cs) : cs[1]? = some (.int .i64 x.pri) := by obtain ⟨_, _, rfl, _, _⟩ := st44_open h; rfl
theorem st44_c2 {H X : Hp} {F : Foot} {x : Sy.Op} {cs : List Value} (h : st44.O H X F x cs) : cs[2]? = some (.int .i64 x.typ) := by obtain ⟨_, _, _, rfl, _, _⟩ := st44_openO h; rfl
theorem st44_r2 {H : Hp} {x : Sy.Op} {cs : List Value} (h : st44.R H x cs) : cs[2]? = some (.int .i64 x.typ) := by obtain ⟨_, _, rfl, _, _⟩ := st44_open h; rfl
theorem st44_u0 {H X : Hp} {F1 F2 : Foot} {x : Sy.Op} {y : List UInt8} {A : Option Addr} {c : Nat} {cs : List Value} (hy : Row tByte 5 H X F2 A c y) (h : st44.O H X F1 x cs) : st44.O H X (or2 F1 F2) {x with name := y} (cs.take 0 ++ [.slice A y.length c] ++ cs.drop 1) := by
  obtain ⟨_, _, _, rfl, h0, _⟩ := st44_openO h
  exact st44_mkO (x := {x with name := y}) (hy.mono fun b hb => .inr hb)
theorem st44_u1 {H X : Hp} {F1 F2 : Foot} {x : Sy.Op} (y : Int) {cs : List Value} (h : st44.O H X F1 x cs) : st44.O H X (or2 F1 F2) {x with pri := y} (cs.take 1 ++ [.int .i64 y] ++ cs.drop 2) := by
  obtain ⟨_, _, _, rfl, h0, s0⟩ := st44_openO h
  exact st44_mkO (x := {x with pri := y}) (h0.mono fun b hb => .inl (s0 b hb))
theorem st44_u2 {H X : Hp} {F1 F2 : Foot} {x : Sy.Op} (y : Int) {cs : List Value} (h : st44.O H X F1 x cs) : st44.O H X (or2 F1 F2) {x with typ := y} (cs.take 2 ++ [.int .i64 y] ++ cs.drop 3) := by
  obtain ⟨_, _, _, rfl, h0, s0⟩ := st44_openO h
  exact st44_mkO (x := {x with typ := y}) (h0.mono fun b hb => .inl (s0 b hb))
def z44 : Sy.Op := ⟨([] : List UInt8), (0 : Int), (0 : Int)⟩
theorem z44_O (H X : Hp) : st44.O H X no z44 [.slice none 0 0, .int .i64 (0 : Int), .int .i64 (0 : Int)] := st44_mkO (x := z44) (Row.nil _ _ _ _ no)
theorem z44_R (H : Hp) : st44.R H z44 [.slice none 0 0, .int .i64 (0 : Int), .int .i64 (0 : Int)] := st44_mkR (x := z44) (Nat.le_refl _) (Rd.nil _ _ _)
def laws_szByteS.f (x1 : List UInt8) (x6 : Int) : Option Int := (if (IntKind.i64.wrap (x6 - (x1.length : Int))) < 0 then some (-1) else some (IntKind.i64.wrap (x6 - (x1.length : Int))))
theorem laws_szByteS.calls (w : World) (H : Hp) (x1 : List UInt8) (A2 : Option Addr) (c3 : Nat) (x6 : Int) (h4 : Rd tByte H A2 x1) (l5 : x1.length ≤ c3) (S : Own [] H w) (r : Int) (M : laws_szByteS.f x1 x6 = some r) :
    Calls Try.prog 46 #[.slice A2 x1.length c3, .int .i64 x6] w (fun e e_w => e = .returned (.int .i64 r) ∧ Chg no w e_w) := by
  rw [laws_szByteS.f] at M
  refine enter (l := [.slice A2 x1.length c3, .int .i64 x6]) 12 Try.func46 rfl rfl rfl ?_
  have S0_ := S.st
  refine wp_seq ?_
  refine wp_region_lit ?_
  refine lv (d := 4) rfl rfl (by kernel_rfl) (e_assign (v := .int .i64 0) rfl) ?_
  refine wpList_nil ?_
  refine then_n ?_
  refine wp_seq ?_
  refine wp_region_lit ?_
  refine lv (d := 5) rfl rfl (by kernel_rfl) (e_move (v := .int .i64 x6) (by kernel_rfl)) ?_
  refine lv (d := 6) rfl rfl (by kernel_rfl) (e_move (v := .slice A2 x1.length c3) (by kernel_rfl)) ?_
  refine lv (d := 7) rfl rfl (by kernel_rfl) (e_len (A := A2) (n := x1.length) (c := c3) Try.underlying32 (by kernel_rfl)) ?_
  refine lv (d := 8) rfl rfl (by kernel_rfl) (e_sub (k := .i64) (a := x6) (b := (x1.length : Int)) (by kernel_rfl) (by kernel_rfl)) ?_
  refine lv (d := 1) rfl rfl (by kernel_rfl) (e_assign (v := .int .i64 (IntKind.i64.wrap (x6 - (x1.length : Int)))) (by kernel_rfl)) ?_
  refine wpList_nil ?_
  refine then_n ?_
  refine wp_seq ?_
  refine wp_seq ?_
  refine wp_region_lit ?_
  refine lv (d := 9) rfl rfl (by kernel_rfl) (e_move (v := .int .i64 (IntKind.i64.wrap (x6 - (x1.length : Int)))) (by kernel_rfl)) ?_
  refine lv (d := 10) rfl rfl (by kernel_rfl) (e_lss (k := .i64) (a := (IntKind.i64.wrap (x6 - (x1.length : Int)))) (b := 0) (by kernel_rfl) rfl) ?_
  refine wpList_nil ?_
  refine then_n ?_
  by_cases q7 : (IntKind.i64.wrap (x6 - (x1.length : Int))) < 0
  · replace M := ifp q7 M
    refine cond_t rfl (bt q7 (by kernel_rfl)) ?_
    refine wp_seq ?_
    refine wp_region_lit ?_
    refine lv (d := 4) rfl rfl (by kernel_rfl) (e_assign (v := .int .i64 (-1)) rfl) ?_
    refine wpList_nil ?_
    refine then_n ?_
    refine wp_ret ?_
    refine then_r ?_
    obtain rfl := Option.some.inj M
    exact ret1 rfl rfl  (show _ = .int .i64 (-1) from (by kernel_rfl)) ⟨rfl, S0_.chg⟩
  replace M := ifn q7 M
  refine cond_f rfl (bf q7 (by kernel_rfl)) ?_
  refine wp_skip ?_
  refine then_n ?_
  refine wp_seq ?_
  refine wp_region_lit ?_
  refine lv (d := 11) rfl rfl (by kernel_rfl) (e_move (v := .int .i64 (IntKind.i64.wrap (x6 - (x1.length : Int)))) (by kernel_rfl)) ?_
  refine lv (d := 4) rfl rfl (by kernel_rfl) (e_assign (v := .int .i64 (IntKind.i64.wrap (x6 - (x1.length : Int)))) (by kernel_rfl)) ?_
  refine wpList_nil ?_
  refine then_n ?_
  refine wp_ret ?_
  obtain rfl := Option.some.inj M
  exact ret1 rfl rfl  (show _ = .int .i64 (IntKind.i64.wrap (x6 - (x1.length : Int))) from (by kernel_rfl)) ⟨rfl, S0_.chg⟩

/-! laws_szOp -/
def laws_szOp.f (x1 : Sy.Op) (x6 : Int) : Option Int := ((laws_szByteS.f x1.name x6).bind fun t12 => (if t12 < 0 then some (-1) else some t12))
theorem laws_szOp.calls (w : World) (H : Hp) (x1 : Sy.Op) (A2 : Option Addr) (c3 : Nat) (x6 : Int) (h4 : Rd tByte H A2 x1.name) (l5 : x1.name.length ≤ c3) (S : Own [] H w) (r : Int) (M : laws_szOp.f x1 x6 = some r) :
    Calls Try.prog 23 #[.agg #[.slice A2 x1.name.length c3, .int .i64 x1.pri, .int .i64 x1.typ], .int .i64 x6] w (fun e e_w => e = .returned (.int .i64 r) ∧ Chg no w e_w) := by
  rw [laws_szOp.f] at M
  refine enter (l := [.agg #[.slice A2 x1.name.length c3, .int .i64 x1.pri, .int .i64 x1.typ], .int .i64 x6]) 12 Try.func23 rfl rfl rfl ?_
  have S0_ := S.st
  refine wp_seq ?_
  refine wp_region_lit ?_
  refine lve (d := 2) rfl rfl (by kernel_rfl) (new_blk (v := fun g_ => .pointer (some ⟨g_, 0, none⟩)) (cs := #[.slice A2 x1.name.length c3, .int .i64 x1.pri, .int .i64 x1.typ]) (t := 44) S0_ (by kernel_rfl)) ?_
  rintro _ w7 ⟨g8, rfl, b9, S10, K11⟩
  refine lv (d := 4) rfl rfl (by kernel_rfl) (e_assign (v := .int .i64 0) rfl) ?_
  refine wpList_nil ?_
  refine then_n ?_
  refine wp_seq ?_
  refine wp_region_lit ?_
  refine lv (d := 5) rfl rfl (by kernel_rfl) (e_fieldAddr (b := g8) (off := 0) (o := 0) Try.underlying44 rfl rfl (sz := 1) (by kernel_rfl) (by decide) (by kernel_rfl)) ?_
  refine lv (d := 6) rfl rfl (by kernel_rfl) (e_load1 (ad := ⟨g8, 0 + 0, none⟩) (v := .slice A2 x1.name.length c3) Try.underlying32 rfl (by kernel_rfl) (blk_cell b9 rfl)) ?_
  refine lv (d := 7) rfl rfl (by kernel_rfl) (e_move (v := .int .i64 x6) (by kernel_rfl)) ?_
  obtain ⟨t12, u13, M⟩ := bnd M
  refine lcall (d := 8) rfl rfl (by kernel_rfl) (e_call (l := [.tmp 6, .tmp 7]) (vs := [.slice A2 x1.name.length c3, .int .i64 x6]) Try.func46 (by kernel_rfl) rfl (by kernel_rfl) rfl) (laws_szByteS.calls w7 H x1.name A2 c3 x6 h4 l5 S10.own0 t12 u13) ?_
  rintro _ w14 ⟨rfl, C15⟩
  refine ⟨_, rfl, ?_⟩
  obtain ⟨S16, K17⟩ := S10.still C15
  replace b9 := K17.blk 0 rfl b9
  refine lv (d := 1) rfl rfl (by kernel_rfl) (e_assign (v := .int .i64 t12) (by kernel_rfl)) ?_
  refine wpList_nil ?_
  refine then_n ?_
  refine wp_seq ?_
  refine wp_seq ?_
  refine wp_region_lit ?_
  refine lv (d := 9) rfl rfl (by kernel_rfl) (e_move (v := .int .i64 t12) (by kernel_rfl)) ?_
  refine lv (d := 10) rfl rfl (by kernel_rfl) (e_lss (k := .i64) (a := t12) (b := 0) (by kernel_rfl) rfl) ?_
  refine wpList_nil ?_
  refine then_n ?_
  by_cases q18 : t12 < 0
  · replace M := ifp q18 M
    refine cond_t rfl (bt q18 (by kernel_rfl)) ?_
    refine wp_seq ?_
    refine wp_region_lit ?_
    refine lv (d := 4) rfl rfl (by kernel_rfl) (e_assign (v := .int .i64 (-1)) rfl) ?_
    refine wpList_nil ?_
    refine then_n ?_
    refine wp_ret ?_
    refine then_r ?_
    obtain rfl := Option.some.inj M
    exact ret1 rfl rfl  (show _ = .int .i64 (-1) from (by kernel_rfl)) ⟨rfl, S16.chg⟩
  replace M := ifn q18 M
  refine cond_f rfl (bf q18 (by kernel_rfl)) ?_
  refine wp_skip ?_
  refine then_n ?_
  refine wp_seq ?_
  refine wp_region_lit ?_
  refine lv (d := 11) rfl rfl (by kernel_rfl) (e_move (v := .int .i64 t12) (by kernel_rfl)) ?_
  refine lv (d := 4) rfl rfl (by kernel_rfl) (e_assign (v := .int .i64 t12) (by kernel_rfl)) ?_
  refine wpList_nil ?_
  refine then_n ?_
  refine wp_ret ?_
  obtain rfl := Option.some.inj M
  exact ret1 rfl rfl  (show _ = .int .i64 t12 from (by kernel_rfl)) ⟨rfl, S16.chg⟩

/-! laws_szOpS -/
def laws_szOpS.l0 : Nat → (List Sy.Op) → Int → Int → Option Int
  | 0, _, _, _ => none
  | k20 + 1, x1, x10, x11 => (if x11 < (x1.length : Int) then (if 0 ≤ x11 then ((laws_szOp.f (x1.getD ((x11).toNat) z44) x10).bind fun t33 => (if t33 < 0 then some (-1) else (laws_szOpS.l0 k20 x1 t33 (IntKind.i64.wrap (x11 + 1))))) else none) else some x10)
def laws_szOpS.f (k : Nat) (x1 : List Sy.Op) (x6 : Int) : Option Int := (if (IntKind.i64.wrap (x6 - (x1.length : Int))) < 0 then some (-1) else (laws_szOpS.l0 k x1 (IntKind.i64.wrap (x6 - (x1.length : Int))) 0))
theorem laws_szOpS.calls (k : Nat) (w : World) (H : Hp) (x1 : List Sy.Op) (A2 : Option Addr) (c3 : Nat) (x6 : Int) (h4 : Rd st44 H A2 x1) (l5 : x1.length ≤ c3) (S : Own [] H w) (r : Int) (M : laws_szOpS.f k x1 x6 = some r) :
    Calls Try.prog 7 #[.slice A2 x1.length c3, .int .i64 x6] w (fun e e_w => e = .returned (.int .i64 r) ∧ Chg no w e_w) := by
  rw [laws_szOpS.f] at M
  refine enter (l := [.slice A2 x1.length c3, .int .i64 x6]) 27 Try.func7 rfl rfl rfl ?_
  have S0_ := S.st
  refine wp_seq ?_
  refine wp_region_lit ?_
  refine lv (d := 4) rfl rfl (by kernel_rfl) (e_assign (v := .int .i64 0) rfl) ?_
  refine wpList_nil ?_
  refine then_n ?_
  refine wp_seq ?_
  refine wp_region_lit ?_
  refine lv (d := 6) rfl rfl (by kernel_rfl) (e_move (v := .int .i64 x6) (by kernel_rfl)) ?_
  refine lv (d := 7) rfl rfl (by kernel_rfl) (e_move (v := .slice A2 x1.length c3) (by kernel_rfl)) ?_
  refine lv (d := 8) rfl rfl (by kernel_rfl) (e_len (A := A2) (n := x1.length) (c := c3) Try.underlying22 (by kernel_rfl)) ?_
  refine lv (d := 9) rfl rfl (by kernel_rfl) (e_sub (k := .i64) (a := x6) (b := (x1.length : Int)) (by kernel_rfl) (by kernel_rfl)) ?_
  refine lv (d := 1) rfl rfl (by kernel_rfl) (e_assign (v := .int .i64 (IntKind.i64.wrap (x6 - (x1.length : Int)))) (by kernel_rfl)) ?_
  refine wpList_nil ?_
  refine then_n ?_
  refine wp_seq ?_
  refine wp_seq ?_
  refine wp_region_lit ?_
  refine lv (d := 10) rfl rfl (by kernel_rfl) (e_move (v := .int .i64 (IntKind.i64.wrap (x6 - (x1.length : Int)))) (by kernel_rfl)) ?_
  refine lv (d := 11) rfl rfl (by kernel_rfl) (e_lss (k := .i64) (a := (IntKind.i64.wrap (x6 - (x1.length : Int)))) (b := 0) (by kernel_rfl) rfl) ?_
  refine wpList_nil ?_
  refine then_n ?_
  by_cases q7 : (IntKind.i64.wrap (x6 - (x1.length : Int))) < 0
  · replace M := ifp q7 M
    refine cond_t rfl (bt q7 (by kernel_rfl)) ?_
    refine wp_seq ?_
    refine wp_region_lit ?_
    refine lv (d := 4) rfl rfl (by kernel_rfl) (e_assign (v := .int .i64 (-1)) rfl) ?_
    refine wpList_nil ?_
    refine then_n ?_
    refine wp_ret ?_
    refine then_r ?_
    obtain rfl := Option.some.inj M
    exact ret1 rfl rfl  (show _ = .int .i64 (-1) from (by kernel_rfl)) ⟨rfl, S0_.chg⟩
  replace M := ifn q7 M
  refine cond_f rfl (bf q7 (by kernel_rfl)) ?_
  refine wp_skip ?_
  refine then_n ?_
  refine wp_seq ?_
  refine wp_seq ?_
  refine wp_region_lit ?_
  refine lv (d := 5) rfl rfl (by kernel_rfl) (e_assign (v := .int .i64 0) rfl) ?_
  refine wpList_nil ?_
  refine then_n ?_
  refine wp_block ?_
  refine wp_loop_g (fun k18 a19 w8 => ∃ (f9 : Nat → Value) (x10 : Int) (x11 : Int), a19 = mk 27 f9 ∧ f9 0 = .slice A2 x1.length c3 ∧ f9 1 = .int .i64 x10 ∧ f9 5 = .int .i64 x11 ∧ St (anyOf []) H w [] H w8 ∧ laws_szOpS.l0 k18 x1 x10 x11 = some r) k ⟨_, (IntKind.i64.wrap (x6 - (x1.length : Int))), 0, rfl, (by kernel_rfl), (by kernel_rfl), (by kernel_rfl), S0_, M⟩ ?_
  clear M
  rintro k18 a19 w8 ⟨f9, x10, x11, rfl, e12, e13, e14, S15, M⟩
  rcases k18 with _ | k20
  · rw [laws_szOpS.l0] at M
    cases M
  rw [laws_szOpS.l0] at M
  refine wp_seq ?_
  refine wp_seq ?_
  refine wp_region_lit ?_
  refine lv (d := 12) rfl rfl (by kernel_rfl) (e_move (v := .int .i64 x11) (by exact e14)) ?_
  refine lv (d := 13) rfl rfl (by kernel_rfl) (e_move (v := .slice A2 x1.length c3) (by exact e12)) ?_
  refine lv (d := 14) rfl rfl (by kernel_rfl) (e_len (A := A2) (n := x1.length) (c := c3) Try.underlying22 (by kernel_rfl)) ?_
  refine lv (d := 15) rfl rfl (by kernel_rfl) (e_lss (k := .i64) (a := x11) (b := (x1.length : Int)) (by kernel_rfl) (by kernel_rfl)) ?_
  refine wpList_nil ?_
  refine then_n ?_
  by_cases q21 : x11 < (x1.length : Int)
  · replace M := ifp q21 M
    refine cond_t rfl (bt q21 (by kernel_rfl)) ?_
    refine wp_skip ?_
    refine then_n ?_
    refine wp_seq ?_
    refine wp_block ?_
    refine wp_seq ?_
    refine wp_region_lit ?_
    refine lv (d := 18) rfl rfl (by kernel_rfl) (e_move (v := .slice A2 x1.length c3) (by exact e12)) ?_
    refine lv (d := 19) rfl rfl (by kernel_rfl) (e_move (v := .int .i64 x11) (by exact e14)) ?_
    obtain ⟨q22, M⟩ := chk M
    obtain ⟨b23, o24, e25⟩ := Rd.addr h4 (show (x11).toNat < x1.length by omega)
    obtain ⟨y26, r27, k28⟩ := Rd.at h4 e25 (getD_some z44 (show (x11).toNat < x1.length by omega))
    obtain ⟨A29, c30, rfl, l31, h32⟩ := st44_open r27
    refine lv (d := 20) rfl rfl (by kernel_rfl) (e_indexAddr (b := b23) (off := o24) (n := x1.length) (c := c3) (sz := 3) (i := x11) (k := .i64) Try.underlying22 e25 (by kernel_rfl) (by kernel_rfl) (by kernel_rfl) q22 q21) ?_
    refine lv (d := 21) rfl rfl (by kernel_rfl) (e_loadS (b := b23) (off := o24 + (x11 : Int).toNat * 3) (cs := [.slice A29 ((x1.getD ((x11).toNat) z44).name).length c30, .int .i64 ((x1.getD ((x11).toNat) z44).pri), .int .i64 ((x1.getD ((x11).toNat) z44).typ)]) Try.underlying44 rfl (by kernel_rfl) (by kernel_rfl) (fun j_ u_ e_ => (hpx (S15.inv.cell (k28 j_ u_ e_))))) ?_
    refine lv (d := 22) rfl rfl (by kernel_rfl) (e_move (v := .int .i64 x10) (by exact e13)) ?_
    obtain ⟨t33, u34, M⟩ := bnd M
    refine lcall (d := 23) rfl rfl (by kernel_rfl) (e_call (l := [.tmp 21, .tmp 22]) (vs := [.agg #[.slice A29 ((x1.getD ((x11).toNat) z44).name).length c30, .int .i64 ((x1.getD ((x11).toNat) z44).pri), .int .i64 ((x1.getD ((x11).toNat) z44).typ)], .int .i64 x10]) Try.func23 (by kernel_rfl) rfl (by kernel_rfl) rfl) (laws_szOp.calls w8 H (x1.getD ((x11).toNat) z44) A29 c30 x10 h32 l31 S15.own0 t33 u34) ?_
    rintro _ w35 ⟨rfl, C36⟩
    refine ⟨_, rfl, ?_⟩
    obtain ⟨S37, K38⟩ := S15.still C36
    refine lv (d := 1) rfl rfl (by kernel_rfl) (e_assign (v := .int .i64 t33) (by kernel_rfl)) ?_
    refine wpList_nil ?_
    refine then_n ?_
    refine wp_seq ?_
    refine wp_region_lit ?_
    refine lv (d := 24) rfl rfl (by kernel_rfl) (e_move (v := .int .i64 t33) (by kernel_rfl)) ?_
    refine lv (d := 25) rfl rfl (by kernel_rfl) (e_lss (k := .i64) (a := t33) (b := 0) (by kernel_rfl) rfl) ?_
    refine wpList_nil ?_
    refine then_n ?_
    by_cases q39 : t33 < 0
    · replace M := ifp q39 M
      refine cond_t rfl (bt q39 (by kernel_rfl)) ?_
      refine wp_seq ?_
      refine wp_region_lit ?_
      refine lv (d := 4) rfl rfl (by kernel_rfl) (e_assign (v := .int .i64 (-1)) rfl) ?_
      refine wpList_nil ?_
      refine then_n ?_
      refine wp_ret ?_
      refine inb_r ?_
      refine then_r ?_
      refine then_r ?_
      refine inb_r ?_
      refine then_r ?_
      obtain rfl := Option.some.inj M
      exact ret1 rfl rfl  (show _ = .int .i64 (-1) from (by kernel_rfl)) ⟨rfl, S37.chg⟩
    replace M := ifn q39 M
    refine cond_f rfl (bf q39 (by kernel_rfl)) ?_
    refine wp_skip ?_
    refine inb_n ?_
    refine then_n ?_
    refine wp_region_lit ?_
    refine lv (d := 16) rfl rfl (by kernel_rfl) (e_move (v := .int .i64 x11) (by exact e14)) ?_
    refine lv (d := 17) rfl rfl (by kernel_rfl) (e_add (k := .i64) (a := x11) (b := 1) (by kernel_rfl) rfl) ?_
    refine lv (d := 5) rfl rfl (by kernel_rfl) (e_assign (v := .int .i64 (IntKind.i64.wrap (x11 + 1))) (by kernel_rfl)) ?_
    refine wpList_nil ?_
    refine then_n ?_
    exact ⟨k20, (by omega), _, t33, (IntKind.i64.wrap (x11 + 1)), rfl, (by exact e12), (by kernel_rfl), (by kernel_rfl), S37, M⟩
  replace M := ifn q21 M
  refine cond_f rfl (bf q21 (by kernel_rfl)) ?_
  refine wp_exit ?_
  refine then_e ?_
  refine then_e ?_
  refine inb_hit ?_
  refine then_n ?_
  refine wp_seq ?_
  refine wp_region_lit ?_
  refine lv (d := 26) rfl rfl (by kernel_rfl) (e_move (v := .int .i64 x10) (by exact e13)) ?_
  refine lv (d := 4) rfl rfl (by kernel_rfl) (e_assign (v := .int .i64 x10) (by kernel_rfl)) ?_
  refine wpList_nil ?_
  refine then_n ?_
  refine wp_ret ?_
  obtain rfl := Option.some.inj M
  exact ret1 rfl rfl  (show _ = .int .i64 x10 from (by kernel_rfl)) ⟨rfl, S15.chg⟩

/-! laws_toByteS -/
def laws_toByteS.l0 : Nat → (List UInt8) → Int → (List UInt8) → Option (List UInt8)
  | 0, _, _, _ => none
  | k29 + 1, x1, x17, x19 => (if x17 < (x1.length : Int) then (if 0 ≤ x17 then (if x17 < (((x1.length : Int)).toNat : Int) then (laws_toByteS.l0 k29 x1 (IntKind.i64.wrap (x17 + 1)) (x19.set ((x17).toNat) (x1.getD ((x17).toNat) (0 : UInt8)))) else none) else none) else some x19)
def laws_toByteS.f (k : Nat) (x1 : List UInt8) : Option (List UInt8) := (if 0 ≤ (x1.length : Int) then (if ((x1.length : Int)).toNat ≤ 281474976710656 then (laws_toByteS.l0 k x1 0 (List.replicate ((x1.length : Int)).toNat (0 : UInt8))) else none) else none)
theorem laws_toByteS.calls (k : Nat) (w : World) (H : Hp) (x1 : List UInt8) (A2 : Option Addr) (c3 : Nat) (h4 : Rd tByte H A2 x1) (l5 : x1.length ≤ c3) (S : Own [] H w) (r : List UInt8) (M : laws_toByteS.f k x1 = some r) :
    Calls Try.prog 17 #[.slice A2 x1.length c3] w (fun e e_w => ∃ (A_1 : Option Addr) (c_1 : Nat) (F_1 : Foot) (H_ : Hp), e = .returned (.slice A_1 r.length c_1) ∧ Row tByte 5 H_ (hp e_w) F_1 A_1 c_1 r ∧ St (anyOf []) H w [F_1] H_ e_w) := by
  rw [laws_toByteS.f] at M
  refine enter (l := [.slice A2 x1.length c3]) 22 Try.func17 rfl rfl rfl ?_
  have S0_ := S.st
  refine wp_seq ?_
  refine wp_region_lit ?_
  refine lv (d := 2) rfl rfl (by kernel_rfl) (e_assign (v := .slice none 0 0) rfl) ?_
  refine wpList_nil ?_
  refine then_n ?_
  refine wp_seq ?_
  refine wp_region_lit ?_
  refine lv (d := 5) rfl rfl (by kernel_rfl) (e_move (v := .slice A2 x1.length c3) (by kernel_rfl)) ?_
  refine lv (d := 6) rfl rfl (by kernel_rfl) (e_len (A := A2) (n := x1.length) (c := c3) Try.underlying32 (by kernel_rfl)) ?_
  obtain ⟨q6, M⟩ := chk M
  obtain ⟨q7, M⟩ := chk M
  refine lve (d := 7) rfl rfl (by kernel_rfl) (e_make (d := tByte) (k := .i64) (k2 := .i64) (n := (x1.length : Int)) (z := .int .u8 0) (zx := (0 : UInt8)) (bytes := 1) S0_ Try.underlying32 (by kernel_rfl) rfl (by decide) (fun _ => rfl) (by kernel_rfl) (by kernel_rfl) q6 (by omega) (by omega)) ?_
  rintro _ w8 ⟨A9, c10, F11, rfl, h12, S13, K14⟩
  refine lv (d := 3) rfl rfl (by kernel_rfl) (e_assign (v := .slice A9 (((x1.length : Int)).toNat) c10) (by kernel_rfl)) ?_
  refine wpList_nil ?_
  refine then_n ?_
  refine wp_seq ?_
  refine wp_seq ?_
  refine wp_region_lit ?_
  refine lv (d := 4) rfl rfl (by kernel_rfl) (e_assign (v := .int .i64 0) rfl) ?_
  refine wpList_nil ?_
  refine then_n ?_
  refine wp_block ?_
  refine wp_loop_g (fun k27 a28 w15 => ∃ (f16 : Nat → Value) (x17 : Int) (F18 : Foot) (x19 : List UInt8), a28 = mk 22 f16 ∧ f16 0 = .slice A2 x1.length c3 ∧ f16 3 = .slice A9 (((x1.length : Int)).toNat) c10 ∧ f16 4 = .int .i64 x17 ∧ Row tByte 5 H (hp w15) F18 A9 c10 x19 ∧ x19.length = ((x1.length : Int)).toNat ∧ St (anyOf []) H w [F18] H w15 ∧ laws_toByteS.l0 k27 x1 x17 x19 = some r) k ⟨_, 0, F11, (List.replicate ((x1.length : Int)).toNat (0 : UInt8)), rfl, (by kernel_rfl), (by kernel_rfl), (by kernel_rfl), h12, List.length_replicate, S13, M⟩ ?_
  clear M
  rintro k27 a28 w15 ⟨f16, x17, F18, x19, rfl, e21, e22, e23, h12, n20, S24, M⟩
  rcases k27 with _ | k29
  · rw [laws_toByteS.l0] at M
    cases M
  rw [laws_toByteS.l0] at M
  refine wp_seq ?_
  refine wp_seq ?_
  refine wp_region_lit ?_
  refine lv (d := 8) rfl rfl (by kernel_rfl) (e_move (v := .int .i64 x17) (by exact e23)) ?_
  refine lv (d := 9) rfl rfl (by kernel_rfl) (e_move (v := .slice A2 x1.length c3) (by exact e21)) ?_
  refine lv (d := 10) rfl rfl (by kernel_rfl) (e_len (A := A2) (n := x1.length) (c := c3) Try.underlying32 (by kernel_rfl)) ?_
  refine lv (d := 11) rfl rfl (by kernel_rfl) (e_lss (k := .i64) (a := x17) (b := (x1.length : Int)) (by kernel_rfl) (by kernel_rfl)) ?_
  refine wpList_nil ?_
  refine then_n ?_
  by_cases q30 : x17 < (x1.length : Int)
  · replace M := ifp q30 M
    refine cond_t rfl (bt q30 (by kernel_rfl)) ?_
    refine wp_skip ?_
    refine then_n ?_
    refine wp_seq ?_
    refine wp_block ?_
    refine wp_region_lit ?_
    refine lv (d := 14) rfl rfl (by kernel_rfl) (e_move (v := .slice A9 (((x1.length : Int)).toNat) c10) (by exact e22)) ?_
    refine lv (d := 15) rfl rfl (by kernel_rfl) (e_move (v := .int .i64 x17) (by exact e23)) ?_
    refine lv (d := 16) rfl rfl (by kernel_rfl) (e_move (v := .slice A2 x1.length c3) (by exact e21)) ?_
    refine lv (d := 17) rfl rfl (by kernel_rfl) (e_move (v := .int .i64 x17) (by exact e23)) ?_
    obtain ⟨q31, M⟩ := chk M
    obtain ⟨b32, o33, e34⟩ := Rd.addr h4 (show (x17).toNat < x1.length by omega)
    obtain ⟨y35, r36, k37⟩ := Rd.at h4 e34 (getD_some (0 : UInt8) (show (x17).toNat < x1.length by omega))
    obtain rfl := r36
    refine lv (d := 18) rfl rfl (by kernel_rfl) (e_indexAddr (b := b32) (off := o33) (n := x1.length) (c := c3) (sz := 1) (i := x17) (k := .i64) Try.underlying32 e34 (by kernel_rfl) (by kernel_rfl) (by kernel_rfl) q31 q30) ?_
    refine lv (d := 19) rfl rfl (by kernel_rfl) (e_load1 (ad := ⟨b32, o33 + (x17 : Int).toNat * 1, none⟩) (v := .int .u8 ((x1.getD ((x17).toNat) (0 : UInt8)).toNat : Int)) Try.underlying5 rfl (by kernel_rfl) (hpx (S24.inv.cell (k37 0 _ rfl)))) ?_
    obtain ⟨q38, M⟩ := chk M
    obtain ⟨b39, e41⟩ := Row.addr h12 (show (x17).toNat < x19.length by have : x19.length = ((x1.length : Int)).toNat := n20; omega)
    refine lv (d := 20) rfl rfl (by kernel_rfl) (e_indexAddr (b := b39) (off := 0) (n := ((x1.length : Int)).toNat) (c := c10) (sz := 1) (i := x17) (k := .i64) Try.underlying32 e41 (by kernel_rfl) (by kernel_rfl) (by kernel_rfl) q31 q38) ?_
    have S42 := S24.unit
    have S43 := S42.pull (F := F18) (Fr := [no]) 1 rfl rfl
    refine lse rfl rfl (by kernel_rfl) (e_setel (d := tByte) (b := b39) (i := (x17).toNat) (v := .int .u8 ((x1.getD ((x17).toNat) (0 : UInt8)).toNat : Int)) (vs := [.int .u8 ((x1.getD ((x17).toNat) (0 : UInt8)).toNat : Int)]) (yv := (x1.getD ((x17).toNat) (0 : UInt8))) S43 (by kernel_rfl) e41 (by kernel_rfl) rfl (by kernel_rfl) h12 (show (x17).toNat < x19.length by have : x19.length = ((x1.length : Int)).toNat := n20; omega) rfl) ?_
    rintro w44 ⟨F46, h45, S47, K48⟩
    clear h12
    refine wpList_nil ?_
    refine inb_n ?_
    refine then_n ?_
    refine wp_region_lit ?_
    refine lv (d := 12) rfl rfl (by kernel_rfl) (e_move (v := .int .i64 x17) (by exact e23)) ?_
    refine lv (d := 13) rfl rfl (by kernel_rfl) (e_add (k := .i64) (a := x17) (b := 1) (by kernel_rfl) rfl) ?_
    refine lv (d := 4) rfl rfl (by kernel_rfl) (e_assign (v := .int .i64 (IntKind.i64.wrap (x17 + 1))) (by kernel_rfl)) ?_
    refine wpList_nil ?_
    refine then_n ?_
    exact ⟨k29, (by omega), _, (IntKind.i64.wrap (x17 + 1)), F46, (x19.set ((x17).toNat) (x1.getD ((x17).toNat) (0 : UInt8))), rfl, (by exact e21), (by exact e22), (by kernel_rfl), h45, (List.length_set.trans n20), S47, M⟩
  replace M := ifn q30 M
  refine cond_f rfl (bf q30 (by kernel_rfl)) ?_
  refine wp_exit ?_
  refine then_e ?_
  refine then_e ?_
  refine inb_hit ?_
  refine then_n ?_
  refine wp_seq ?_
  refine wp_region_lit ?_
  refine lv (d := 21) rfl rfl (by kernel_rfl) (e_move (v := .slice A9 (((x1.length : Int)).toNat) c10) (by exact e22)) ?_
  refine lv (d := 2) rfl rfl (by kernel_rfl) (e_assign (v := .slice A9 (((x1.length : Int)).toNat) c10) (by kernel_rfl)) ?_
  refine wpList_nil ?_
  refine then_n ?_
  refine wp_ret ?_
  obtain rfl := Option.some.inj M
  exact ret1 rfl rfl  (show _ = .slice A9 (((x1.length : Int)).toNat) c10 from (by kernel_rfl)) ⟨A9, c10, F18, H, (by rw [(show x19.length = ((x1.length : Int)).toNat from n20)]), h12, S24⟩

/-! laws_toOp -/
def laws_toOp.f (k : Nat) (x1 : Sy.Op) : Option Sy.Op := ((laws_toByteS.f k x1.name).bind fun t22 => some (⟨t22, x1.pri, x1.typ⟩ : Sy.Op))
theorem laws_toOp.calls (k : Nat) (w : World) (H : Hp) (x1 : Sy.Op) (A2 : Option Addr) (c3 : Nat) (h4 : Rd tByte H A2 x1.name) (l5 : x1.name.length ≤ c3) (S : Own [] H w) (r : Sy.Op) (M : laws_toOp.f k x1 = some r) :
    Calls Try.prog 26 #[.agg #[.slice A2 x1.name.length c3, .int .i64 x1.pri, .int .i64 x1.typ]] w (fun e e_w => ∃ (A_1 : Option Addr) (c_1 : Nat) (F_1 : Foot) (H_ : Hp), e = .returned (.agg #[.slice A_1 r.name.length c_1, .int .i64 r.pri, .int .i64 r.typ]) ∧ Row tByte 5 H_ (hp e_w) F_1 A_1 c_1 r.name ∧ St (anyOf []) H w [F_1] H_ e_w) := by
  rw [laws_toOp.f] at M
  refine enter (l := [.agg #[.slice A2 x1.name.length c3, .int .i64 x1.pri, .int .i64 x1.typ]]) 15 Try.func26 rfl rfl rfl ?_
  have S0_ := S.st
  refine wp_seq ?_
  refine wp_region_lit ?_
  refine lve (d := 1) rfl rfl (by kernel_rfl) (new_blk (v := fun g_ => .pointer (some ⟨g_, 0, none⟩)) (cs := #[.slice A2 x1.name.length c3, .int .i64 x1.pri, .int .i64 x1.typ]) (t := 44) S0_ (by kernel_rfl)) ?_
  rintro _ w6 ⟨g7, rfl, b9, S10, K11⟩
  refine lve (d := 2) rfl rfl (by kernel_rfl) (new_blk (v := fun g_ => .pointer (some ⟨g_, 0, none⟩)) (cs := #[.slice none 0 0, .int .i64 0, .int .i64 0]) (t := 45) S10 (by kernel_rfl)) ?_
  rintro _ w12 ⟨g13, rfl, b14, S15, K16⟩
  replace b9 := K16.blk 0 rfl b9
  refine wpList_nil ?_
  refine then_n ?_
  refine wp_seq ?_
  refine wp_region_lit ?_
  refine lve (d := 3) rfl rfl (by kernel_rfl) (new_blk (v := fun g_ => .pointer (some ⟨g_, 0, none⟩)) (cs := #[.slice none 0 0, .int .i64 0, .int .i64 0]) (t := 45) S15 (by kernel_rfl)) ?_
  rintro _ w17 ⟨g18, rfl, b19, S20, K21⟩
  replace b14 := K21.blk 0 rfl b14
  replace b9 := K21.blk 1 rfl b9
  refine wpList_nil ?_
  refine then_n ?_
  refine wp_seq ?_
  refine wp_region_lit ?_
  refine lv (d := 4) rfl rfl (by kernel_rfl) (e_fieldAddr (b := g7) (off := 0) (o := 0) Try.underlying44 rfl rfl (sz := 1) (by kernel_rfl) (by decide) (by kernel_rfl)) ?_
  refine lv (d := 5) rfl rfl (by kernel_rfl) (e_load1 (ad := ⟨g7, 0 + 0, none⟩) (v := .slice A2 x1.name.length c3) Try.underlying32 rfl (by kernel_rfl) (blk_cell b9 rfl)) ?_
  obtain ⟨t22, u23, M⟩ := bnd M
  refine lcall (d := 6) rfl rfl (by kernel_rfl) (e_call (l := [.tmp 5]) (vs := [.slice A2 x1.name.length c3]) Try.func17 (by kernel_rfl) rfl (by kernel_rfl) rfl) (laws_toByteS.calls k w17 H x1.name A2 c3 h4 l5 (St.own' (Fa := []) (Fr := [(is g18), (is g13), (is g7)]) S20) t22 u23) ?_
  rintro _ w24 ⟨A27, c28, F30, H25, rfl, h29, T26⟩
  refine ⟨_, rfl, ?_⟩
  obtain ⟨S31, K32⟩ := St.call (Fa := []) (Fr := [(is g18), (is g13), (is g7)]) S20 T26
  replace b19 := K32.blk 0 rfl b19
  replace b14 := K32.blk 1 rfl b14
  replace b9 := K32.blk 2 rfl b9
  have E33 := T26.ext
  refine lv (d := 7) rfl rfl (by kernel_rfl) (e_fieldAddr (b := g18) (off := 0) (o := 0) Try.underlying45 rfl rfl (sz := 1) (by kernel_rfl) (by decide) (by kernel_rfl)) ?_
  have S34 := S31.pull (F := (is g18)) (Fr := [F30, (is g13), (is g7)]) 1 rfl rfl
  refine lse rfl rfl (by kernel_rfl) (e_store (g := g18) (o := 0 + 0) (v := .slice A27 t22.length c28) (cur' := #[.slice A27 t22.length c28, .int .i64 0, .int .i64 0]) (vs := [.slice A27 t22.length c28]) S34 (by kernel_rfl) (by kernel_rfl) rfl (by kernel_rfl) b19 (Nat.le_of_ble_eq_true rfl) (List.forall_mem_cons.2 ⟨rfl, (fun _ h_ => by cases h_)⟩) rfl) ?_
  rintro w35 ⟨b36, S37, K38⟩
  replace h29 := h29.move (K38.at 0 rfl)
  replace b14 := K38.blk 1 rfl b14
  replace b9 := K38.blk 2 rfl b9
  clear b19
  refine wpList_nil ?_
  refine then_n ?_
  refine wp_seq ?_
  refine wp_region_lit ?_
  refine lv (d := 8) rfl rfl (by kernel_rfl) (e_fieldAddr (b := g7) (off := 0) (o := 1) Try.underlying44 rfl rfl (sz := 1) (by kernel_rfl) (by decide) (by kernel_rfl)) ?_
  refine lv (d := 9) rfl rfl (by kernel_rfl) (e_load1 (ad := ⟨g7, 0 + 1, none⟩) (v := .int .i64 x1.pri) Try.underlying3 rfl (by kernel_rfl) (blk_cell b9 rfl)) ?_
  refine lv (d := 10) rfl rfl (by kernel_rfl) (e_fieldAddr (b := g18) (off := 0) (o := 1) Try.underlying45 rfl rfl (sz := 1) (by kernel_rfl) (by decide) (by kernel_rfl)) ?_
  refine lse rfl rfl (by kernel_rfl) (e_store (g := g18) (o := 0 + 1) (v := .int .i64 x1.pri) (cur' := #[.slice A27 t22.length c28, .int .i64 x1.pri, .int .i64 0]) (vs := [.int .i64 x1.pri]) S37 (by kernel_rfl) (by kernel_rfl) rfl (by kernel_rfl) b36 (Nat.le_of_ble_eq_true rfl) (List.forall_mem_cons.2 ⟨rfl, (fun _ h_ => by cases h_)⟩) rfl) ?_
  rintro w39 ⟨b40, S41, K42⟩
  replace h29 := h29.move (K42.at 0 rfl)
  replace b14 := K42.blk 1 rfl b14
  replace b9 := K42.blk 2 rfl b9
  clear b36
  refine wpList_nil ?_
  refine then_n ?_
  refine wp_seq ?_
  refine wp_region_lit ?_
  refine lv (d := 11) rfl rfl (by kernel_rfl) (e_fieldAddr (b := g7) (off := 0) (o := 2) Try.underlying44 rfl rfl (sz := 1) (by kernel_rfl) (by decide) (by kernel_rfl)) ?_
  refine lv (d := 12) rfl rfl (by kernel_rfl) (e_load1 (ad := ⟨g7, 0 + 2, none⟩) (v := .int .i64 x1.typ) Try.underlying3 rfl (by kernel_rfl) (blk_cell b9 rfl)) ?_
  refine lv (d := 13) rfl rfl (by kernel_rfl) (e_fieldAddr (b := g18) (off := 0) (o := 2) Try.underlying45 rfl rfl (sz := 1) (by kernel_rfl) (by decide) (by kernel_rfl)) ?_
  refine lse rfl rfl (by kernel_rfl) (e_store (g := g18) (o := 0 + 2) (v := .int .i64 x1.typ) (cur' := #[.slice A27 t22.length c28, .int .i64 x1.pri, .int .i64 x1.typ]) (vs := [.int .i64 x1.typ]) S41 (by kernel_rfl) (by kernel_rfl) rfl (by kernel_rfl) b40 (Nat.le_of_ble_eq_true rfl) (List.forall_mem_cons.2 ⟨rfl, (fun _ h_ => by cases h_)⟩) rfl) ?_
  rintro w43 ⟨b44, S45, K46⟩
  replace h29 := h29.move (K46.at 0 rfl)
  replace b14 := K46.blk 1 rfl b14
  replace b9 := K46.blk 2 rfl b9
  clear b40
  refine wpList_nil ?_
  refine then_n ?_
  refine wp_seq ?_
  refine wp_region_lit ?_
  refine lv (d := 14) rfl rfl (by kernel_rfl) (e_loadS (b := g18) (off := 0) (cs := [.slice A27 t22.length c28, .int .i64 x1.pri, .int .i64 x1.typ]) Try.underlying45 rfl (by kernel_rfl) (by kernel_rfl) (blk_cells b44 rfl)) ?_
  have S47 := S45.pull (F := (is g13)) (Fr := [(is g18), F30, (is g7)]) 2 rfl rfl
  refine lse rfl rfl (by kernel_rfl) (e_store (g := g13) (o := 0) (v := .agg #[.slice A27 t22.length c28, .int .i64 x1.pri, .int .i64 x1.typ]) (cur' := #[.slice A27 t22.length c28, .int .i64 x1.pri, .int .i64 x1.typ]) (vs := [.slice A27 t22.length c28, .int .i64 x1.pri, .int .i64 x1.typ]) S47 (by kernel_rfl) (by kernel_rfl) rfl (by kernel_rfl) b14 (Nat.le_of_ble_eq_true rfl) (List.forall_mem_cons.2 ⟨rfl, (List.forall_mem_cons.2 ⟨rfl, (List.forall_mem_cons.2 ⟨rfl, (fun _ h_ => by cases h_)⟩)⟩)⟩) rfl) ?_
  rintro w48 ⟨b49, S50, K51⟩
  replace b44 := K51.blk 0 rfl b44
  replace h29 := h29.move (K51.at 1 rfl)
  replace b9 := K51.blk 2 rfl b9
  clear b14
  refine wpList_nil ?_
  refine then_n ?_
  refine wp_ret ?_
  obtain rfl := Option.some.inj M
  have S52 := S50.pull (F := F30) (Fr := [(is g13), (is g18), (is g7)]) 2 rfl rfl
  have S53 := St.first (Fa := [F30]) (Fr := [(is g13), (is g18), (is g7)]) S52
  exact retS (ty := 45) (cur := #[.slice A27 t22.length c28, .int .i64 x1.pri, .int .i64 x1.typ]) rfl rfl (by kernel_rfl) b49 Try.underlying45 rfl (by kernel_rfl) ⟨A27, c28, F30, H25, rfl, h29, S53⟩

/-! laws_toOpS -/
def laws_toOpS.l0 : Nat → (List Sy.Op) → Int → (List Sy.Op) → Option (List Sy.Op)
  | 0, _, _, _ => none
  | k31 + 1, x1, x19, x21 => (if x19 < (x1.length : Int) then (if 0 ≤ x19 then ((laws_toOp.f k31 (x1.getD ((x19).toNat) z44)).bind fun t44 => (if x19 < (((x1.length : Int)).toNat : Int) then (laws_toOpS.l0 k31 x1 (IntKind.i64.wrap (x19 + 1)) (x21.set ((x19).toNat) t44)) else none)) else none) else some x21)
def laws_toOpS.f (k : Nat) (x1 : List Sy.Op) : Option (List Sy.Op) := (if 0 ≤ (x1.length : Int) then (if ((x1.length : Int)).toNat ≤ 7036874417766 then (laws_toOpS.l0 k x1 0 (List.replicate ((x1.length : Int)).toNat z45)) else none) else none)
theorem laws_toOpS.calls (k : Nat) (w : World) (H : Hp) (x1 : List Sy.Op) (A2 : Option Addr) (c3 : Nat) (h4 : Rd st44 H A2 x1) (l5 : x1.length ≤ c3) (S : Own [] H w) (r : List Sy.Op) (M : laws_toOpS.f k x1 = some r) :
    Calls Try.prog 9 #[.slice A2 x1.length c3] w (fun e e_w => ∃ (A_1 : Option Addr) (c_1 : Nat) (F_1 : Foot) (H_ : Hp), e = .returned (.slice A_1 r.length c_1) ∧ Row st45 45 H_ (hp e_w) F_1 A_1 c_1 r ∧ St (anyOf []) H w [F_1] H_ e_w) := by
  rw [laws_toOpS.f] at M
  refine enter (l := [.slice A2 x1.length c3]) 23 Try.func9 rfl rfl rfl ?_
  have S0_ := S.st
  refine wp_seq ?_
  refine wp_region_lit ?_
  refine lv (d := 2) rfl rfl (by kernel_rfl) (e_assign (v := .slice none 0 0) rfl) ?_
  refine wpList_nil ?_
  refine then_n ?_
  refine wp_seq ?_
  refine wp_region_lit ?_
  refine lv (d := 5) rfl rfl (by kernel_rfl) (e_move (v := .slice A2 x1.length c3) (by kernel_rfl)) ?_
  refine lv (d := 6) rfl rfl (by kernel_rfl) (e_len (A := A2) (n := x1.length) (c := c3) Try.underlying22 (by kernel_rfl)) ?_
  obtain ⟨q6, M⟩ := chk M
  obtain ⟨q7, M⟩ := chk M
  refine lve (d := 7) rfl rfl (by kernel_rfl) (e_make (d := st45) (k := .i64) (k2 := .i64) (n := (x1.length : Int)) (z := .agg #[.slice none 0 0, .int .i64 0, .int .i64 0]) (zx := z45) (bytes := 40) S0_ Try.underlying25 (by kernel_rfl) rfl (by decide) (z45_O _) (by kernel_rfl) (by kernel_rfl) q6 (by omega) (by omega)) ?_
  rintro _ w8 ⟨A9, c10, F11, rfl, h12, S13, K14⟩
  refine lv (d := 3) rfl rfl (by kernel_rfl) (e_assign (v := .slice A9 (((x1.length : Int)).toNat) c10) (by kernel_rfl)) ?_
  refine wpList_nil ?_
  refine then_n ?_
  refine wp_seq ?_
  refine wp_seq ?_
  refine wp_region_lit ?_
  refine lv (d := 4) rfl rfl (by kernel_rfl) (e_assign (v := .int .i64 0) rfl) ?_
  refine wpList_nil ?_
  refine then_n ?_
  refine wp_block ?_
  refine wp_loop_g (fun k29 a30 w15 => ∃ (f16 : Nat → Value) (H17 : Hp) (x19 : Int) (F20 : Foot) (x21 : List Sy.Op), a30 = mk 23 f16 ∧ f16 0 = .slice A2 x1.length c3 ∧ f16 3 = .slice A9 (((x1.length : Int)).toNat) c10 ∧ f16 4 = .int .i64 x19 ∧ Row st45 45 H17 (hp w15) F20 A9 c10 x21 ∧ x21.length = ((x1.length : Int)).toNat ∧ Ext H H17 ∧ St (anyOf []) H w [F20] H17 w15 ∧ laws_toOpS.l0 k29 x1 x19 x21 = some r) k ⟨_, H, 0, F11, (List.replicate ((x1.length : Int)).toNat z45), rfl, (by kernel_rfl), (by kernel_rfl), (by kernel_rfl), h12, List.length_replicate, (Ext.refl _), S13, M⟩ ?_
  clear M
  rintro k29 a30 w15 ⟨f16, H17, x19, F20, x21, rfl, e23, e24, e25, h12, n22, Y18, S26, M⟩
  rcases k29 with _ | k31
  · rw [laws_toOpS.l0] at M
    cases M
  rw [laws_toOpS.l0] at M
  refine wp_seq ?_
  refine wp_seq ?_
  refine wp_region_lit ?_
  refine lv (d := 8) rfl rfl (by kernel_rfl) (e_move (v := .int .i64 x19) (by exact e25)) ?_
  refine lv (d := 9) rfl rfl (by kernel_rfl) (e_move (v := .slice A2 x1.length c3) (by exact e23)) ?_
  refine lv (d := 10) rfl rfl (by kernel_rfl) (e_len (A := A2) (n := x1.length) (c := c3) Try.underlying22 (by kernel_rfl)) ?_
  refine lv (d := 11) rfl rfl (by kernel_rfl) (e_lss (k := .i64) (a := x19) (b := (x1.length : Int)) (by kernel_rfl) (by kernel_rfl)) ?_
  refine wpList_nil ?_
  refine then_n ?_
  by_cases q32 : x19 < (x1.length : Int)
  · replace M := ifp q32 M
    refine cond_t rfl (bt q32 (by kernel_rfl)) ?_
    refine wp_skip ?_
    refine then_n ?_
    refine wp_seq ?_
    refine wp_block ?_
    refine wp_region_lit ?_
    refine lv (d := 14) rfl rfl (by kernel_rfl) (e_move (v := .slice A9 (((x1.length : Int)).toNat) c10) (by exact e24)) ?_
    refine lv (d := 15) rfl rfl (by kernel_rfl) (e_move (v := .int .i64 x19) (by exact e25)) ?_
    refine lv (d := 16) rfl rfl (by kernel_rfl) (e_move (v := .slice A2 x1.length c3) (by exact e23)) ?_
    refine lv (d := 17) rfl rfl (by kernel_rfl) (e_move (v := .int .i64 x19) (by exact e25)) ?_
    obtain ⟨q33, M⟩ := chk M
    obtain ⟨b34, o35, e36⟩ := Rd.addr h4 (show (x19).toNat < x1.length by omega)
    obtain ⟨y37, r38, k39⟩ := Rd.at h4 e36 (getD_some z44 (show (x19).toNat < x1.length by omega))
    obtain ⟨A40, c41, rfl, l42, h43⟩ := st44_open r38
    refine lv (d := 18) rfl rfl (by kernel_rfl) (e_indexAddr (b := b34) (off := o35) (n := x1.length) (c := c3) (sz := 3) (i := x19) (k := .i64) Try.underlying22 e36 (by kernel_rfl) (by kernel_rfl) (by kernel_rfl) q33 q32) ?_
    refine lv (d := 19) rfl rfl (by kernel_rfl) (e_loadS (b := b34) (off := o35 + (x19 : Int).toNat * 3) (cs := [.slice A40 ((x1.getD ((x19).toNat) z44).name).length c41, .int .i64 ((x1.getD ((x19).toNat) z44).pri), .int .i64 ((x1.getD ((x19).toNat) z44).typ)]) Try.underlying44 rfl (by kernel_rfl) (by kernel_rfl) (fun j_ u_ e_ => (hpx (S26.inv.cell (Y18.cell (k39 j_ u_ e_)))))) ?_
    obtain ⟨t44, u45, M⟩ := bnd M
    refine lcall (d := 20) rfl rfl (by kernel_rfl) (e_call (l := [.tmp 19]) (vs := [.agg #[.slice A40 ((x1.getD ((x19).toNat) z44).name).length c41, .int .i64 ((x1.getD ((x19).toNat) z44).pri), .int .i64 ((x1.getD ((x19).toNat) z44).typ)]]) Try.func26 (by kernel_rfl) rfl (by kernel_rfl) rfl) (laws_toOp.calls k31 w15 H17 (x1.getD ((x19).toNat) z44) A40 c41 (h43.ext Y18) l42 (St.own' (Fa := []) (Fr := [F20]) S26) t44 u45) ?_
    rintro _ w46 ⟨A49, c50, F52, H47, rfl, h51, T48⟩
    refine ⟨_, rfl, ?_⟩
    obtain ⟨S53, K54⟩ := St.call (Fa := []) (Fr := [F20]) S26 T48
    replace h12 := h12.move (K54.at 0 rfl)
    have E55 := T48.ext
    replace h12 := h12.ext E55
    obtain ⟨q56, M⟩ := chk M
    obtain ⟨b57, e59⟩ := Row.addr h12 (show (x19).toNat < x21.length by have : x21.length = ((x1.length : Int)).toNat := n22; omega)
    refine lv (d := 21) rfl rfl (by kernel_rfl) (e_indexAddr (b := b57) (off := 0) (n := ((x1.length : Int)).toNat) (c := c10) (sz := 3) (i := x19) (k := .i64) Try.underlying25 e59 (by kernel_rfl) (by kernel_rfl) (by kernel_rfl) q33 q56) ?_
    have S60 := S53.pull (F := F20) (Fr := [F52]) 1 rfl rfl
    refine lse rfl rfl (by kernel_rfl) (e_setel (d := st45) (b := b57) (i := (x19).toNat) (v := .agg #[.slice A49 t44.name.length c50, .int .i64 t44.pri, .int .i64 t44.typ]) (vs := [.slice A49 t44.name.length c50, .int .i64 t44.pri, .int .i64 t44.typ]) (yv := t44) S60 (by kernel_rfl) e59 (by kernel_rfl) rfl (by kernel_rfl) h12 (show (x19).toNat < x21.length by have : x21.length = ((x1.length : Int)).toNat := n22; omega) (st45_mkO (x := t44) h51)) ?_
    rintro w61 ⟨F63, h62, S64, K65⟩
    clear h12
    refine wpList_nil ?_
    refine inb_n ?_
    refine then_n ?_
    refine wp_region_lit ?_
    refine lv (d := 12) rfl rfl (by kernel_rfl) (e_move (v := .int .i64 x19) (by exact e25)) ?_
    refine lv (d := 13) rfl rfl (by kernel_rfl) (e_add (k := .i64) (a := x19) (b := 1) (by kernel_rfl) rfl) ?_
    refine lv (d := 4) rfl rfl (by kernel_rfl) (e_assign (v := .int .i64 (IntKind.i64.wrap (x19 + 1))) (by kernel_rfl)) ?_
    refine wpList_nil ?_
    refine then_n ?_
    exact ⟨k31, (by omega), _, H47, (IntKind.i64.wrap (x19 + 1)), F63, (x21.set ((x19).toNat) t44), rfl, (by exact e23), (by exact e24), (by kernel_rfl), h62, (List.length_set.trans n22), (Y18.trans E55), S64, M⟩
  replace M := ifn q32 M
  refine cond_f rfl (bf q32 (by kernel_rfl)) ?_
  refine wp_exit ?_
  refine then_e ?_
  refine then_e ?_
  refine inb_hit ?_
  refine then_n ?_
  refine wp_seq ?_
  refine wp_region_lit ?_
  refine lv (d := 22) rfl rfl (by kernel_rfl) (e_move (v := .slice A9 (((x1.length : Int)).toNat) c10) (by exact e24)) ?_
  refine lv (d := 2) rfl rfl (by kernel_rfl) (e_assign (v := .slice A9 (((x1.length : Int)).toNat) c10) (by kernel_rfl)) ?_
  refine wpList_nil ?_
  refine then_n ?_
  refine wp_ret ?_
  obtain rfl := Option.some.inj M
  exact ret1 rfl rfl  (show _ = .slice A9 (((x1.length : Int)).toNat) c10 from (by kernel_rfl)) ⟨A9, c10, F20, H17, (by rw [(show x21.length = ((x1.length : Int)).toNat from n22)]), h12, S26⟩

/-! spec_l3special -/
def spec_l3special.f (x1 : List UInt8) : Option Bool := (if x1 = ([91, 93] : List UInt8) then some true else (if x1 = ([123, 125] : List UInt8) then some true else some (decide (x1 = ([124] : List UInt8)))))
theorem spec_l3special.calls (w : World) (H : Hp) (x1 : List UInt8) (A2 : Option Addr) (c3 : Nat) (h4 : Rd tByte H A2 x1) (l5 : x1.length ≤ c3) (S : Own [] H w) (r : Bool) (M : spec_l3special.f x1 = some r) :
    Calls Try.prog 24 #[.slice A2 x1.length c3] w (fun e e_w => e = .returned (.bool r) ∧ Chg no w e_w) := by
  rw [spec_l3special.f] at M
  refine enter (l := [.slice A2 x1.length c3]) 16 Try.func24 rfl rfl rfl ?_
  have S0_ := S.st
  refine wp_seq ?_
  refine wp_region_lit ?_
  refine lv (d := 2) rfl rfl (by kernel_rfl) (e_assign (v := .bool false) rfl) ?_
  refine wpList_nil ?_
  refine then_n ?_
  refine wp_seq ?_
  refine wp_region_lit ?_
  refine lv (d := 4) rfl rfl (by kernel_rfl) (e_move (v := .slice A2 x1.length c3) (by kernel_rfl)) ?_
  refine lv (d := 5) rfl rfl (by kernel_rfl) (e_conv_bs (A := A2) (n := x1.length) (c := c3) (xs := x1) Try.underlying32 Try.underlying5 Try.underlying9 (by kernel_rfl) rfl (Rd.bytesE S0_.inv h4)) ?_
  refine lv (d := 3) rfl rfl (by kernel_rfl) (e_assign (v := str x1) (by kernel_rfl)) ?_
  refine wpList_nil ?_
  refine then_n ?_
  refine wp_seq ?_
  refine wp_region_lit ?_
  refine lv (d := 6) rfl rfl (by kernel_rfl) (e_move (v := str x1) (by kernel_rfl)) ?_
  refine lv (d := 7) rfl rfl (by kernel_rfl) (e_seql (p := x1) (q := ([91, 93] : List UInt8)) (by kernel_rfl) rfl) ?_
  refine lv (d := 8) rfl rfl (by kernel_rfl) (e_move (v := .bool (decide (x1 = ([91, 93] : List UInt8)))) (by kernel_rfl)) ?_
  by_cases q6 : x1 = ([91, 93] : List UInt8)
  · replace M := ifp q6 M
    refine lskip (t := 8) (c := true) rfl (by kernel_rfl) rfl (bt q6 (by kernel_rfl)) rfl rfl ?_
    refine lskip (t := 8) (c := true) rfl (by kernel_rfl) rfl (bt q6 (by kernel_rfl)) rfl rfl ?_
    refine lv (d := 11) rfl rfl (by kernel_rfl) (e_pick_t (v := .bool true) (bt q6 (by kernel_rfl)) rfl) ?_
    refine lv (d := 12) rfl rfl (by kernel_rfl) (e_move (v := .bool true) (by kernel_rfl)) ?_
    refine lskip (t := 12) (c := true) rfl (by kernel_rfl) rfl (by kernel_rfl) rfl rfl ?_
    refine lskip (t := 12) (c := true) rfl (by kernel_rfl) rfl (by kernel_rfl) rfl rfl ?_
    refine lv (d := 15) rfl rfl (by kernel_rfl) (e_pick_t (v := .bool true) (by kernel_rfl) rfl) ?_
    refine lv (d := 2) rfl rfl (by kernel_rfl) (e_assign (v := .bool true) (by kernel_rfl)) ?_
    refine wpList_nil ?_
    refine then_n ?_
    refine wp_ret ?_
    obtain rfl := Option.some.inj M
    exact ret1 rfl rfl  (show _ = .bool true from (by kernel_rfl)) ⟨rfl, S0_.chg⟩
  replace M := ifn q6 M
  refine lvg (d := 9) (t := 8) rfl (by kernel_rfl) rfl (bf q6 (by kernel_rfl)) rfl (by kernel_rfl) (e_move (v := str x1) (by kernel_rfl)) ?_
  refine lvg (d := 10) (t := 8) rfl (by kernel_rfl) rfl (bf q6 (by kernel_rfl)) rfl (by kernel_rfl) (e_seql (p := x1) (q := ([123, 125] : List UInt8)) (by kernel_rfl) rfl) ?_
  refine lv (d := 11) rfl rfl (by kernel_rfl) (e_pick_f (v := .bool (decide (x1 = ([123, 125] : List UInt8)))) (bf q6 (by kernel_rfl)) (by kernel_rfl)) ?_
  refine lv (d := 12) rfl rfl (by kernel_rfl) (e_move (v := .bool (decide (x1 = ([123, 125] : List UInt8)))) (by kernel_rfl)) ?_
  by_cases q7 : x1 = ([123, 125] : List UInt8)
  · replace M := ifp q7 M
    refine lskip (t := 12) (c := true) rfl (by kernel_rfl) rfl (bt q7 (by kernel_rfl)) rfl rfl ?_
    refine lskip (t := 12) (c := true) rfl (by kernel_rfl) rfl (bt q7 (by kernel_rfl)) rfl rfl ?_
    refine lv (d := 15) rfl rfl (by kernel_rfl) (e_pick_t (v := .bool true) (bt q7 (by kernel_rfl)) rfl) ?_
    refine lv (d := 2) rfl rfl (by kernel_rfl) (e_assign (v := .bool true) (by kernel_rfl)) ?_
    refine wpList_nil ?_
    refine then_n ?_
    refine wp_ret ?_
    obtain rfl := Option.some.inj M
    exact ret1 rfl rfl  (show _ = .bool true from (by kernel_rfl)) ⟨rfl, S0_.chg⟩
  replace M := ifn q7 M
  refine lvg (d := 13) (t := 12) rfl (by kernel_rfl) rfl (bf q7 (by kernel_rfl)) rfl (by kernel_rfl) (e_move (v := str x1) (by kernel_rfl)) ?_
  refine lvg (d := 14) (t := 12) rfl (by kernel_rfl) rfl (bf q7 (by kernel_rfl)) rfl (by kernel_rfl) (e_seql (p := x1) (q := ([124] : List UInt8)) (by kernel_rfl) rfl) ?_
  refine lv (d := 15) rfl rfl (by kernel_rfl) (e_pick_f (v := .bool (decide (x1 = ([124] : List UInt8)))) (bf q7 (by kernel_rfl)) (by kernel_rfl)) ?_
  refine lv (d := 2) rfl rfl (by kernel_rfl) (e_assign (v := .bool (decide (x1 = ([124] : List UInt8)))) (by kernel_rfl)) ?_
  refine wpList_nil ?_
  refine then_n ?_
  refine wp_ret ?_
  obtain rfl := Option.some.inj M
  exact ret1 rfl rfl  (show _ = .bool (decide (x1 = ([124] : List UInt8))) from (by kernel_rfl)) ⟨rfl, S0_.chg⟩

/-! spec_l3prefix -/
def spec_l3prefix.f (x1 : Int) : Option Bool := (if x1 = 3 then some true else some (decide (x1 = 4)))
theorem spec_l3prefix.calls (w : World) (H : Hp) (x1 : Int) (S : Own [] H w) (r : Bool) (M : spec_l3prefix.f x1 = some r) :
    Calls Try.prog 25 #[.int .i64 x1] w (fun e e_w => e = .returned (.bool r) ∧ Chg no w e_w) := by
  rw [spec_l3prefix.f] at M
  refine enter (l := [.int .i64 x1]) 9 Try.func25 rfl rfl rfl ?_
  have S0_ := S.st
  refine wp_seq ?_
  refine wp_region_lit ?_
  refine lv (d := 2) rfl rfl (by kernel_rfl) (e_assign (v := .bool false) rfl) ?_
  refine wpList_nil ?_
  refine then_n ?_
  refine wp_seq ?_
  refine wp_region_lit ?_
  refine lv (d := 3) rfl rfl (by kernel_rfl) (e_move (v := .int .i64 x1) (by kernel_rfl)) ?_
  refine lv (d := 4) rfl rfl (by kernel_rfl) (e_eql (k := .i64) (a := x1) (b := 3) (by kernel_rfl) rfl) ?_
  refine lv (d := 5) rfl rfl (by kernel_rfl) (e_move (v := .bool (decide (x1 = 3))) (by kernel_rfl)) ?_
  by_cases q2 : x1 = 3
  · replace M := ifp q2 M
    refine lskip (t := 5) (c := true) rfl (by kernel_rfl) rfl (bt q2 (by kernel_rfl)) rfl rfl ?_
    refine lskip (t := 5) (c := true) rfl (by kernel_rfl) rfl (bt q2 (by kernel_rfl)) rfl rfl ?_
    refine lv (d := 8) rfl rfl (by kernel_rfl) (e_pick_t (v := .bool true) (bt q2 (by kernel_rfl)) rfl) ?_
    refine lv (d := 2) rfl rfl (by kernel_rfl) (e_assign (v := .bool true) (by kernel_rfl)) ?_
    refine wpList_nil ?_
    refine then_n ?_
    refine wp_ret ?_
    obtain rfl := Option.some.inj M
    exact ret1 rfl rfl  (show _ = .bool true from (by kernel_rfl)) ⟨rfl, S0_.chg⟩
  replace M := ifn q2 M
  refine lvg (d := 6) (t := 5) rfl (by kernel_rfl) rfl (bf q2 (by kernel_rfl)) rfl (by kernel_rfl) (e_move (v := .int .i64 x1) (by kernel_rfl)) ?_
  refine lvg (d := 7) (t := 5) rfl (by kernel_rfl) rfl (bf q2 (by kernel_rfl)) rfl (by kernel_rfl) (e_eql (k := .i64) (a := x1) (b := 4) (by kernel_rfl) rfl) ?_
  refine lv (d := 8) rfl rfl (by kernel_rfl) (e_pick_f (v := .bool (decide (x1 = 4))) (bf q2 (by kernel_rfl)) (by kernel_rfl)) ?_
  refine lv (d := 2) rfl rfl (by kernel_rfl) (e_assign (v := .bool (decide (x1 = 4))) (by kernel_rfl)) ?_
  refine wpList_nil ?_
  refine then_n ?_
  refine wp_ret ?_
  obtain rfl := Option.some.inj M
  exact ret1 rfl rfl  (show _ = .bool (decide (x1 = 4)) from (by kernel_rfl)) ⟨rfl, S0_.chg⟩

/-! spec_ValidOps -/
mutual
def spec_ValidOps.l0 : Nat → (List Sy.Op) → Int → Int → Option Bool
  | 0, _, _, _ => none
  | k19 + 1, x1, x9, x10 => (if x10 < (x1.length : Int) then (if 0 ≤ x10 then (if (((x1.getD ((x10).toNat) z45).name).length : Int) < 1 then some false else (if (((x1.getD ((x10).toNat) z45).name).length : Int) > 100 then some false else ((spec_l3special.f ((x1.getD ((x10).toNat) z45).name)).bind fun t43 => (if t43 = true then some false else (if ((x1.getD ((x10).toNat) z45).pri) < 1 then some false else (if ((x1.getD ((x10).toNat) z45).pri) > 1200 then some false else (if ((x1.getD ((x10).toNat) z45).typ) < 0 then some false else (if ((x1.getD ((x10).toNat) z45).typ) > 6 then some false else (if (x1.getD ((x10).toNat) z45).name = ([44] : List UInt8) then (if ((x1.getD ((x10).toNat) z45).pri) ≠ 1000 then some false else (if ((x1.getD ((x10).toNat) z45).typ) ≠ 1 then some false else (spec_ValidOps.l1 k19 x1 x10 (IntKind.i64.wrap (x9 + 1))))) else (spec_ValidOps.l1 k19 x1 x10 x9)))))))))) else none) else some (decide (x9 = 1)))
def spec_ValidOps.l1 : Nat → (List Sy.Op) → Int → Int → Option Bool
  | 0, _, _, _ => none
  | k65 + 1, x1, x10, x56 => (if x10 = 0 then (spec_ValidOps.l0 k65 x1 x56 (IntKind.i64.wrap (x10 + 1))) else (if 0 ≤ (IntKind.i64.wrap (x10 - 1)) then (if (IntKind.i64.wrap (x10 - 1)) < (x1.length : Int) then (if (!(Op.bytesLess ((x1.getD (((IntKind.i64.wrap (x10 - 1))).toNat) z45).name) ((x1.getD ((x10).toNat) z45).name) || ((x1.getD (((IntKind.i64.wrap (x10 - 1))).toNat) z45).name) == ((x1.getD ((x10).toNat) z45).name))) = true then some false else (if (x1.getD (((IntKind.i64.wrap (x10 - 1))).toNat) z45).name = (x1.getD ((x10).toNat) z45).name then ((spec_l3prefix.f ((x1.getD (((IntKind.i64.wrap (x10 - 1))).toNat) z45).typ)).bind fun t95 => (if ¬ (t95 = true) then some false else ((spec_l3prefix.f ((x1.getD ((x10).toNat) z45).typ)).bind fun t102 => (if t102 = true then some false else (spec_ValidOps.l0 k65 x1 x56 (IntKind.i64.wrap (x10 + 1))))))) else (spec_ValidOps.l0 k65 x1 x56 (IntKind.i64.wrap (x10 + 1))))) else none) else none))
end
def spec_ValidOps.f (k : Nat) (x1 : List Sy.Op) : Option Bool := (if (x1.length : Int) > 200 then some false else (spec_ValidOps.l0 k x1 0 0))
theorem spec_ValidOps.calls (k : Nat) (w : World) (H : Hp) (x1 : List Sy.Op) (A2 : Option Addr) (c3 : Nat) (h4 : Rd st45 H A2 x1) (l5 : x1.length ≤ c3) (S : Own [] H w) (r : Bool) (M : spec_ValidOps.f k x1 = some r) :
    Calls Try.prog 8 #[.slice A2 x1.length c3] w (fun e e_w => e = .returned (.bool r) ∧ Chg no w e_w) := by
  rw [spec_ValidOps.f] at M
  refine enter (l := [.slice A2 x1.length c3]) 103 Try.func8 rfl rfl rfl ?_
  have S0_ := S.st
  refine wp_seq ?_
  refine wp_region_lit ?_
  refine lv (d := 2) rfl rfl (by kernel_rfl) (e_assign (v := .bool false) rfl) ?_
  refine wpList_nil ?_
  refine then_n ?_
  refine wp_seq ?_
  refine wp_seq ?_
  refine wp_region_lit ?_
  refine lv (d := 7) rfl rfl (by kernel_rfl) (e_move (v := .slice A2 x1.length c3) (by kernel_rfl)) ?_
  refine lv (d := 8) rfl rfl (by kernel_rfl) (e_len (A := A2) (n := x1.length) (c := c3) Try.underlying25 (by kernel_rfl)) ?_
  refine lv (d := 9) rfl rfl (by kernel_rfl) (e_gtr (k := .i64) (a := (x1.length : Int)) (b := 200) (by kernel_rfl) rfl) ?_
  refine wpList_nil ?_
  refine then_n ?_
  by_cases q6 : (x1.length : Int) > 200
  · replace M := ifp q6 M
    refine cond_t rfl (bt q6 (by kernel_rfl)) ?_
    refine wp_seq ?_
    refine wp_region_lit ?_
    refine lv (d := 2) rfl rfl (by kernel_rfl) (e_assign (v := .bool false) rfl) ?_
    refine wpList_nil ?_
    refine then_n ?_
    refine wp_ret ?_
    refine then_r ?_
    obtain rfl := Option.some.inj M
    exact ret1 rfl rfl  (show _ = .bool false from (by kernel_rfl)) ⟨rfl, S0_.chg⟩
  replace M := ifn q6 M
  refine cond_f rfl (bf q6 (by kernel_rfl)) ?_
  refine wp_skip ?_
  refine then_n ?_
  refine wp_seq ?_
  refine wp_region_lit ?_
  refine lv (d := 3) rfl rfl (by kernel_rfl) (e_assign (v := .int .i64 0) rfl) ?_
  refine wpList_nil ?_
  refine then_n ?_
  refine wp_seq ?_
  refine wp_seq ?_
  refine wp_region_lit ?_
  refine lv (d := 4) rfl rfl (by kernel_rfl) (e_assign (v := .int .i64 0) rfl) ?_
  refine wpList_nil ?_
  refine then_n ?_
  refine wp_block ?_
  refine wp_loop_g (fun k17 a18 w7 => ∃ (f8 : Nat → Value) (x9 : Int) (x10 : Int), a18 = mk 103 f8 ∧ f8 0 = .slice A2 x1.length c3 ∧ f8 3 = .int .i64 x9 ∧ f8 4 = .int .i64 x10 ∧ St (anyOf []) H w [] H w7 ∧ spec_ValidOps.l0 k17 x1 x9 x10 = some r) k ⟨_, 0, 0, rfl, (by kernel_rfl), (by kernel_rfl), (by kernel_rfl), S0_, M⟩ ?_
  clear M
  rintro k17 a18 w7 ⟨f8, x9, x10, rfl, e11, e12, e13, S14, M⟩
  rcases k17 with _ | k19
  · rw [spec_ValidOps.l0] at M
    cases M
  rw [spec_ValidOps.l0] at M
  refine wp_seq ?_
  refine wp_seq ?_
  refine wp_region_lit ?_
  refine lv (d := 10) rfl rfl (by kernel_rfl) (e_move (v := .int .i64 x10) (by exact e13)) ?_
  refine lv (d := 11) rfl rfl (by kernel_rfl) (e_move (v := .slice A2 x1.length c3) (by exact e11)) ?_
  refine lv (d := 12) rfl rfl (by kernel_rfl) (e_len (A := A2) (n := x1.length) (c := c3) Try.underlying25 (by kernel_rfl)) ?_
  refine lv (d := 13) rfl rfl (by kernel_rfl) (e_lss (k := .i64) (a := x10) (b := (x1.length : Int)) (by kernel_rfl) (by kernel_rfl)) ?_
  refine wpList_nil ?_
  refine then_n ?_
  by_cases q20 : x10 < (x1.length : Int)
  · replace M := ifp q20 M
    refine cond_t rfl (bt q20 (by kernel_rfl)) ?_
    refine wp_skip ?_
    refine then_n ?_
    refine wp_seq ?_
    refine wp_block ?_
    refine wp_seq ?_
    refine wp_region_lit ?_
    refine lv (d := 16) rfl rfl (by kernel_rfl) (e_move (v := .slice A2 x1.length c3) (by exact e11)) ?_
    refine lv (d := 17) rfl rfl (by kernel_rfl) (e_move (v := .int .i64 x10) (by exact e13)) ?_
    obtain ⟨q21, M⟩ := chk M
    obtain ⟨b22, o23, e24⟩ := Rd.addr h4 (show (x10).toNat < x1.length by omega)
    obtain ⟨y25, r26, k27⟩ := Rd.at h4 e24 (getD_some z45 (show (x10).toNat < x1.length by omega))
    obtain ⟨A28, c29, rfl, l30, h31⟩ := st45_open r26
    refine lv (d := 18) rfl rfl (by kernel_rfl) (e_indexAddr (b := b22) (off := o23) (n := x1.length) (c := c3) (sz := 3) (i := x10) (k := .i64) Try.underlying25 e24 (by kernel_rfl) (by kernel_rfl) (by kernel_rfl) q21 q20) ?_
    refine lv (d := 19) rfl rfl (by kernel_rfl) (e_loadS (b := b22) (off := o23 + (x10 : Int).toNat * 3) (cs := [.slice A28 ((x1.getD ((x10).toNat) z45).name).length c29, .int .i64 ((x1.getD ((x10).toNat) z45).pri), .int .i64 ((x1.getD ((x10).toNat) z45).typ)]) Try.underlying45 rfl (by kernel_rfl) (by kernel_rfl) (fun j_ u_ e_ => (hpx (S14.inv.cell (k27 j_ u_ e_))))) ?_
    refine lve (d := 5) rfl rfl (by kernel_rfl) (new_blk (v := fun g_ => .pointer (some ⟨g_, 0, none⟩)) (cs := #[.slice none 0 0, .int .i64 0, .int .i64 0]) (t := 45) S14 (by kernel_rfl)) ?_
    rintro _ w32 ⟨g33, rfl, b34, S35, K36⟩
    refine lse rfl rfl (by kernel_rfl) (e_store (g := g33) (o := 0) (v := .agg #[.slice A28 ((x1.getD ((x10).toNat) z45).name).length c29, .int .i64 ((x1.getD ((x10).toNat) z45).pri), .int .i64 ((x1.getD ((x10).toNat) z45).typ)]) (cur' := #[.slice A28 ((x1.getD ((x10).toNat) z45).name).length c29, .int .i64 ((x1.getD ((x10).toNat) z45).pri), .int .i64 ((x1.getD ((x10).toNat) z45).typ)]) (vs := [.slice A28 ((x1.getD ((x10).toNat) z45).name).length c29, .int .i64 ((x1.getD ((x10).toNat) z45).pri), .int .i64 ((x1.getD ((x10).toNat) z45).typ)]) S35 (by kernel_rfl) (by kernel_rfl) rfl (by kernel_rfl) b34 (Nat.le_of_ble_eq_true rfl) (List.forall_mem_cons.2 ⟨rfl, (List.forall_mem_cons.2 ⟨rfl, (List.forall_mem_cons.2 ⟨rfl, (fun _ h_ => by cases h_)⟩)⟩)⟩) rfl) ?_
    rintro w37 ⟨b38, S39, K40⟩
    clear b34
    refine wpList_nil ?_
    refine then_n ?_
    refine wp_seq ?_
    refine wp_seq ?_
    refine wp_region_lit ?_
    refine lv (d := 20) rfl rfl (by kernel_rfl) (e_fieldAddr (b := g33) (off := 0) (o := 0) Try.underlying45 rfl rfl (sz := 1) (by kernel_rfl) (by decide) (by kernel_rfl)) ?_
    refine lv (d := 21) rfl rfl (by kernel_rfl) (e_load1 (ad := ⟨g33, 0 + 0, none⟩) (v := .slice A28 ((x1.getD ((x10).toNat) z45).name).length c29) Try.underlying32 rfl (by kernel_rfl) (blk_cell b38 rfl)) ?_
    refine lv (d := 22) rfl rfl (by kernel_rfl) (e_len (A := A28) (n := ((x1.getD ((x10).toNat) z45).name).length) (c := c29) Try.underlying32 (by kernel_rfl)) ?_
    refine lv (d := 23) rfl rfl (by kernel_rfl) (e_lss (k := .i64) (a := (((x1.getD ((x10).toNat) z45).name).length : Int)) (b := 1) (by kernel_rfl) rfl) ?_
    refine lv (d := 24) rfl rfl (by kernel_rfl) (e_move (v := .bool (decide ((((x1.getD ((x10).toNat) z45).name).length : Int) < 1))) (by kernel_rfl)) ?_
    by_cases q41 : (((x1.getD ((x10).toNat) z45).name).length : Int) < 1
    · replace M := ifp q41 M
      refine lskip (t := 24) (c := true) rfl (by kernel_rfl) rfl (bt q41 (by kernel_rfl)) rfl rfl ?_
      refine lskip (t := 24) (c := true) rfl (by kernel_rfl) rfl (bt q41 (by kernel_rfl)) rfl rfl ?_
      refine lskip (t := 24) (c := true) rfl (by kernel_rfl) rfl (bt q41 (by kernel_rfl)) rfl rfl ?_
      refine lskip (t := 24) (c := true) rfl (by kernel_rfl) rfl (bt q41 (by kernel_rfl)) rfl rfl ?_
      refine lv (d := 29) rfl rfl (by kernel_rfl) (e_pick_t (v := .bool true) (bt q41 (by kernel_rfl)) rfl) ?_
      refine lv (d := 30) rfl rfl (by kernel_rfl) (e_move (v := .bool true) (by kernel_rfl)) ?_
      refine lskip (t := 30) (c := true) rfl (by kernel_rfl) rfl (by kernel_rfl) rfl rfl ?_
      refine lskip (t := 30) (c := true) rfl (by kernel_rfl) rfl (by kernel_rfl) rfl rfl ?_
      refine lskip (t := 30) (c := true) rfl (by kernel_rfl) rfl (by kernel_rfl) rfl rfl ?_
      refine lv (d := 34) rfl rfl (by kernel_rfl) (e_pick_t (v := .bool true) (by kernel_rfl) rfl) ?_
      refine lv (d := 35) rfl rfl (by kernel_rfl) (e_move (v := .bool true) (by kernel_rfl)) ?_
      refine lskip (t := 35) (c := true) rfl (by kernel_rfl) rfl (by kernel_rfl) rfl rfl ?_
      refine lskip (t := 35) (c := true) rfl (by kernel_rfl) rfl (by kernel_rfl) rfl rfl ?_
      refine lskip (t := 35) (c := true) rfl (by kernel_rfl) rfl (by kernel_rfl) rfl rfl ?_
      refine lv (d := 39) rfl rfl (by kernel_rfl) (e_pick_t (v := .bool true) (by kernel_rfl) rfl) ?_
      refine lv (d := 40) rfl rfl (by kernel_rfl) (e_move (v := .bool true) (by kernel_rfl)) ?_
      refine lskip (t := 40) (c := true) rfl (by kernel_rfl) rfl (by kernel_rfl) rfl rfl ?_
      refine lskip (t := 40) (c := true) rfl (by kernel_rfl) rfl (by kernel_rfl) rfl rfl ?_
      refine lskip (t := 40) (c := true) rfl (by kernel_rfl) rfl (by kernel_rfl) rfl rfl ?_
      refine lv (d := 44) rfl rfl (by kernel_rfl) (e_pick_t (v := .bool true) (by kernel_rfl) rfl) ?_
      refine lv (d := 45) rfl rfl (by kernel_rfl) (e_move (v := .bool true) (by kernel_rfl)) ?_
      refine lskip (t := 45) (c := true) rfl (by kernel_rfl) rfl (by kernel_rfl) rfl rfl ?_
      refine lskip (t := 45) (c := true) rfl (by kernel_rfl) rfl (by kernel_rfl) rfl rfl ?_
      refine lskip (t := 45) (c := true) rfl (by kernel_rfl) rfl (by kernel_rfl) rfl rfl ?_
      refine lv (d := 49) rfl rfl (by kernel_rfl) (e_pick_t (v := .bool true) (by kernel_rfl) rfl) ?_
      refine lv (d := 50) rfl rfl (by kernel_rfl) (e_move (v := .bool true) (by kernel_rfl)) ?_
      refine lskip (t := 50) (c := true) rfl (by kernel_rfl) rfl (by kernel_rfl) rfl rfl ?_
      refine lskip (t := 50) (c := true) rfl (by kernel_rfl) rfl (by kernel_rfl) rfl rfl ?_
      refine lskip (t := 50) (c := true) rfl (by kernel_rfl) rfl (by kernel_rfl) rfl rfl ?_
      refine lv (d := 54) rfl rfl (by kernel_rfl) (e_pick_t (v := .bool true) (by kernel_rfl) rfl) ?_
      refine wpList_nil ?_
      refine then_n ?_
      refine cond_t rfl (by kernel_rfl) ?_
      refine wp_seq ?_
      refine wp_region_lit ?_
      refine lv (d := 2) rfl rfl (by kernel_rfl) (e_assign (v := .bool false) rfl) ?_
      refine wpList_nil ?_
      refine then_n ?_
      refine wp_ret ?_
      refine then_r ?_
      refine inb_r ?_
      refine then_r ?_
      refine then_r ?_
      refine inb_r ?_
      refine then_r ?_
      obtain rfl := Option.some.inj M
      exact ret1 rfl rfl  (show _ = .bool false from (by kernel_rfl)) ⟨rfl, S39.chg⟩
    replace M := ifn q41 M
    refine lvg (d := 25) (t := 24) rfl (by kernel_rfl) rfl (bf q41 (by kernel_rfl)) rfl (by kernel_rfl) (e_fieldAddr (b := g33) (off := 0) (o := 0) Try.underlying45 rfl rfl (sz := 1) (by kernel_rfl) (by decide) (by kernel_rfl)) ?_
    refine lvg (d := 26) (t := 24) rfl (by kernel_rfl) rfl (bf q41 (by kernel_rfl)) rfl (by kernel_rfl) (e_load1 (ad := ⟨g33, 0 + 0, none⟩) (v := .slice A28 ((x1.getD ((x10).toNat) z45).name).length c29) Try.underlying32 rfl (by kernel_rfl) (blk_cell b38 rfl)) ?_
    refine lvg (d := 27) (t := 24) rfl (by kernel_rfl) rfl (bf q41 (by kernel_rfl)) rfl (by kernel_rfl) (e_len (A := A28) (n := ((x1.getD ((x10).toNat) z45).name).length) (c := c29) Try.underlying32 (by kernel_rfl)) ?_
    refine lvg (d := 28) (t := 24) rfl (by kernel_rfl) rfl (bf q41 (by kernel_rfl)) rfl (by kernel_rfl) (e_gtr (k := .i64) (a := (((x1.getD ((x10).toNat) z45).name).length : Int)) (b := 100) (by kernel_rfl) rfl) ?_
    refine lv (d := 29) rfl rfl (by kernel_rfl) (e_pick_f (v := .bool (decide ((((x1.getD ((x10).toNat) z45).name).length : Int) > 100))) (bf q41 (by kernel_rfl)) (by kernel_rfl)) ?_
    refine lv (d := 30) rfl rfl (by kernel_rfl) (e_move (v := .bool (decide ((((x1.getD ((x10).toNat) z45).name).length : Int) > 100))) (by kernel_rfl)) ?_
    by_cases q42 : (((x1.getD ((x10).toNat) z45).name).length : Int) > 100
    · replace M := ifp q42 M
      refine lskip (t := 30) (c := true) rfl (by kernel_rfl) rfl (bt q42 (by kernel_rfl)) rfl rfl ?_
      refine lskip (t := 30) (c := true) rfl (by kernel_rfl) rfl (bt q42 (by kernel_rfl)) rfl rfl ?_
      refine lskip (t := 30) (c := true) rfl (by kernel_rfl) rfl (bt q42 (by kernel_rfl)) rfl rfl ?_
      refine lv (d := 34) rfl rfl (by kernel_rfl) (e_pick_t (v := .bool true) (bt q42 (by kernel_rfl)) rfl) ?_
      refine lv (d := 35) rfl rfl (by kernel_rfl) (e_move (v := .bool true) (by kernel_rfl)) ?_
      refine lskip (t := 35) (c := true) rfl (by kernel_rfl) rfl (by kernel_rfl) rfl rfl ?_
      refine lskip (t := 35) (c := true) rfl (by kernel_rfl) rfl (by kernel_rfl) rfl rfl ?_
      refine lskip (t := 35) (c := true) rfl (by kernel_rfl) rfl (by kernel_rfl) rfl rfl ?_
      refine lv (d := 39) rfl rfl (by kernel_rfl) (e_pick_t (v := .bool true) (by kernel_rfl) rfl) ?_
      refine lv (d := 40) rfl rfl (by kernel_rfl) (e_move (v := .bool true) (by kernel_rfl)) ?_
      refine lskip (t := 40) (c := true) rfl (by kernel_rfl) rfl (by kernel_rfl) rfl rfl ?_
      refine lskip (t := 40) (c := true) rfl (by kernel_rfl) rfl (by kernel_rfl) rfl rfl ?_
      refine lskip (t := 40) (c := true) rfl (by kernel_rfl) rfl (by kernel_rfl) rfl rfl ?_
      refine lv (d := 44) rfl rfl (by kernel_rfl) (e_pick_t (v := .bool true) (by kernel_rfl) rfl) ?_
      refine lv (d := 45) rfl rfl (by kernel_rfl) (e_move (v := .bool true) (by kernel_rfl)) ?_
      refine lskip (t := 45) (c := true) rfl (by kernel_rfl) rfl (by kernel_rfl) rfl rfl ?_
      refine lskip (t := 45) (c := true) rfl (by kernel_rfl) rfl (by kernel_rfl) rfl rfl ?_
      refine lskip (t := 45) (c := true) rfl (by kernel_rfl) rfl (by kernel_rfl) rfl rfl ?_
      refine lv (d := 49) rfl rfl (by kernel_rfl) (e_pick_t (v := .bool true) (by kernel_rfl) rfl) ?_
      refine lv (d := 50) rfl rfl (by kernel_rfl) (e_move (v := .bool true) (by kernel_rfl)) ?_
      refine lskip (t := 50) (c := true) rfl (by kernel_rfl) rfl (by kernel_rfl) rfl rfl ?_
      refine lskip (t := 50) (c := true) rfl (by kernel_rfl) rfl (by kernel_rfl) rfl rfl ?_
      refine lskip (t := 50) (c := true) rfl (by kernel_rfl) rfl (by kernel_rfl) rfl rfl ?_
      refine lv (d := 54) rfl rfl (by kernel_rfl) (e_pick_t (v := .bool true) (by kernel_rfl) rfl) ?_
      refine wpList_nil ?_
      refine then_n ?_
      refine cond_t rfl (by kernel_rfl) ?_
      refine wp_seq ?_
      refine wp_region_lit ?_
      refine lv (d := 2) rfl rfl (by kernel_rfl) (e_assign (v := .bool false) rfl) ?_
      refine wpList_nil ?_
      refine then_n ?_
      refine wp_ret ?_
      refine then_r ?_
      refine inb_r ?_
      refine then_r ?_
      refine then_r ?_
      refine inb_r ?_
      refine then_r ?_
      obtain rfl := Option.some.inj M
      exact ret1 rfl rfl  (show _ = .bool false from (by kernel_rfl)) ⟨rfl, S39.chg⟩
    replace M := ifn q42 M
    refine lvg (d := 31) (t := 30) rfl (by kernel_rfl) rfl (bf q42 (by kernel_rfl)) rfl (by kernel_rfl) (e_fieldAddr (b := g33) (off := 0) (o := 0) Try.underlying45 rfl rfl (sz := 1) (by kernel_rfl) (by decide) (by kernel_rfl)) ?_
    refine lvg (d := 32) (t := 30) rfl (by kernel_rfl) rfl (bf q42 (by kernel_rfl)) rfl (by kernel_rfl) (e_load1 (ad := ⟨g33, 0 + 0, none⟩) (v := .slice A28 ((x1.getD ((x10).toNat) z45).name).length c29) Try.underlying32 rfl (by kernel_rfl) (blk_cell b38 rfl)) ?_
    obtain ⟨t43, u44, M⟩ := bnd M
    refine lcallg (d := 33) (t := 30) rfl (by kernel_rfl) rfl (bf q42 (by kernel_rfl)) rfl (by kernel_rfl) (e_call (l := [.tmp 32]) (vs := [.slice A28 ((x1.getD ((x10).toNat) z45).name).length c29]) Try.func24 (by kernel_rfl) rfl (by kernel_rfl) rfl) (spec_l3special.calls w37 H ((x1.getD ((x10).toNat) z45).name) A28 c29 h31 l30 S39.own0 t43 u44) ?_
    rintro _ w45 ⟨rfl, C46⟩
    refine ⟨_, rfl, ?_⟩
    obtain ⟨S47, K48⟩ := S39.still C46
    replace b38 := K48.blk 0 rfl b38
    refine lv (d := 34) rfl rfl (by kernel_rfl) (e_pick_f (v := .bool t43) (bf q42 (by kernel_rfl)) (by kernel_rfl)) ?_
    refine lv (d := 35) rfl rfl (by kernel_rfl) (e_move (v := .bool t43) (by kernel_rfl)) ?_
    by_cases q49 : t43 = true
    · replace M := ifp q49 M
      refine lskip (t := 35) (c := true) rfl (by kernel_rfl) rfl (bvt q49 (by kernel_rfl)) rfl rfl ?_
      refine lskip (t := 35) (c := true) rfl (by kernel_rfl) rfl (bvt q49 (by kernel_rfl)) rfl rfl ?_
      refine lskip (t := 35) (c := true) rfl (by kernel_rfl) rfl (bvt q49 (by kernel_rfl)) rfl rfl ?_
      refine lv (d := 39) rfl rfl (by kernel_rfl) (e_pick_t (v := .bool true) (bvt q49 (by kernel_rfl)) rfl) ?_
      refine lv (d := 40) rfl rfl (by kernel_rfl) (e_move (v := .bool true) (by kernel_rfl)) ?_
      refine lskip (t := 40) (c := true) rfl (by kernel_rfl) rfl (by kernel_rfl) rfl rfl ?_
      refine lskip (t := 40) (c := true) rfl (by kernel_rfl) rfl (by kernel_rfl) rfl rfl ?_
      refine lskip (t := 40) (c := true) rfl (by kernel_rfl) rfl (by kernel_rfl) rfl rfl ?_
      refine lv (d := 44) rfl rfl (by kernel_rfl) (e_pick_t (v := .bool true) (by kernel_rfl) rfl) ?_
      refine lv (d := 45) rfl rfl (by kernel_rfl) (e_move (v := .bool true) (by kernel_rfl)) ?_
      refine lskip (t := 45) (c := true) rfl (by kernel_rfl) rfl (by kernel_rfl) rfl rfl ?_
      refine lskip (t := 45) (c := true) rfl (by kernel_rfl) rfl (by kernel_rfl) rfl rfl ?_
      refine lskip (t := 45) (c := true) rfl (by kernel_rfl) rfl (by kernel_rfl) rfl rfl ?_
      refine lv (d := 49) rfl rfl (by kernel_rfl) (e_pick_t (v := .bool true) (by kernel_rfl) rfl) ?_
      refine lv (d := 50) rfl rfl (by kernel_rfl) (e_move (v := .bool true) (by kernel_rfl)) ?_
      refine lskip (t := 50) (c := true) rfl (by kernel_rfl) rfl (by kernel_rfl) rfl rfl ?_
      refine lskip (t := 50) (c := true) rfl (by kernel_rfl) rfl (by kernel_rfl) rfl rfl ?_
      refine lskip (t := 50) (c := true) rfl (by kernel_rfl) rfl (by kernel_rfl) rfl rfl ?_
      refine lv (d := 54) rfl rfl (by kernel_rfl) (e_pick_t (v := .bool true) (by kernel_rfl) rfl) ?_
      refine wpList_nil ?_
      refine then_n ?_
      refine cond_t rfl (by kernel_rfl) ?_
      refine wp_seq ?_
      refine wp_region_lit ?_
      refine lv (d := 2) rfl rfl (by kernel_rfl) (e_assign (v := .bool false) rfl) ?_
      refine wpList_nil ?_
      refine then_n ?_
      refine wp_ret ?_
      refine then_r ?_
      refine inb_r ?_
      refine then_r ?_
      refine then_r ?_
      refine inb_r ?_
      refine then_r ?_
      obtain rfl := Option.some.inj M
      exact ret1 rfl rfl  (show _ = .bool false from (by kernel_rfl)) ⟨rfl, S47.chg⟩
    replace M := ifn q49 M
    refine lvg (d := 36) (t := 35) rfl (by kernel_rfl) rfl (bvf q49 (by kernel_rfl)) rfl (by kernel_rfl) (e_fieldAddr (b := g33) (off := 0) (o := 1) Try.underlying45 rfl rfl (sz := 1) (by kernel_rfl) (by decide) (by kernel_rfl)) ?_
    refine lvg (d := 37) (t := 35) rfl (by kernel_rfl) rfl (bvf q49 (by kernel_rfl)) rfl (by kernel_rfl) (e_load1 (ad := ⟨g33, 0 + 1, none⟩) (v := .int .i64 ((x1.getD ((x10).toNat) z45).pri)) Try.underlying3 rfl (by kernel_rfl) (blk_cell b38 rfl)) ?_
    refine lvg (d := 38) (t := 35) rfl (by kernel_rfl) rfl (bvf q49 (by kernel_rfl)) rfl (by kernel_rfl) (e_lss (k := .i64) (a := (x1.getD ((x10).toNat) z45).pri) (b := 1) (by kernel_rfl) rfl) ?_
    refine lv (d := 39) rfl rfl (by kernel_rfl) (e_pick_f (v := .bool (decide (((x1.getD ((x10).toNat) z45).pri) < 1))) (bvf q49 (by kernel_rfl)) (by kernel_rfl)) ?_
    refine lv (d := 40) rfl rfl (by kernel_rfl) (e_move (v := .bool (decide (((x1.getD ((x10).toNat) z45).pri) < 1))) (by kernel_rfl)) ?_
    by_cases q50 : ((x1.getD ((x10).toNat) z45).pri) < 1
    · replace M := ifp q50 M
      refine lskip (t := 40) (c := true) rfl (by kernel_rfl) rfl (bt q50 (by kernel_rfl)) rfl rfl ?_
      refine lskip (t := 40) (c := true) rfl (by kernel_rfl) rfl (bt q50 (by kernel_rfl)) rfl rfl ?_
      refine lskip (t := 40) (c := true) rfl (by kernel_rfl) rfl (bt q50 (by kernel_rfl)) rfl rfl ?_
      refine lv (d := 44) rfl rfl (by kernel_rfl) (e_pick_t (v := .bool true) (bt q50 (by kernel_rfl)) rfl) ?_
      refine lv (d := 45) rfl rfl (by kernel_rfl) (e_move (v := .bool true) (by kernel_rfl)) ?_
      refine lskip (t := 45) (c := true) rfl (by kernel_rfl) rfl (by kernel_rfl) rfl rfl ?_
      refine lskip (t := 45) (c := true) rfl (by kernel_rfl) rfl (by kernel_rfl) rfl rfl ?_
      refine lskip (t := 45) (c := true) rfl (by kernel_rfl) rfl (by kernel_rfl) rfl rfl ?_
      refine lv (d := 49) rfl rfl (by kernel_rfl) (e_pick_t (v := .bool true) (by kernel_rfl) rfl) ?_
      refine lv (d := 50) rfl rfl (by kernel_rfl) (e_move (v := .bool true) (by kernel_rfl)) ?_
      refine lskip (t := 50) (c := true) rfl (by kernel_rfl) rfl (by kernel_rfl) rfl rfl ?_
      refine lskip (t := 50) (c := true) rfl (by kernel_rfl) rfl (by kernel_rfl) rfl rfl ?_
      refine lskip (t := 50) (c := true) rfl (by kernel_rfl) rfl (by kernel_rfl) rfl rfl ?_
      refine lv (d := 54) rfl rfl (by kernel_rfl) (e_pick_t (v := .bool true) (by kernel_rfl) rfl) ?_
      refine wpList_nil ?_
      refine then_n ?_
      refine cond_t rfl (by kernel_rfl) ?_
      refine wp_seq ?_
      refine wp_region_lit ?_
      refine lv (d := 2) rfl rfl (by kernel_rfl) (e_assign (v := .bool false) rfl) ?_
      refine wpList_nil ?_
      refine then_n ?_
      refine wp_ret ?_
      refine then_r ?_
      refine inb_r ?_
      refine then_r ?_
      refine then_r ?_
      refine inb_r ?_
      refine then_r ?_
      obtain rfl := Option.some.inj M
      exact ret1 rfl rfl  (show _ = .bool false from (by kernel_rfl)) ⟨rfl, S47.chg⟩
    replace M := ifn q50 M
    refine lvg (d := 41) (t := 40) rfl (by kernel_rfl) rfl (bf q50 (by kernel_rfl)) rfl (by kernel_rfl) (e_fieldAddr (b := g33) (off := 0) (o := 1) Try.underlying45 rfl rfl (sz := 1) (by kernel_rfl) (by decide) (by kernel_rfl)) ?_
    refine lvg (d := 42) (t := 40) rfl (by kernel_rfl) rfl (bf q50 (by kernel_rfl)) rfl (by kernel_rfl) (e_load1 (ad := ⟨g33, 0 + 1, none⟩) (v := .int .i64 ((x1.getD ((x10).toNat) z45).pri)) Try.underlying3 rfl (by kernel_rfl) (blk_cell b38 rfl)) ?_
    refine lvg (d := 43) (t := 40) rfl (by kernel_rfl) rfl (bf q50 (by kernel_rfl)) rfl (by kernel_rfl) (e_gtr (k := .i64) (a := (x1.getD ((x10).toNat) z45).pri) (b := 1200) (by kernel_rfl) rfl) ?_
    refine lv (d := 44) rfl rfl (by kernel_rfl) (e_pick_f (v := .bool (decide (((x1.getD ((x10).toNat) z45).pri) > 1200))) (bf q50 (by kernel_rfl)) (by kernel_rfl)) ?_
    refine lv (d := 45) rfl rfl (by kernel_rfl) (e_move (v := .bool (decide (((x1.getD ((x10).toNat) z45).pri) > 1200))) (by kernel_rfl)) ?_
    by_cases q51 : ((x1.getD ((x10).toNat) z45).pri) > 1200
    · replace M := ifp q51 M
      refine lskip (t := 45) (c := true) rfl (by kernel_rfl) rfl (bt q51 (by kernel_rfl)) rfl rfl ?_
      refine lskip (t := 45) (c := true) rfl (by kernel_rfl) rfl (bt q51 (by kernel_rfl)) rfl rfl ?_
      refine lskip (t := 45) (c := true) rfl (by kernel_rfl) rfl (bt q51 (by kernel_rfl)) rfl rfl ?_
      refine lv (d := 49) rfl rfl (by kernel_rfl) (e_pick_t (v := .bool true) (bt q51 (by kernel_rfl)) rfl) ?_
      refine lv (d := 50) rfl rfl (by kernel_rfl) (e_move (v := .bool true) (by kernel_rfl)) ?_
      refine lskip (t := 50) (c := true) rfl (by kernel_rfl) rfl (by kernel_rfl) rfl rfl ?_
      refine lskip (t := 50) (c := true) rfl (by kernel_rfl) rfl (by kernel_rfl) rfl rfl ?_
      refine lskip (t := 50) (c := true) rfl (by kernel_rfl) rfl (by kernel_rfl) rfl rfl ?_
      refine lv (d := 54) rfl rfl (by kernel_rfl) (e_pick_t (v := .bool true) (by kernel_rfl) rfl) ?_
      refine wpList_nil ?_
      refine then_n ?_
      refine cond_t rfl (by kernel_rfl) ?_
      refine wp_seq ?_
      refine wp_region_lit ?_
      refine lv (d := 2) rfl rfl (by kernel_rfl) (e_assign (v := .bool false) rfl) ?_
      refine wpList_nil ?_
      refine then_n ?_
      refine wp_ret ?_
      refine then_r ?_
      refine inb_r ?_
      refine then_r ?_
      refine then_r ?_
      refine inb_r ?_
      refine then_r ?_
      obtain rfl := Option.some.inj M
      exact ret1 rfl rfl  (show _ = .bool false from (by kernel_rfl)) ⟨rfl, S47.chg⟩
    replace M := ifn q51 M
    refine lvg (d := 46) (t := 45) rfl (by kernel_rfl) rfl (bf q51 (by kernel_rfl)) rfl (by kernel_rfl) (e_fieldAddr (b := g33) (off := 0) (o := 2) Try.underlying45 rfl rfl (sz := 1) (by kernel_rfl) (by decide) (by kernel_rfl)) ?_
    refine lvg (d := 47) (t := 45) rfl (by kernel_rfl) rfl (bf q51 (by kernel_rfl)) rfl (by kernel_rfl) (e_load1 (ad := ⟨g33, 0 + 2, none⟩) (v := .int .i64 ((x1.getD ((x10).toNat) z45).typ)) Try.underlying3 rfl (by kernel_rfl) (blk_cell b38 rfl)) ?_
    refine lvg (d := 48) (t := 45) rfl (by kernel_rfl) rfl (bf q51 (by kernel_rfl)) rfl (by kernel_rfl) (e_lss (k := .i64) (a := (x1.getD ((x10).toNat) z45).typ) (b := 0) (by kernel_rfl) rfl) ?_
    refine lv (d := 49) rfl rfl (by kernel_rfl) (e_pick_f (v := .bool (decide (((x1.getD ((x10).toNat) z45).typ) < 0))) (bf q51 (by kernel_rfl)) (by kernel_rfl)) ?_
    refine lv (d := 50) rfl rfl (by kernel_rfl) (e_move (v := .bool (decide (((x1.getD ((x10).toNat) z45).typ) < 0))) (by kernel_rfl)) ?_
    by_cases q52 : ((x1.getD ((x10).toNat) z45).typ) < 0
    · replace M := ifp q52 M
      refine lskip (t := 50) (c := true) rfl (by kernel_rfl) rfl (bt q52 (by kernel_rfl)) rfl rfl ?_
      refine lskip (t := 50) (c := true) rfl (by kernel_rfl) rfl (bt q52 (by kernel_rfl)) rfl rfl ?_
      refine lskip (t := 50) (c := true) rfl (by kernel_rfl) rfl (bt q52 (by kernel_rfl)) rfl rfl ?_
      refine lv (d := 54) rfl rfl (by kernel_rfl) (e_pick_t (v := .bool true) (bt q52 (by kernel_rfl)) rfl) ?_
      refine wpList_nil ?_
      refine then_n ?_
      refine cond_t rfl (by kernel_rfl) ?_
      refine wp_seq ?_
      refine wp_region_lit ?_
      refine lv (d := 2) rfl rfl (by kernel_rfl) (e_assign (v := .bool false) rfl) ?_
      refine wpList_nil ?_
      refine then_n ?_
      refine wp_ret ?_
      refine then_r ?_
      refine inb_r ?_
      refine then_r ?_
      refine then_r ?_
      refine inb_r ?_
      refine then_r ?_
      obtain rfl := Option.some.inj M
      exact ret1 rfl rfl  (show _ = .bool false from (by kernel_rfl)) ⟨rfl, S47.chg⟩
    replace M := ifn q52 M
    refine lvg (d := 51) (t := 50) rfl (by kernel_rfl) rfl (bf q52 (by kernel_rfl)) rfl (by kernel_rfl) (e_fieldAddr (b := g33) (off := 0) (o := 2) Try.underlying45 rfl rfl (sz := 1) (by kernel_rfl) (by decide) (by kernel_rfl)) ?_
    refine lvg (d := 52) (t := 50) rfl (by kernel_rfl) rfl (bf q52 (by kernel_rfl)) rfl (by kernel_rfl) (e_load1 (ad := ⟨g33, 0 + 2, none⟩) (v := .int .i64 ((x1.getD ((x10).toNat) z45).typ)) Try.underlying3 rfl (by kernel_rfl) (blk_cell b38 rfl)) ?_
    refine lvg (d := 53) (t := 50) rfl (by kernel_rfl) rfl (bf q52 (by kernel_rfl)) rfl (by kernel_rfl) (e_gtr (k := .i64) (a := (x1.getD ((x10).toNat) z45).typ) (b := 6) (by kernel_rfl) rfl) ?_
    refine lv (d := 54) rfl rfl (by kernel_rfl) (e_pick_f (v := .bool (decide (((x1.getD ((x10).toNat) z45).typ) > 6))) (bf q52 (by kernel_rfl)) (by kernel_rfl)) ?_
    refine wpList_nil ?_
    refine then_n ?_
    by_cases q53 : ((x1.getD ((x10).toNat) z45).typ) > 6
    · replace M := ifp q53 M
      refine cond_t rfl (bt q53 (by kernel_rfl)) ?_
      refine wp_seq ?_
      refine wp_region_lit ?_
      refine lv (d := 2) rfl rfl (by kernel_rfl) (e_assign (v := .bool false) rfl) ?_
      refine wpList_nil ?_
      refine then_n ?_
      refine wp_ret ?_
      refine then_r ?_
      refine inb_r ?_
      refine then_r ?_
      refine then_r ?_
      refine inb_r ?_
      refine then_r ?_
      obtain rfl := Option.some.inj M
      exact ret1 rfl rfl  (show _ = .bool false from (by kernel_rfl)) ⟨rfl, S47.chg⟩
    replace M := ifn q53 M
    refine cond_f rfl (bf q53 (by kernel_rfl)) ?_
    refine wp_skip ?_
    refine then_n ?_
    refine wp_seq_cut (fun a64 w54 => ∃ (k66 : Nat), k66 ≤ k19 ∧ ∃ (f55 : Nat → Value) (x56 : Int), a64 = mk 103 f55 ∧ f55 0 = .slice A2 x1.length c3 ∧ f55 3 = .int .i64 x56 ∧ f55 4 = .int .i64 x10 ∧ f55 5 = .pointer (some ⟨g33, 0, none⟩) ∧ w54.heap[g33]? = some (.cells #[.slice A28 ((x1.getD ((x10).toNat) z45).name).length c29, .int .i64 ((x1.getD ((x10).toNat) z45).pri), .int .i64 ((x1.getD ((x10).toNat) z45).typ)] 45 (0, 0)) ∧ St (anyOf []) H w [(is g33)] H w54 ∧ spec_ValidOps.l1 k66 x1 x10 x56 = some r) ?_ ?_
    · refine wp_seq ?_
      refine wp_region_lit ?_
      refine lv (d := 55) rfl rfl (by kernel_rfl) (e_fieldAddr (b := g33) (off := 0) (o := 0) Try.underlying45 rfl rfl (sz := 1) (by kernel_rfl) (by decide) (by kernel_rfl)) ?_
      refine lv (d := 56) rfl rfl (by kernel_rfl) (e_load1 (ad := ⟨g33, 0 + 0, none⟩) (v := .slice A28 ((x1.getD ((x10).toNat) z45).name).length c29) Try.underlying32 rfl (by kernel_rfl) (blk_cell b38 rfl)) ?_
      refine lv (d := 57) rfl rfl (by kernel_rfl) (e_conv_bs (A := A28) (n := ((x1.getD ((x10).toNat) z45).name).length) (c := c29) (xs := (x1.getD ((x10).toNat) z45).name) Try.underlying32 Try.underlying5 Try.underlying9 (by kernel_rfl) rfl (Rd.bytesE S47.inv h31)) ?_
      refine lv (d := 58) rfl rfl (by kernel_rfl) (e_seql (p := (x1.getD ((x10).toNat) z45).name) (q := ([44] : List UInt8)) (by kernel_rfl) rfl) ?_
      refine wpList_nil ?_
      refine then_n ?_
      by_cases q67 : (x1.getD ((x10).toNat) z45).name = ([44] : List UInt8)
      · replace M := ifp q67 M
        refine cond_t rfl (bt q67 (by kernel_rfl)) ?_
        refine wp_seq ?_
        refine wp_region_lit ?_
        refine lv (d := 59) rfl rfl (by kernel_rfl) (e_move (v := .int .i64 x9) (by exact e12)) ?_
        refine lv (d := 60) rfl rfl (by kernel_rfl) (e_add (k := .i64) (a := x9) (b := 1) (by kernel_rfl) rfl) ?_
        refine lv (d := 3) rfl rfl (by kernel_rfl) (e_assign (v := .int .i64 (IntKind.i64.wrap (x9 + 1))) (by kernel_rfl)) ?_
        refine wpList_nil ?_
        refine then_n ?_
        refine wp_seq ?_
        refine wp_region_lit ?_
        refine lv (d := 61) rfl rfl (by kernel_rfl) (e_fieldAddr (b := g33) (off := 0) (o := 1) Try.underlying45 rfl rfl (sz := 1) (by kernel_rfl) (by decide) (by kernel_rfl)) ?_
        refine lv (d := 62) rfl rfl (by kernel_rfl) (e_load1 (ad := ⟨g33, 0 + 1, none⟩) (v := .int .i64 ((x1.getD ((x10).toNat) z45).pri)) Try.underlying3 rfl (by kernel_rfl) (blk_cell b38 rfl)) ?_
        refine lv (d := 63) rfl rfl (by kernel_rfl) (e_neq (k := .i64) (a := (x1.getD ((x10).toNat) z45).pri) (b := 1000) (by kernel_rfl) rfl) ?_
        refine lv (d := 64) rfl rfl (by kernel_rfl) (e_move (v := .bool (decide (((x1.getD ((x10).toNat) z45).pri) ≠ 1000))) (by kernel_rfl)) ?_
        by_cases q68 : ((x1.getD ((x10).toNat) z45).pri) ≠ 1000
        · replace M := ifp q68 M
          refine lskip (t := 64) (c := true) rfl (by kernel_rfl) rfl (bt q68 (by kernel_rfl)) rfl rfl ?_
          refine lskip (t := 64) (c := true) rfl (by kernel_rfl) rfl (bt q68 (by kernel_rfl)) rfl rfl ?_
          refine lskip (t := 64) (c := true) rfl (by kernel_rfl) rfl (bt q68 (by kernel_rfl)) rfl rfl ?_
          refine lv (d := 68) rfl rfl (by kernel_rfl) (e_pick_t (v := .bool true) (bt q68 (by kernel_rfl)) rfl) ?_
          refine wpList_nil ?_
          refine then_n ?_
          refine cond_t rfl (by kernel_rfl) ?_
          refine wp_seq ?_
          refine wp_region_lit ?_
          refine lv (d := 2) rfl rfl (by kernel_rfl) (e_assign (v := .bool false) rfl) ?_
          refine wpList_nil ?_
          refine then_n ?_
          refine wp_ret ?_
          refine then_r ?_
          refine inb_r ?_
          refine then_r ?_
          refine then_r ?_
          refine inb_r ?_
          refine then_r ?_
          obtain rfl := Option.some.inj M
          exact ret1 rfl rfl  (show _ = .bool false from (by kernel_rfl)) ⟨rfl, S47.chg⟩
        replace M := ifn q68 M
        refine lvg (d := 65) (t := 64) rfl (by kernel_rfl) rfl (bf q68 (by kernel_rfl)) rfl (by kernel_rfl) (e_fieldAddr (b := g33) (off := 0) (o := 2) Try.underlying45 rfl rfl (sz := 1) (by kernel_rfl) (by decide) (by kernel_rfl)) ?_
        refine lvg (d := 66) (t := 64) rfl (by kernel_rfl) rfl (bf q68 (by kernel_rfl)) rfl (by kernel_rfl) (e_load1 (ad := ⟨g33, 0 + 2, none⟩) (v := .int .i64 ((x1.getD ((x10).toNat) z45).typ)) Try.underlying3 rfl (by kernel_rfl) (blk_cell b38 rfl)) ?_
        refine lvg (d := 67) (t := 64) rfl (by kernel_rfl) rfl (bf q68 (by kernel_rfl)) rfl (by kernel_rfl) (e_neq (k := .i64) (a := (x1.getD ((x10).toNat) z45).typ) (b := 1) (by kernel_rfl) rfl) ?_
        refine lv (d := 68) rfl rfl (by kernel_rfl) (e_pick_f (v := .bool (decide (((x1.getD ((x10).toNat) z45).typ) ≠ 1))) (bf q68 (by kernel_rfl)) (by kernel_rfl)) ?_
        refine wpList_nil ?_
        refine then_n ?_
        by_cases q69 : ((x1.getD ((x10).toNat) z45).typ) ≠ 1
        · replace M := ifp q69 M
          refine cond_t rfl (bt q69 (by kernel_rfl)) ?_
          refine wp_seq ?_
          refine wp_region_lit ?_
          refine lv (d := 2) rfl rfl (by kernel_rfl) (e_assign (v := .bool false) rfl) ?_
          refine wpList_nil ?_
          refine then_n ?_
          refine wp_ret ?_
          refine then_r ?_
          refine inb_r ?_
          refine then_r ?_
          refine then_r ?_
          refine inb_r ?_
          refine then_r ?_
          obtain rfl := Option.some.inj M
          exact ret1 rfl rfl  (show _ = .bool false from (by kernel_rfl)) ⟨rfl, S47.chg⟩
        replace M := ifn q69 M
        refine cond_f rfl (bf q69 (by kernel_rfl)) ?_
        refine wp_skip ?_
        refine then_n ?_
        exact ⟨k19, (by omega), _, (IntKind.i64.wrap (x9 + 1)), rfl, (by exact e11), (by kernel_rfl), (by exact e13), (by kernel_rfl), b38, S47, M⟩
      replace M := ifn q67 M
      refine cond_f rfl (bf q67 (by kernel_rfl)) ?_
      refine wp_skip ?_
      refine then_n ?_
      exact ⟨k19, (by omega), _, x9, rfl, (by exact e11), (by exact e12), (by exact e13), (by kernel_rfl), b38, S47, M⟩
    clear M
    rintro a64 w54 ⟨k66, z111, f55, x56, rfl, e57, e58, e59, e60, b38, S61, M⟩
    rcases k66 with _ | k65
    · rw [spec_ValidOps.l1] at M
      cases M
    rw [spec_ValidOps.l1] at M
    refine wp_seq ?_
    refine wp_seq ?_
    refine wp_region_lit ?_
    refine lv (d := 69) rfl rfl (by kernel_rfl) (e_move (v := .int .i64 x10) (by exact e59)) ?_
    refine lv (d := 70) rfl rfl (by kernel_rfl) (e_eql (k := .i64) (a := x10) (b := 0) (by kernel_rfl) rfl) ?_
    refine wpList_nil ?_
    refine then_n ?_
    by_cases q70 : x10 = 0
    · replace M := ifp q70 M
      refine cond_t rfl (bt q70 (by kernel_rfl)) ?_
      refine wp_exit ?_
      refine then_e ?_
      refine inb_hit ?_
      refine then_n ?_
      refine wp_region_lit ?_
      refine lv (d := 14) rfl rfl (by kernel_rfl) (e_move (v := .int .i64 x10) (by exact e59)) ?_
      refine lv (d := 15) rfl rfl (by kernel_rfl) (e_add (k := .i64) (a := x10) (b := 1) (by kernel_rfl) rfl) ?_
      refine lv (d := 4) rfl rfl (by kernel_rfl) (e_assign (v := .int .i64 (IntKind.i64.wrap (x10 + 1))) (by kernel_rfl)) ?_
      refine wpList_nil ?_
      refine then_n ?_
      have S71 := St.first (Fa := []) (Fr := [(is g33)]) S61
      exact ⟨k65, (by omega), _, x56, (IntKind.i64.wrap (x10 + 1)), rfl, (by exact e57), (by exact e58), (by kernel_rfl), S71, M⟩
    replace M := ifn q70 M
    refine cond_f rfl (bf q70 (by kernel_rfl)) ?_
    refine wp_skip ?_
    refine then_n ?_
    refine wp_seq ?_
    refine wp_region_lit ?_
    refine lv (d := 71) rfl rfl (by kernel_rfl) (e_move (v := .slice A2 x1.length c3) (by exact e57)) ?_
    refine lv (d := 72) rfl rfl (by kernel_rfl) (e_move (v := .int .i64 x10) (by exact e59)) ?_
    refine lv (d := 73) rfl rfl (by kernel_rfl) (e_sub (k := .i64) (a := x10) (b := 1) (by kernel_rfl) rfl) ?_
    obtain ⟨q72, M⟩ := chk M
    obtain ⟨q73, M⟩ := chk M
    obtain ⟨b74, o75, e76⟩ := Rd.addr h4 (show ((IntKind.i64.wrap (x10 - 1))).toNat < x1.length by omega)
    obtain ⟨y77, r78, k79⟩ := Rd.at h4 e76 (getD_some z45 (show ((IntKind.i64.wrap (x10 - 1))).toNat < x1.length by omega))
    obtain ⟨A80, c81, rfl, l82, h83⟩ := st45_open r78
    refine lv (d := 74) rfl rfl (by kernel_rfl) (e_indexAddr (b := b74) (off := o75) (n := x1.length) (c := c3) (sz := 3) (i := (IntKind.i64.wrap (x10 - 1))) (k := .i64) Try.underlying25 e76 (by kernel_rfl) (by kernel_rfl) (by kernel_rfl) q72 q73) ?_
    refine lv (d := 75) rfl rfl (by kernel_rfl) (e_loadS (b := b74) (off := o75 + ((IntKind.i64.wrap (x10 - 1)) : Int).toNat * 3) (cs := [.slice A80 ((x1.getD (((IntKind.i64.wrap (x10 - 1))).toNat) z45).name).length c81, .int .i64 ((x1.getD (((IntKind.i64.wrap (x10 - 1))).toNat) z45).pri), .int .i64 ((x1.getD (((IntKind.i64.wrap (x10 - 1))).toNat) z45).typ)]) Try.underlying45 rfl (by kernel_rfl) (by kernel_rfl) (fun j_ u_ e_ => (hpx (S61.inv.cell (k79 j_ u_ e_))))) ?_
    refine lve (d := 6) rfl rfl (by kernel_rfl) (new_blk (v := fun g_ => .pointer (some ⟨g_, 0, none⟩)) (cs := #[.slice none 0 0, .int .i64 0, .int .i64 0]) (t := 45) S61 (by kernel_rfl)) ?_
    rintro _ w84 ⟨g85, rfl, b86, S87, K88⟩
    replace b38 := K88.blk 0 rfl b38
    refine lse rfl rfl (by kernel_rfl) (e_store (g := g85) (o := 0) (v := .agg #[.slice A80 ((x1.getD (((IntKind.i64.wrap (x10 - 1))).toNat) z45).name).length c81, .int .i64 ((x1.getD (((IntKind.i64.wrap (x10 - 1))).toNat) z45).pri), .int .i64 ((x1.getD (((IntKind.i64.wrap (x10 - 1))).toNat) z45).typ)]) (cur' := #[.slice A80 ((x1.getD (((IntKind.i64.wrap (x10 - 1))).toNat) z45).name).length c81, .int .i64 ((x1.getD (((IntKind.i64.wrap (x10 - 1))).toNat) z45).pri), .int .i64 ((x1.getD (((IntKind.i64.wrap (x10 - 1))).toNat) z45).typ)]) (vs := [.slice A80 ((x1.getD (((IntKind.i64.wrap (x10 - 1))).toNat) z45).name).length c81, .int .i64 ((x1.getD (((IntKind.i64.wrap (x10 - 1))).toNat) z45).pri), .int .i64 ((x1.getD (((IntKind.i64.wrap (x10 - 1))).toNat) z45).typ)]) S87 (by kernel_rfl) (by kernel_rfl) rfl (by kernel_rfl) b86 (Nat.le_of_ble_eq_true rfl) (List.forall_mem_cons.2 ⟨rfl, (List.forall_mem_cons.2 ⟨rfl, (List.forall_mem_cons.2 ⟨rfl, (fun _ h_ => by cases h_)⟩)⟩)⟩) rfl) ?_
    rintro w89 ⟨b90, S91, K92⟩
    replace b38 := K92.blk 0 rfl b38
    clear b86
    refine wpList_nil ?_
    refine then_n ?_
    refine wp_seq ?_
    refine wp_seq ?_
    refine wp_region_lit ?_
    refine lv (d := 76) rfl rfl (by kernel_rfl) (e_fieldAddr (b := g85) (off := 0) (o := 0) Try.underlying45 rfl rfl (sz := 1) (by kernel_rfl) (by decide) (by kernel_rfl)) ?_
    refine lv (d := 77) rfl rfl (by kernel_rfl) (e_load1 (ad := ⟨g85, 0 + 0, none⟩) (v := .slice A80 ((x1.getD (((IntKind.i64.wrap (x10 - 1))).toNat) z45).name).length c81) Try.underlying32 rfl (by kernel_rfl) (blk_cell b90 rfl)) ?_
    refine lv (d := 78) rfl rfl (by kernel_rfl) (e_conv_bs (A := A80) (n := ((x1.getD (((IntKind.i64.wrap (x10 - 1))).toNat) z45).name).length) (c := c81) (xs := (x1.getD (((IntKind.i64.wrap (x10 - 1))).toNat) z45).name) Try.underlying32 Try.underlying5 Try.underlying9 (by kernel_rfl) rfl (Rd.bytesE S91.inv h83)) ?_
    refine lv (d := 79) rfl rfl (by kernel_rfl) (e_fieldAddr (b := g33) (off := 0) (o := 0) Try.underlying45 rfl rfl (sz := 1) (by kernel_rfl) (by decide) (by exact e60)) ?_
    refine lv (d := 80) rfl rfl (by kernel_rfl) (e_load1 (ad := ⟨g33, 0 + 0, none⟩) (v := .slice A28 ((x1.getD ((x10).toNat) z45).name).length c29) Try.underlying32 rfl (by kernel_rfl) (blk_cell b38 rfl)) ?_
    refine lv (d := 81) rfl rfl (by kernel_rfl) (e_conv_bs (A := A28) (n := ((x1.getD ((x10).toNat) z45).name).length) (c := c29) (xs := (x1.getD ((x10).toNat) z45).name) Try.underlying32 Try.underlying5 Try.underlying9 (by kernel_rfl) rfl (Rd.bytesE S91.inv h31)) ?_
    refine lv (d := 82) rfl rfl (by kernel_rfl) (e_sgtr (p := (x1.getD (((IntKind.i64.wrap (x10 - 1))).toNat) z45).name) (q := (x1.getD ((x10).toNat) z45).name) (by kernel_rfl) (by kernel_rfl)) ?_
    refine wpList_nil ?_
    refine then_n ?_
    by_cases q93 : (!(Op.bytesLess ((x1.getD (((IntKind.i64.wrap (x10 - 1))).toNat) z45).name) ((x1.getD ((x10).toNat) z45).name) || ((x1.getD (((IntKind.i64.wrap (x10 - 1))).toNat) z45).name) == ((x1.getD ((x10).toNat) z45).name))) = true
    · replace M := ifp q93 M
      refine cond_t rfl (bvt q93 (by kernel_rfl)) ?_
      refine wp_seq ?_
      refine wp_region_lit ?_
      refine lv (d := 2) rfl rfl (by kernel_rfl) (e_assign (v := .bool false) rfl) ?_
      refine wpList_nil ?_
      refine then_n ?_
      refine wp_ret ?_
      refine then_r ?_
      refine inb_r ?_
      refine then_r ?_
      refine then_r ?_
      refine inb_r ?_
      refine then_r ?_
      obtain rfl := Option.some.inj M
      exact ret1 rfl rfl  (show _ = .bool false from (by kernel_rfl)) ⟨rfl, S91.chg⟩
    replace M := ifn q93 M
    refine cond_f rfl (bvf q93 (by kernel_rfl)) ?_
    refine wp_skip ?_
    refine then_n ?_
    refine wp_seq ?_
    refine wp_region_lit ?_
    refine lv (d := 83) rfl rfl (by kernel_rfl) (e_fieldAddr (b := g85) (off := 0) (o := 0) Try.underlying45 rfl rfl (sz := 1) (by kernel_rfl) (by decide) (by kernel_rfl)) ?_
    refine lv (d := 84) rfl rfl (by kernel_rfl) (e_load1 (ad := ⟨g85, 0 + 0, none⟩) (v := .slice A80 ((x1.getD (((IntKind.i64.wrap (x10 - 1))).toNat) z45).name).length c81) Try.underlying32 rfl (by kernel_rfl) (blk_cell b90 rfl)) ?_
    refine lv (d := 85) rfl rfl (by kernel_rfl) (e_conv_bs (A := A80) (n := ((x1.getD (((IntKind.i64.wrap (x10 - 1))).toNat) z45).name).length) (c := c81) (xs := (x1.getD (((IntKind.i64.wrap (x10 - 1))).toNat) z45).name) Try.underlying32 Try.underlying5 Try.underlying9 (by kernel_rfl) rfl (Rd.bytesE S91.inv h83)) ?_
    refine lv (d := 86) rfl rfl (by kernel_rfl) (e_fieldAddr (b := g33) (off := 0) (o := 0) Try.underlying45 rfl rfl (sz := 1) (by kernel_rfl) (by decide) (by exact e60)) ?_
    refine lv (d := 87) rfl rfl (by kernel_rfl) (e_load1 (ad := ⟨g33, 0 + 0, none⟩) (v := .slice A28 ((x1.getD ((x10).toNat) z45).name).length c29) Try.underlying32 rfl (by kernel_rfl) (blk_cell b38 rfl)) ?_
    refine lv (d := 88) rfl rfl (by kernel_rfl) (e_conv_bs (A := A28) (n := ((x1.getD ((x10).toNat) z45).name).length) (c := c29) (xs := (x1.getD ((x10).toNat) z45).name) Try.underlying32 Try.underlying5 Try.underlying9 (by kernel_rfl) rfl (Rd.bytesE S91.inv h31)) ?_
    refine lv (d := 89) rfl rfl (by kernel_rfl) (e_seql (p := (x1.getD (((IntKind.i64.wrap (x10 - 1))).toNat) z45).name) (q := (x1.getD ((x10).toNat) z45).name) (by kernel_rfl) (by kernel_rfl)) ?_
    refine lv (d := 90) rfl rfl (by kernel_rfl) (e_move (v := .bool (decide ((x1.getD (((IntKind.i64.wrap (x10 - 1))).toNat) z45).name = (x1.getD ((x10).toNat) z45).name))) (by kernel_rfl)) ?_
    by_cases q94 : (x1.getD (((IntKind.i64.wrap (x10 - 1))).toNat) z45).name = (x1.getD ((x10).toNat) z45).name
    · replace M := ifp q94 M
      refine lvg (d := 91) (t := 90) rfl (by kernel_rfl) rfl (bt q94 (by kernel_rfl)) rfl (by kernel_rfl) (e_fieldAddr (b := g85) (off := 0) (o := 2) Try.underlying45 rfl rfl (sz := 1) (by kernel_rfl) (by decide) (by kernel_rfl)) ?_
      refine lvg (d := 92) (t := 90) rfl (by kernel_rfl) rfl (bt q94 (by kernel_rfl)) rfl (by kernel_rfl) (e_load1 (ad := ⟨g85, 0 + 2, none⟩) (v := .int .i64 ((x1.getD (((IntKind.i64.wrap (x10 - 1))).toNat) z45).typ)) Try.underlying3 rfl (by kernel_rfl) (blk_cell b90 rfl)) ?_
      obtain ⟨t95, u96, M⟩ := bnd M
      refine lcallg (d := 93) (t := 90) rfl (by kernel_rfl) rfl (bt q94 (by kernel_rfl)) rfl (by kernel_rfl) (e_call (l := [.tmp 92]) (vs := [.int .i64 ((x1.getD (((IntKind.i64.wrap (x10 - 1))).toNat) z45).typ)]) Try.func25 (by kernel_rfl) rfl (by kernel_rfl) rfl) (spec_l3prefix.calls w89 H ((x1.getD (((IntKind.i64.wrap (x10 - 1))).toNat) z45).typ)  S91.own0 t95 u96) ?_
      rintro _ w97 ⟨rfl, C98⟩
      refine ⟨_, rfl, ?_⟩
      obtain ⟨S99, K100⟩ := S91.still C98
      replace b90 := K100.blk 0 rfl b90
      replace b38 := K100.blk 1 rfl b38
      refine lvg (d := 94) (t := 90) rfl (by kernel_rfl) rfl (bt q94 (by kernel_rfl)) rfl (by kernel_rfl) (e_notv (c := t95) (by kernel_rfl)) ?_
      refine lvg (d := 95) (t := 90) rfl (by kernel_rfl) rfl (bt q94 (by kernel_rfl)) rfl (by kernel_rfl) (e_move (v := .bool (decide (¬ (t95 = true)))) (by kernel_rfl)) ?_
      by_cases q101 : ¬ (t95 = true)
      · replace M := ifp q101 M
        refine lskip (t := 95) (c := true) rfl (by kernel_rfl) rfl (bt q101 (by kernel_rfl)) rfl rfl ?_
        refine lskip (t := 95) (c := true) rfl (by kernel_rfl) rfl (bt q101 (by kernel_rfl)) rfl rfl ?_
        refine lskip (t := 95) (c := true) rfl (by kernel_rfl) rfl (bt q101 (by kernel_rfl)) rfl rfl ?_
        refine lvg (d := 99) (t := 90) rfl (by kernel_rfl) rfl (bt q94 (by kernel_rfl)) rfl (by kernel_rfl) (e_pick_t (v := .bool true) (bt q101 (by kernel_rfl)) rfl) ?_
        refine lv (d := 100) rfl rfl (by kernel_rfl) (e_pick_t (v := .bool true) (bt q94 (by kernel_rfl)) (by kernel_rfl)) ?_
        refine wpList_nil ?_
        refine then_n ?_
        refine cond_t rfl (by kernel_rfl) ?_
        refine wp_seq ?_
        refine wp_region_lit ?_
        refine lv (d := 2) rfl rfl (by kernel_rfl) (e_assign (v := .bool false) rfl) ?_
        refine wpList_nil ?_
        refine then_n ?_
        refine wp_ret ?_
        refine inb_r ?_
        refine then_r ?_
        refine then_r ?_
        refine inb_r ?_
        refine then_r ?_
        obtain rfl := Option.some.inj M
        exact ret1 rfl rfl  (show _ = .bool false from (by kernel_rfl)) ⟨rfl, S99.chg⟩
      replace M := ifn q101 M
      refine lvg (d := 96) (t := 95) rfl (by kernel_rfl) rfl (bf q101 (by kernel_rfl)) rfl (by kernel_rfl) (e_fieldAddr (b := g33) (off := 0) (o := 2) Try.underlying45 rfl rfl (sz := 1) (by kernel_rfl) (by decide) (by exact e60)) ?_
      refine lvg (d := 97) (t := 95) rfl (by kernel_rfl) rfl (bf q101 (by kernel_rfl)) rfl (by kernel_rfl) (e_load1 (ad := ⟨g33, 0 + 2, none⟩) (v := .int .i64 ((x1.getD ((x10).toNat) z45).typ)) Try.underlying3 rfl (by kernel_rfl) (blk_cell b38 rfl)) ?_
      obtain ⟨t102, u103, M⟩ := bnd M
      refine lcallg (d := 98) (t := 95) rfl (by kernel_rfl) rfl (bf q101 (by kernel_rfl)) rfl (by kernel_rfl) (e_call (l := [.tmp 97]) (vs := [.int .i64 ((x1.getD ((x10).toNat) z45).typ)]) Try.func25 (by kernel_rfl) rfl (by kernel_rfl) rfl) (spec_l3prefix.calls w97 H ((x1.getD ((x10).toNat) z45).typ)  S99.own0 t102 u103) ?_
      rintro _ w104 ⟨rfl, C105⟩
      refine ⟨_, rfl, ?_⟩
      obtain ⟨S106, K107⟩ := S99.still C105
      replace b90 := K107.blk 0 rfl b90
      replace b38 := K107.blk 1 rfl b38
      refine lvg (d := 99) (t := 90) rfl (by kernel_rfl) rfl (bt q94 (by kernel_rfl)) rfl (by kernel_rfl) (e_pick_f (v := .bool t102) (bf q101 (by kernel_rfl)) (by kernel_rfl)) ?_
      refine lv (d := 100) rfl rfl (by kernel_rfl) (e_pick_t (v := .bool t102) (bt q94 (by kernel_rfl)) (by kernel_rfl)) ?_
      refine wpList_nil ?_
      refine then_n ?_
      by_cases q108 : t102 = true
      · replace M := ifp q108 M
        refine cond_t rfl (bvt q108 (by kernel_rfl)) ?_
        refine wp_seq ?_
        refine wp_region_lit ?_
        refine lv (d := 2) rfl rfl (by kernel_rfl) (e_assign (v := .bool false) rfl) ?_
        refine wpList_nil ?_
        refine then_n ?_
        refine wp_ret ?_
        refine inb_r ?_
        refine then_r ?_
        refine then_r ?_
        refine inb_r ?_
        refine then_r ?_
        obtain rfl := Option.some.inj M
        exact ret1 rfl rfl  (show _ = .bool false from (by kernel_rfl)) ⟨rfl, S106.chg⟩
      replace M := ifn q108 M
      refine cond_f rfl (bvf q108 (by kernel_rfl)) ?_
      refine wp_skip ?_
      refine inb_n ?_
      refine then_n ?_
      refine wp_region_lit ?_
      refine lv (d := 14) rfl rfl (by kernel_rfl) (e_move (v := .int .i64 x10) (by exact e59)) ?_
      refine lv (d := 15) rfl rfl (by kernel_rfl) (e_add (k := .i64) (a := x10) (b := 1) (by kernel_rfl) rfl) ?_
      refine lv (d := 4) rfl rfl (by kernel_rfl) (e_assign (v := .int .i64 (IntKind.i64.wrap (x10 + 1))) (by kernel_rfl)) ?_
      refine wpList_nil ?_
      refine then_n ?_
      have S109 := St.first (Fa := []) (Fr := [(is g85), (is g33)]) S106
      exact ⟨k65, (by omega), _, x56, (IntKind.i64.wrap (x10 + 1)), rfl, (by exact e57), (by exact e58), (by kernel_rfl), S109, M⟩
    replace M := ifn q94 M
    refine lskip (t := 90) (c := false) rfl (by kernel_rfl) rfl (bf q94 (by kernel_rfl)) rfl rfl ?_
    refine lskip (t := 90) (c := false) rfl (by kernel_rfl) rfl (bf q94 (by kernel_rfl)) rfl rfl ?_
    refine lskip (t := 90) (c := false) rfl (by kernel_rfl) rfl (bf q94 (by kernel_rfl)) rfl rfl ?_
    refine lskip (t := 90) (c := false) rfl (by kernel_rfl) rfl (bf q94 (by kernel_rfl)) rfl rfl ?_
    refine lskip (t := 90) (c := false) rfl (by kernel_rfl) rfl (bf q94 (by kernel_rfl)) rfl rfl ?_
    refine lskipu (t := 95) rfl (by kernel_rfl) rfl (by kernel_rfl) rfl ?_
    refine lskipu (t := 95) rfl (by kernel_rfl) rfl (by kernel_rfl) rfl ?_
    refine lskipu (t := 95) rfl (by kernel_rfl) rfl (by kernel_rfl) rfl ?_
    refine lskip (t := 90) (c := false) rfl (by kernel_rfl) rfl (bf q94 (by kernel_rfl)) rfl rfl ?_
    refine lv (d := 100) rfl rfl (by kernel_rfl) (e_pick_f (v := .bool false) (bf q94 (by kernel_rfl)) rfl) ?_
    refine wpList_nil ?_
    refine then_n ?_
    refine cond_f rfl (by kernel_rfl) ?_
    refine wp_skip ?_
    refine inb_n ?_
    refine then_n ?_
    refine wp_region_lit ?_
    refine lv (d := 14) rfl rfl (by kernel_rfl) (e_move (v := .int .i64 x10) (by exact e59)) ?_
    refine lv (d := 15) rfl rfl (by kernel_rfl) (e_add (k := .i64) (a := x10) (b := 1) (by kernel_rfl) rfl) ?_
    refine lv (d := 4) rfl rfl (by kernel_rfl) (e_assign (v := .int .i64 (IntKind.i64.wrap (x10 + 1))) (by kernel_rfl)) ?_
    refine wpList_nil ?_
    refine then_n ?_
    have S110 := St.first (Fa := []) (Fr := [(is g85), (is g33)]) S91
    exact ⟨k65, (by omega), _, x56, (IntKind.i64.wrap (x10 + 1)), rfl, (by exact e57), (by exact e58), (by kernel_rfl), S110, M⟩
  replace M := ifn q20 M
  refine cond_f rfl (bf q20 (by kernel_rfl)) ?_
  refine wp_exit ?_
  refine then_e ?_
  refine then_e ?_
  refine inb_hit ?_
  refine then_n ?_
  refine wp_seq ?_
  refine wp_region_lit ?_
  refine lv (d := 101) rfl rfl (by kernel_rfl) (e_move (v := .int .i64 x9) (by exact e12)) ?_
  refine lv (d := 102) rfl rfl (by kernel_rfl) (e_eql (k := .i64) (a := x9) (b := 1) (by kernel_rfl) rfl) ?_
  refine lv (d := 2) rfl rfl (by kernel_rfl) (e_assign (v := .bool (decide (x9 = 1))) (by kernel_rfl)) ?_
  refine wpList_nil ?_
  refine then_n ?_
  refine wp_ret ?_
  obtain rfl := Option.some.inj M
  exact ret1 rfl rfl  (show _ = .bool (decide (x9 = 1)) from (by kernel_rfl)) ⟨rfl, S14.chg⟩

/-! spec_l3find -/
def spec_l3find.l0 : Nat → (List Sy.Op) → (List UInt8) → Bool → Int → Option Int
  | 0, _, _, _, _ => none
  | k24 + 1, x1, x6, x11, x14 => (if x14 < (x1.length : Int) then (if 0 ≤ x14 then (if (x1.getD ((x14).toNat) z45).name = x6 then ((spec_l3prefix.f ((x1.getD ((x14).toNat) z45).typ)).bind fun t48 => (if t48 = x11 then some x14 else (spec_l3find.l0 k24 x1 x6 x11 (IntKind.i64.wrap (x14 + 1))))) else (spec_l3find.l0 k24 x1 x6 x11 (IntKind.i64.wrap (x14 + 1)))) else none) else some (-1))
def spec_l3find.f (k : Nat) (x1 : List Sy.Op) (x6 : List UInt8) (x11 : Bool) : Option Int := (spec_l3find.l0 k x1 x6 x11 0)
theorem spec_l3find.calls (k : Nat) (w : World) (H : Hp) (x1 : List Sy.Op) (A2 : Option Addr) (c3 : Nat) (x6 : List UInt8) (A7 : Option Addr) (c8 : Nat) (x11 : Bool) (h4 : Rd st45 H A2 x1) (l5 : x1.length ≤ c3) (h9 : Rd tByte H A7 x6) (l10 : x6.length ≤ c8) (S : Own [] H w) (r : Int) (M : spec_l3find.f k x1 x6 x11 = some r) :
    Calls Try.prog 34 #[.slice A2 x1.length c3, .slice A7 x6.length c8, .bool x11] w (fun e e_w => e = .returned (.int .i64 r) ∧ Chg no w e_w) := by
  rw [spec_l3find.f] at M
  refine enter (l := [.slice A2 x1.length c3, .slice A7 x6.length c8, .bool x11]) 34 Try.func34 rfl rfl rfl ?_
  have S0_ := S.st
  refine wp_seq ?_
  refine wp_region_lit ?_
  refine lv (d := 6) rfl rfl (by kernel_rfl) (e_assign (v := .int .i64 0) rfl) ?_
  refine wpList_nil ?_
  refine then_n ?_
  refine wp_seq ?_
  refine wp_seq ?_
  refine wp_region_lit ?_
  refine lv (d := 7) rfl rfl (by kernel_rfl) (e_assign (v := .int .i64 0) rfl) ?_
  refine wpList_nil ?_
  refine then_n ?_
  refine wp_block ?_
  refine wp_loop_g (fun k22 a23 w12 => ∃ (f13 : Nat → Value) (x14 : Int), a23 = mk 34 f13 ∧ f13 0 = .slice A2 x1.length c3 ∧ f13 1 = .slice A7 x6.length c8 ∧ f13 2 = .bool x11 ∧ f13 7 = .int .i64 x14 ∧ St (anyOf []) H w [] H w12 ∧ spec_l3find.l0 k22 x1 x6 x11 x14 = some r) k ⟨_, 0, rfl, (by kernel_rfl), (by kernel_rfl), (by kernel_rfl), (by kernel_rfl), S0_, M⟩ ?_
  clear M
  rintro k22 a23 w12 ⟨f13, x14, rfl, e15, e16, e17, e18, S19, M⟩
  rcases k22 with _ | k24
  · rw [spec_l3find.l0] at M
    cases M
  rw [spec_l3find.l0] at M
  refine wp_seq ?_
  refine wp_seq ?_
  refine wp_region_lit ?_
  refine lv (d := 8) rfl rfl (by kernel_rfl) (e_move (v := .int .i64 x14) (by exact e18)) ?_
  refine lv (d := 9) rfl rfl (by kernel_rfl) (e_move (v := .slice A2 x1.length c3) (by exact e15)) ?_
  refine lv (d := 10) rfl rfl (by kernel_rfl) (e_len (A := A2) (n := x1.length) (c := c3) Try.underlying25 (by kernel_rfl)) ?_
  refine lv (d := 11) rfl rfl (by kernel_rfl) (e_lss (k := .i64) (a := x14) (b := (x1.length : Int)) (by kernel_rfl) (by kernel_rfl)) ?_
  refine wpList_nil ?_
  refine then_n ?_
  by_cases q25 : x14 < (x1.length : Int)
  · replace M := ifp q25 M
    refine cond_t rfl (bt q25 (by kernel_rfl)) ?_
    refine wp_skip ?_
    refine then_n ?_
    refine wp_seq ?_
    refine wp_block ?_
    refine wp_seq ?_
    refine region_quiet (by kernel_rfl) (by kernel_rfl) ?_
    refine qv (d := 14) rfl rfl (by kernel_rfl) (fun wq_ hq_ => e_move (v := .slice A2 x1.length c3) (by exact e15)) ?_
    refine qv (d := 15) rfl rfl (by kernel_rfl) (fun wq_ hq_ => e_move (v := .int .i64 x14) (by exact e18)) ?_
    obtain ⟨q26, M⟩ := chk M
    obtain ⟨b27, o28, e29⟩ := Rd.addr h4 (show (x14).toNat < x1.length by omega)
    obtain ⟨y30, r31, k32⟩ := Rd.at h4 e29 (getD_some z45 (show (x14).toNat < x1.length by omega))
    obtain ⟨A33, c34, rfl, l35, h36⟩ := st45_open r31
    refine qv (d := 16) rfl rfl (by kernel_rfl) (fun wq_ hq_ => e_indexAddr (b := b27) (off := o28) (n := x1.length) (c := c3) (sz := 3) (i := x14) (k := .i64) Try.underlying25 e29 (by kernel_rfl) (by kernel_rfl) (by kernel_rfl) q26 q25) ?_
    refine qv (d := 17) rfl rfl (by kernel_rfl) (fun wq_ hq_ => e_fieldAddr (b := b27) (off := o28 + (x14 : Int).toNat * 3) (o := 0) Try.underlying45 rfl rfl (sz := 1) (by kernel_rfl) (by decide) (by kernel_rfl)) ?_
    refine qv (d := 18) rfl rfl (by kernel_rfl) (fun wq_ hq_ => e_load1 (ad := ⟨b27, o28 + (x14 : Int).toNat * 3 + 0, none⟩) (v := .slice A33 ((x1.getD ((x14).toNat) z45).name).length c34) Try.underlying32 rfl (by kernel_rfl) (hpx ((S19.still hq_).1.inv.cell (k32 0 _ rfl)))) ?_
    refine qv (d := 19) rfl rfl (by kernel_rfl) (fun wq_ hq_ => e_conv_bs (A := A33) (n := ((x1.getD ((x14).toNat) z45).name).length) (c := c34) (xs := (x1.getD ((x14).toNat) z45).name) Try.underlying32 Try.underlying5 Try.underlying9 (by kernel_rfl) rfl (Rd.bytesE (S19.still hq_).1.inv h36)) ?_
    refine qv (d := 20) rfl rfl (by kernel_rfl) (fun wq_ hq_ => e_move (v := .slice A7 x6.length c8) (by exact e16)) ?_
    refine qv (d := 21) rfl rfl (by kernel_rfl) (fun wq_ hq_ => e_conv_bs (A := A7) (n := x6.length) (c := c8) (xs := x6) Try.underlying32 Try.underlying5 Try.underlying9 (by kernel_rfl) rfl (Rd.bytesE (S19.still hq_).1.inv h9)) ?_
    refine qv (d := 22) rfl rfl (by kernel_rfl) (fun wq_ hq_ => e_seql (p := (x1.getD ((x14).toNat) z45).name) (q := x6) (by kernel_rfl) (by kernel_rfl)) ?_
    refine qv (d := 23) rfl rfl (by kernel_rfl) (fun wq_ hq_ => e_move (v := .bool (decide ((x1.getD ((x14).toNat) z45).name = x6))) (by kernel_rfl)) ?_
    by_cases q37 : (x1.getD ((x14).toNat) z45).name = x6
    · replace M := ifp q37 M
      refine qvg (d := 24) (t := 23) rfl (by kernel_rfl) rfl (bt q37 (by kernel_rfl)) rfl (by kernel_rfl) (fun wq_ hq_ => e_move (v := .slice A2 x1.length c3) (by exact e15)) ?_
      refine qvg (d := 25) (t := 23) rfl (by kernel_rfl) rfl (bt q37 (by kernel_rfl)) rfl (by kernel_rfl) (fun wq_ hq_ => e_move (v := .int .i64 x14) (by exact e18)) ?_
      obtain ⟨b38, o39, e40⟩ := Rd.addr h4 (show (x14).toNat < x1.length by omega)
      obtain ⟨y41, r42, k43⟩ := Rd.at h4 e40 (getD_some z45 (show (x14).toNat < x1.length by omega))
      obtain ⟨A44, c45, rfl, l46, h47⟩ := st45_open r42
      refine qvg (d := 26) (t := 23) rfl (by kernel_rfl) rfl (bt q37 (by kernel_rfl)) rfl (by kernel_rfl) (fun wq_ hq_ => e_indexAddr (b := b38) (off := o39) (n := x1.length) (c := c3) (sz := 3) (i := x14) (k := .i64) Try.underlying25 e40 (by kernel_rfl) (by kernel_rfl) (by kernel_rfl) q26 q25) ?_
      refine qvg (d := 27) (t := 23) rfl (by kernel_rfl) rfl (bt q37 (by kernel_rfl)) rfl (by kernel_rfl) (fun wq_ hq_ => e_fieldAddr (b := b38) (off := o39 + (x14 : Int).toNat * 3) (o := 2) Try.underlying45 rfl rfl (sz := 1) (by kernel_rfl) (by decide) (by kernel_rfl)) ?_
      refine qvg (d := 28) (t := 23) rfl (by kernel_rfl) rfl (bt q37 (by kernel_rfl)) rfl (by kernel_rfl) (fun wq_ hq_ => e_load1 (ad := ⟨b38, o39 + (x14 : Int).toNat * 3 + 2, none⟩) (v := .int .i64 ((x1.getD ((x14).toNat) z45).typ)) Try.underlying3 rfl (by kernel_rfl) (hpx ((S19.still hq_).1.inv.cell (k43 2 _ rfl)))) ?_
      obtain ⟨t48, u49, M⟩ := bnd M
      refine qcallg (v := .bool t48) (d := 29) (t := 23) rfl (by kernel_rfl) rfl (bt q37 (by kernel_rfl)) rfl (by kernel_rfl) (fun w_ => e_call (l := [.tmp 28]) (vs := [.int .i64 ((x1.getD ((x14).toNat) z45).typ)]) Try.func25 (by kernel_rfl) rfl (by kernel_rfl) rfl) (fun wq_ hq_ => (by obtain ⟨S_, K_⟩ := S19.still hq_; exact (spec_l3prefix.calls wq_ H ((x1.getD ((x14).toNat) z45).typ)  S_.own0 t48 u49))) ?_
      refine qvg (d := 30) (t := 23) rfl (by kernel_rfl) rfl (bt q37 (by kernel_rfl)) rfl (by kernel_rfl) (fun wq_ hq_ => e_move (v := .bool x11) (by exact e17)) ?_
      refine qvg (d := 31) (t := 23) rfl (by kernel_rfl) rfl (bt q37 (by kernel_rfl)) rfl (by kernel_rfl) (fun wq_ hq_ => e_beql (p := t48) (q := x11) Try.underlying4 (by kernel_rfl) (by kernel_rfl)) ?_
      refine qv (d := 32) rfl rfl (by kernel_rfl) (fun wq_ hq_ => e_pick_t (v := .bool (decide (t48 = x11))) (bt q37 (by kernel_rfl)) (by kernel_rfl)) ?_
      refine wpQuiet_nil ?_
      intro w50 C53
      obtain ⟨S51, K52⟩ := S19.still C53
      refine then_n ?_
      by_cases q54 : t48 = x11
      · replace M := ifp q54 M
        refine cond_t rfl (bt q54 (by kernel_rfl)) ?_
        refine wp_seq ?_
        refine wp_region_lit ?_
        refine lv (d := 33) rfl rfl (by kernel_rfl) (e_move (v := .int .i64 x14) (by exact e18)) ?_
        refine lv (d := 6) rfl rfl (by kernel_rfl) (e_assign (v := .int .i64 x14) (by kernel_rfl)) ?_
        refine wpList_nil ?_
        refine then_n ?_
        refine wp_ret ?_
        refine inb_r ?_
        refine then_r ?_
        refine then_r ?_
        refine inb_r ?_
        refine then_r ?_
        obtain rfl := Option.some.inj M
        exact ret1 rfl rfl  (show _ = .int .i64 x14 from (by kernel_rfl)) ⟨rfl, S51.chg⟩
      replace M := ifn q54 M
      refine cond_f rfl (bf q54 (by kernel_rfl)) ?_
      refine wp_skip ?_
      refine inb_n ?_
      refine then_n ?_
      refine wp_region_lit ?_
      refine lv (d := 12) rfl rfl (by kernel_rfl) (e_move (v := .int .i64 x14) (by exact e18)) ?_
      refine lv (d := 13) rfl rfl (by kernel_rfl) (e_add (k := .i64) (a := x14) (b := 1) (by kernel_rfl) rfl) ?_
      refine lv (d := 7) rfl rfl (by kernel_rfl) (e_assign (v := .int .i64 (IntKind.i64.wrap (x14 + 1))) (by kernel_rfl)) ?_
      refine wpList_nil ?_
      refine then_n ?_
      exact ⟨k24, (by omega), _, (IntKind.i64.wrap (x14 + 1)), rfl, (by exact e15), (by exact e16), (by exact e17), (by kernel_rfl), S51, M⟩
    replace M := ifn q37 M
    refine qskip (t := 23) (c := false) rfl (by kernel_rfl) rfl (bf q37 (by kernel_rfl)) rfl rfl ?_
    refine qskip (t := 23) (c := false) rfl (by kernel_rfl) rfl (bf q37 (by kernel_rfl)) rfl rfl ?_
    refine qskip (t := 23) (c := false) rfl (by kernel_rfl) rfl (bf q37 (by kernel_rfl)) rfl rfl ?_
    refine qskip (t := 23) (c := false) rfl (by kernel_rfl) rfl (bf q37 (by kernel_rfl)) rfl rfl ?_
    refine qskip (t := 23) (c := false) rfl (by kernel_rfl) rfl (bf q37 (by kernel_rfl)) rfl rfl ?_
    refine qskip (t := 23) (c := false) rfl (by kernel_rfl) rfl (bf q37 (by kernel_rfl)) rfl rfl ?_
    refine qskip (t := 23) (c := false) rfl (by kernel_rfl) rfl (bf q37 (by kernel_rfl)) rfl rfl ?_
    refine qskip (t := 23) (c := false) rfl (by kernel_rfl) rfl (bf q37 (by kernel_rfl)) rfl rfl ?_
    refine qv (d := 32) rfl rfl (by kernel_rfl) (fun wq_ hq_ => e_pick_f (v := .bool false) (bf q37 (by kernel_rfl)) rfl) ?_
    refine wpQuiet_nil ?_
    intro w55 C58
    obtain ⟨S56, K57⟩ := S19.still C58
    refine then_n ?_
    refine cond_f rfl (by kernel_rfl) ?_
    refine wp_skip ?_
    refine inb_n ?_
    refine then_n ?_
    refine wp_region_lit ?_
    refine lv (d := 12) rfl rfl (by kernel_rfl) (e_move (v := .int .i64 x14) (by exact e18)) ?_
    refine lv (d := 13) rfl rfl (by kernel_rfl) (e_add (k := .i64) (a := x14) (b := 1) (by kernel_rfl) rfl) ?_
    refine lv (d := 7) rfl rfl (by kernel_rfl) (e_assign (v := .int .i64 (IntKind.i64.wrap (x14 + 1))) (by kernel_rfl)) ?_
    refine wpList_nil ?_
    refine then_n ?_
    exact ⟨k24, (by omega), _, (IntKind.i64.wrap (x14 + 1)), rfl, (by exact e15), (by exact e16), (by exact e17), (by kernel_rfl), S56, M⟩
  replace M := ifn q25 M
  refine cond_f rfl (bf q25 (by kernel_rfl)) ?_
  refine wp_exit ?_
  refine then_e ?_
  refine then_e ?_
  refine inb_hit ?_
  refine then_n ?_
  refine wp_seq ?_
  refine wp_region_lit ?_
  refine lv (d := 6) rfl rfl (by kernel_rfl) (e_assign (v := .int .i64 (-1)) rfl) ?_
  refine wpList_nil ?_
  refine then_n ?_
  refine wp_ret ?_
  obtain rfl := Option.some.inj M
  exact ret1 rfl rfl  (show _ = .int .i64 (-1) from (by kernel_rfl)) ⟨rfl, S19.chg⟩

/-! spec_l3infix -/
def spec_l3infix.f (x1 : Int) : Option Bool := some (decide (x1 ≤ 2))
theorem spec_l3infix.calls (w : World) (H : Hp) (x1 : Int) (S : Own [] H w) (r : Bool) (M : spec_l3infix.f x1 = some r) :
    Calls Try.prog 35 #[.int .i64 x1] w (fun e e_w => e = .returned (.bool r) ∧ Chg no w e_w) := by
  rw [spec_l3infix.f] at M
  refine enter (l := [.int .i64 x1]) 5 Try.func35 rfl rfl rfl ?_
  have S0_ := S.st
  refine wp_seq ?_
  refine wp_region_lit ?_
  refine lv (d := 2) rfl rfl (by kernel_rfl) (e_assign (v := .bool false) rfl) ?_
  refine wpList_nil ?_
  refine then_n ?_
  refine wp_seq ?_
  refine wp_region_lit ?_
  refine lv (d := 3) rfl rfl (by kernel_rfl) (e_move (v := .int .i64 x1) (by kernel_rfl)) ?_
  refine lv (d := 4) rfl rfl (by kernel_rfl) (e_leq (k := .i64) (a := x1) (b := 2) (by kernel_rfl) rfl) ?_
  refine lv (d := 2) rfl rfl (by kernel_rfl) (e_assign (v := .bool (decide (x1 ≤ 2))) (by kernel_rfl)) ?_
  refine wpList_nil ?_
  refine then_n ?_
  refine wp_ret ?_
  obtain rfl := Option.some.inj M
  exact ret1 rfl rfl  (show _ = .bool (decide (x1 ≤ 2)) from (by kernel_rfl)) ⟨rfl, S0_.chg⟩

/-! spec_l1copy -/
def spec_l1copy.f (x1 : List UInt8) : Option (List UInt8) := (if 0 + x1.length ≤ 140737488355328 then some x1 else none)
theorem spec_l1copy.calls (w : World) (H : Hp) (x1 : List UInt8) (A2 : Option Addr) (c3 : Nat) (h4 : Rd tByte H A2 x1) (l5 : x1.length ≤ c3) (S : Own [] H w) (r : List UInt8) (M : spec_l1copy.f x1 = some r) :
    Calls Try.prog 37 #[.slice A2 x1.length c3] w (fun e e_w => ∃ (A_1 : Option Addr) (c_1 : Nat) (F_1 : Foot) (H_ : Hp), e = .returned (.slice A_1 r.length c_1) ∧ Row tByte 5 H_ (hp e_w) F_1 A_1 c_1 r ∧ St (anyOf []) H w [F_1] H_ e_w) := by
  rw [spec_l1copy.f] at M
  refine enter (l := [.slice A2 x1.length c3]) 7 Try.func37 rfl rfl rfl ?_
  have S0_ := S.st
  refine wp_seq ?_
  refine wp_region_lit ?_
  refine lv (d := 2) rfl rfl (by kernel_rfl) (e_assign (v := .slice none 0 0) rfl) ?_
  refine wpList_nil ?_
  refine then_n ?_
  refine wp_seq ?_
  refine wp_region_lit ?_
  refine lv (d := 3) rfl rfl (by kernel_rfl) (e_assign (v := .slice none 0 0) rfl) ?_
  refine wpList_nil ?_
  refine then_n ?_
  refine wp_seq ?_
  refine wp_region_lit ?_
  refine lv (d := 4) rfl rfl (by kernel_rfl) (e_move (v := .slice none 0 0) (by kernel_rfl)) ?_
  refine lv (d := 5) rfl rfl (by kernel_rfl) (e_move (v := .slice A2 x1.length c3) (by kernel_rfl)) ?_
  obtain ⟨y6, h7, h8⟩ := Rd.news (d := tByte) (ro_scal _ _) S0_ h4
  obtain ⟨q9, M⟩ := chk M
  have S10 := S0_.unit
  have S11 := S10.unit
  have S12 := S11.pull (F := no) (Fr := [no]) 1 rfl rfl
  refine lve (d := 6) rfl rfl (by kernel_rfl) (e_append (d := tByte) (n := 0) (xs := []) (cap := 0) (A := none) (ys := x1) (A2 := A2) (c2 := c3) (z := .int .u8 0) (bytes := 1) S12 Try.underlying32 (by kernel_rfl) rfl (by decide) (by kernel_rfl) rfl (by kernel_rfl) (Row.nil _ _ _ _ no) h7 h8 (show (0 + x1.length) * 1 ≤ _ by first | omega | (simp only [List.length_cons, List.length_nil]; omega)) (by decide)) ?_
  rintro _ w13 ⟨A14, c15, F16, rfl, h17, S18, K19⟩
  replace h17 : Row tByte 5 H (hp w13) F16 A14 c15 x1 := h17
  refine lv (d := 2) rfl rfl (by kernel_rfl) (e_assign (v := .slice A14 x1.length c15) (by kernel_rfl)) ?_
  refine wpList_nil ?_
  refine then_n ?_
  refine wp_ret ?_
  obtain rfl := Option.some.inj M
  exact ret1 rfl rfl  (show _ = .slice A14 x1.length c15 from (by kernel_rfl)) ⟨A14, c15, F16, H, rfl, h17, S18⟩

/-! spec_l3copy -/
def spec_l3copy.l0 : Nat → (List Sy.Op) → (List Sy.Op) → Int → Option (List Sy.Op)
  | 0, _, _, _ => none
  | k24 + 1, x1, x10, x15 => (if x15 < (x1.length : Int) then (if 0 ≤ x15 then ((spec_l1copy.f ((x1.getD ((x15).toNat) z45).name)).bind fun t95 => (if x10.length + 1 ≤ 3518437208883 then (spec_l3copy.l0 k24 x1 (x10 ++ [(⟨t95, (x1.getD ((x15).toNat) z45).pri, (x1.getD ((x15).toNat) z45).typ⟩ : Sy.Op)]) (IntKind.i64.wrap (x15 + 1))) else none)) else none) else some x10)
def spec_l3copy.f (k : Nat) (x1 : List Sy.Op) : Option (List Sy.Op) := (spec_l3copy.l0 k x1 [] 0)
theorem spec_l3copy.calls (k : Nat) (w : World) (H : Hp) (x1 : List Sy.Op) (A2 : Option Addr) (c3 : Nat) (h4 : Rd st45 H A2 x1) (l5 : x1.length ≤ c3) (S : Own [] H w) (r : List Sy.Op) (M : spec_l3copy.f k x1 = some r) :
    Calls Try.prog 36 #[.slice A2 x1.length c3] w (fun e e_w => ∃ (A_1 : Option Addr) (c_1 : Nat) (F_1 : Foot) (H_ : Hp), e = .returned (.slice A_1 r.length c_1) ∧ Row st45 45 H_ (hp e_w) F_1 A_1 c_1 r ∧ St (anyOf []) H w [F_1] H_ e_w) := by
  rw [spec_l3copy.f] at M
  refine enter (l := [.slice A2 x1.length c3]) 32 Try.func36 rfl rfl rfl ?_
  have S0_ := S.st
  refine wp_seq ?_
  refine wp_region_lit ?_
  refine lv (d := 2) rfl rfl (by kernel_rfl) (e_assign (v := .slice none 0 0) rfl) ?_
  refine wpList_nil ?_
  refine then_n ?_
  refine wp_seq ?_
  refine wp_region_lit ?_
  refine lv (d := 3) rfl rfl (by kernel_rfl) (e_assign (v := .slice none 0 0) rfl) ?_
  refine wpList_nil ?_
  refine then_n ?_
  refine wp_seq ?_
  refine wp_seq ?_
  refine wp_region_lit ?_
  refine lv (d := 4) rfl rfl (by kernel_rfl) (e_assign (v := .int .i64 0) rfl) ?_
  refine wpList_nil ?_
  refine then_n ?_
  refine wp_block ?_
  have S25 := S0_.unit
  refine wp_loop_g (fun k22 a23 w6 => ∃ (f7 : Nat → Value) (H8 : Hp) (x10 : List Sy.Op) (A11 : Option Addr) (c12 : Nat) (F13 : Foot) (x15 : Int), a23 = mk 32 f7 ∧ f7 0 = .slice A2 x1.length c3 ∧ f7 3 = .slice A11 x10.length c12 ∧ f7 4 = .int .i64 x15 ∧ Row st45 45 H8 (hp w6) F13 A11 c12 x10 ∧ Ext H H8 ∧ St (anyOf []) H w [F13] H8 w6 ∧ spec_l3copy.l0 k22 x1 x10 x15 = some r) k ⟨_, H, [], none, 0, no, 0, rfl, (by kernel_rfl), (by kernel_rfl), (by kernel_rfl), (Row.nil _ _ _ _ _), (Ext.refl _), S25, M⟩ ?_
  clear M
  rintro k22 a23 w6 ⟨f7, H8, x10, A11, c12, F13, x15, rfl, e16, e17, e18, h14, Y9, S19, M⟩
  rcases k22 with _ | k24
  · rw [spec_l3copy.l0] at M
    cases M
  rw [spec_l3copy.l0] at M
  refine wp_seq ?_
  refine wp_seq ?_
  refine wp_region_lit ?_
  refine lv (d := 5) rfl rfl (by kernel_rfl) (e_move (v := .int .i64 x15) (by exact e18)) ?_
  refine lv (d := 6) rfl rfl (by kernel_rfl) (e_move (v := .slice A2 x1.length c3) (by exact e16)) ?_
  refine lv (d := 7) rfl rfl (by kernel_rfl) (e_len (A := A2) (n := x1.length) (c := c3) Try.underlying25 (by kernel_rfl)) ?_
  refine lv (d := 8) rfl rfl (by kernel_rfl) (e_lss (k := .i64) (a := x15) (b := (x1.length : Int)) (by kernel_rfl) (by kernel_rfl)) ?_
  refine wpList_nil ?_
  refine then_n ?_
  by_cases q26 : x15 < (x1.length : Int)
  · replace M := ifp q26 M
    refine cond_t rfl (bt q26 (by kernel_rfl)) ?_
    refine wp_skip ?_
    refine then_n ?_
    refine wp_seq ?_
    refine wp_block ?_
    refine region_mix (S := (fun (L_ : Array Bool) (w_ : World) => Ext H8 (hp w_) ∧ True)) (by kernel_rfl) S19 ?_
    intro w27 S28 K29 hc30
    have hs31 : (fun (L_ : Array Bool) (w_ : World) => Ext H8 (hp w_) ∧ True) (Array.replicate 21 false) w27 := ⟨S28.inv, trivial⟩
    replace h14 := h14.move (K29.at 0 rfl)
    refine xv (i := 0) (d := 11) rfl rfl rfl (by kernel_rfl) (by kernel_rfl) (fun _ _ => Iff.rfl) hc30 hs31 (fun L_ w_ hc_ hu_ hs_ => e_move (v := .slice A11 x10.length c12) (by exact e17)) ?_; intro hc32 hs33
    refine xv (i := 1) (d := 12) rfl rfl rfl (by kernel_rfl) (by kernel_rfl) (fun _ _ => Iff.rfl) hc32 hs33 (fun L_ w_ hc_ hu_ hs_ => e_move (v := .slice A2 x1.length c3) (by exact e16)) ?_; intro hc34 hs35
    refine xv (i := 2) (d := 13) rfl rfl rfl (by kernel_rfl) (by kernel_rfl) (fun _ _ => Iff.rfl) hc34 hs35 (fun L_ w_ hc_ hu_ hs_ => e_move (v := .int .i64 x15) (by exact e18)) ?_; intro hc36 hs37
    obtain ⟨q38, M⟩ := chk M
    obtain ⟨b39, o40, e41⟩ := Rd.addr h4 (show (x15).toNat < x1.length by omega)
    obtain ⟨y42, r43, k44⟩ := Rd.at h4 e41 (getD_some z45 (show (x15).toNat < x1.length by omega))
    obtain ⟨A45, c46, rfl, l47, h48⟩ := st45_open r43
    refine xv (i := 3) (d := 14) rfl rfl rfl (by kernel_rfl) (by kernel_rfl) (fun _ _ => Iff.rfl) hc36 hs37 (fun L_ w_ hc_ hu_ hs_ => e_indexAddr (b := b39) (off := o40) (n := x1.length) (c := c3) (sz := 3) (i := x15) (k := .i64) Try.underlying25 e41 (by kernel_rfl) (by kernel_rfl) (by kernel_rfl) q38 q26) ?_; intro hc49 hs50
    refine xv (i := 4) (d := 15) rfl rfl rfl (by kernel_rfl) (by kernel_rfl) (fun _ _ => Iff.rfl) hc49 hs50 (fun L_ w_ hc_ hu_ hs_ => e_fieldAddr (b := b39) (off := o40 + (x15 : Int).toNat * 3) (o := 0) Try.underlying45 rfl rfl (sz := 1) (by kernel_rfl) (by decide) (by kernel_rfl)) ?_; intro hc51 hs52
    refine xv (i := 5) (d := 16) rfl rfl rfl (by kernel_rfl) (by kernel_rfl) (fun _ _ => Iff.rfl) hc51 hs52 (fun L_ w_ hc_ hu_ hs_ => e_load1 (ad := ⟨b39, o40 + (x15 : Int).toNat * 3 + 0, none⟩) (v := .slice A45 ((x1.getD ((x15).toNat) z45).name).length c46) Try.underlying32 rfl (by kernel_rfl) (hpx (hs_.1.cell (Y9.cell (k44 0 _ rfl))))) ?_; intro hc53 hs54
    refine xv (i := 7) (d := 18) rfl rfl rfl (by kernel_rfl) (by kernel_rfl) (fun _ _ => Iff.rfl) hc53 hs54 (fun L_ w_ hc_ hu_ hs_ => e_move (v := .slice A2 x1.length c3) (by exact e16)) ?_; intro hc55 hs56
    refine xv (i := 8) (d := 19) rfl rfl rfl (by kernel_rfl) (by kernel_rfl) (fun _ _ => Iff.rfl) hc55 hs56 (fun L_ w_ hc_ hu_ hs_ => e_move (v := .int .i64 x15) (by exact e18)) ?_; intro hc57 hs58
    obtain ⟨b59, o60, e61⟩ := Rd.addr h4 (show (x15).toNat < x1.length by omega)
    obtain ⟨y62, r63, k64⟩ := Rd.at h4 e61 (getD_some z45 (show (x15).toNat < x1.length by omega))
    obtain ⟨A65, c66, rfl, l67, h68⟩ := st45_open r63
    refine xv (i := 9) (d := 20) rfl rfl rfl (by kernel_rfl) (by kernel_rfl) (fun _ _ => Iff.rfl) hc57 hs58 (fun L_ w_ hc_ hu_ hs_ => e_indexAddr (b := b59) (off := o60) (n := x1.length) (c := c3) (sz := 3) (i := x15) (k := .i64) Try.underlying25 e61 (by kernel_rfl) (by kernel_rfl) (by kernel_rfl) q38 q26) ?_; intro hc69 hs70
    refine xv (i := 10) (d := 21) rfl rfl rfl (by kernel_rfl) (by kernel_rfl) (fun _ _ => Iff.rfl) hc69 hs70 (fun L_ w_ hc_ hu_ hs_ => e_fieldAddr (b := b59) (off := o60 + (x15 : Int).toNat * 3) (o := 1) Try.underlying45 rfl rfl (sz := 1) (by kernel_rfl) (by decide) (by kernel_rfl)) ?_; intro hc71 hs72
    refine xv (i := 11) (d := 22) rfl rfl rfl (by kernel_rfl) (by kernel_rfl) (fun _ _ => Iff.rfl) hc71 hs72 (fun L_ w_ hc_ hu_ hs_ => e_load1 (ad := ⟨b59, o60 + (x15 : Int).toNat * 3 + 1, none⟩) (v := .int .i64 ((x1.getD ((x15).toNat) z45).pri)) Try.underlying3 rfl (by kernel_rfl) (hpx (hs_.1.cell (Y9.cell (k64 1 _ rfl))))) ?_; intro hc73 hs74
    refine xv (i := 12) (d := 23) rfl rfl rfl (by kernel_rfl) (by kernel_rfl) (fun _ _ => Iff.rfl) hc73 hs74 (fun L_ w_ hc_ hu_ hs_ => e_move (v := .slice A2 x1.length c3) (by exact e16)) ?_; intro hc75 hs76
    refine xv (i := 13) (d := 24) rfl rfl rfl (by kernel_rfl) (by kernel_rfl) (fun _ _ => Iff.rfl) hc75 hs76 (fun L_ w_ hc_ hu_ hs_ => e_move (v := .int .i64 x15) (by exact e18)) ?_; intro hc77 hs78
    obtain ⟨b79, o80, e81⟩ := Rd.addr h4 (show (x15).toNat < x1.length by omega)
    obtain ⟨y82, r83, k84⟩ := Rd.at h4 e81 (getD_some z45 (show (x15).toNat < x1.length by omega))
    obtain ⟨A85, c86, rfl, l87, h88⟩ := st45_open r83
    refine xv (i := 14) (d := 25) rfl rfl rfl (by kernel_rfl) (by kernel_rfl) (fun _ _ => Iff.rfl) hc77 hs78 (fun L_ w_ hc_ hu_ hs_ => e_indexAddr (b := b79) (off := o80) (n := x1.length) (c := c3) (sz := 3) (i := x15) (k := .i64) Try.underlying25 e81 (by kernel_rfl) (by kernel_rfl) (by kernel_rfl) q38 q26) ?_; intro hc89 hs90
    refine xv (i := 15) (d := 26) rfl rfl rfl (by kernel_rfl) (by kernel_rfl) (fun _ _ => Iff.rfl) hc89 hs90 (fun L_ w_ hc_ hu_ hs_ => e_fieldAddr (b := b79) (off := o80 + (x15 : Int).toNat * 3) (o := 2) Try.underlying45 rfl rfl (sz := 1) (by kernel_rfl) (by decide) (by kernel_rfl)) ?_; intro hc91 hs92
    refine xv (i := 16) (d := 27) rfl rfl rfl (by kernel_rfl) (by kernel_rfl) (fun _ _ => Iff.rfl) hc91 hs92 (fun L_ w_ hc_ hu_ hs_ => e_load1 (ad := ⟨b79, o80 + (x15 : Int).toNat * 3 + 2, none⟩) (v := .int .i64 ((x1.getD ((x15).toNat) z45).typ)) Try.underlying3 rfl (by kernel_rfl) (hpx (hs_.1.cell (Y9.cell (k84 2 _ rfl))))) ?_; intro hc93 hs94
    obtain ⟨t95, u96, M⟩ := bnd M
    refine xone (i := 6) (by kernel_rfl) hc93 ?_
    refine yc (i := 6) rfl (wanted_none rfl _) (by kernel_rfl) (by kernel_rfl) (e_call (l := [.tmp 16]) (vs := [.slice A45 ((x1.getD ((x15).toNat) z45).name).length c46]) Try.func37 (by kernel_rfl) rfl (by kernel_rfl) rfl) (spec_l1copy.calls w27 H8 ((x1.getD ((x15).toNat) z45).name) A45 c46 (h48.ext Y9) l47 (St.own' (Fa := []) (Fr := [F13]) S28) t95 u96) ?_
    rintro hc104 _ w97 ⟨A100, c101, F103, H98, rfl, h102, T99⟩
    refine ⟨_, rfl, ?_⟩
    obtain ⟨S105, K106⟩ := St.call (Fa := []) (Fr := [F13]) S28 T99
    replace h14 := h14.move (K106.at 0 rfl)
    have E107 := T99.ext
    replace h14 := h14.ext E107
    refine ⟨⟨(Ext.trans E107 S105.inv), trivial⟩, fun hs108 => ?_⟩
    refine xone (i := 17) (by kernel_rfl) hc104 ?_
    refine yo (i := 17) (d := 28) rfl rfl (wanted_none rfl _) (by kernel_rfl) (by kernel_rfl) (fun _ _ => Iff.rfl) hs108 (show _ = Result.ok (Next.value (.agg #[.slice A100 t95.length c101, .int .i64 ((x1.getD ((x15).toNat) z45).pri), .int .i64 ((x1.getD ((x15).toNat) z45).typ)])) w97 from by kernel_rfl) ?_; intro hc109 hs110
    refine xone (i := 18) (by kernel_rfl) hc109 ?_
    refine ye (i := 18) (d := 29) rfl rfl (wanted_none rfl _) (by kernel_rfl) (by kernel_rfl) (new_blk (v := fun g_ => .slice (some ⟨g_, 0, none⟩) 1 1) (cs := #[.slice A100 t95.length c101, .int .i64 ((x1.getD ((x15).toNat) z45).pri), .int .i64 ((x1.getD ((x15).toNat) z45).typ)]) (t := 45) S105 (by kernel_rfl)) ?_
    rintro hc116 _ w111 ⟨g112, rfl, b113, S114, K115⟩
    replace h102 := h102.move (K115.at 0 rfl)
    replace h14 := h14.move (K115.at 1 rfl)
    refine ⟨⟨(Ext.trans E107 S114.inv), trivial⟩, fun hs117 => ?_⟩
    obtain ⟨q118, M⟩ := chk M
    have S119 := S114.pull (F := F103) (Fr := [(is g112), F13]) 1 rfl rfl
    have S120 := S119.pull (F := F13) (Fr := [F103, (is g112)]) 2 rfl rfl
    refine xone (i := 19) (by kernel_rfl) hc116 ?_
    refine ye (i := 19) (d := 30) rfl rfl (wanted_none rfl _) (by kernel_rfl) (by kernel_rfl) (e_append (d := st45) (n := x10.length) (xs := x10) (cap := c12) (A := A11) (ys := [(⟨t95, (x1.getD ((x15).toNat) z45).pri, (x1.getD ((x15).toNat) z45).typ⟩ : Sy.Op)]) (A2 := (some ⟨g112, 0, none⟩)) (c2 := 1) (z := .agg #[.slice none 0 0, .int .i64 0, .int .i64 0]) (bytes := 40) S120 Try.underlying25 (by kernel_rfl) rfl (by decide) (by kernel_rfl) rfl (by kernel_rfl) h14 (elsO_one1 (st45_mkO (x := (⟨t95, (x1.getD ((x15).toNat) z45).pri, (x1.getD ((x15).toNat) z45).typ⟩ : Sy.Op)) h102)) (.inr (blk_news b113 rfl)) (show (x10.length + [(⟨t95, (x1.getD ((x15).toNat) z45).pri, (x1.getD ((x15).toNat) z45).typ⟩ : Sy.Op)].length) * 40 ≤ _ by first | omega | (simp only [List.length_cons, List.length_nil]; omega)) (by decide)) ?_
    rintro hc128 _ w121 ⟨A122, c123, F124, rfl, h125, S126, K127⟩
    replace b113 := K127.blk 0 rfl b113
    refine ⟨⟨(Ext.trans E107 S126.inv), trivial⟩, fun hs129 => ?_⟩
    refine xone (i := 20) (by kernel_rfl) hc128 ?_
    refine yo (i := 20) (d := 3) rfl rfl (wanted_none rfl _) (by kernel_rfl) (by kernel_rfl) (fun _ _ => Iff.rfl) hs129 (e_assign (v := .slice A122 ((x10 ++ [(⟨t95, (x1.getD ((x15).toNat) z45).pri, (x1.getD ((x15).toNat) z45).typ⟩ : Sy.Op)]).length) c123) (by kernel_rfl)) ?_; intro hc130 hs131
    refine xn (by kernel_rfl) ?_ _
    refine inb_n ?_
    refine then_n ?_
    refine wp_region_lit ?_
    refine lv (d := 9) rfl rfl (by kernel_rfl) (e_move (v := .int .i64 x15) (by exact e18)) ?_
    refine lv (d := 10) rfl rfl (by kernel_rfl) (e_add (k := .i64) (a := x15) (b := 1) (by kernel_rfl) rfl) ?_
    refine lv (d := 4) rfl rfl (by kernel_rfl) (e_assign (v := .int .i64 (IntKind.i64.wrap (x15 + 1))) (by kernel_rfl)) ?_
    refine wpList_nil ?_
    refine then_n ?_
    have S132 := St.first (Fa := [F124]) (Fr := [(is g112)]) S126
    exact ⟨k24, (by omega), _, H98, (x10 ++ [(⟨t95, (x1.getD ((x15).toNat) z45).pri, (x1.getD ((x15).toNat) z45).typ⟩ : Sy.Op)]), A122, c123, F124, (IntKind.i64.wrap (x15 + 1)), rfl, (by exact e16), (by kernel_rfl), (by kernel_rfl), h125, (Y9.trans E107), S132, M⟩
  replace M := ifn q26 M
  refine cond_f rfl (bf q26 (by kernel_rfl)) ?_
  refine wp_exit ?_
  refine then_e ?_
  refine then_e ?_
  refine inb_hit ?_
  refine then_n ?_
  refine wp_seq ?_
  refine wp_region_lit ?_
  refine lv (d := 31) rfl rfl (by kernel_rfl) (e_move (v := .slice A11 x10.length c12) (by exact e17)) ?_
  refine lv (d := 2) rfl rfl (by kernel_rfl) (e_assign (v := .slice A11 x10.length c12) (by kernel_rfl)) ?_
  refine wpList_nil ?_
  refine then_n ?_
  refine wp_ret ?_
  obtain rfl := Option.some.inj M
  exact ret1 rfl rfl  (show _ = .slice A11 x10.length c12 from (by kernel_rfl)) ⟨A11, c12, F13, H8, rfl, h14, S19⟩

/-! spec_l3put -/
mutual
def spec_l3put.l0 : Nat → (List Sy.Op) → Sy.Op → (List Sy.Op) → Bool → Int → Option (List Sy.Op)
  | 0, _, _, _, _, _ => none
  | k35 + 1, x1, x6, x18, x23, x24 => (if x24 < (x1.length : Int) then (if 0 ≤ x24 then (if (x1.getD ((x24).toNat) z45).name = x6.name then ((spec_l3prefix.f ((x1.getD ((x24).toNat) z45).typ)).bind fun t60 => ((spec_l3prefix.f x6.typ).bind fun t62 => (if t60 = t62 then (spec_l3put.l0 k35 x1 x6 x18 x23 (IntKind.i64.wrap (x24 + 1))) else (if ¬ (x23 = true) then (if (!(Op.bytesLess ((x1.getD ((x24).toNat) z45).name) x6.name || ((x1.getD ((x24).toNat) z45).name) == x6.name)) = true then (if x18.length + 1 ≤ 3518437208883 then (spec_l3put.l1 k35 x1 x6 x24 (x18 ++ [x6]) true) else none) else ((spec_l3prefix.f x6.typ).bind fun t113 => (if t113 = true then (if x18.length + 1 ≤ 3518437208883 then (spec_l3put.l1 k35 x1 x6 x24 (x18 ++ [x6]) true) else none) else (spec_l3put.l1 k35 x1 x6 x24 x18 x23)))) else (spec_l3put.l1 k35 x1 x6 x24 x18 x23))))) else (if ¬ (x23 = true) then (if (!(Op.bytesLess ((x1.getD ((x24).toNat) z45).name) x6.name || ((x1.getD ((x24).toNat) z45).name) == x6.name)) = true then (if x18.length + 1 ≤ 3518437208883 then (spec_l3put.l2 k35 x1 x6 x24 (x18 ++ [x6]) true) else none) else (spec_l3put.l2 k35 x1 x6 x24 x18 x23)) else (spec_l3put.l2 k35 x1 x6 x24 x18 x23))) else none) else (if ¬ (x23 = true) then (if x18.length + 1 ≤ 3518437208883 then some (x18 ++ [x6]) else none) else some x18))
def spec_l3put.l1 : Nat → (List Sy.Op) → Sy.Op → Int → (List Sy.Op) → Bool → Option (List Sy.Op)
  | 0, _, _, _, _, _ => none
  | k90 + 1, x1, x6, x24, x74, x79 => (if x74.length + 1 ≤ 3518437208883 then (spec_l3put.l0 k90 x1 x6 (x74 ++ [(x1.getD ((x24).toNat) z45)]) x79 (IntKind.i64.wrap (x24 + 1))) else none)
def spec_l3put.l2 : Nat → (List Sy.Op) → Sy.Op → Int → (List Sy.Op) → Bool → Option (List Sy.Op)
  | 0, _, _, _, _, _ => none
  | k180 + 1, x1, x6, x24, x164, x169 => (if x164.length + 1 ≤ 3518437208883 then (spec_l3put.l0 k180 x1 x6 (x164 ++ [(x1.getD ((x24).toNat) z45)]) x169 (IntKind.i64.wrap (x24 + 1))) else none)
end
def spec_l3put.f (k : Nat) (x1 : List Sy.Op) (x6 : Sy.Op) : Option (List Sy.Op) := (spec_l3put.l0 k x1 x6 [] (decide (x6.pri = 0)) 0)
theorem spec_l3put.calls (k : Nat) (w : World) (H : Hp) (x1 : List Sy.Op) (A2 : Option Addr) (c3 : Nat) (x6 : Sy.Op) (A7 : Option Addr) (c8 : Nat) (h4 : Rd st45 H A2 x1) (l5 : x1.length ≤ c3) (h9 : Rd tByte H A7 x6.name) (l10 : x6.name.length ≤ c8) (S : Own [] H w) (r : List Sy.Op) (M : spec_l3put.f k x1 x6 = some r) :
    Calls Try.prog 30 #[.slice A2 x1.length c3, .agg #[.slice A7 x6.name.length c8, .int .i64 x6.pri, .int .i64 x6.typ]] w (fun e e_w => ∃ (A_1 : Option Addr) (c_1 : Nat) (F_1 : Foot) (H_ : Hp), e = .returned (.slice A_1 r.length c_1) ∧ Row (ro st45) 45 H_ (hp e_w) F_1 A_1 c_1 r ∧ St (anyOf []) H w [F_1] H_ e_w) := by
  rw [spec_l3put.f] at M
  refine enter (l := [.slice A2 x1.length c3, .agg #[.slice A7 x6.name.length c8, .int .i64 x6.pri, .int .i64 x6.typ]]) 74 Try.func30 rfl rfl rfl ?_
  have S0_ := S.st
  refine wp_seq ?_
  refine wp_region_lit ?_
  refine lve (d := 3) rfl rfl (by kernel_rfl) (new_blk (v := fun g_ => .pointer (some ⟨g_, 0, none⟩)) (cs := #[.slice A7 x6.name.length c8, .int .i64 x6.pri, .int .i64 x6.typ]) (t := 45) S0_ (by kernel_rfl)) ?_
  rintro _ w11 ⟨g12, rfl, b13, S14, K15⟩
  refine lv (d := 4) rfl rfl (by kernel_rfl) (e_assign (v := .slice none 0 0) rfl) ?_
  refine wpList_nil ?_
  refine then_n ?_
  refine wp_seq ?_
  refine wp_region_lit ?_
  refine lv (d := 5) rfl rfl (by kernel_rfl) (e_assign (v := .slice none 0 0) rfl) ?_
  refine wpList_nil ?_
  refine then_n ?_
  refine wp_seq ?_
  refine wp_region_lit ?_
  refine lv (d := 10) rfl rfl (by kernel_rfl) (e_fieldAddr (b := g12) (off := 0) (o := 1) Try.underlying45 rfl rfl (sz := 1) (by kernel_rfl) (by decide) (by kernel_rfl)) ?_
  refine lv (d := 11) rfl rfl (by kernel_rfl) (e_load1 (ad := ⟨g12, 0 + 1, none⟩) (v := .int .i64 x6.pri) Try.underlying3 rfl (by kernel_rfl) (blk_cell b13 rfl)) ?_
  refine lv (d := 12) rfl rfl (by kernel_rfl) (e_eql (k := .i64) (a := x6.pri) (b := 0) (by kernel_rfl) rfl) ?_
  refine lv (d := 6) rfl rfl (by kernel_rfl) (e_assign (v := .bool (decide (x6.pri = 0))) (by kernel_rfl)) ?_
  refine wpList_nil ?_
  refine then_n ?_
  refine wp_seq ?_
  refine wp_seq ?_
  refine wp_region_lit ?_
  refine lv (d := 7) rfl rfl (by kernel_rfl) (e_assign (v := .int .i64 0) rfl) ?_
  refine wpList_nil ?_
  refine then_n ?_
  refine wp_block ?_
  have S36 := S14.unit
  have S37 := S36.pull (F := (is g12)) (Fr := [no]) 1 rfl rfl
  refine wp_loop_g (fun k33 a34 w16 => ∃ (f17 : Nat → Value) (x18 : List Sy.Op) (A19 : Option Addr) (c20 : Nat) (F21 : Foot) (x23 : Bool) (x24 : Int), a34 = mk 74 f17 ∧ f17 0 = .slice A2 x1.length c3 ∧ f17 3 = .pointer (some ⟨g12, 0, none⟩) ∧ f17 5 = .slice A19 x18.length c20 ∧ f17 6 = .bool x23 ∧ f17 7 = .int .i64 x24 ∧ w16.heap[g12]? = some (.cells #[.slice A7 x6.name.length c8, .int .i64 x6.pri, .int .i64 x6.typ] 45 (0, 0)) ∧ Row (ro st45) 45 H (hp w16) F21 A19 c20 x18 ∧ St (anyOf []) H w [(is g12), F21] H w16 ∧ spec_l3put.l0 k33 x1 x6 x18 x23 x24 = some r) k ⟨_, [], none, 0, no, (decide (x6.pri = 0)), 0, rfl, (by kernel_rfl), (by kernel_rfl), (by kernel_rfl), (by kernel_rfl), (by kernel_rfl), b13, (Row.nil _ _ _ _ _), S37, M⟩ ?_
  clear M
  rintro k33 a34 w16 ⟨f17, x18, A19, c20, F21, x23, x24, rfl, e25, e26, e27, e28, e29, b13, h22, S30, M⟩
  rcases k33 with _ | k35
  · rw [spec_l3put.l0] at M
    cases M
  rw [spec_l3put.l0] at M
  refine wp_seq ?_
  refine wp_seq ?_
  refine wp_region_lit ?_
  refine lv (d := 13) rfl rfl (by kernel_rfl) (e_move (v := .int .i64 x24) (by exact e29)) ?_
  refine lv (d := 14) rfl rfl (by kernel_rfl) (e_move (v := .slice A2 x1.length c3) (by exact e25)) ?_
  refine lv (d := 15) rfl rfl (by kernel_rfl) (e_len (A := A2) (n := x1.length) (c := c3) Try.underlying25 (by kernel_rfl)) ?_
  refine lv (d := 16) rfl rfl (by kernel_rfl) (e_lss (k := .i64) (a := x24) (b := (x1.length : Int)) (by kernel_rfl) (by kernel_rfl)) ?_
  refine wpList_nil ?_
  refine then_n ?_
  by_cases q38 : x24 < (x1.length : Int)
  · replace M := ifp q38 M
    refine cond_t rfl (bt q38 (by kernel_rfl)) ?_
    refine wp_skip ?_
    refine then_n ?_
    refine wp_seq ?_
    refine wp_block ?_
    refine wp_seq ?_
    refine wp_region_lit ?_
    refine lv (d := 19) rfl rfl (by kernel_rfl) (e_move (v := .slice A2 x1.length c3) (by exact e25)) ?_
    refine lv (d := 20) rfl rfl (by kernel_rfl) (e_move (v := .int .i64 x24) (by exact e29)) ?_
    obtain ⟨q39, M⟩ := chk M
    obtain ⟨b40, o41, e42⟩ := Rd.addr h4 (show (x24).toNat < x1.length by omega)
    obtain ⟨y43, r44, k45⟩ := Rd.at h4 e42 (getD_some z45 (show (x24).toNat < x1.length by omega))
    obtain ⟨A46, c47, rfl, l48, h49⟩ := st45_open r44
    refine lv (d := 21) rfl rfl (by kernel_rfl) (e_indexAddr (b := b40) (off := o41) (n := x1.length) (c := c3) (sz := 3) (i := x24) (k := .i64) Try.underlying25 e42 (by kernel_rfl) (by kernel_rfl) (by kernel_rfl) q39 q38) ?_
    refine lv (d := 22) rfl rfl (by kernel_rfl) (e_loadS (b := b40) (off := o41 + (x24 : Int).toNat * 3) (cs := [.slice A46 ((x1.getD ((x24).toNat) z45).name).length c47, .int .i64 ((x1.getD ((x24).toNat) z45).pri), .int .i64 ((x1.getD ((x24).toNat) z45).typ)]) Try.underlying45 rfl (by kernel_rfl) (by kernel_rfl) (fun j_ u_ e_ => (hpx (S30.inv.cell (k45 j_ u_ e_))))) ?_
    refine lve (d := 8) rfl rfl (by kernel_rfl) (new_blk (v := fun g_ => .pointer (some ⟨g_, 0, none⟩)) (cs := #[.slice none 0 0, .int .i64 0, .int .i64 0]) (t := 45) S30 (by kernel_rfl)) ?_
    rintro _ w50 ⟨g51, rfl, b52, S53, K54⟩
    replace b13 := K54.blk 0 rfl b13
    replace h22 := h22.move (K54.at 1 rfl)
    refine lse rfl rfl (by kernel_rfl) (e_store (g := g51) (o := 0) (v := .agg #[.slice A46 ((x1.getD ((x24).toNat) z45).name).length c47, .int .i64 ((x1.getD ((x24).toNat) z45).pri), .int .i64 ((x1.getD ((x24).toNat) z45).typ)]) (cur' := #[.slice A46 ((x1.getD ((x24).toNat) z45).name).length c47, .int .i64 ((x1.getD ((x24).toNat) z45).pri), .int .i64 ((x1.getD ((x24).toNat) z45).typ)]) (vs := [.slice A46 ((x1.getD ((x24).toNat) z45).name).length c47, .int .i64 ((x1.getD ((x24).toNat) z45).pri), .int .i64 ((x1.getD ((x24).toNat) z45).typ)]) S53 (by kernel_rfl) (by kernel_rfl) rfl (by kernel_rfl) b52 (Nat.le_of_ble_eq_true rfl) (List.forall_mem_cons.2 ⟨rfl, (List.forall_mem_cons.2 ⟨rfl, (List.forall_mem_cons.2 ⟨rfl, (fun _ h_ => by cases h_)⟩)⟩)⟩) rfl) ?_
    rintro w55 ⟨b56, S57, K58⟩
    replace b13 := K58.blk 0 rfl b13
    replace h22 := h22.move (K58.at 1 rfl)
    clear b52
    refine wpList_nil ?_
    refine then_n ?_
    refine wp_seq ?_
    refine wp_region_lit ?_
    refine lv (d := 23) rfl rfl (by kernel_rfl) (e_fieldAddr (b := g51) (off := 0) (o := 0) Try.underlying45 rfl rfl (sz := 1) (by kernel_rfl) (by decide) (by kernel_rfl)) ?_
    refine lv (d := 24) rfl rfl (by kernel_rfl) (e_load1 (ad := ⟨g51, 0 + 0, none⟩) (v := .slice A46 ((x1.getD ((x24).toNat) z45).name).length c47) Try.underlying32 rfl (by kernel_rfl) (blk_cell b56 rfl)) ?_
    refine lv (d := 25) rfl rfl (by kernel_rfl) (e_conv_bs (A := A46) (n := ((x1.getD ((x24).toNat) z45).name).length) (c := c47) (xs := (x1.getD ((x24).toNat) z45).name) Try.underlying32 Try.underlying5 Try.underlying9 (by kernel_rfl) rfl (Rd.bytesE S57.inv h49)) ?_
    refine lv (d := 26) rfl rfl (by kernel_rfl) (e_fieldAddr (b := g12) (off := 0) (o := 0) Try.underlying45 rfl rfl (sz := 1) (by kernel_rfl) (by decide) (by exact e26)) ?_
    refine lv (d := 27) rfl rfl (by kernel_rfl) (e_load1 (ad := ⟨g12, 0 + 0, none⟩) (v := .slice A7 x6.name.length c8) Try.underlying32 rfl (by kernel_rfl) (blk_cell b13 rfl)) ?_
    refine lv (d := 28) rfl rfl (by kernel_rfl) (e_conv_bs (A := A7) (n := x6.name.length) (c := c8) (xs := x6.name) Try.underlying32 Try.underlying5 Try.underlying9 (by kernel_rfl) rfl (Rd.bytesE S57.inv h9)) ?_
    refine lv (d := 29) rfl rfl (by kernel_rfl) (e_seql (p := (x1.getD ((x24).toNat) z45).name) (q := x6.name) (by kernel_rfl) (by kernel_rfl)) ?_
    refine lv (d := 9) rfl rfl (by kernel_rfl) (e_assign (v := .bool (decide ((x1.getD ((x24).toNat) z45).name = x6.name))) (by kernel_rfl)) ?_
    refine wpList_nil ?_
    refine then_n ?_
    refine wp_seq ?_
    refine wp_seq ?_
    refine region_quiet (by kernel_rfl) (by kernel_rfl) ?_
    refine qv (d := 30) rfl rfl (by kernel_rfl) (fun wq_ hq_ => e_move (v := .bool (decide ((x1.getD ((x24).toNat) z45).name = x6.name))) (by kernel_rfl)) ?_
    refine qv (d := 31) rfl rfl (by kernel_rfl) (fun wq_ hq_ => e_move (v := .bool (decide ((x1.getD ((x24).toNat) z45).name = x6.name))) (by kernel_rfl)) ?_
    by_cases q59 : (x1.getD ((x24).toNat) z45).name = x6.name
    · replace M := ifp q59 M
      refine qvg (d := 32) (t := 31) rfl (by kernel_rfl) rfl (bt q59 (by kernel_rfl)) rfl (by kernel_rfl) (fun wq_ hq_ => e_fieldAddr (b := g51) (off := 0) (o := 2) Try.underlying45 rfl rfl (sz := 1) (by kernel_rfl) (by decide) (by kernel_rfl)) ?_
      refine qvg (d := 33) (t := 31) rfl (by kernel_rfl) rfl (bt q59 (by kernel_rfl)) rfl (by kernel_rfl) (fun wq_ hq_ => e_load1 (ad := ⟨g51, 0 + 2, none⟩) (v := .int .i64 ((x1.getD ((x24).toNat) z45).typ)) Try.underlying3 rfl (by kernel_rfl) (blk_cell ((S57.still hq_).2.blk 0 rfl b56) rfl)) ?_
      obtain ⟨t60, u61, M⟩ := bnd M
      refine qcallg (v := .bool t60) (d := 34) (t := 31) rfl (by kernel_rfl) rfl (bt q59 (by kernel_rfl)) rfl (by kernel_rfl) (fun w_ => e_call (l := [.tmp 33]) (vs := [.int .i64 ((x1.getD ((x24).toNat) z45).typ)]) Try.func25 (by kernel_rfl) rfl (by kernel_rfl) rfl) (fun wq_ hq_ => (by obtain ⟨S_, K_⟩ := S57.still hq_; replace b56 := K_.blk 0 rfl b56; replace b13 := K_.blk 1 rfl b13; replace h22 := h22.move (K_.at 2 rfl); exact (spec_l3prefix.calls wq_ H ((x1.getD ((x24).toNat) z45).typ)  S_.own0 t60 u61))) ?_
      refine qvg (d := 35) (t := 31) rfl (by kernel_rfl) rfl (bt q59 (by kernel_rfl)) rfl (by kernel_rfl) (fun wq_ hq_ => e_fieldAddr (b := g12) (off := 0) (o := 2) Try.underlying45 rfl rfl (sz := 1) (by kernel_rfl) (by decide) (by exact e26)) ?_
      refine qvg (d := 36) (t := 31) rfl (by kernel_rfl) rfl (bt q59 (by kernel_rfl)) rfl (by kernel_rfl) (fun wq_ hq_ => e_load1 (ad := ⟨g12, 0 + 2, none⟩) (v := .int .i64 x6.typ) Try.underlying3 rfl (by kernel_rfl) (blk_cell ((S57.still hq_).2.blk 1 rfl b13) rfl)) ?_
      obtain ⟨t62, u63, M⟩ := bnd M
      refine qcallg (v := .bool t62) (d := 37) (t := 31) rfl (by kernel_rfl) rfl (bt q59 (by kernel_rfl)) rfl (by kernel_rfl) (fun w_ => e_call (l := [.tmp 36]) (vs := [.int .i64 x6.typ]) Try.func25 (by kernel_rfl) rfl (by kernel_rfl) rfl) (fun wq_ hq_ => (by obtain ⟨S_, K_⟩ := S57.still hq_; replace b56 := K_.blk 0 rfl b56; replace b13 := K_.blk 1 rfl b13; replace h22 := h22.move (K_.at 2 rfl); exact (spec_l3prefix.calls wq_ H x6.typ  S_.own0 t62 u63))) ?_
      refine qvg (d := 38) (t := 31) rfl (by kernel_rfl) rfl (bt q59 (by kernel_rfl)) rfl (by kernel_rfl) (fun wq_ hq_ => e_beql (p := t60) (q := t62) Try.underlying4 (by kernel_rfl) (by kernel_rfl)) ?_
      refine qv (d := 39) rfl rfl (by kernel_rfl) (fun wq_ hq_ => e_pick_t (v := .bool (decide (t60 = t62))) (bt q59 (by kernel_rfl)) (by kernel_rfl)) ?_
      refine wpQuiet_nil ?_
      intro w64 C67
      obtain ⟨S65, K66⟩ := S57.still C67
      replace b56 := K66.blk 0 rfl b56
      replace b13 := K66.blk 1 rfl b13
      replace h22 := h22.move (K66.at 2 rfl)
      refine then_n ?_
      by_cases q68 : t60 = t62
      · replace M := ifp q68 M
        refine cond_t rfl (bt q68 (by kernel_rfl)) ?_
        refine wp_exit ?_
        refine then_e ?_
        refine inb_hit ?_
        refine then_n ?_
        refine wp_region_lit ?_
        refine lv (d := 17) rfl rfl (by kernel_rfl) (e_move (v := .int .i64 x24) (by exact e29)) ?_
        refine lv (d := 18) rfl rfl (by kernel_rfl) (e_add (k := .i64) (a := x24) (b := 1) (by kernel_rfl) rfl) ?_
        refine lv (d := 7) rfl rfl (by kernel_rfl) (e_assign (v := .int .i64 (IntKind.i64.wrap (x24 + 1))) (by kernel_rfl)) ?_
        refine wpList_nil ?_
        refine then_n ?_
        have S69 := S65.pull (F := F21) (Fr := [(is g51), (is g12)]) 2 rfl rfl
        have S70 := S69.pull (F := (is g12)) (Fr := [F21, (is g51)]) 2 rfl rfl
        have S71 := St.first (Fa := [(is g12), F21]) (Fr := [(is g51)]) S70
        exact ⟨k35, (by omega), _, x18, A19, c20, F21, x23, (IntKind.i64.wrap (x24 + 1)), rfl, (by exact e25), (by exact e26), (by exact e27), (by exact e28), (by kernel_rfl), b13, h22, S71, M⟩
      replace M := ifn q68 M
      refine cond_f rfl (bf q68 (by kernel_rfl)) ?_
      refine wp_skip ?_
      refine then_n ?_
      refine wp_seq_cut (fun a89 w72 => ∃ (k91 : Nat), k91 ≤ k35 ∧ ∃ (f73 : Nat → Value) (x74 : List Sy.Op) (A75 : Option Addr) (c76 : Nat) (F77 : Foot) (x79 : Bool), a89 = mk 74 f73 ∧ f73 0 = .slice A2 x1.length c3 ∧ f73 3 = .pointer (some ⟨g12, 0, none⟩) ∧ f73 5 = .slice A75 x74.length c76 ∧ f73 6 = .bool x79 ∧ f73 7 = .int .i64 x24 ∧ f73 8 = .pointer (some ⟨g51, 0, none⟩) ∧ w72.heap[g51]? = some (.cells #[.slice A46 ((x1.getD ((x24).toNat) z45).name).length c47, .int .i64 ((x1.getD ((x24).toNat) z45).pri), .int .i64 ((x1.getD ((x24).toNat) z45).typ)] 45 (0, 0)) ∧ w72.heap[g12]? = some (.cells #[.slice A7 x6.name.length c8, .int .i64 x6.pri, .int .i64 x6.typ] 45 (0, 0)) ∧ Row (ro st45) 45 H (hp w72) F77 A75 c76 x74 ∧ St (anyOf []) H w [(is g51), (is g12), F77] H w72 ∧ spec_l3put.l1 k91 x1 x6 x24 x74 x79 = some r) ?_ ?_
      · refine wp_seq ?_
        refine wp_region_lit ?_
        refine lv (d := 40) rfl rfl (by kernel_rfl) (e_move (v := .bool x23) (by exact e28)) ?_
        refine lv (d := 41) rfl rfl (by kernel_rfl) (e_notv (c := x23) (by kernel_rfl)) ?_
        refine lv (d := 42) rfl rfl (by kernel_rfl) (e_move (v := .bool (decide (¬ (x23 = true)))) (by kernel_rfl)) ?_
        by_cases q92 : ¬ (x23 = true)
        · replace M := ifp q92 M
          refine lvg (d := 43) (t := 42) rfl (by kernel_rfl) rfl (bt q92 (by kernel_rfl)) rfl (by kernel_rfl) (e_fieldAddr (b := g51) (off := 0) (o := 0) Try.underlying45 rfl rfl (sz := 1) (by kernel_rfl) (by decide) (by kernel_rfl)) ?_
          refine lvg (d := 44) (t := 42) rfl (by kernel_rfl) rfl (bt q92 (by kernel_rfl)) rfl (by kernel_rfl) (e_load1 (ad := ⟨g51, 0 + 0, none⟩) (v := .slice A46 ((x1.getD ((x24).toNat) z45).name).length c47) Try.underlying32 rfl (by kernel_rfl) (blk_cell b56 rfl)) ?_
          refine lvg (d := 45) (t := 42) rfl (by kernel_rfl) rfl (bt q92 (by kernel_rfl)) rfl (by kernel_rfl) (e_conv_bs (A := A46) (n := ((x1.getD ((x24).toNat) z45).name).length) (c := c47) (xs := (x1.getD ((x24).toNat) z45).name) Try.underlying32 Try.underlying5 Try.underlying9 (by kernel_rfl) rfl (Rd.bytesE S65.inv h49)) ?_
          refine lvg (d := 46) (t := 42) rfl (by kernel_rfl) rfl (bt q92 (by kernel_rfl)) rfl (by kernel_rfl) (e_fieldAddr (b := g12) (off := 0) (o := 0) Try.underlying45 rfl rfl (sz := 1) (by kernel_rfl) (by decide) (by exact e26)) ?_
          refine lvg (d := 47) (t := 42) rfl (by kernel_rfl) rfl (bt q92 (by kernel_rfl)) rfl (by kernel_rfl) (e_load1 (ad := ⟨g12, 0 + 0, none⟩) (v := .slice A7 x6.name.length c8) Try.underlying32 rfl (by kernel_rfl) (blk_cell b13 rfl)) ?_
          refine lvg (d := 48) (t := 42) rfl (by kernel_rfl) rfl (bt q92 (by kernel_rfl)) rfl (by kernel_rfl) (e_conv_bs (A := A7) (n := x6.name.length) (c := c8) (xs := x6.name) Try.underlying32 Try.underlying5 Try.underlying9 (by kernel_rfl) rfl (Rd.bytesE S65.inv h9)) ?_
          refine lvg (d := 49) (t := 42) rfl (by kernel_rfl) rfl (bt q92 (by kernel_rfl)) rfl (by kernel_rfl) (e_sgtr (p := (x1.getD ((x24).toNat) z45).name) (q := x6.name) (by kernel_rfl) (by kernel_rfl)) ?_
          refine lvg (d := 50) (t := 42) rfl (by kernel_rfl) rfl (bt q92 (by kernel_rfl)) rfl (by kernel_rfl) (e_move (v := .bool (!(Op.bytesLess ((x1.getD ((x24).toNat) z45).name) x6.name || ((x1.getD ((x24).toNat) z45).name) == x6.name))) (by kernel_rfl)) ?_
          by_cases q93 : (!(Op.bytesLess ((x1.getD ((x24).toNat) z45).name) x6.name || ((x1.getD ((x24).toNat) z45).name) == x6.name)) = true
          · replace M := ifp q93 M
            refine lskip (t := 50) (c := true) rfl (by kernel_rfl) rfl (bvt q93 (by kernel_rfl)) rfl rfl ?_
            refine lskip (t := 50) (c := true) rfl (by kernel_rfl) rfl (bvt q93 (by kernel_rfl)) rfl rfl ?_
            refine lskipu (t := 52) rfl (by kernel_rfl) rfl (by kernel_rfl) rfl ?_
            refine lskipu (t := 52) rfl (by kernel_rfl) rfl (by kernel_rfl) rfl ?_
            refine lskipu (t := 52) rfl (by kernel_rfl) rfl (by kernel_rfl) rfl ?_
            refine lskip (t := 50) (c := true) rfl (by kernel_rfl) rfl (bvt q93 (by kernel_rfl)) rfl rfl ?_
            refine lvg (d := 57) (t := 42) rfl (by kernel_rfl) rfl (bt q92 (by kernel_rfl)) rfl (by kernel_rfl) (e_pick_t (v := .bool true) (bvt q93 (by kernel_rfl)) rfl) ?_
            refine lv (d := 58) rfl rfl (by kernel_rfl) (e_pick_t (v := .bool true) (bt q92 (by kernel_rfl)) (by kernel_rfl)) ?_
            refine wpList_nil ?_
            refine then_n ?_
            refine cond_t rfl (by kernel_rfl) ?_
            refine wp_seq ?_
            refine wp_region_lit ?_
            refine lv (d := 59) rfl rfl (by kernel_rfl) (e_move (v := .slice A19 x18.length c20) (by exact e27)) ?_
            refine lv (d := 60) rfl rfl (by kernel_rfl) (e_loadS (b := g12) (off := 0) (cs := [.slice A7 x6.name.length c8, .int .i64 x6.pri, .int .i64 x6.typ]) Try.underlying45 rfl (by kernel_rfl) (by exact e26) (blk_cells b13 rfl)) ?_
            refine lve (d := 61) rfl rfl (by kernel_rfl) (new_blk (v := fun g_ => .slice (some ⟨g_, 0, none⟩) 1 1) (cs := #[.slice A7 x6.name.length c8, .int .i64 x6.pri, .int .i64 x6.typ]) (t := 45) S65 (by kernel_rfl)) ?_
            rintro _ w94 ⟨g95, rfl, b96, S97, K98⟩
            replace b56 := K98.blk 0 rfl b56
            replace b13 := K98.blk 1 rfl b13
            replace h22 := h22.move (K98.at 2 rfl)
            obtain ⟨q99, M⟩ := chk M
            have S100 := S97.pull (F := F21) (Fr := [(is g95), (is g51), (is g12)]) 3 rfl rfl
            have S101 := S100.unit
            have S102 := S101.pull (F := F21) (Fr := [no, (is g95), (is g51), (is g12)]) 1 rfl rfl
            refine lve (d := 62) rfl rfl (by kernel_rfl) (e_append (d := (ro st45)) (n := x18.length) (xs := x18) (cap := c20) (A := A19) (ys := [x6]) (A2 := (some ⟨g95, 0, none⟩)) (c2 := 1) (z := .agg #[.slice none 0 0, .int .i64 0, .int .i64 0]) (bytes := 40) S102 Try.underlying25 (by kernel_rfl) rfl (by decide) (by kernel_rfl) rfl (by kernel_rfl) h22 (elsO_one1 (st45_mkR (x := x6) l10 h9)) (.inr (blk_news b96 rfl)) (show (x18.length + [x6].length) * 40 ≤ _ by first | omega | (simp only [List.length_cons, List.length_nil]; omega)) (by decide)) ?_
            rintro _ w103 ⟨A104, c105, F106, rfl, h107, S108, K109⟩
            replace b96 := K109.blk 0 rfl b96
            replace b56 := K109.blk 1 rfl b56
            replace b13 := K109.blk 2 rfl b13
            refine lv (d := 5) rfl rfl (by kernel_rfl) (e_assign (v := .slice A104 ((x18 ++ [x6]).length) c105) (by kernel_rfl)) ?_
            refine wpList_nil ?_
            refine then_n ?_
            refine wp_region_lit ?_
            refine lv (d := 6) rfl rfl (by kernel_rfl) (e_assign (v := .bool true) rfl) ?_
            refine wpList_nil ?_
            refine then_n ?_
            have S110 := S108.pull (F := (is g12)) (Fr := [F106, (is g95), (is g51)]) 3 rfl rfl
            have S111 := S110.pull (F := (is g51)) (Fr := [(is g12), F106, (is g95)]) 3 rfl rfl
            have S112 := St.first (Fa := [(is g51), (is g12), F106]) (Fr := [(is g95)]) S111
            exact ⟨k35, (by omega), _, (x18 ++ [x6]), A104, c105, F106, true, rfl, (by exact e25), (by exact e26), (by kernel_rfl), (by kernel_rfl), (by exact e29), (by kernel_rfl), b56, b13, h107, S112, M⟩
          replace M := ifn q93 M
          refine lvg (d := 51) (t := 50) rfl (by kernel_rfl) rfl (bvf q93 (by kernel_rfl)) rfl (by kernel_rfl) (e_move (v := .bool (decide ((x1.getD ((x24).toNat) z45).name = x6.name))) (by kernel_rfl)) ?_
          refine lvg (d := 52) (t := 50) rfl (by kernel_rfl) rfl (bvf q93 (by kernel_rfl)) rfl (by kernel_rfl) (e_move (v := .bool (decide ((x1.getD ((x24).toNat) z45).name = x6.name))) (by kernel_rfl)) ?_
          refine lvg (d := 53) (t := 52) rfl (by kernel_rfl) rfl (bt q59 (by kernel_rfl)) rfl (by kernel_rfl) (e_fieldAddr (b := g12) (off := 0) (o := 2) Try.underlying45 rfl rfl (sz := 1) (by kernel_rfl) (by decide) (by exact e26)) ?_
          refine lvg (d := 54) (t := 52) rfl (by kernel_rfl) rfl (bt q59 (by kernel_rfl)) rfl (by kernel_rfl) (e_load1 (ad := ⟨g12, 0 + 2, none⟩) (v := .int .i64 x6.typ) Try.underlying3 rfl (by kernel_rfl) (blk_cell b13 rfl)) ?_
          obtain ⟨t113, u114, M⟩ := bnd M
          refine lcallg (d := 55) (t := 52) rfl (by kernel_rfl) rfl (bt q59 (by kernel_rfl)) rfl (by kernel_rfl) (e_call (l := [.tmp 54]) (vs := [.int .i64 x6.typ]) Try.func25 (by kernel_rfl) rfl (by kernel_rfl) rfl) (spec_l3prefix.calls w64 H x6.typ  S65.own0 t113 u114) ?_
          rintro _ w115 ⟨rfl, C116⟩
          refine ⟨_, rfl, ?_⟩
          obtain ⟨S117, K118⟩ := S65.still C116
          replace b56 := K118.blk 0 rfl b56
          replace b13 := K118.blk 1 rfl b13
          replace h22 := h22.move (K118.at 2 rfl)
          refine lvg (d := 56) (t := 50) rfl (by kernel_rfl) rfl (bvf q93 (by kernel_rfl)) rfl (by kernel_rfl) (e_pick_t (v := .bool t113) (bt q59 (by kernel_rfl)) (by kernel_rfl)) ?_
          refine lvg (d := 57) (t := 42) rfl (by kernel_rfl) rfl (bt q92 (by kernel_rfl)) rfl (by kernel_rfl) (e_pick_f (v := .bool t113) (bvf q93 (by kernel_rfl)) (by kernel_rfl)) ?_
          refine lv (d := 58) rfl rfl (by kernel_rfl) (e_pick_t (v := .bool t113) (bt q92 (by kernel_rfl)) (by kernel_rfl)) ?_
          refine wpList_nil ?_
          refine then_n ?_
          by_cases q119 : t113 = true
          · replace M := ifp q119 M
            refine cond_t rfl (bvt q119 (by kernel_rfl)) ?_
            refine wp_seq ?_
            refine wp_region_lit ?_
            refine lv (d := 59) rfl rfl (by kernel_rfl) (e_move (v := .slice A19 x18.length c20) (by exact e27)) ?_
            refine lv (d := 60) rfl rfl (by kernel_rfl) (e_loadS (b := g12) (off := 0) (cs := [.slice A7 x6.name.length c8, .int .i64 x6.pri, .int .i64 x6.typ]) Try.underlying45 rfl (by kernel_rfl) (by exact e26) (blk_cells b13 rfl)) ?_
            refine lve (d := 61) rfl rfl (by kernel_rfl) (new_blk (v := fun g_ => .slice (some ⟨g_, 0, none⟩) 1 1) (cs := #[.slice A7 x6.name.length c8, .int .i64 x6.pri, .int .i64 x6.typ]) (t := 45) S117 (by kernel_rfl)) ?_
            rintro _ w120 ⟨g121, rfl, b122, S123, K124⟩
            replace b56 := K124.blk 0 rfl b56
            replace b13 := K124.blk 1 rfl b13
            replace h22 := h22.move (K124.at 2 rfl)
            obtain ⟨q125, M⟩ := chk M
            have S126 := S123.pull (F := F21) (Fr := [(is g121), (is g51), (is g12)]) 3 rfl rfl
            have S127 := S126.unit
            have S128 := S127.pull (F := F21) (Fr := [no, (is g121), (is g51), (is g12)]) 1 rfl rfl
            refine lve (d := 62) rfl rfl (by kernel_rfl) (e_append (d := (ro st45)) (n := x18.length) (xs := x18) (cap := c20) (A := A19) (ys := [x6]) (A2 := (some ⟨g121, 0, none⟩)) (c2 := 1) (z := .agg #[.slice none 0 0, .int .i64 0, .int .i64 0]) (bytes := 40) S128 Try.underlying25 (by kernel_rfl) rfl (by decide) (by kernel_rfl) rfl (by kernel_rfl) h22 (elsO_one1 (st45_mkR (x := x6) l10 h9)) (.inr (blk_news b122 rfl)) (show (x18.length + [x6].length) * 40 ≤ _ by first | omega | (simp only [List.length_cons, List.length_nil]; omega)) (by decide)) ?_
            rintro _ w129 ⟨A130, c131, F132, rfl, h133, S134, K135⟩
            replace b122 := K135.blk 0 rfl b122
            replace b56 := K135.blk 1 rfl b56
            replace b13 := K135.blk 2 rfl b13
            refine lv (d := 5) rfl rfl (by kernel_rfl) (e_assign (v := .slice A130 ((x18 ++ [x6]).length) c131) (by kernel_rfl)) ?_
            refine wpList_nil ?_
            refine then_n ?_
            refine wp_region_lit ?_
            refine lv (d := 6) rfl rfl (by kernel_rfl) (e_assign (v := .bool true) rfl) ?_
            refine wpList_nil ?_
            refine then_n ?_
            have S136 := S134.pull (F := (is g12)) (Fr := [F132, (is g121), (is g51)]) 3 rfl rfl
            have S137 := S136.pull (F := (is g51)) (Fr := [(is g12), F132, (is g121)]) 3 rfl rfl
            have S138 := St.first (Fa := [(is g51), (is g12), F132]) (Fr := [(is g121)]) S137
            exact ⟨k35, (by omega), _, (x18 ++ [x6]), A130, c131, F132, true, rfl, (by exact e25), (by exact e26), (by kernel_rfl), (by kernel_rfl), (by exact e29), (by kernel_rfl), b56, b13, h133, S138, M⟩
          replace M := ifn q119 M
          refine cond_f rfl (bvf q119 (by kernel_rfl)) ?_
          refine wp_skip ?_
          refine then_n ?_
          exact ⟨k35, (by omega), _, x18, A19, c20, F21, x23, rfl, (by exact e25), (by exact e26), (by exact e27), (by exact e28), (by exact e29), (by kernel_rfl), b56, b13, h22, S117, M⟩
        replace M := ifn q92 M
        refine lskip (t := 42) (c := false) rfl (by kernel_rfl) rfl (bf q92 (by kernel_rfl)) rfl rfl ?_
        refine lskip (t := 42) (c := false) rfl (by kernel_rfl) rfl (bf q92 (by kernel_rfl)) rfl rfl ?_
        refine lskip (t := 42) (c := false) rfl (by kernel_rfl) rfl (bf q92 (by kernel_rfl)) rfl rfl ?_
        refine lskip (t := 42) (c := false) rfl (by kernel_rfl) rfl (bf q92 (by kernel_rfl)) rfl rfl ?_
        refine lskip (t := 42) (c := false) rfl (by kernel_rfl) rfl (bf q92 (by kernel_rfl)) rfl rfl ?_
        refine lskip (t := 42) (c := false) rfl (by kernel_rfl) rfl (bf q92 (by kernel_rfl)) rfl rfl ?_
        refine lskip (t := 42) (c := false) rfl (by kernel_rfl) rfl (bf q92 (by kernel_rfl)) rfl rfl ?_
        refine lskip (t := 42) (c := false) rfl (by kernel_rfl) rfl (bf q92 (by kernel_rfl)) rfl rfl ?_
        refine lskipu (t := 50) rfl (by kernel_rfl) rfl (by kernel_rfl) rfl ?_
        refine lskipu (t := 50) rfl (by kernel_rfl) rfl (by kernel_rfl) rfl ?_
        refine lskipu (t := 52) rfl (by kernel_rfl) rfl (by kernel_rfl) rfl ?_
        refine lskipu (t := 52) rfl (by kernel_rfl) rfl (by kernel_rfl) rfl ?_
        refine lskipu (t := 52) rfl (by kernel_rfl) rfl (by kernel_rfl) rfl ?_
        refine lskipu (t := 50) rfl (by kernel_rfl) rfl (by kernel_rfl) rfl ?_
        refine lskip (t := 42) (c := false) rfl (by kernel_rfl) rfl (bf q92 (by kernel_rfl)) rfl rfl ?_
        refine lv (d := 58) rfl rfl (by kernel_rfl) (e_pick_f (v := .bool false) (bf q92 (by kernel_rfl)) rfl) ?_
        refine wpList_nil ?_
        refine then_n ?_
        refine cond_f rfl (by kernel_rfl) ?_
        refine wp_skip ?_
        refine then_n ?_
        exact ⟨k35, (by omega), _, x18, A19, c20, F21, x23, rfl, (by exact e25), (by exact e26), (by exact e27), (by exact e28), (by exact e29), (by kernel_rfl), b56, b13, h22, S65, M⟩
      clear M
      rintro a89 w72 ⟨k91, z157, f73, x74, A75, c76, F77, x79, rfl, e80, e81, e82, e83, e84, e85, b56, b13, h78, S86, M⟩
      rcases k91 with _ | k90
      · rw [spec_l3put.l1] at M
        cases M
      rw [spec_l3put.l1] at M
      refine wp_region_lit ?_
      refine lv (d := 63) rfl rfl (by kernel_rfl) (e_move (v := .slice A75 x74.length c76) (by exact e82)) ?_
      refine lv (d := 64) rfl rfl (by kernel_rfl) (e_loadS (b := g51) (off := 0) (cs := [.slice A46 ((x1.getD ((x24).toNat) z45).name).length c47, .int .i64 ((x1.getD ((x24).toNat) z45).pri), .int .i64 ((x1.getD ((x24).toNat) z45).typ)]) Try.underlying45 rfl (by kernel_rfl) (by exact e85) (blk_cells b56 rfl)) ?_
      refine lve (d := 65) rfl rfl (by kernel_rfl) (new_blk (v := fun g_ => .slice (some ⟨g_, 0, none⟩) 1 1) (cs := #[.slice A46 ((x1.getD ((x24).toNat) z45).name).length c47, .int .i64 ((x1.getD ((x24).toNat) z45).pri), .int .i64 ((x1.getD ((x24).toNat) z45).typ)]) (t := 45) S86 (by kernel_rfl)) ?_
      rintro _ w139 ⟨g140, rfl, b141, S142, K143⟩
      replace b56 := K143.blk 0 rfl b56
      replace b13 := K143.blk 1 rfl b13
      replace h78 := h78.move (K143.at 2 rfl)
      obtain ⟨q144, M⟩ := chk M
      have S145 := S142.pull (F := F77) (Fr := [(is g140), (is g51), (is g12)]) 3 rfl rfl
      have S146 := S145.unit
      have S147 := S146.pull (F := F77) (Fr := [no, (is g140), (is g51), (is g12)]) 1 rfl rfl
      refine lve (d := 66) rfl rfl (by kernel_rfl) (e_append (d := (ro st45)) (n := x74.length) (xs := x74) (cap := c76) (A := A75) (ys := [(x1.getD ((x24).toNat) z45)]) (A2 := (some ⟨g140, 0, none⟩)) (c2 := 1) (z := .agg #[.slice none 0 0, .int .i64 0, .int .i64 0]) (bytes := 40) S147 Try.underlying25 (by kernel_rfl) rfl (by decide) (by kernel_rfl) rfl (by kernel_rfl) h78 (elsO_one1 (st45_mkR (x := (x1.getD ((x24).toNat) z45)) l48 h49)) (.inr (blk_news b141 rfl)) (show (x74.length + [(x1.getD ((x24).toNat) z45)].length) * 40 ≤ _ by first | omega | (simp only [List.length_cons, List.length_nil]; omega)) (by decide)) ?_
      rintro _ w148 ⟨A149, c150, F151, rfl, h152, S153, K154⟩
      replace b141 := K154.blk 0 rfl b141
      replace b56 := K154.blk 1 rfl b56
      replace b13 := K154.blk 2 rfl b13
      refine lv (d := 5) rfl rfl (by kernel_rfl) (e_assign (v := .slice A149 ((x74 ++ [(x1.getD ((x24).toNat) z45)]).length) c150) (by kernel_rfl)) ?_
      refine wpList_nil ?_
      refine inb_n ?_
      refine then_n ?_
      refine wp_region_lit ?_
      refine lv (d := 17) rfl rfl (by kernel_rfl) (e_move (v := .int .i64 x24) (by exact e84)) ?_
      refine lv (d := 18) rfl rfl (by kernel_rfl) (e_add (k := .i64) (a := x24) (b := 1) (by kernel_rfl) rfl) ?_
      refine lv (d := 7) rfl rfl (by kernel_rfl) (e_assign (v := .int .i64 (IntKind.i64.wrap (x24 + 1))) (by kernel_rfl)) ?_
      refine wpList_nil ?_
      refine then_n ?_
      have S155 := S153.pull (F := (is g12)) (Fr := [F151, (is g140), (is g51)]) 3 rfl rfl
      have S156 := St.first (Fa := [(is g12), F151]) (Fr := [(is g140), (is g51)]) S155
      exact ⟨k90, (by omega), _, (x74 ++ [(x1.getD ((x24).toNat) z45)]), A149, c150, F151, x79, (IntKind.i64.wrap (x24 + 1)), rfl, (by exact e80), (by exact e81), (by kernel_rfl), (by exact e83), (by kernel_rfl), b13, h152, S156, M⟩
    replace M := ifn q59 M
    refine qskip (t := 31) (c := false) rfl (by kernel_rfl) rfl (bf q59 (by kernel_rfl)) rfl rfl ?_
    refine qskip (t := 31) (c := false) rfl (by kernel_rfl) rfl (bf q59 (by kernel_rfl)) rfl rfl ?_
    refine qskip (t := 31) (c := false) rfl (by kernel_rfl) rfl (bf q59 (by kernel_rfl)) rfl rfl ?_
    refine qskip (t := 31) (c := false) rfl (by kernel_rfl) rfl (bf q59 (by kernel_rfl)) rfl rfl ?_
    refine qskip (t := 31) (c := false) rfl (by kernel_rfl) rfl (bf q59 (by kernel_rfl)) rfl rfl ?_
    refine qskip (t := 31) (c := false) rfl (by kernel_rfl) rfl (bf q59 (by kernel_rfl)) rfl rfl ?_
    refine qskip (t := 31) (c := false) rfl (by kernel_rfl) rfl (bf q59 (by kernel_rfl)) rfl rfl ?_
    refine qv (d := 39) rfl rfl (by kernel_rfl) (fun wq_ hq_ => e_pick_f (v := .bool false) (bf q59 (by kernel_rfl)) rfl) ?_
    refine wpQuiet_nil ?_
    intro w158 C161
    obtain ⟨S159, K160⟩ := S57.still C161
    replace b56 := K160.blk 0 rfl b56
    replace b13 := K160.blk 1 rfl b13
    replace h22 := h22.move (K160.at 2 rfl)
    refine then_n ?_
    refine cond_f rfl (by kernel_rfl) ?_
    refine wp_skip ?_
    refine then_n ?_
    refine wp_seq_cut (fun a179 w162 => ∃ (k181 : Nat), k181 ≤ k35 ∧ ∃ (f163 : Nat → Value) (x164 : List Sy.Op) (A165 : Option Addr) (c166 : Nat) (F167 : Foot) (x169 : Bool), a179 = mk 74 f163 ∧ f163 0 = .slice A2 x1.length c3 ∧ f163 3 = .pointer (some ⟨g12, 0, none⟩) ∧ f163 5 = .slice A165 x164.length c166 ∧ f163 6 = .bool x169 ∧ f163 7 = .int .i64 x24 ∧ f163 8 = .pointer (some ⟨g51, 0, none⟩) ∧ w162.heap[g51]? = some (.cells #[.slice A46 ((x1.getD ((x24).toNat) z45).name).length c47, .int .i64 ((x1.getD ((x24).toNat) z45).pri), .int .i64 ((x1.getD ((x24).toNat) z45).typ)] 45 (0, 0)) ∧ w162.heap[g12]? = some (.cells #[.slice A7 x6.name.length c8, .int .i64 x6.pri, .int .i64 x6.typ] 45 (0, 0)) ∧ Row (ro st45) 45 H (hp w162) F167 A165 c166 x164 ∧ St (anyOf []) H w [(is g51), (is g12), F167] H w162 ∧ spec_l3put.l2 k181 x1 x6 x24 x164 x169 = some r) ?_ ?_
    · refine wp_seq ?_
      refine wp_region_lit ?_
      refine lv (d := 40) rfl rfl (by kernel_rfl) (e_move (v := .bool x23) (by exact e28)) ?_
      refine lv (d := 41) rfl rfl (by kernel_rfl) (e_notv (c := x23) (by kernel_rfl)) ?_
      refine lv (d := 42) rfl rfl (by kernel_rfl) (e_move (v := .bool (decide (¬ (x23 = true)))) (by kernel_rfl)) ?_
      by_cases q182 : ¬ (x23 = true)
      · replace M := ifp q182 M
        refine lvg (d := 43) (t := 42) rfl (by kernel_rfl) rfl (bt q182 (by kernel_rfl)) rfl (by kernel_rfl) (e_fieldAddr (b := g51) (off := 0) (o := 0) Try.underlying45 rfl rfl (sz := 1) (by kernel_rfl) (by decide) (by kernel_rfl)) ?_
        refine lvg (d := 44) (t := 42) rfl (by kernel_rfl) rfl (bt q182 (by kernel_rfl)) rfl (by kernel_rfl) (e_load1 (ad := ⟨g51, 0 + 0, none⟩) (v := .slice A46 ((x1.getD ((x24).toNat) z45).name).length c47) Try.underlying32 rfl (by kernel_rfl) (blk_cell b56 rfl)) ?_
        refine lvg (d := 45) (t := 42) rfl (by kernel_rfl) rfl (bt q182 (by kernel_rfl)) rfl (by kernel_rfl) (e_conv_bs (A := A46) (n := ((x1.getD ((x24).toNat) z45).name).length) (c := c47) (xs := (x1.getD ((x24).toNat) z45).name) Try.underlying32 Try.underlying5 Try.underlying9 (by kernel_rfl) rfl (Rd.bytesE S159.inv h49)) ?_
        refine lvg (d := 46) (t := 42) rfl (by kernel_rfl) rfl (bt q182 (by kernel_rfl)) rfl (by kernel_rfl) (e_fieldAddr (b := g12) (off := 0) (o := 0) Try.underlying45 rfl rfl (sz := 1) (by kernel_rfl) (by decide) (by exact e26)) ?_
        refine lvg (d := 47) (t := 42) rfl (by kernel_rfl) rfl (bt q182 (by kernel_rfl)) rfl (by kernel_rfl) (e_load1 (ad := ⟨g12, 0 + 0, none⟩) (v := .slice A7 x6.name.length c8) Try.underlying32 rfl (by kernel_rfl) (blk_cell b13 rfl)) ?_
        refine lvg (d := 48) (t := 42) rfl (by kernel_rfl) rfl (bt q182 (by kernel_rfl)) rfl (by kernel_rfl) (e_conv_bs (A := A7) (n := x6.name.length) (c := c8) (xs := x6.name) Try.underlying32 Try.underlying5 Try.underlying9 (by kernel_rfl) rfl (Rd.bytesE S159.inv h9)) ?_
        refine lvg (d := 49) (t := 42) rfl (by kernel_rfl) rfl (bt q182 (by kernel_rfl)) rfl (by kernel_rfl) (e_sgtr (p := (x1.getD ((x24).toNat) z45).name) (q := x6.name) (by kernel_rfl) (by kernel_rfl)) ?_
        refine lvg (d := 50) (t := 42) rfl (by kernel_rfl) rfl (bt q182 (by kernel_rfl)) rfl (by kernel_rfl) (e_move (v := .bool (!(Op.bytesLess ((x1.getD ((x24).toNat) z45).name) x6.name || ((x1.getD ((x24).toNat) z45).name) == x6.name))) (by kernel_rfl)) ?_
        by_cases q183 : (!(Op.bytesLess ((x1.getD ((x24).toNat) z45).name) x6.name || ((x1.getD ((x24).toNat) z45).name) == x6.name)) = true
        · replace M := ifp q183 M
          refine lskip (t := 50) (c := true) rfl (by kernel_rfl) rfl (bvt q183 (by kernel_rfl)) rfl rfl ?_
          refine lskip (t := 50) (c := true) rfl (by kernel_rfl) rfl (bvt q183 (by kernel_rfl)) rfl rfl ?_
          refine lskipu (t := 52) rfl (by kernel_rfl) rfl (by kernel_rfl) rfl ?_
          refine lskipu (t := 52) rfl (by kernel_rfl) rfl (by kernel_rfl) rfl ?_
          refine lskipu (t := 52) rfl (by kernel_rfl) rfl (by kernel_rfl) rfl ?_
          refine lskip (t := 50) (c := true) rfl (by kernel_rfl) rfl (bvt q183 (by kernel_rfl)) rfl rfl ?_
          refine lvg (d := 57) (t := 42) rfl (by kernel_rfl) rfl (bt q182 (by kernel_rfl)) rfl (by kernel_rfl) (e_pick_t (v := .bool true) (bvt q183 (by kernel_rfl)) rfl) ?_
          refine lv (d := 58) rfl rfl (by kernel_rfl) (e_pick_t (v := .bool true) (bt q182 (by kernel_rfl)) (by kernel_rfl)) ?_
          refine wpList_nil ?_
          refine then_n ?_
          refine cond_t rfl (by kernel_rfl) ?_
          refine wp_seq ?_
          refine wp_region_lit ?_
          refine lv (d := 59) rfl rfl (by kernel_rfl) (e_move (v := .slice A19 x18.length c20) (by exact e27)) ?_
          refine lv (d := 60) rfl rfl (by kernel_rfl) (e_loadS (b := g12) (off := 0) (cs := [.slice A7 x6.name.length c8, .int .i64 x6.pri, .int .i64 x6.typ]) Try.underlying45 rfl (by kernel_rfl) (by exact e26) (blk_cells b13 rfl)) ?_
          refine lve (d := 61) rfl rfl (by kernel_rfl) (new_blk (v := fun g_ => .slice (some ⟨g_, 0, none⟩) 1 1) (cs := #[.slice A7 x6.name.length c8, .int .i64 x6.pri, .int .i64 x6.typ]) (t := 45) S159 (by kernel_rfl)) ?_
          rintro _ w184 ⟨g185, rfl, b186, S187, K188⟩
          replace b56 := K188.blk 0 rfl b56
          replace b13 := K188.blk 1 rfl b13
          replace h22 := h22.move (K188.at 2 rfl)
          obtain ⟨q189, M⟩ := chk M
          have S190 := S187.pull (F := F21) (Fr := [(is g185), (is g51), (is g12)]) 3 rfl rfl
          have S191 := S190.unit
          have S192 := S191.pull (F := F21) (Fr := [no, (is g185), (is g51), (is g12)]) 1 rfl rfl
          refine lve (d := 62) rfl rfl (by kernel_rfl) (e_append (d := (ro st45)) (n := x18.length) (xs := x18) (cap := c20) (A := A19) (ys := [x6]) (A2 := (some ⟨g185, 0, none⟩)) (c2 := 1) (z := .agg #[.slice none 0 0, .int .i64 0, .int .i64 0]) (bytes := 40) S192 Try.underlying25 (by kernel_rfl) rfl (by decide) (by kernel_rfl) rfl (by kernel_rfl) h22 (elsO_one1 (st45_mkR (x := x6) l10 h9)) (.inr (blk_news b186 rfl)) (show (x18.length + [x6].length) * 40 ≤ _ by first | omega | (simp only [List.length_cons, List.length_nil]; omega)) (by decide)) ?_
          rintro _ w193 ⟨A194, c195, F196, rfl, h197, S198, K199⟩
          replace b186 := K199.blk 0 rfl b186
          replace b56 := K199.blk 1 rfl b56
          replace b13 := K199.blk 2 rfl b13
          refine lv (d := 5) rfl rfl (by kernel_rfl) (e_assign (v := .slice A194 ((x18 ++ [x6]).length) c195) (by kernel_rfl)) ?_
          refine wpList_nil ?_
          refine then_n ?_
          refine wp_region_lit ?_
          refine lv (d := 6) rfl rfl (by kernel_rfl) (e_assign (v := .bool true) rfl) ?_
          refine wpList_nil ?_
          refine then_n ?_
          have S200 := S198.pull (F := (is g12)) (Fr := [F196, (is g185), (is g51)]) 3 rfl rfl
          have S201 := S200.pull (F := (is g51)) (Fr := [(is g12), F196, (is g185)]) 3 rfl rfl
          have S202 := St.first (Fa := [(is g51), (is g12), F196]) (Fr := [(is g185)]) S201
          exact ⟨k35, (by omega), _, (x18 ++ [x6]), A194, c195, F196, true, rfl, (by exact e25), (by exact e26), (by kernel_rfl), (by kernel_rfl), (by exact e29), (by kernel_rfl), b56, b13, h197, S202, M⟩
        replace M := ifn q183 M
        refine lvg (d := 51) (t := 50) rfl (by kernel_rfl) rfl (bvf q183 (by kernel_rfl)) rfl (by kernel_rfl) (e_move (v := .bool (decide ((x1.getD ((x24).toNat) z45).name = x6.name))) (by kernel_rfl)) ?_
        refine lvg (d := 52) (t := 50) rfl (by kernel_rfl) rfl (bvf q183 (by kernel_rfl)) rfl (by kernel_rfl) (e_move (v := .bool (decide ((x1.getD ((x24).toNat) z45).name = x6.name))) (by kernel_rfl)) ?_
        refine lskip (t := 52) (c := false) rfl (by kernel_rfl) rfl (bf q59 (by kernel_rfl)) rfl rfl ?_
        refine lskip (t := 52) (c := false) rfl (by kernel_rfl) rfl (bf q59 (by kernel_rfl)) rfl rfl ?_
        refine lskip (t := 52) (c := false) rfl (by kernel_rfl) rfl (bf q59 (by kernel_rfl)) rfl rfl ?_
        refine lvg (d := 56) (t := 50) rfl (by kernel_rfl) rfl (bvf q183 (by kernel_rfl)) rfl (by kernel_rfl) (e_pick_f (v := .bool false) (bf q59 (by kernel_rfl)) rfl) ?_
        refine lvg (d := 57) (t := 42) rfl (by kernel_rfl) rfl (bt q182 (by kernel_rfl)) rfl (by kernel_rfl) (e_pick_f (v := .bool false) (bvf q183 (by kernel_rfl)) (by kernel_rfl)) ?_
        refine lv (d := 58) rfl rfl (by kernel_rfl) (e_pick_t (v := .bool false) (bt q182 (by kernel_rfl)) (by kernel_rfl)) ?_
        refine wpList_nil ?_
        refine then_n ?_
        refine cond_f rfl (by kernel_rfl) ?_
        refine wp_skip ?_
        refine then_n ?_
        exact ⟨k35, (by omega), _, x18, A19, c20, F21, x23, rfl, (by exact e25), (by exact e26), (by exact e27), (by exact e28), (by exact e29), (by kernel_rfl), b56, b13, h22, S159, M⟩
      replace M := ifn q182 M
      refine lskip (t := 42) (c := false) rfl (by kernel_rfl) rfl (bf q182 (by kernel_rfl)) rfl rfl ?_
      refine lskip (t := 42) (c := false) rfl (by kernel_rfl) rfl (bf q182 (by kernel_rfl)) rfl rfl ?_
      refine lskip (t := 42) (c := false) rfl (by kernel_rfl) rfl (bf q182 (by kernel_rfl)) rfl rfl ?_
      refine lskip (t := 42) (c := false) rfl (by kernel_rfl) rfl (bf q182 (by kernel_rfl)) rfl rfl ?_
      refine lskip (t := 42) (c := false) rfl (by kernel_rfl) rfl (bf q182 (by kernel_rfl)) rfl rfl ?_
      refine lskip (t := 42) (c := false) rfl (by kernel_rfl) rfl (bf q182 (by kernel_rfl)) rfl rfl ?_
      refine lskip (t := 42) (c := false) rfl (by kernel_rfl) rfl (bf q182 (by kernel_rfl)) rfl rfl ?_
      refine lskip (t := 42) (c := false) rfl (by kernel_rfl) rfl (bf q182 (by kernel_rfl)) rfl rfl ?_
      refine lskipu (t := 50) rfl (by kernel_rfl) rfl (by kernel_rfl) rfl ?_
      refine lskipu (t := 50) rfl (by kernel_rfl) rfl (by kernel_rfl) rfl ?_
      refine lskipu (t := 52) rfl (by kernel_rfl) rfl (by kernel_rfl) rfl ?_
      refine lskipu (t := 52) rfl (by kernel_rfl) rfl (by kernel_rfl) rfl ?_
      refine lskipu (t := 52) rfl (by kernel_rfl) rfl (by kernel_rfl) rfl ?_
      refine lskipu (t := 50) rfl (by kernel_rfl) rfl (by kernel_rfl) rfl ?_
      refine lskip (t := 42) (c := false) rfl (by kernel_rfl) rfl (bf q182 (by kernel_rfl)) rfl rfl ?_
      refine lv (d := 58) rfl rfl (by kernel_rfl) (e_pick_f (v := .bool false) (bf q182 (by kernel_rfl)) rfl) ?_
      refine wpList_nil ?_
      refine then_n ?_
      refine cond_f rfl (by kernel_rfl) ?_
      refine wp_skip ?_
      refine then_n ?_
      exact ⟨k35, (by omega), _, x18, A19, c20, F21, x23, rfl, (by exact e25), (by exact e26), (by exact e27), (by exact e28), (by exact e29), (by kernel_rfl), b56, b13, h22, S159, M⟩
    clear M
    rintro a179 w162 ⟨k181, z221, f163, x164, A165, c166, F167, x169, rfl, e170, e171, e172, e173, e174, e175, b56, b13, h168, S176, M⟩
    rcases k181 with _ | k180
    · rw [spec_l3put.l2] at M
      cases M
    rw [spec_l3put.l2] at M
    refine wp_region_lit ?_
    refine lv (d := 63) rfl rfl (by kernel_rfl) (e_move (v := .slice A165 x164.length c166) (by exact e172)) ?_
    refine lv (d := 64) rfl rfl (by kernel_rfl) (e_loadS (b := g51) (off := 0) (cs := [.slice A46 ((x1.getD ((x24).toNat) z45).name).length c47, .int .i64 ((x1.getD ((x24).toNat) z45).pri), .int .i64 ((x1.getD ((x24).toNat) z45).typ)]) Try.underlying45 rfl (by kernel_rfl) (by exact e175) (blk_cells b56 rfl)) ?_
    refine lve (d := 65) rfl rfl (by kernel_rfl) (new_blk (v := fun g_ => .slice (some ⟨g_, 0, none⟩) 1 1) (cs := #[.slice A46 ((x1.getD ((x24).toNat) z45).name).length c47, .int .i64 ((x1.getD ((x24).toNat) z45).pri), .int .i64 ((x1.getD ((x24).toNat) z45).typ)]) (t := 45) S176 (by kernel_rfl)) ?_
    rintro _ w203 ⟨g204, rfl, b205, S206, K207⟩
    replace b56 := K207.blk 0 rfl b56
    replace b13 := K207.blk 1 rfl b13
    replace h168 := h168.move (K207.at 2 rfl)
    obtain ⟨q208, M⟩ := chk M
    have S209 := S206.pull (F := F167) (Fr := [(is g204), (is g51), (is g12)]) 3 rfl rfl
    have S210 := S209.unit
    have S211 := S210.pull (F := F167) (Fr := [no, (is g204), (is g51), (is g12)]) 1 rfl rfl
    refine lve (d := 66) rfl rfl (by kernel_rfl) (e_append (d := (ro st45)) (n := x164.length) (xs := x164) (cap := c166) (A := A165) (ys := [(x1.getD ((x24).toNat) z45)]) (A2 := (some ⟨g204, 0, none⟩)) (c2 := 1) (z := .agg #[.slice none 0 0, .int .i64 0, .int .i64 0]) (bytes := 40) S211 Try.underlying25 (by kernel_rfl) rfl (by decide) (by kernel_rfl) rfl (by kernel_rfl) h168 (elsO_one1 (st45_mkR (x := (x1.getD ((x24).toNat) z45)) l48 h49)) (.inr (blk_news b205 rfl)) (show (x164.length + [(x1.getD ((x24).toNat) z45)].length) * 40 ≤ _ by first | omega | (simp only [List.length_cons, List.length_nil]; omega)) (by decide)) ?_
    rintro _ w212 ⟨A213, c214, F215, rfl, h216, S217, K218⟩
    replace b205 := K218.blk 0 rfl b205
    replace b56 := K218.blk 1 rfl b56
    replace b13 := K218.blk 2 rfl b13
    refine lv (d := 5) rfl rfl (by kernel_rfl) (e_assign (v := .slice A213 ((x164 ++ [(x1.getD ((x24).toNat) z45)]).length) c214) (by kernel_rfl)) ?_
    refine wpList_nil ?_
    refine inb_n ?_
    refine then_n ?_
    refine wp_region_lit ?_
    refine lv (d := 17) rfl rfl (by kernel_rfl) (e_move (v := .int .i64 x24) (by exact e174)) ?_
    refine lv (d := 18) rfl rfl (by kernel_rfl) (e_add (k := .i64) (a := x24) (b := 1) (by kernel_rfl) rfl) ?_
    refine lv (d := 7) rfl rfl (by kernel_rfl) (e_assign (v := .int .i64 (IntKind.i64.wrap (x24 + 1))) (by kernel_rfl)) ?_
    refine wpList_nil ?_
    refine then_n ?_
    have S219 := S217.pull (F := (is g12)) (Fr := [F215, (is g204), (is g51)]) 3 rfl rfl
    have S220 := St.first (Fa := [(is g12), F215]) (Fr := [(is g204), (is g51)]) S219
    exact ⟨k180, (by omega), _, (x164 ++ [(x1.getD ((x24).toNat) z45)]), A213, c214, F215, x169, (IntKind.i64.wrap (x24 + 1)), rfl, (by exact e170), (by exact e171), (by kernel_rfl), (by exact e173), (by kernel_rfl), b13, h216, S220, M⟩
  replace M := ifn q38 M
  refine cond_f rfl (bf q38 (by kernel_rfl)) ?_
  refine wp_exit ?_
  refine then_e ?_
  refine then_e ?_
  refine inb_hit ?_
  refine then_n ?_
  refine wp_seq ?_
  refine wp_seq ?_
  refine wp_region_lit ?_
  refine lv (d := 67) rfl rfl (by kernel_rfl) (e_move (v := .bool x23) (by exact e28)) ?_
  refine lv (d := 68) rfl rfl (by kernel_rfl) (e_notv (c := x23) (by kernel_rfl)) ?_
  refine wpList_nil ?_
  refine then_n ?_
  by_cases q222 : ¬ (x23 = true)
  · replace M := ifp q222 M
    refine cond_t rfl (bt q222 (by kernel_rfl)) ?_
    refine wp_region_lit ?_
    refine lv (d := 69) rfl rfl (by kernel_rfl) (e_move (v := .slice A19 x18.length c20) (by exact e27)) ?_
    refine lv (d := 70) rfl rfl (by kernel_rfl) (e_loadS (b := g12) (off := 0) (cs := [.slice A7 x6.name.length c8, .int .i64 x6.pri, .int .i64 x6.typ]) Try.underlying45 rfl (by kernel_rfl) (by exact e26) (blk_cells b13 rfl)) ?_
    refine lve (d := 71) rfl rfl (by kernel_rfl) (new_blk (v := fun g_ => .slice (some ⟨g_, 0, none⟩) 1 1) (cs := #[.slice A7 x6.name.length c8, .int .i64 x6.pri, .int .i64 x6.typ]) (t := 45) S30 (by kernel_rfl)) ?_
    rintro _ w223 ⟨g224, rfl, b225, S226, K227⟩
    replace b13 := K227.blk 0 rfl b13
    replace h22 := h22.move (K227.at 1 rfl)
    obtain ⟨q228, M⟩ := chk M
    have S229 := S226.pull (F := F21) (Fr := [(is g224), (is g12)]) 2 rfl rfl
    have S230 := S229.unit
    have S231 := S230.pull (F := F21) (Fr := [no, (is g224), (is g12)]) 1 rfl rfl
    refine lve (d := 72) rfl rfl (by kernel_rfl) (e_append (d := (ro st45)) (n := x18.length) (xs := x18) (cap := c20) (A := A19) (ys := [x6]) (A2 := (some ⟨g224, 0, none⟩)) (c2 := 1) (z := .agg #[.slice none 0 0, .int .i64 0, .int .i64 0]) (bytes := 40) S231 Try.underlying25 (by kernel_rfl) rfl (by decide) (by kernel_rfl) rfl (by kernel_rfl) h22 (elsO_one1 (st45_mkR (x := x6) l10 h9)) (.inr (blk_news b225 rfl)) (show (x18.length + [x6].length) * 40 ≤ _ by first | omega | (simp only [List.length_cons, List.length_nil]; omega)) (by decide)) ?_
    rintro _ w232 ⟨A233, c234, F235, rfl, h236, S237, K238⟩
    replace b225 := K238.blk 0 rfl b225
    replace b13 := K238.blk 1 rfl b13
    refine lv (d := 5) rfl rfl (by kernel_rfl) (e_assign (v := .slice A233 ((x18 ++ [x6]).length) c234) (by kernel_rfl)) ?_
    refine wpList_nil ?_
    refine then_n ?_
    refine wp_seq ?_
    refine wp_region_lit ?_
    refine lv (d := 73) rfl rfl (by kernel_rfl) (e_move (v := .slice A233 ((x18 ++ [x6]).length) c234) (by kernel_rfl)) ?_
    refine lv (d := 4) rfl rfl (by kernel_rfl) (e_assign (v := .slice A233 ((x18 ++ [x6]).length) c234) (by kernel_rfl)) ?_
    refine wpList_nil ?_
    refine then_n ?_
    refine wp_ret ?_
    obtain rfl := Option.some.inj M
    have S239 := St.first (Fa := [F235]) (Fr := [(is g224), (is g12)]) S237
    exact ret1 rfl rfl  (show _ = .slice A233 ((x18 ++ [x6]).length) c234 from (by kernel_rfl)) ⟨A233, c234, F235, H, rfl, h236, S239⟩
  replace M := ifn q222 M
  refine cond_f rfl (bf q222 (by kernel_rfl)) ?_
  refine wp_skip ?_
  refine then_n ?_
  refine wp_seq ?_
  refine wp_region_lit ?_
  refine lv (d := 73) rfl rfl (by kernel_rfl) (e_move (v := .slice A19 x18.length c20) (by exact e27)) ?_
  refine lv (d := 4) rfl rfl (by kernel_rfl) (e_assign (v := .slice A19 x18.length c20) (by kernel_rfl)) ?_
  refine wpList_nil ?_
  refine then_n ?_
  refine wp_ret ?_
  obtain rfl := Option.some.inj M
  have S240 := S30.pull (F := F21) (Fr := [(is g12)]) 1 rfl rfl
  have S241 := St.first (Fa := [F21]) (Fr := [(is g12)]) S240
  exact ret1 rfl rfl  (show _ = .slice A19 x18.length c20 from (by kernel_rfl)) ⟨A19, c20, F21, H, rfl, h22, S241⟩

/-! spec_AddOp -/
def spec_AddOp.f (k : Nat) (x1 : List Sy.Op) (x6 : Int) (x7 : Int) (x8 : List UInt8) : Option ((List Sy.Op) × Int) := ((spec_ValidOps.f k x1).bind fun t13 => (if ¬ (t13 = true) then some ([], 1) else (if (x8.length : Int) < 1 then some ([], 1) else (if (x8.length : Int) > 100 then some ([], 1) else (if x6 < 0 then some ([], 1) else (if x6 > 1200 then some ([], 1) else (if x7 < 0 then some ([], 1) else (if x7 > 6 then some ([], 1) else (if x8 = ([44] : List UInt8) then some ([], 4) else ((spec_l3special.f x8).bind fun t35 => (if t35 = true then some ([], 4) else ((spec_l3find.f k x1 x8 false).bind fun t43 => ((spec_l3prefix.f x7).bind fun t49 => (if ¬ (t49 = true) then (if t43 ≥ 0 then (if 0 ≤ t43 then (if t43 < (x1.length : Int) then ((spec_l3infix.f ((x1.getD ((t43).toNat) z45).typ)).bind fun t69 => ((spec_l3infix.f x7).bind fun t75 => (if t69 ≠ t75 then some ([], 4) else ((spec_l3copy.f k x1).bind fun t83 => ((spec_l1copy.f x8).bind fun t95 => ((spec_l3put.f k t83 (⟨t95, x6, x7⟩ : Sy.Op)).bind fun t120 => (if (t120.length : Int) > 200 then some ([], 3) else some (t120, 0)))))))) else none) else none) else ((spec_l3copy.f k x1).bind fun t135 => ((spec_l1copy.f x8).bind fun t147 => ((spec_l3put.f k t135 (⟨t147, x6, x7⟩ : Sy.Op)).bind fun t172 => (if (t172.length : Int) > 200 then some ([], 3) else some (t172, 0)))))) else ((spec_l3copy.f k x1).bind fun t187 => ((spec_l1copy.f x8).bind fun t199 => ((spec_l3put.f k t187 (⟨t199, x6, x7⟩ : Sy.Op)).bind fun t224 => (if (t224.length : Int) > 200 then some ([], 3) else some (t224, 0)))))))))))))))))))
theorem spec_AddOp.calls (k : Nat) (w : World) (H : Hp) (x1 : List Sy.Op) (A2 : Option Addr) (c3 : Nat) (x6 : Int) (x7 : Int) (x8 : List UInt8) (A9 : Option Addr) (c10 : Nat) (h4 : Rd st45 H A2 x1) (l5 : x1.length ≤ c3) (h11 : Rd tByte H A9 x8) (l12 : x8.length ≤ c10) (S : Own [] H w) (r : (List Sy.Op) × Int) (M : spec_AddOp.f k x1 x6 x7 x8 = some r) :
    Calls Try.prog 16 #[.slice A2 x1.length c3, .int .i64 x6, .int .i64 x7, .slice A9 x8.length c10] w (fun e e_w => ∃ (A_1 : Option Addr) (c_1 : Nat) (F_1 : Foot) (H_ : Hp), e = .returned (.tuple #[.slice A_1 r.1.length c_1, .int .i64 r.2]) ∧ Row (ro st45) 45 H_ (hp e_w) F_1 A_1 c_1 r.1 ∧ St (anyOf []) H w [F_1] H_ e_w) := by
  rw [spec_AddOp.f] at M
  refine enter (l := [.slice A2 x1.length c3, .int .i64 x6, .int .i64 x7, .slice A9 x8.length c10]) 81 Try.func16 rfl rfl rfl ?_
  have S0_ := S.st
  refine wp_seq ?_
  refine wp_region_lit ?_
  refine lv (d := 8) rfl rfl (by kernel_rfl) (e_assign (v := .slice none 0 0) rfl) ?_
  refine lv (d := 9) rfl rfl (by kernel_rfl) (e_assign (v := .int .i64 0) rfl) ?_
  refine wpList_nil ?_
  refine then_n ?_
  refine wp_seq ?_
  refine wp_seq ?_
  refine wp_region_lit ?_
  refine lv (d := 12) rfl rfl (by kernel_rfl) (e_move (v := .slice A2 x1.length c3) (by kernel_rfl)) ?_
  obtain ⟨t13, u14, M⟩ := bnd M
  refine lcall (d := 13) rfl rfl (by kernel_rfl) (e_call (l := [.tmp 12]) (vs := [.slice A2 x1.length c3]) Try.func8 (by kernel_rfl) rfl (by kernel_rfl) rfl) (spec_ValidOps.calls k w H x1 A2 c3 h4 l5 S0_.own0 t13 u14) ?_
  rintro _ w15 ⟨rfl, C16⟩
  refine ⟨_, rfl, ?_⟩
  obtain ⟨S17, K18⟩ := S0_.still C16
  refine lv (d := 14) rfl rfl (by kernel_rfl) (e_notv (c := t13) (by kernel_rfl)) ?_
  refine lv (d := 15) rfl rfl (by kernel_rfl) (e_move (v := .bool (decide (¬ (t13 = true)))) (by kernel_rfl)) ?_
  by_cases q19 : ¬ (t13 = true)
  · replace M := ifp q19 M
    refine lskip (t := 15) (c := true) rfl (by kernel_rfl) rfl (bt q19 (by kernel_rfl)) rfl rfl ?_
    refine lskip (t := 15) (c := true) rfl (by kernel_rfl) rfl (bt q19 (by kernel_rfl)) rfl rfl ?_
    refine lskip (t := 15) (c := true) rfl (by kernel_rfl) rfl (bt q19 (by kernel_rfl)) rfl rfl ?_
    refine lv (d := 19) rfl rfl (by kernel_rfl) (e_pick_t (v := .bool true) (bt q19 (by kernel_rfl)) rfl) ?_
    refine lv (d := 20) rfl rfl (by kernel_rfl) (e_move (v := .bool true) (by kernel_rfl)) ?_
    refine lskip (t := 20) (c := true) rfl (by kernel_rfl) rfl (by kernel_rfl) rfl rfl ?_
    refine lskip (t := 20) (c := true) rfl (by kernel_rfl) rfl (by kernel_rfl) rfl rfl ?_
    refine lskip (t := 20) (c := true) rfl (by kernel_rfl) rfl (by kernel_rfl) rfl rfl ?_
    refine lv (d := 24) rfl rfl (by kernel_rfl) (e_pick_t (v := .bool true) (by kernel_rfl) rfl) ?_
    refine lv (d := 25) rfl rfl (by kernel_rfl) (e_move (v := .bool true) (by kernel_rfl)) ?_
    refine lskip (t := 25) (c := true) rfl (by kernel_rfl) rfl (by kernel_rfl) rfl rfl ?_
    refine lskip (t := 25) (c := true) rfl (by kernel_rfl) rfl (by kernel_rfl) rfl rfl ?_
    refine lv (d := 28) rfl rfl (by kernel_rfl) (e_pick_t (v := .bool true) (by kernel_rfl) rfl) ?_
    refine lv (d := 29) rfl rfl (by kernel_rfl) (e_move (v := .bool true) (by kernel_rfl)) ?_
    refine lskip (t := 29) (c := true) rfl (by kernel_rfl) rfl (by kernel_rfl) rfl rfl ?_
    refine lskip (t := 29) (c := true) rfl (by kernel_rfl) rfl (by kernel_rfl) rfl rfl ?_
    refine lv (d := 32) rfl rfl (by kernel_rfl) (e_pick_t (v := .bool true) (by kernel_rfl) rfl) ?_
    refine lv (d := 33) rfl rfl (by kernel_rfl) (e_move (v := .bool true) (by kernel_rfl)) ?_
    refine lskip (t := 33) (c := true) rfl (by kernel_rfl) rfl (by kernel_rfl) rfl rfl ?_
    refine lskip (t := 33) (c := true) rfl (by kernel_rfl) rfl (by kernel_rfl) rfl rfl ?_
    refine lv (d := 36) rfl rfl (by kernel_rfl) (e_pick_t (v := .bool true) (by kernel_rfl) rfl) ?_
    refine lv (d := 37) rfl rfl (by kernel_rfl) (e_move (v := .bool true) (by kernel_rfl)) ?_
    refine lskip (t := 37) (c := true) rfl (by kernel_rfl) rfl (by kernel_rfl) rfl rfl ?_
    refine lskip (t := 37) (c := true) rfl (by kernel_rfl) rfl (by kernel_rfl) rfl rfl ?_
    refine lv (d := 40) rfl rfl (by kernel_rfl) (e_pick_t (v := .bool true) (by kernel_rfl) rfl) ?_
    refine wpList_nil ?_
    refine then_n ?_
    refine cond_t rfl (by kernel_rfl) ?_
    refine wp_seq ?_
    refine wp_region_lit ?_
    refine lv (d := 8) rfl rfl (by kernel_rfl) (e_assign (v := .slice none 0 0) rfl) ?_
    refine lv (d := 9) rfl rfl (by kernel_rfl) (e_assign (v := .int .i64 1) rfl) ?_
    refine wpList_nil ?_
    refine then_n ?_
    refine wp_ret ?_
    refine then_r ?_
    obtain rfl := Option.some.inj M
    have S20 := S17.unit
    exact ret2 rfl rfl rfl (show _ = .slice none 0 0 from (by kernel_rfl)) (show _ = .int .i64 1 from (by kernel_rfl)) ⟨none, 0, no, H, rfl, (Row.nil _ _ _ _ no), S20⟩
  replace M := ifn q19 M
  refine lvg (d := 16) (t := 15) rfl (by kernel_rfl) rfl (bf q19 (by kernel_rfl)) rfl (by kernel_rfl) (e_move (v := .slice A9 x8.length c10) (by kernel_rfl)) ?_
  refine lvg (d := 17) (t := 15) rfl (by kernel_rfl) rfl (bf q19 (by kernel_rfl)) rfl (by kernel_rfl) (e_len (A := A9) (n := x8.length) (c := c10) Try.underlying32 (by kernel_rfl)) ?_
  refine lvg (d := 18) (t := 15) rfl (by kernel_rfl) rfl (bf q19 (by kernel_rfl)) rfl (by kernel_rfl) (e_lss (k := .i64) (a := (x8.length : Int)) (b := 1) (by kernel_rfl) rfl) ?_
  refine lv (d := 19) rfl rfl (by kernel_rfl) (e_pick_f (v := .bool (decide ((x8.length : Int) < 1))) (bf q19 (by kernel_rfl)) (by kernel_rfl)) ?_
  refine lv (d := 20) rfl rfl (by kernel_rfl) (e_move (v := .bool (decide ((x8.length : Int) < 1))) (by kernel_rfl)) ?_
  by_cases q21 : (x8.length : Int) < 1
  · replace M := ifp q21 M
    refine lskip (t := 20) (c := true) rfl (by kernel_rfl) rfl (bt q21 (by kernel_rfl)) rfl rfl ?_
    refine lskip (t := 20) (c := true) rfl (by kernel_rfl) rfl (bt q21 (by kernel_rfl)) rfl rfl ?_
    refine lskip (t := 20) (c := true) rfl (by kernel_rfl) rfl (bt q21 (by kernel_rfl)) rfl rfl ?_
    refine lv (d := 24) rfl rfl (by kernel_rfl) (e_pick_t (v := .bool true) (bt q21 (by kernel_rfl)) rfl) ?_
    refine lv (d := 25) rfl rfl (by kernel_rfl) (e_move (v := .bool true) (by kernel_rfl)) ?_
    refine lskip (t := 25) (c := true) rfl (by kernel_rfl) rfl (by kernel_rfl) rfl rfl ?_
    refine lskip (t := 25) (c := true) rfl (by kernel_rfl) rfl (by kernel_rfl) rfl rfl ?_
    refine lv (d := 28) rfl rfl (by kernel_rfl) (e_pick_t (v := .bool true) (by kernel_rfl) rfl) ?_
    refine lv (d := 29) rfl rfl (by kernel_rfl) (e_move (v := .bool true) (by kernel_rfl)) ?_
    refine lskip (t := 29) (c := true) rfl (by kernel_rfl) rfl (by kernel_rfl) rfl rfl ?_
    refine lskip (t := 29) (c := true) rfl (by kernel_rfl) rfl (by kernel_rfl) rfl rfl ?_
    refine lv (d := 32) rfl rfl (by kernel_rfl) (e_pick_t (v := .bool true) (by kernel_rfl) rfl) ?_
    refine lv (d := 33) rfl rfl (by kernel_rfl) (e_move (v := .bool true) (by kernel_rfl)) ?_
    refine lskip (t := 33) (c := true) rfl (by kernel_rfl) rfl (by kernel_rfl) rfl rfl ?_
    refine lskip (t := 33) (c := true) rfl (by kernel_rfl) rfl (by kernel_rfl) rfl rfl ?_
    refine lv (d := 36) rfl rfl (by kernel_rfl) (e_pick_t (v := .bool true) (by kernel_rfl) rfl) ?_
    refine lv (d := 37) rfl rfl (by kernel_rfl) (e_move (v := .bool true) (by kernel_rfl)) ?_
    refine lskip (t := 37) (c := true) rfl (by kernel_rfl) rfl (by kernel_rfl) rfl rfl ?_
    refine lskip (t := 37) (c := true) rfl (by kernel_rfl) rfl (by kernel_rfl) rfl rfl ?_
    refine lv (d := 40) rfl rfl (by kernel_rfl) (e_pick_t (v := .bool true) (by kernel_rfl) rfl) ?_
    refine wpList_nil ?_
    refine then_n ?_
    refine cond_t rfl (by kernel_rfl) ?_
    refine wp_seq ?_
    refine wp_region_lit ?_
    refine lv (d := 8) rfl rfl (by kernel_rfl) (e_assign (v := .slice none 0 0) rfl) ?_
    refine lv (d := 9) rfl rfl (by kernel_rfl) (e_assign (v := .int .i64 1) rfl) ?_
    refine wpList_nil ?_
    refine then_n ?_
    refine wp_ret ?_
    refine then_r ?_
    obtain rfl := Option.some.inj M
    have S22 := S17.unit
    exact ret2 rfl rfl rfl (show _ = .slice none 0 0 from (by kernel_rfl)) (show _ = .int .i64 1 from (by kernel_rfl)) ⟨none, 0, no, H, rfl, (Row.nil _ _ _ _ no), S22⟩
  replace M := ifn q21 M
  refine lvg (d := 21) (t := 20) rfl (by kernel_rfl) rfl (bf q21 (by kernel_rfl)) rfl (by kernel_rfl) (e_move (v := .slice A9 x8.length c10) (by kernel_rfl)) ?_
  refine lvg (d := 22) (t := 20) rfl (by kernel_rfl) rfl (bf q21 (by kernel_rfl)) rfl (by kernel_rfl) (e_len (A := A9) (n := x8.length) (c := c10) Try.underlying32 (by kernel_rfl)) ?_
  refine lvg (d := 23) (t := 20) rfl (by kernel_rfl) rfl (bf q21 (by kernel_rfl)) rfl (by kernel_rfl) (e_gtr (k := .i64) (a := (x8.length : Int)) (b := 100) (by kernel_rfl) rfl) ?_
  refine lv (d := 24) rfl rfl (by kernel_rfl) (e_pick_f (v := .bool (decide ((x8.length : Int) > 100))) (bf q21 (by kernel_rfl)) (by kernel_rfl)) ?_
  refine lv (d := 25) rfl rfl (by kernel_rfl) (e_move (v := .bool (decide ((x8.length : Int) > 100))) (by kernel_rfl)) ?_
  by_cases q23 : (x8.length : Int) > 100
  · replace M := ifp q23 M
    refine lskip (t := 25) (c := true) rfl (by kernel_rfl) rfl (bt q23 (by kernel_rfl)) rfl rfl ?_
    refine lskip (t := 25) (c := true) rfl (by kernel_rfl) rfl (bt q23 (by kernel_rfl)) rfl rfl ?_
    refine lv (d := 28) rfl rfl (by kernel_rfl) (e_pick_t (v := .bool true) (bt q23 (by kernel_rfl)) rfl) ?_
    refine lv (d := 29) rfl rfl (by kernel_rfl) (e_move (v := .bool true) (by kernel_rfl)) ?_
    refine lskip (t := 29) (c := true) rfl (by kernel_rfl) rfl (by kernel_rfl) rfl rfl ?_
    refine lskip (t := 29) (c := true) rfl (by kernel_rfl) rfl (by kernel_rfl) rfl rfl ?_
    refine lv (d := 32) rfl rfl (by kernel_rfl) (e_pick_t (v := .bool true) (by kernel_rfl) rfl) ?_
    refine lv (d := 33) rfl rfl (by kernel_rfl) (e_move (v := .bool true) (by kernel_rfl)) ?_
    refine lskip (t := 33) (c := true) rfl (by kernel_rfl) rfl (by kernel_rfl) rfl rfl ?_
    refine lskip (t := 33) (c := true) rfl (by kernel_rfl) rfl (by kernel_rfl) rfl rfl ?_
    refine lv (d := 36) rfl rfl (by kernel_rfl) (e_pick_t (v := .bool true) (by kernel_rfl) rfl) ?_
    refine lv (d := 37) rfl rfl (by kernel_rfl) (e_move (v := .bool true) (by kernel_rfl)) ?_
    refine lskip (t := 37) (c := true) rfl (by kernel_rfl) rfl (by kernel_rfl) rfl rfl ?_
    refine lskip (t := 37) (c := true) rfl (by kernel_rfl) rfl (by kernel_rfl) rfl rfl ?_
    refine lv (d := 40) rfl rfl (by kernel_rfl) (e_pick_t (v := .bool true) (by kernel_rfl) rfl) ?_
    refine wpList_nil ?_
    refine then_n ?_
    refine cond_t rfl (by kernel_rfl) ?_
    refine wp_seq ?_
    refine wp_region_lit ?_
    refine lv (d := 8) rfl rfl (by kernel_rfl) (e_assign (v := .slice none 0 0) rfl) ?_
    refine lv (d := 9) rfl rfl (by kernel_rfl) (e_assign (v := .int .i64 1) rfl) ?_
    refine wpList_nil ?_
    refine then_n ?_
    refine wp_ret ?_
    refine then_r ?_
    obtain rfl := Option.some.inj M
    have S24 := S17.unit
    exact ret2 rfl rfl rfl (show _ = .slice none 0 0 from (by kernel_rfl)) (show _ = .int .i64 1 from (by kernel_rfl)) ⟨none, 0, no, H, rfl, (Row.nil _ _ _ _ no), S24⟩
  replace M := ifn q23 M
  refine lvg (d := 26) (t := 25) rfl (by kernel_rfl) rfl (bf q23 (by kernel_rfl)) rfl (by kernel_rfl) (e_move (v := .int .i64 x6) (by kernel_rfl)) ?_
  refine lvg (d := 27) (t := 25) rfl (by kernel_rfl) rfl (bf q23 (by kernel_rfl)) rfl (by kernel_rfl) (e_lss (k := .i64) (a := x6) (b := 0) (by kernel_rfl) rfl) ?_
  refine lv (d := 28) rfl rfl (by kernel_rfl) (e_pick_f (v := .bool (decide (x6 < 0))) (bf q23 (by kernel_rfl)) (by kernel_rfl)) ?_
  refine lv (d := 29) rfl rfl (by kernel_rfl) (e_move (v := .bool (decide (x6 < 0))) (by kernel_rfl)) ?_
  by_cases q25 : x6 < 0
  · replace M := ifp q25 M
    refine lskip (t := 29) (c := true) rfl (by kernel_rfl) rfl (bt q25 (by kernel_rfl)) rfl rfl ?_
    refine lskip (t := 29) (c := true) rfl (by kernel_rfl) rfl (bt q25 (by kernel_rfl)) rfl rfl ?_
    refine lv (d := 32) rfl rfl (by kernel_rfl) (e_pick_t (v := .bool true) (bt q25 (by kernel_rfl)) rfl) ?_
    refine lv (d := 33) rfl rfl (by kernel_rfl) (e_move (v := .bool true) (by kernel_rfl)) ?_
    refine lskip (t := 33) (c := true) rfl (by kernel_rfl) rfl (by kernel_rfl) rfl rfl ?_
    refine lskip (t := 33) (c := true) rfl (by kernel_rfl) rfl (by kernel_rfl) rfl rfl ?_
    refine lv (d := 36) rfl rfl (by kernel_rfl) (e_pick_t (v := .bool true) (by kernel_rfl) rfl) ?_
    refine lv (d := 37) rfl rfl (by kernel_rfl) (e_move (v := .bool true) (by kernel_rfl)) ?_
    refine lskip (t := 37) (c := true) rfl (by kernel_rfl) rfl (by kernel_rfl) rfl rfl ?_
    refine lskip (t := 37) (c := true) rfl (by kernel_rfl) rfl (by kernel_rfl) rfl rfl ?_
    refine lv (d := 40) rfl rfl (by kernel_rfl) (e_pick_t (v := .bool true) (by kernel_rfl) rfl) ?_
    refine wpList_nil ?_
    refine then_n ?_
    refine cond_t rfl (by kernel_rfl) ?_
    refine wp_seq ?_
    refine wp_region_lit ?_
    refine lv (d := 8) rfl rfl (by kernel_rfl) (e_assign (v := .slice none 0 0) rfl) ?_
    refine lv (d := 9) rfl rfl (by kernel_rfl) (e_assign (v := .int .i64 1) rfl) ?_
    refine wpList_nil ?_
    refine then_n ?_
    refine wp_ret ?_
    refine then_r ?_
    obtain rfl := Option.some.inj M
    have S26 := S17.unit
    exact ret2 rfl rfl rfl (show _ = .slice none 0 0 from (by kernel_rfl)) (show _ = .int .i64 1 from (by kernel_rfl)) ⟨none, 0, no, H, rfl, (Row.nil _ _ _ _ no), S26⟩
  replace M := ifn q25 M
  refine lvg (d := 30) (t := 29) rfl (by kernel_rfl) rfl (bf q25 (by kernel_rfl)) rfl (by kernel_rfl) (e_move (v := .int .i64 x6) (by kernel_rfl)) ?_
  refine lvg (d := 31) (t := 29) rfl (by kernel_rfl) rfl (bf q25 (by kernel_rfl)) rfl (by kernel_rfl) (e_gtr (k := .i64) (a := x6) (b := 1200) (by kernel_rfl) rfl) ?_
  refine lv (d := 32) rfl rfl (by kernel_rfl) (e_pick_f (v := .bool (decide (x6 > 1200))) (bf q25 (by kernel_rfl)) (by kernel_rfl)) ?_
  refine lv (d := 33) rfl rfl (by kernel_rfl) (e_move (v := .bool (decide (x6 > 1200))) (by kernel_rfl)) ?_
  by_cases q27 : x6 > 1200
  · replace M := ifp q27 M
    refine lskip (t := 33) (c := true) rfl (by kernel_rfl) rfl (bt q27 (by kernel_rfl)) rfl rfl ?_
    refine lskip (t := 33) (c := true) rfl (by kernel_rfl) rfl (bt q27 (by kernel_rfl)) rfl rfl ?_
    refine lv (d := 36) rfl rfl (by kernel_rfl) (e_pick_t (v := .bool true) (bt q27 (by kernel_rfl)) rfl) ?_
    refine lv (d := 37) rfl rfl (by kernel_rfl) (e_move (v := .bool true) (by kernel_rfl)) ?_
    refine lskip (t := 37) (c := true) rfl (by kernel_rfl) rfl (by kernel_rfl) rfl rfl ?_
    refine lskip (t := 37) (c := true) rfl (by kernel_rfl) rfl (by kernel_rfl) rfl rfl ?_
    refine lv (d := 40) rfl rfl (by kernel_rfl) (e_pick_t (v := .bool true) (by kernel_rfl) rfl) ?_
    refine wpList_nil ?_
    refine then_n ?_
    refine cond_t rfl (by kernel_rfl) ?_
    refine wp_seq ?_
    refine wp_region_lit ?_
    refine lv (d := 8) rfl rfl (by kernel_rfl) (e_assign (v := .slice none 0 0) rfl) ?_
    refine lv (d := 9) rfl rfl (by kernel_rfl) (e_assign (v := .int .i64 1) rfl) ?_
    refine wpList_nil ?_
    refine then_n ?_
    refine wp_ret ?_
    refine then_r ?_
    obtain rfl := Option.some.inj M
    have S28 := S17.unit
    exact ret2 rfl rfl rfl (show _ = .slice none 0 0 from (by kernel_rfl)) (show _ = .int .i64 1 from (by kernel_rfl)) ⟨none, 0, no, H, rfl, (Row.nil _ _ _ _ no), S28⟩
  replace M := ifn q27 M
  refine lvg (d := 34) (t := 33) rfl (by kernel_rfl) rfl (bf q27 (by kernel_rfl)) rfl (by kernel_rfl) (e_move (v := .int .i64 x7) (by kernel_rfl)) ?_
  refine lvg (d := 35) (t := 33) rfl (by kernel_rfl) rfl (bf q27 (by kernel_rfl)) rfl (by kernel_rfl) (e_lss (k := .i64) (a := x7) (b := 0) (by kernel_rfl) rfl) ?_
  refine lv (d := 36) rfl rfl (by kernel_rfl) (e_pick_f (v := .bool (decide (x7 < 0))) (bf q27 (by kernel_rfl)) (by kernel_rfl)) ?_
  refine lv (d := 37) rfl rfl (by kernel_rfl) (e_move (v := .bool (decide (x7 < 0))) (by kernel_rfl)) ?_
  by_cases q29 : x7 < 0
  · replace M := ifp q29 M
    refine lskip (t := 37) (c := true) rfl (by kernel_rfl) rfl (bt q29 (by kernel_rfl)) rfl rfl ?_
    refine lskip (t := 37) (c := true) rfl (by kernel_rfl) rfl (bt q29 (by kernel_rfl)) rfl rfl ?_
    refine lv (d := 40) rfl rfl (by kernel_rfl) (e_pick_t (v := .bool true) (bt q29 (by kernel_rfl)) rfl) ?_
    refine wpList_nil ?_
    refine then_n ?_
    refine cond_t rfl (by kernel_rfl) ?_
    refine wp_seq ?_
    refine wp_region_lit ?_
    refine lv (d := 8) rfl rfl (by kernel_rfl) (e_assign (v := .slice none 0 0) rfl) ?_
    refine lv (d := 9) rfl rfl (by kernel_rfl) (e_assign (v := .int .i64 1) rfl) ?_
    refine wpList_nil ?_
    refine then_n ?_
    refine wp_ret ?_
    refine then_r ?_
    obtain rfl := Option.some.inj M
    have S30 := S17.unit
    exact ret2 rfl rfl rfl (show _ = .slice none 0 0 from (by kernel_rfl)) (show _ = .int .i64 1 from (by kernel_rfl)) ⟨none, 0, no, H, rfl, (Row.nil _ _ _ _ no), S30⟩
  replace M := ifn q29 M
  refine lvg (d := 38) (t := 37) rfl (by kernel_rfl) rfl (bf q29 (by kernel_rfl)) rfl (by kernel_rfl) (e_move (v := .int .i64 x7) (by kernel_rfl)) ?_
  refine lvg (d := 39) (t := 37) rfl (by kernel_rfl) rfl (bf q29 (by kernel_rfl)) rfl (by kernel_rfl) (e_gtr (k := .i64) (a := x7) (b := 6) (by kernel_rfl) rfl) ?_
  refine lv (d := 40) rfl rfl (by kernel_rfl) (e_pick_f (v := .bool (decide (x7 > 6))) (bf q29 (by kernel_rfl)) (by kernel_rfl)) ?_
  refine wpList_nil ?_
  refine then_n ?_
  by_cases q31 : x7 > 6
  · replace M := ifp q31 M
    refine cond_t rfl (bt q31 (by kernel_rfl)) ?_
    refine wp_seq ?_
    refine wp_region_lit ?_
    refine lv (d := 8) rfl rfl (by kernel_rfl) (e_assign (v := .slice none 0 0) rfl) ?_
    refine lv (d := 9) rfl rfl (by kernel_rfl) (e_assign (v := .int .i64 1) rfl) ?_
    refine wpList_nil ?_
    refine then_n ?_
    refine wp_ret ?_
    refine then_r ?_
    obtain rfl := Option.some.inj M
    have S32 := S17.unit
    exact ret2 rfl rfl rfl (show _ = .slice none 0 0 from (by kernel_rfl)) (show _ = .int .i64 1 from (by kernel_rfl)) ⟨none, 0, no, H, rfl, (Row.nil _ _ _ _ no), S32⟩
  replace M := ifn q31 M
  refine cond_f rfl (bf q31 (by kernel_rfl)) ?_
  refine wp_skip ?_
  refine then_n ?_
  refine wp_seq ?_
  refine wp_seq ?_
  refine wp_region_lit ?_
  refine lv (d := 41) rfl rfl (by kernel_rfl) (e_move (v := .slice A9 x8.length c10) (by kernel_rfl)) ?_
  refine lv (d := 42) rfl rfl (by kernel_rfl) (e_conv_bs (A := A9) (n := x8.length) (c := c10) (xs := x8) Try.underlying32 Try.underlying5 Try.underlying9 (by kernel_rfl) rfl (Rd.bytesE S17.inv h11)) ?_
  refine lv (d := 43) rfl rfl (by kernel_rfl) (e_seql (p := x8) (q := ([44] : List UInt8)) (by kernel_rfl) rfl) ?_
  refine lv (d := 44) rfl rfl (by kernel_rfl) (e_move (v := .bool (decide (x8 = ([44] : List UInt8)))) (by kernel_rfl)) ?_
  by_cases q33 : x8 = ([44] : List UInt8)
  · replace M := ifp q33 M
    refine lskip (t := 44) (c := true) rfl (by kernel_rfl) rfl (bt q33 (by kernel_rfl)) rfl rfl ?_
    refine lskip (t := 44) (c := true) rfl (by kernel_rfl) rfl (bt q33 (by kernel_rfl)) rfl rfl ?_
    refine lv (d := 47) rfl rfl (by kernel_rfl) (e_pick_t (v := .bool true) (bt q33 (by kernel_rfl)) rfl) ?_
    refine wpList_nil ?_
    refine then_n ?_
    refine cond_t rfl (by kernel_rfl) ?_
    refine wp_seq ?_
    refine wp_region_lit ?_
    refine lv (d := 8) rfl rfl (by kernel_rfl) (e_assign (v := .slice none 0 0) rfl) ?_
    refine lv (d := 9) rfl rfl (by kernel_rfl) (e_assign (v := .int .i64 4) rfl) ?_
    refine wpList_nil ?_
    refine then_n ?_
    refine wp_ret ?_
    refine then_r ?_
    obtain rfl := Option.some.inj M
    have S34 := S17.unit
    exact ret2 rfl rfl rfl (show _ = .slice none 0 0 from (by kernel_rfl)) (show _ = .int .i64 4 from (by kernel_rfl)) ⟨none, 0, no, H, rfl, (Row.nil _ _ _ _ no), S34⟩
  replace M := ifn q33 M
  refine lvg (d := 45) (t := 44) rfl (by kernel_rfl) rfl (bf q33 (by kernel_rfl)) rfl (by kernel_rfl) (e_move (v := .slice A9 x8.length c10) (by kernel_rfl)) ?_
  obtain ⟨t35, u36, M⟩ := bnd M
  refine lcallg (d := 46) (t := 44) rfl (by kernel_rfl) rfl (bf q33 (by kernel_rfl)) rfl (by kernel_rfl) (e_call (l := [.tmp 45]) (vs := [.slice A9 x8.length c10]) Try.func24 (by kernel_rfl) rfl (by kernel_rfl) rfl) (spec_l3special.calls w15 H x8 A9 c10 h11 l12 S17.own0 t35 u36) ?_
  rintro _ w37 ⟨rfl, C38⟩
  refine ⟨_, rfl, ?_⟩
  obtain ⟨S39, K40⟩ := S17.still C38
  refine lv (d := 47) rfl rfl (by kernel_rfl) (e_pick_f (v := .bool t35) (bf q33 (by kernel_rfl)) (by kernel_rfl)) ?_
  refine wpList_nil ?_
  refine then_n ?_
  by_cases q41 : t35 = true
  · replace M := ifp q41 M
    refine cond_t rfl (bvt q41 (by kernel_rfl)) ?_
    refine wp_seq ?_
    refine wp_region_lit ?_
    refine lv (d := 8) rfl rfl (by kernel_rfl) (e_assign (v := .slice none 0 0) rfl) ?_
    refine lv (d := 9) rfl rfl (by kernel_rfl) (e_assign (v := .int .i64 4) rfl) ?_
    refine wpList_nil ?_
    refine then_n ?_
    refine wp_ret ?_
    refine then_r ?_
    obtain rfl := Option.some.inj M
    have S42 := S39.unit
    exact ret2 rfl rfl rfl (show _ = .slice none 0 0 from (by kernel_rfl)) (show _ = .int .i64 4 from (by kernel_rfl)) ⟨none, 0, no, H, rfl, (Row.nil _ _ _ _ no), S42⟩
  replace M := ifn q41 M
  refine cond_f rfl (bvf q41 (by kernel_rfl)) ?_
  refine wp_skip ?_
  refine then_n ?_
  refine wp_seq ?_
  refine wp_region_lit ?_
  refine lv (d := 48) rfl rfl (by kernel_rfl) (e_move (v := .slice A2 x1.length c3) (by kernel_rfl)) ?_
  refine lv (d := 49) rfl rfl (by kernel_rfl) (e_move (v := .slice A9 x8.length c10) (by kernel_rfl)) ?_
  obtain ⟨t43, u44, M⟩ := bnd M
  refine lcall (d := 50) rfl rfl (by kernel_rfl) (e_call (l := [.tmp 48, .tmp 49, .const (.bool false)]) (vs := [.slice A2 x1.length c3, .slice A9 x8.length c10, .bool false]) Try.func34 (by kernel_rfl) rfl (by kernel_rfl) rfl) (spec_l3find.calls k w37 H x1 A2 c3 x8 A9 c10 false h4 l5 h11 l12 S39.own0 t43 u44) ?_
  rintro _ w45 ⟨rfl, C46⟩
  refine ⟨_, rfl, ?_⟩
  obtain ⟨S47, K48⟩ := S39.still C46
  refine lv (d := 10) rfl rfl (by kernel_rfl) (e_assign (v := .int .i64 t43) (by kernel_rfl)) ?_
  refine wpList_nil ?_
  refine then_n ?_
  refine wp_seq ?_
  refine wp_seq ?_
  refine wp_region_lit ?_
  refine lv (d := 51) rfl rfl (by kernel_rfl) (e_move (v := .int .i64 x7) (by kernel_rfl)) ?_
  obtain ⟨t49, u50, M⟩ := bnd M
  refine lcall (d := 52) rfl rfl (by kernel_rfl) (e_call (l := [.tmp 51]) (vs := [.int .i64 x7]) Try.func25 (by kernel_rfl) rfl (by kernel_rfl) rfl) (spec_l3prefix.calls w45 H x7  S47.own0 t49 u50) ?_
  rintro _ w51 ⟨rfl, C52⟩
  refine ⟨_, rfl, ?_⟩
  obtain ⟨S53, K54⟩ := S47.still C52
  refine lv (d := 53) rfl rfl (by kernel_rfl) (e_notv (c := t49) (by kernel_rfl)) ?_
  refine lv (d := 54) rfl rfl (by kernel_rfl) (e_move (v := .bool (decide (¬ (t49 = true)))) (by kernel_rfl)) ?_
  by_cases q55 : ¬ (t49 = true)
  · replace M := ifp q55 M
    refine lvg (d := 55) (t := 54) rfl (by kernel_rfl) rfl (bt q55 (by kernel_rfl)) rfl (by kernel_rfl) (e_move (v := .int .i64 t43) (by kernel_rfl)) ?_
    refine lvg (d := 56) (t := 54) rfl (by kernel_rfl) rfl (bt q55 (by kernel_rfl)) rfl (by kernel_rfl) (e_geq (k := .i64) (a := t43) (b := 0) (by kernel_rfl) rfl) ?_
    refine lv (d := 57) rfl rfl (by kernel_rfl) (e_pick_t (v := .bool (decide (t43 ≥ 0))) (bt q55 (by kernel_rfl)) (by kernel_rfl)) ?_
    refine lv (d := 58) rfl rfl (by kernel_rfl) (e_move (v := .bool (decide (t43 ≥ 0))) (by kernel_rfl)) ?_
    by_cases q56 : t43 ≥ 0
    · replace M := ifp q56 M
      refine lvg (d := 59) (t := 58) rfl (by kernel_rfl) rfl (bt q56 (by kernel_rfl)) rfl (by kernel_rfl) (e_move (v := .slice A2 x1.length c3) (by kernel_rfl)) ?_
      refine lvg (d := 60) (t := 58) rfl (by kernel_rfl) rfl (bt q56 (by kernel_rfl)) rfl (by kernel_rfl) (e_move (v := .int .i64 t43) (by kernel_rfl)) ?_
      obtain ⟨q57, M⟩ := chk M
      obtain ⟨q58, M⟩ := chk M
      obtain ⟨b59, o60, e61⟩ := Rd.addr h4 (show (t43).toNat < x1.length by omega)
      obtain ⟨y62, r63, k64⟩ := Rd.at h4 e61 (getD_some z45 (show (t43).toNat < x1.length by omega))
      obtain ⟨A65, c66, rfl, l67, h68⟩ := st45_open r63
      refine lvg (d := 61) (t := 58) rfl (by kernel_rfl) rfl (bt q56 (by kernel_rfl)) rfl (by kernel_rfl) (e_indexAddr (b := b59) (off := o60) (n := x1.length) (c := c3) (sz := 3) (i := t43) (k := .i64) Try.underlying25 e61 (by kernel_rfl) (by kernel_rfl) (by kernel_rfl) q57 q58) ?_
      refine lvg (d := 62) (t := 58) rfl (by kernel_rfl) rfl (bt q56 (by kernel_rfl)) rfl (by kernel_rfl) (e_fieldAddr (b := b59) (off := o60 + (t43 : Int).toNat * 3) (o := 2) Try.underlying45 rfl rfl (sz := 1) (by kernel_rfl) (by decide) (by kernel_rfl)) ?_
      refine lvg (d := 63) (t := 58) rfl (by kernel_rfl) rfl (bt q56 (by kernel_rfl)) rfl (by kernel_rfl) (e_load1 (ad := ⟨b59, o60 + (t43 : Int).toNat * 3 + 2, none⟩) (v := .int .i64 ((x1.getD ((t43).toNat) z45).typ)) Try.underlying3 rfl (by kernel_rfl) (hpx (S53.inv.cell (k64 2 _ rfl)))) ?_
      obtain ⟨t69, u70, M⟩ := bnd M
      refine lcallg (d := 64) (t := 58) rfl (by kernel_rfl) rfl (bt q56 (by kernel_rfl)) rfl (by kernel_rfl) (e_call (l := [.tmp 63]) (vs := [.int .i64 ((x1.getD ((t43).toNat) z45).typ)]) Try.func35 (by kernel_rfl) rfl (by kernel_rfl) rfl) (spec_l3infix.calls w51 H ((x1.getD ((t43).toNat) z45).typ)  S53.own0 t69 u70) ?_
      rintro _ w71 ⟨rfl, C72⟩
      refine ⟨_, rfl, ?_⟩
      obtain ⟨S73, K74⟩ := S53.still C72
      refine lvg (d := 65) (t := 58) rfl (by kernel_rfl) rfl (bt q56 (by kernel_rfl)) rfl (by kernel_rfl) (e_move (v := .int .i64 x7) (by kernel_rfl)) ?_
      obtain ⟨t75, u76, M⟩ := bnd M
      refine lcallg (d := 66) (t := 58) rfl (by kernel_rfl) rfl (bt q56 (by kernel_rfl)) rfl (by kernel_rfl) (e_call (l := [.tmp 65]) (vs := [.int .i64 x7]) Try.func35 (by kernel_rfl) rfl (by kernel_rfl) rfl) (spec_l3infix.calls w71 H x7  S73.own0 t75 u76) ?_
      rintro _ w77 ⟨rfl, C78⟩
      refine ⟨_, rfl, ?_⟩
      obtain ⟨S79, K80⟩ := S73.still C78
      refine lvg (d := 67) (t := 58) rfl (by kernel_rfl) rfl (bt q56 (by kernel_rfl)) rfl (by kernel_rfl) (e_bneq (p := t69) (q := t75) Try.underlying4 (by kernel_rfl) (by kernel_rfl)) ?_
      refine lv (d := 68) rfl rfl (by kernel_rfl) (e_pick_t (v := .bool (decide (t69 ≠ t75))) (bt q56 (by kernel_rfl)) (by kernel_rfl)) ?_
      refine wpList_nil ?_
      refine then_n ?_
      by_cases q81 : t69 ≠ t75
      · replace M := ifp q81 M
        refine cond_t rfl (bt q81 (by kernel_rfl)) ?_
        refine wp_seq ?_
        refine wp_region_lit ?_
        refine lv (d := 8) rfl rfl (by kernel_rfl) (e_assign (v := .slice none 0 0) rfl) ?_
        refine lv (d := 9) rfl rfl (by kernel_rfl) (e_assign (v := .int .i64 4) rfl) ?_
        refine wpList_nil ?_
        refine then_n ?_
        refine wp_ret ?_
        refine then_r ?_
        obtain rfl := Option.some.inj M
        have S82 := S79.unit
        exact ret2 rfl rfl rfl (show _ = .slice none 0 0 from (by kernel_rfl)) (show _ = .int .i64 4 from (by kernel_rfl)) ⟨none, 0, no, H, rfl, (Row.nil _ _ _ _ no), S82⟩
      replace M := ifn q81 M
      refine cond_f rfl (bf q81 (by kernel_rfl)) ?_
      refine wp_skip ?_
      refine then_n ?_
      refine wp_seq ?_
      refine wp_region_lit ?_
      refine lv (d := 69) rfl rfl (by kernel_rfl) (e_move (v := .slice A2 x1.length c3) (by kernel_rfl)) ?_
      obtain ⟨t83, u84, M⟩ := bnd M
      refine lcall (d := 70) rfl rfl (by kernel_rfl) (e_call (l := [.tmp 69]) (vs := [.slice A2 x1.length c3]) Try.func36 (by kernel_rfl) rfl (by kernel_rfl) rfl) (spec_l3copy.calls k w77 H x1 A2 c3 h4 l5 (St.own' (Fa := []) (Fr := []) S79) t83 u84) ?_
      rintro _ w85 ⟨A88, c89, F91, H86, rfl, h90, T87⟩
      refine ⟨_, rfl, ?_⟩
      obtain ⟨S92, K93⟩ := St.call (Fa := []) (Fr := []) S79 T87
      have E94 := T87.ext
      refine lv (d := 71) rfl rfl (by kernel_rfl) (e_move (v := .slice A9 x8.length c10) (by kernel_rfl)) ?_
      obtain ⟨t95, u96, M⟩ := bnd M
      refine lcall (d := 72) rfl rfl (by kernel_rfl) (e_call (l := [.tmp 71]) (vs := [.slice A9 x8.length c10]) Try.func37 (by kernel_rfl) rfl (by kernel_rfl) rfl) (spec_l1copy.calls w85 H86 x8 A9 c10 (h11.ext E94) l12 (St.own' (Fa := []) (Fr := [F91]) S92) t95 u96) ?_
      rintro _ w97 ⟨A100, c101, F103, H98, rfl, h102, T99⟩
      refine ⟨_, rfl, ?_⟩
      obtain ⟨S104, K105⟩ := St.call (Fa := []) (Fr := [F91]) S92 T99
      replace h90 := h90.move (K105.at 0 rfl)
      have E106 := T99.ext
      replace h90 := h90.ext E106
      refine lv (d := 73) rfl rfl (by kernel_rfl) (e_move (v := .int .i64 x6) (by kernel_rfl)) ?_
      refine lv (d := 74) rfl rfl (by kernel_rfl) (e_move (v := .int .i64 x7) (by kernel_rfl)) ?_
      refine lv (d := 75) rfl rfl (by kernel_rfl) (show _ = Result.ok (Next.value (.agg #[.slice A100 t95.length c101, .int .i64 x6, .int .i64 x7])) w97 from by kernel_rfl) ?_
      have l107 := h90.le
      have S108 := S104.pull (F := F91) (Fr := [F103]) 1 rfl rfl
      obtain ⟨H109, S110, E111, h112, z113⟩ := S108.frzRow h90
      replace h102 := h102.ext E111
      have l114 := h102.le
      obtain ⟨H115, S116, E117, h118, z119⟩ := S110.frzRow h102
      obtain ⟨t120, u121, M⟩ := bnd M
      refine lcall (d := 76) rfl rfl (by kernel_rfl) (e_call (l := [.tmp 70, .tmp 75]) (vs := [.slice A88 t83.length c89, .agg #[.slice A100 t95.length c101, .int .i64 x6, .int .i64 x7]]) Try.func30 (by kernel_rfl) rfl (by kernel_rfl) rfl) (spec_l3put.calls k w97 H115 t83 A88 c89 (⟨t95, x6, x7⟩ : Sy.Op) A100 c101 (h112.ext E117) l107 h118 l114 (St.own' (Fa := []) (Fr := []) S116) t120 u121) ?_
      rintro _ w122 ⟨A125, c126, F128, H123, rfl, h127, T124⟩
      refine ⟨_, rfl, ?_⟩
      obtain ⟨S129, K130⟩ := St.call (Fa := []) (Fr := []) S116 T124
      have E131 := T124.ext
      refine lv (d := 11) rfl rfl (by kernel_rfl) (e_assign (v := .slice A125 t120.length c126) (by kernel_rfl)) ?_
      refine wpList_nil ?_
      refine then_n ?_
      refine wp_seq ?_
      refine wp_seq ?_
      refine wp_region_lit ?_
      refine lv (d := 77) rfl rfl (by kernel_rfl) (e_move (v := .slice A125 t120.length c126) (by kernel_rfl)) ?_
      refine lv (d := 78) rfl rfl (by kernel_rfl) (e_len (A := A125) (n := t120.length) (c := c126) Try.underlying25 (by kernel_rfl)) ?_
      refine lv (d := 79) rfl rfl (by kernel_rfl) (e_gtr (k := .i64) (a := (t120.length : Int)) (b := 200) (by kernel_rfl) rfl) ?_
      refine wpList_nil ?_
      refine then_n ?_
      by_cases q132 : (t120.length : Int) > 200
      · replace M := ifp q132 M
        refine cond_t rfl (bt q132 (by kernel_rfl)) ?_
        refine wp_seq ?_
        refine wp_region_lit ?_
        refine lv (d := 8) rfl rfl (by kernel_rfl) (e_assign (v := .slice none 0 0) rfl) ?_
        refine lv (d := 9) rfl rfl (by kernel_rfl) (e_assign (v := .int .i64 3) rfl) ?_
        refine wpList_nil ?_
        refine then_n ?_
        refine wp_ret ?_
        refine then_r ?_
        obtain rfl := Option.some.inj M
        have S133 := S129.unit
        have S134 := St.first (Fa := [no]) (Fr := [F128]) S133
        exact ret2 rfl rfl rfl (show _ = .slice none 0 0 from (by kernel_rfl)) (show _ = .int .i64 3 from (by kernel_rfl)) ⟨none, 0, no, H123, rfl, (Row.nil _ _ _ _ no), S134⟩
      replace M := ifn q132 M
      refine cond_f rfl (bf q132 (by kernel_rfl)) ?_
      refine wp_skip ?_
      refine then_n ?_
      refine wp_seq ?_
      refine wp_region_lit ?_
      refine lv (d := 80) rfl rfl (by kernel_rfl) (e_move (v := .slice A125 t120.length c126) (by kernel_rfl)) ?_
      refine lv (d := 8) rfl rfl (by kernel_rfl) (e_assign (v := .slice A125 t120.length c126) (by kernel_rfl)) ?_
      refine lv (d := 9) rfl rfl (by kernel_rfl) (e_assign (v := .int .i64 0) rfl) ?_
      refine wpList_nil ?_
      refine then_n ?_
      refine wp_ret ?_
      obtain rfl := Option.some.inj M
      exact ret2 rfl rfl rfl (show _ = .slice A125 t120.length c126 from (by kernel_rfl)) (show _ = .int .i64 0 from (by kernel_rfl)) ⟨A125, c126, F128, H123, rfl, h127, S129⟩
    replace M := ifn q56 M
    refine lskip (t := 58) (c := false) rfl (by kernel_rfl) rfl (bf q56 (by kernel_rfl)) rfl rfl ?_
    refine lskip (t := 58) (c := false) rfl (by kernel_rfl) rfl (bf q56 (by kernel_rfl)) rfl rfl ?_
    refine lskip (t := 58) (c := false) rfl (by kernel_rfl) rfl (bf q56 (by kernel_rfl)) rfl rfl ?_
    refine lskip (t := 58) (c := false) rfl (by kernel_rfl) rfl (bf q56 (by kernel_rfl)) rfl rfl ?_
    refine lskip (t := 58) (c := false) rfl (by kernel_rfl) rfl (bf q56 (by kernel_rfl)) rfl rfl ?_
    refine lskip (t := 58) (c := false) rfl (by kernel_rfl) rfl (bf q56 (by kernel_rfl)) rfl rfl ?_
    refine lskip (t := 58) (c := false) rfl (by kernel_rfl) rfl (bf q56 (by kernel_rfl)) rfl rfl ?_
    refine lskip (t := 58) (c := false) rfl (by kernel_rfl) rfl (bf q56 (by kernel_rfl)) rfl rfl ?_
    refine lskip (t := 58) (c := false) rfl (by kernel_rfl) rfl (bf q56 (by kernel_rfl)) rfl rfl ?_
    refine lv (d := 68) rfl rfl (by kernel_rfl) (e_pick_f (v := .bool false) (bf q56 (by kernel_rfl)) rfl) ?_
    refine wpList_nil ?_
    refine then_n ?_
    refine cond_f rfl (by kernel_rfl) ?_
    refine wp_skip ?_
    refine then_n ?_
    refine wp_seq ?_
    refine wp_region_lit ?_
    refine lv (d := 69) rfl rfl (by kernel_rfl) (e_move (v := .slice A2 x1.length c3) (by kernel_rfl)) ?_
    obtain ⟨t135, u136, M⟩ := bnd M
    refine lcall (d := 70) rfl rfl (by kernel_rfl) (e_call (l := [.tmp 69]) (vs := [.slice A2 x1.length c3]) Try.func36 (by kernel_rfl) rfl (by kernel_rfl) rfl) (spec_l3copy.calls k w51 H x1 A2 c3 h4 l5 (St.own' (Fa := []) (Fr := []) S53) t135 u136) ?_
    rintro _ w137 ⟨A140, c141, F143, H138, rfl, h142, T139⟩
    refine ⟨_, rfl, ?_⟩
    obtain ⟨S144, K145⟩ := St.call (Fa := []) (Fr := []) S53 T139
    have E146 := T139.ext
    refine lv (d := 71) rfl rfl (by kernel_rfl) (e_move (v := .slice A9 x8.length c10) (by kernel_rfl)) ?_
    obtain ⟨t147, u148, M⟩ := bnd M
    refine lcall (d := 72) rfl rfl (by kernel_rfl) (e_call (l := [.tmp 71]) (vs := [.slice A9 x8.length c10]) Try.func37 (by kernel_rfl) rfl (by kernel_rfl) rfl) (spec_l1copy.calls w137 H138 x8 A9 c10 (h11.ext E146) l12 (St.own' (Fa := []) (Fr := [F143]) S144) t147 u148) ?_
    rintro _ w149 ⟨A152, c153, F155, H150, rfl, h154, T151⟩
    refine ⟨_, rfl, ?_⟩
    obtain ⟨S156, K157⟩ := St.call (Fa := []) (Fr := [F143]) S144 T151
    replace h142 := h142.move (K157.at 0 rfl)
    have E158 := T151.ext
    replace h142 := h142.ext E158
    refine lv (d := 73) rfl rfl (by kernel_rfl) (e_move (v := .int .i64 x6) (by kernel_rfl)) ?_
    refine lv (d := 74) rfl rfl (by kernel_rfl) (e_move (v := .int .i64 x7) (by kernel_rfl)) ?_
    refine lv (d := 75) rfl rfl (by kernel_rfl) (show _ = Result.ok (Next.value (.agg #[.slice A152 t147.length c153, .int .i64 x6, .int .i64 x7])) w149 from by kernel_rfl) ?_
    have l159 := h142.le
    have S160 := S156.pull (F := F143) (Fr := [F155]) 1 rfl rfl
    obtain ⟨H161, S162, E163, h164, z165⟩ := S160.frzRow h142
    replace h154 := h154.ext E163
    have l166 := h154.le
    obtain ⟨H167, S168, E169, h170, z171⟩ := S162.frzRow h154
    obtain ⟨t172, u173, M⟩ := bnd M
    refine lcall (d := 76) rfl rfl (by kernel_rfl) (e_call (l := [.tmp 70, .tmp 75]) (vs := [.slice A140 t135.length c141, .agg #[.slice A152 t147.length c153, .int .i64 x6, .int .i64 x7]]) Try.func30 (by kernel_rfl) rfl (by kernel_rfl) rfl) (spec_l3put.calls k w149 H167 t135 A140 c141 (⟨t147, x6, x7⟩ : Sy.Op) A152 c153 (h164.ext E169) l159 h170 l166 (St.own' (Fa := []) (Fr := []) S168) t172 u173) ?_
    rintro _ w174 ⟨A177, c178, F180, H175, rfl, h179, T176⟩
    refine ⟨_, rfl, ?_⟩
    obtain ⟨S181, K182⟩ := St.call (Fa := []) (Fr := []) S168 T176
    have E183 := T176.ext
    refine lv (d := 11) rfl rfl (by kernel_rfl) (e_assign (v := .slice A177 t172.length c178) (by kernel_rfl)) ?_
    refine wpList_nil ?_
    refine then_n ?_
    refine wp_seq ?_
    refine wp_seq ?_
    refine wp_region_lit ?_
    refine lv (d := 77) rfl rfl (by kernel_rfl) (e_move (v := .slice A177 t172.length c178) (by kernel_rfl)) ?_
    refine lv (d := 78) rfl rfl (by kernel_rfl) (e_len (A := A177) (n := t172.length) (c := c178) Try.underlying25 (by kernel_rfl)) ?_
    refine lv (d := 79) rfl rfl (by kernel_rfl) (e_gtr (k := .i64) (a := (t172.length : Int)) (b := 200) (by kernel_rfl) rfl) ?_
    refine wpList_nil ?_
    refine then_n ?_
    by_cases q184 : (t172.length : Int) > 200
    · replace M := ifp q184 M
      refine cond_t rfl (bt q184 (by kernel_rfl)) ?_
      refine wp_seq ?_
      refine wp_region_lit ?_
      refine lv (d := 8) rfl rfl (by kernel_rfl) (e_assign (v := .slice none 0 0) rfl) ?_
      refine lv (d := 9) rfl rfl (by kernel_rfl) (e_assign (v := .int .i64 3) rfl) ?_
      refine wpList_nil ?_
      refine then_n ?_
      refine wp_ret ?_
      refine then_r ?_
      obtain rfl := Option.some.inj M
      have S185 := S181.unit
      have S186 := St.first (Fa := [no]) (Fr := [F180]) S185
      exact ret2 rfl rfl rfl (show _ = .slice none 0 0 from (by kernel_rfl)) (show _ = .int .i64 3 from (by kernel_rfl)) ⟨none, 0, no, H175, rfl, (Row.nil _ _ _ _ no), S186⟩
    replace M := ifn q184 M
    refine cond_f rfl (bf q184 (by kernel_rfl)) ?_
    refine wp_skip ?_
    refine then_n ?_
    refine wp_seq ?_
    refine wp_region_lit ?_
    refine lv (d := 80) rfl rfl (by kernel_rfl) (e_move (v := .slice A177 t172.length c178) (by kernel_rfl)) ?_
    refine lv (d := 8) rfl rfl (by kernel_rfl) (e_assign (v := .slice A177 t172.length c178) (by kernel_rfl)) ?_
    refine lv (d := 9) rfl rfl (by kernel_rfl) (e_assign (v := .int .i64 0) rfl) ?_
    refine wpList_nil ?_
    refine then_n ?_
    refine wp_ret ?_
    obtain rfl := Option.some.inj M
    exact ret2 rfl rfl rfl (show _ = .slice A177 t172.length c178 from (by kernel_rfl)) (show _ = .int .i64 0 from (by kernel_rfl)) ⟨A177, c178, F180, H175, rfl, h179, S181⟩
  replace M := ifn q55 M
  refine lskip (t := 54) (c := false) rfl (by kernel_rfl) rfl (bf q55 (by kernel_rfl)) rfl rfl ?_
  refine lskip (t := 54) (c := false) rfl (by kernel_rfl) rfl (bf q55 (by kernel_rfl)) rfl rfl ?_
  refine lv (d := 57) rfl rfl (by kernel_rfl) (e_pick_f (v := .bool false) (bf q55 (by kernel_rfl)) rfl) ?_
  refine lv (d := 58) rfl rfl (by kernel_rfl) (e_move (v := .bool false) (by kernel_rfl)) ?_
  refine lskip (t := 58) (c := false) rfl (by kernel_rfl) rfl (by kernel_rfl) rfl rfl ?_
  refine lskip (t := 58) (c := false) rfl (by kernel_rfl) rfl (by kernel_rfl) rfl rfl ?_
  refine lskip (t := 58) (c := false) rfl (by kernel_rfl) rfl (by kernel_rfl) rfl rfl ?_
  refine lskip (t := 58) (c := false) rfl (by kernel_rfl) rfl (by kernel_rfl) rfl rfl ?_
  refine lskip (t := 58) (c := false) rfl (by kernel_rfl) rfl (by kernel_rfl) rfl rfl ?_
  refine lskip (t := 58) (c := false) rfl (by kernel_rfl) rfl (by kernel_rfl) rfl rfl ?_
  refine lskip (t := 58) (c := false) rfl (by kernel_rfl) rfl (by kernel_rfl) rfl rfl ?_
  refine lskip (t := 58) (c := false) rfl (by kernel_rfl) rfl (by kernel_rfl) rfl rfl ?_
  refine lskip (t := 58) (c := false) rfl (by kernel_rfl) rfl (by kernel_rfl) rfl rfl ?_
  refine lv (d := 68) rfl rfl (by kernel_rfl) (e_pick_f (v := .bool false) (by kernel_rfl) rfl) ?_
  refine wpList_nil ?_
  refine then_n ?_
  refine cond_f rfl (by kernel_rfl) ?_
  refine wp_skip ?_
  refine then_n ?_
  refine wp_seq ?_
  refine wp_region_lit ?_
  refine lv (d := 69) rfl rfl (by kernel_rfl) (e_move (v := .slice A2 x1.length c3) (by kernel_rfl)) ?_
  obtain ⟨t187, u188, M⟩ := bnd M
  refine lcall (d := 70) rfl rfl (by kernel_rfl) (e_call (l := [.tmp 69]) (vs := [.slice A2 x1.length c3]) Try.func36 (by kernel_rfl) rfl (by kernel_rfl) rfl) (spec_l3copy.calls k w51 H x1 A2 c3 h4 l5 (St.own' (Fa := []) (Fr := []) S53) t187 u188) ?_
  rintro _ w189 ⟨A192, c193, F195, H190, rfl, h194, T191⟩
  refine ⟨_, rfl, ?_⟩
  obtain ⟨S196, K197⟩ := St.call (Fa := []) (Fr := []) S53 T191
  have E198 := T191.ext
  refine lv (d := 71) rfl rfl (by kernel_rfl) (e_move (v := .slice A9 x8.length c10) (by kernel_rfl)) ?_
  obtain ⟨t199, u200, M⟩ := bnd M
  refine lcall (d := 72) rfl rfl (by kernel_rfl) (e_call (l := [.tmp 71]) (vs := [.slice A9 x8.length c10]) Try.func37 (by kernel_rfl) rfl (by kernel_rfl) rfl) (spec_l1copy.calls w189 H190 x8 A9 c10 (h11.ext E198) l12 (St.own' (Fa := []) (Fr := [F195]) S196) t199 u200) ?_
  rintro _ w201 ⟨A204, c205, F207, H202, rfl, h206, T203⟩
  refine ⟨_, rfl, ?_⟩
  obtain ⟨S208, K209⟩ := St.call (Fa := []) (Fr := [F195]) S196 T203
  replace h194 := h194.move (K209.at 0 rfl)
  have E210 := T203.ext
  replace h194 := h194.ext E210
  refine lv (d := 73) rfl rfl (by kernel_rfl) (e_move (v := .int .i64 x6) (by kernel_rfl)) ?_
  refine lv (d := 74) rfl rfl (by kernel_rfl) (e_move (v := .int .i64 x7) (by kernel_rfl)) ?_
  refine lv (d := 75) rfl rfl (by kernel_rfl) (show _ = Result.ok (Next.value (.agg #[.slice A204 t199.length c205, .int .i64 x6, .int .i64 x7])) w201 from by kernel_rfl) ?_
  have l211 := h194.le
  have S212 := S208.pull (F := F195) (Fr := [F207]) 1 rfl rfl
  obtain ⟨H213, S214, E215, h216, z217⟩ := S212.frzRow h194
  replace h206 := h206.ext E215
  have l218 := h206.le
  obtain ⟨H219, S220, E221, h222, z223⟩ := S214.frzRow h206
  obtain ⟨t224, u225, M⟩ := bnd M
  refine lcall (d := 76) rfl rfl (by kernel_rfl) (e_call (l := [.tmp 70, .tmp 75]) (vs := [.slice A192 t187.length c193, .agg #[.slice A204 t199.length c205, .int .i64 x6, .int .i64 x7]]) Try.func30 (by kernel_rfl) rfl (by kernel_rfl) rfl) (spec_l3put.calls k w201 H219 t187 A192 c193 (⟨t199, x6, x7⟩ : Sy.Op) A204 c205 (h216.ext E221) l211 h222 l218 (St.own' (Fa := []) (Fr := []) S220) t224 u225) ?_
  rintro _ w226 ⟨A229, c230, F232, H227, rfl, h231, T228⟩
  refine ⟨_, rfl, ?_⟩
  obtain ⟨S233, K234⟩ := St.call (Fa := []) (Fr := []) S220 T228
  have E235 := T228.ext
  refine lv (d := 11) rfl rfl (by kernel_rfl) (e_assign (v := .slice A229 t224.length c230) (by kernel_rfl)) ?_
  refine wpList_nil ?_
  refine then_n ?_
  refine wp_seq ?_
  refine wp_seq ?_
  refine wp_region_lit ?_
  refine lv (d := 77) rfl rfl (by kernel_rfl) (e_move (v := .slice A229 t224.length c230) (by kernel_rfl)) ?_
  refine lv (d := 78) rfl rfl (by kernel_rfl) (e_len (A := A229) (n := t224.length) (c := c230) Try.underlying25 (by kernel_rfl)) ?_
  refine lv (d := 79) rfl rfl (by kernel_rfl) (e_gtr (k := .i64) (a := (t224.length : Int)) (b := 200) (by kernel_rfl) rfl) ?_
  refine wpList_nil ?_
  refine then_n ?_
  by_cases q236 : (t224.length : Int) > 200
  · replace M := ifp q236 M
    refine cond_t rfl (bt q236 (by kernel_rfl)) ?_
    refine wp_seq ?_
    refine wp_region_lit ?_
    refine lv (d := 8) rfl rfl (by kernel_rfl) (e_assign (v := .slice none 0 0) rfl) ?_
    refine lv (d := 9) rfl rfl (by kernel_rfl) (e_assign (v := .int .i64 3) rfl) ?_
    refine wpList_nil ?_
    refine then_n ?_
    refine wp_ret ?_
    refine then_r ?_
    obtain rfl := Option.some.inj M
    have S237 := S233.unit
    have S238 := St.first (Fa := [no]) (Fr := [F232]) S237
    exact ret2 rfl rfl rfl (show _ = .slice none 0 0 from (by kernel_rfl)) (show _ = .int .i64 3 from (by kernel_rfl)) ⟨none, 0, no, H227, rfl, (Row.nil _ _ _ _ no), S238⟩
  replace M := ifn q236 M
  refine cond_f rfl (bf q236 (by kernel_rfl)) ?_
  refine wp_skip ?_
  refine then_n ?_
  refine wp_seq ?_
  refine wp_region_lit ?_
  refine lv (d := 80) rfl rfl (by kernel_rfl) (e_move (v := .slice A229 t224.length c230) (by kernel_rfl)) ?_
  refine lv (d := 8) rfl rfl (by kernel_rfl) (e_assign (v := .slice A229 t224.length c230) (by kernel_rfl)) ?_
  refine lv (d := 9) rfl rfl (by kernel_rfl) (e_assign (v := .int .i64 0) rfl) ?_
  refine wpList_nil ?_
  refine then_n ?_
  refine wp_ret ?_
  obtain rfl := Option.some.inj M
  exact ret2 rfl rfl rfl (show _ = .slice A229 t224.length c230 from (by kernel_rfl)) (show _ = .int .i64 0 from (by kernel_rfl)) ⟨A229, c230, F232, H227, rfl, h231, S233⟩
end Go.Proofs.Ytminnekeekhjcaa
