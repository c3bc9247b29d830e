import Derived.Test.YtminnekeekhjcaaProg
import Derived.Test.YtminnekeekhjcaaY10
namespace Go.Proofs.Ytminnekeekhjcaa
open Go.Sx Go.Sy
attribute [local irreducible] Go.wpList Go.wpStill Go.wpQuiet Go.Code.wp
set_option maxRecDepth 100000
set_option maxHeartbeats 1000000
set_option linter.unusedVariables false
set_option linter.unusedSimpArgs false

/-! laws_szByteS -/
def sl5 : Ty (List UInt8) := slice 5 tByte (by decide)
def st44 : Ty Sy.Op := iso (pair sl5 (pair tInt tInt)) (fun x => (x.name, x.pri, x.typ))
theorem st44_open {H : Hp} {x : Sy.Op} {cs : List Value} (h : st44.R H x cs) : ∃ (A0 : Option Addr) (c0 : Nat), cs = [.slice A0 x.name.length c0, .int .i64 x.pri, .int .i64 x.typ] ∧ x.name.length ≤ c0 ∧ Rd tByte H A0 x.name := by
  obtain ⟨_, _, rfl, ⟨A0, c0, rfl, l0, h0⟩, ⟨_, _, rfl, rfl, rfl⟩⟩ := h
  exact ⟨A0, c0, rfl, l0, h0⟩
theorem st44_mkR {H : Hp} {x : Sy.Op} {A0 : Option Addr} {c0 : Nat} (l0 : x.name.length ≤ c0) (h0 : Rd tByte H A0 x.name) : st44.R H x [.slice A0 x.name.length c0, .int .i64 x.pri, .int .i64 x.typ] := ⟨[.slice A0 x.name.length c0], [.int .i64 x.pri, .int .i64 x.typ], rfl, ⟨A0, c0, rfl, l0, h0⟩, ⟨[.int .i64 x.pri], [.int .i64 x.typ], rfl, rfl, rfl⟩⟩
theorem st44_mkO {H X : Hp} {F0 : Foot} {x : Sy.Op} {A0 : Option Addr} {c0 : Nat} (h0 : Row tByte 5 H X F0 A0 c0 x.name) : st44.O H X F0 x [.slice A0 x.name.length c0, .int .i64 x.pri, .int .i64 x.typ] := (pairO1 (a := sl5) (b := (pair tInt tInt)) (x := (x.name, (x.pri, x.typ))) (c0 := [.slice A0 x.name.length c0]) (c1 := [.int .i64 x.pri, .int .i64 x.typ]) ⟨A0, c0, rfl, h0⟩ (pairO0 (a := tInt) (b := tInt) (x := (x.pri, x.typ)) (c0 := [.int .i64 x.pri]) (c1 := [.int .i64 x.typ]) (F := no) rfl rfl))
theorem st44_openO {H X : Hp} {F : Foot} {x : Sy.Op} {cs : List Value} (h : st44.O H X F x cs) : ∃ (A0 : Option Addr) (c0 : Nat) (F0 : Foot), cs = [.slice A0 x.name.length c0, .int .i64 x.pri, .int .i64 x.typ] ∧ Row tByte 5 H X F0 A0 c0 x.name ∧ (∀ b, F0 b → F b) := by
  obtain ⟨_, _, K1, L1, rfl, ⟨A0, c0, rfl, h0⟩, ⟨_, _, K0, L0, rfl, rfl, rfl, d0, s0⟩, d1, s1⟩ := h
  exact ⟨A0, c0, _, rfl, h0, fun b hb => s1 b (.inl (hb))⟩
theorem st44_c1 {H X : Hp} {F : Foot} {x : Sy.Op} {cs : List Value} (h : st44.O H X F x cs) : cs[1]? = some (.int .i64 x.pri) := by obtain ⟨_, _, _, rfl, _, _⟩ := st44_openO h; rfl
theorem st44_r1 {H : Hp} {x : Sy.Op} {cs : List Value} (h : st44.R H x cs) : cs[1]? = some (.int .i64 x.pri) := by obtain ⟨_, _, rfl, _, _⟩ := st44_open h; rfl
theorem st44_c2 {H X : Hp} {F : Foot} {x : Sy.Op} {cs : List Value} (h : st44.O H X F x cs) : cs[2]? = some (.int .i64 x.typ) := by obtain ⟨_, _, _, rfl, _, _⟩ := st44_openO h; rfl
theorem st44_r2 {H : Hp} {x : Sy.Op} {cs : List Value} (h : st44.R H x cs) : cs[2]? = some (.int .i64 x.typ) := by obtain ⟨_, _, rfl, _, _⟩ := st44_open h; rfl
theorem st44_u0 {H X : Hp} {F1 F2 : Foot} {x : Sy.Op} {y : List UInt8} {A : Option Addr} {c : Nat} {cs : List Value} (hy : Row tByte 5 H X F2 A c y) (h : st44.O H X F1 x cs) : st44.O H X (or2 F1 F2) {x with name := y} (cs.take 0 ++ [.slice A y.length c] ++ cs.drop 1) := by
  obtain ⟨_, _, _, rfl, h0, _⟩ := st44_openO h
  exact st44_mkO (x := {x with name := y}) (hy.mono fun b hb => .inr hb)
theorem st44_u1 {H X : Hp} {F1 F2 : Foot} {x : Sy.Op} (y : Int) {cs : List Value} (h : st44.O H X F1 x cs) : st44.O H X (or2 F1 F2) {x with pri := y} (cs.take 1 ++ [.int .i64 y] ++ cs.drop 2) := by
  obtain ⟨_, _, _, rfl, h0, s0⟩ := st44_openO h
  exact st44_mkO (x := {x with pri := y}) (h0.mono fun b hb => .inl (s0 b hb))
theorem st44_u2 {H X : Hp} {F1 F2 : Foot} {x : Sy.Op} (y : Int) {cs : List Value} (h : st44.O H X F1 x cs) : st44.O H X (or2 F1 F2) {x with typ := y} (cs.take 2 ++ [.int .i64 y] ++ cs.drop 3) := by
  obtain ⟨_, _, _, rfl, h0, s0⟩ := st44_openO h
  exact st44_mkO (x := {x with typ := y}) (h0.mono fun b hb => .inl (s0 b hb))
def z44 : Sy.Op := ⟨([] : List UInt8), (0 : Int), (0 : Int)⟩
theorem z44_O (H X : Hp) : st44.O H X no z44 [.slice none 0 0, .int .i64 (0 : Int), .int .i64 (0 : Int)] := st44_mkO (x := z44) (Row.nil _ _ _ _ no)
theorem z44_R (H : Hp) : st44.R H z44 [.slice none 0 0, .int .i64 (0 : Int), .int .i64 (0 : Int)] := st44_mkR (x := z44) (Nat.le_refl _) (Rd.nil _ _ _)
def laws_szByteS.f (x1 : List UInt8) (x6 : Int) : Option Int := (if (IntKind.i64.wrap (x6 - (x1.length : Int))) < 0 then some (-1) else some (IntKind.i64.wrap (x6 - (x1.length : Int))))
theorem laws_szByteS.calls (w : World) (H : Hp) (x1 : List UInt8) (A2 : Option Addr) (c3 : Nat) (x6 : Int) (h4 : Rd tByte H A2 x1) (l5 : x1.length ≤ c3) (S : Own [] H w) (r : Int) (M : laws_szByteS.f x1 x6 = some r) :
    Calls Try.prog 46 #[.slice A2 x1.length c3, .int .i64 x6] w (fun e e_w => e = .returned (.int .i64 r) ∧ Chg no w e_w) := by
  rw [laws_szByteS.f] at M
  refine enter (l := [.slice A2 x1.length c3, .int .i64 x6]) 12 Try.func46 rfl rfl rfl ?_
  have S0_ := S.st
  refine wp_seq ?_
  refine wp_region_lit ?_
  refine lv (d := 4) rfl rfl (by kernel_rfl) (e_assign (v := .int .i64 0) rfl) ?_
  refine wpList_nil ?_
  refine then_n ?_
  refine wp_seq ?_
  refine wp_region_lit ?_
  refine lv (d := 5) rfl rfl (by kernel_rfl) (e_move (v := .int .i64 x6) (by kernel_rfl)) ?_
  refine lv (d := 6) rfl rfl (by kernel_rfl) (e_move (v := .slice A2 x1.length c3) (by kernel_rfl)) ?_
  refine lv (d := 7) rfl rfl (by kernel_rfl) (e_len (A := A2) (n := x1.length) (c := c3) Try.underlying32 (by kernel_rfl)) ?_
  refine lv (d := 8) rfl rfl (by kernel_rfl) (e_sub (k := .i64) (a := x6) (b := (x1.length : Int)) (by kernel_rfl) (by kernel_rfl)) ?_
  refine lv (d := 1) rfl rfl (by kernel_rfl) (e_assign (v := .int .i64 (IntKind.i64.wrap (x6 - (x1.length : Int)))) (by kernel_rfl)) ?_
  refine wpList_nil ?_
  refine then_n ?_
  refine wp_seq ?_
  refine wp_seq ?_
  refine wp_region_lit ?_
  refine lv (d := 9) rfl rfl (by kernel_rfl) (e_move (v := .int .i64 (IntKind.i64.wrap (x6 - (x1.length : Int)))) (by kernel_rfl)) ?_
  refine lv (d := 10) rfl rfl (by kernel_rfl) (e_lss (k := .i64) (a := (IntKind.i64.wrap (x6 - (x1.length : Int)))) (b := 0) (by kernel_rfl) rfl) ?_
  refine wpList_nil ?_
  refine then_n ?_
  by_cases q7 : (IntKind.i64.wrap (x6 - (x1.length : Int))) < 0
  · replace M := ifp q7 M
    refine cond_t rfl (bt q7 (by kernel_rfl)) ?_
    refine wp_seq ?_
    refine wp_region_lit ?_
    refine lv (d := 4) rfl rfl (by kernel_rfl) (e_assign (v := .int .i64 (-1)) rfl) ?_
    refine wpList_nil ?_
    refine then_n ?_
    refine wp_ret ?_
    refine then_r ?_
    obtain rfl := Option.some.inj M
    exact ret1 rfl rfl  (show _ = .int .i64 (-1) from (by kernel_rfl)) ⟨rfl, S0_.chg⟩
  replace M := ifn q7 M
  refine cond_f rfl (bf q7 (by kernel_rfl)) ?_
  refine wp_skip ?_
  refine then_n ?_
  refine wp_seq ?_
  refine wp_region_lit ?_
  refine lv (d := 11) rfl rfl (by kernel_rfl) (e_move (v := .int .i64 (IntKind.i64.wrap (x6 - (x1.length : Int)))) (by kernel_rfl)) ?_
  refine lv (d := 4) rfl rfl (by kernel_rfl) (e_assign (v := .int .i64 (IntKind.i64.wrap (x6 - (x1.length : Int)))) (by kernel_rfl)) ?_
  refine wpList_nil ?_
  refine then_n ?_
  refine wp_ret ?_
  obtain rfl := Option.some.inj M
  exact ret1 rfl rfl  (show _ = .int .i64 (IntKind.i64.wrap (x6 - (x1.length : Int))) from (by kernel_rfl)) ⟨rfl, S0_.chg⟩

/-! laws_szOp -/
def laws_szOp.f (x1 : Sy.Op) (x6 : Int) : Option Int := ((laws_szByteS.f x1.name x6).bind fun t12 => (if t12 < 0 then some (-1) else some t12))
theorem laws_szOp.calls (w : World) (H : Hp) (x1 : Sy.Op) (A2 : Option Addr) (c3 : Nat) (x6 : Int) (h4 : Rd tByte H A2 x1.name) (l5 : x1.name.length ≤ c3) (S : Own [] H w) (r : Int) (M : laws_szOp.f x1 x6 = some r) :
    Calls Try.prog 23 #[.agg #[.slice A2 x1.name.length c3, .int .i64 x1.pri, .int .i64 x1.typ], .int .i64 x6] w (fun e e_w => e = .returned (.int .i64 r) ∧ Chg no w e_w) := by
  rw [laws_szOp.f] at M
  refine enter (l := [.agg #[.slice A2 x1.name.length c3, .int .i64 x1.pri, .int .i64 x1.typ], .int .i64 x6]) 12 Try.func23 rfl rfl rfl ?_
  have S0_ := S.st
  refine wp_seq ?_
  refine wp_region_lit ?_
  refine lve (d := 2) rfl rfl (by kernel_rfl) (new_blk (v := fun g_ => .pointer (some ⟨g_, 0, none⟩)) (cs := #[.slice A2 x1.name.length c3, .int .i64 x1.pri, .int .i64 x1.typ]) (t := 44) S0_ (by kernel_rfl)) ?_
  rintro _ w7 ⟨g8, rfl, b9, S10, K11⟩
  refine lv (d := 4) rfl rfl (by kernel_rfl) (e_assign (v := .int .i64 0) rfl) ?_
  refine wpList_nil ?_
  refine then_n ?_
  refine wp_seq ?_
  refine wp_region_lit ?_
  refine lv (d := 5) rfl rfl (by kernel_rfl) (e_fieldAddr (b := g8) (off := 0) (o := 0) Try.underlying44 rfl rfl (sz := 1) (by kernel_rfl) (by decide) (by kernel_rfl)) ?_
  refine lv (d := 6) rfl rfl (by kernel_rfl) (e_load1 (ad := ⟨g8, 0 + 0, none⟩) (v := .slice A2 x1.name.length c3) Try.underlying32 rfl (by kernel_rfl) (blk_cell b9 rfl)) ?_
  refine lv (d := 7) rfl rfl (by kernel_rfl) (e_move (v := .int .i64 x6) (by kernel_rfl)) ?_
  obtain ⟨t12, u13, M⟩ := bnd M
  refine lcall (d := 8) rfl rfl (by kernel_rfl) (e_call (l := [.tmp 6, .tmp 7]) (vs := [.slice A2 x1.name.length c3, .int .i64 x6]) Try.func46 (by kernel_rfl) rfl (by kernel_rfl) rfl) (laws_szByteS.calls w7 H x1.name A2 c3 x6 h4 l5 S10.own0 t12 u13) ?_
  rintro _ w14 ⟨rfl, C15⟩
  refine ⟨_, rfl, ?_⟩
  obtain ⟨S16, K17⟩ := S10.still C15
  replace b9 := K17.blk 0 rfl b9
  refine lv (d := 1) rfl rfl (by kernel_rfl) (e_assign (v := .int .i64 t12) (by kernel_rfl)) ?_
  refine wpList_nil ?_
  refine then_n ?_
  refine wp_seq ?_
  refine wp_seq ?_
  refine wp_region_lit ?_
  refine lv (d := 9) rfl rfl (by kernel_rfl) (e_move (v := .int .i64 t12) (by kernel_rfl)) ?_
  refine lv (d := 10) rfl rfl (by kernel_rfl) (e_lss (k := .i64) (a := t12) (b := 0) (by kernel_rfl) rfl) ?_
  refine wpList_nil ?_
  refine then_n ?_
  by_cases q18 : t12 < 0
  · replace M := ifp q18 M
    refine cond_t rfl (bt q18 (by kernel_rfl)) ?_
    refine wp_seq ?_
    refine wp_region_lit ?_
    refine lv (d := 4) rfl rfl (by kernel_rfl) (e_assign (v := .int .i64 (-1)) rfl) ?_
    refine wpList_nil ?_
    refine then_n ?_
    refine wp_ret ?_
    refine then_r ?_
    obtain rfl := Option.some.inj M
    exact ret1 rfl rfl  (show _ = .int .i64 (-1) from (by kernel_rfl)) ⟨rfl, S16.chg⟩
  replace M := ifn q18 M
  refine cond_f rfl (bf q18 (by kernel_rfl)) ?_
  refine wp_skip ?_
  refine then_n ?_
  refine wp_seq ?_
  refine wp_region_lit ?_
  refine lv (d := 11) rfl rfl (by kernel_rfl) (e_move (v := .int .i64 t12) (by kernel_rfl)) ?_
  refine lv (d := 4) rfl rfl (by kernel_rfl) (e_assign (v := .int .i64 t12) (by kernel_rfl)) ?_
  refine wpList_nil ?_
  refine then_n ?_
  refine wp_ret ?_
  obtain rfl := Option.some.inj M
  exact ret1 rfl rfl  (show _ = .int .i64 t12 from (by kernel_rfl)) ⟨rfl, S16.chg⟩

/-! laws_szOpS -/
def laws_szOpS.l0 : Nat → (List Sy.Op) → Int → Int → Option Int
  | 0, _, _, _ => none
  | k19 + 1, x1, x10, x11 => (if x11 < (x1.length : Int) then (if 0 ≤ x11 then ((laws_szOp.f (x1.getD ((x11).toNat) z44) x10).bind fun t32 => (if t32 < 0 then some (-1) else (laws_szOpS.l0 k19 x1 t32 (IntKind.i64.wrap (x11 + 1))))) else none) else some x10)
def laws_szOpS.f (k : Nat) (x1 : List Sy.Op) (x6 : Int) : Option Int := (if (IntKind.i64.wrap (x6 - (x1.length : Int))) < 0 then some (-1) else (laws_szOpS.l0 k x1 (IntKind.i64.wrap (x6 - (x1.length : Int))) 0))
theorem laws_szOpS.calls (k : Nat) (w : World) (H : Hp) (x1 : List Sy.Op) (A2 : Option Addr) (c3 : Nat) (x6 : Int) (h4 : Rd st44 H A2 x1) (l5 : x1.length ≤ c3) (S : Own [] H w) (r : Int) (M : laws_szOpS.f k x1 x6 = some r) :
    Calls Try.prog 7 #[.slice A2 x1.length c3, .int .i64 x6] w (fun e e_w => e = .returned (.int .i64 r) ∧ Chg no w e_w) := by
  rw [laws_szOpS.f] at M
  refine enter (l := [.slice A2 x1.length c3, .int .i64 x6]) 27 Try.func7 rfl rfl rfl ?_
  have S0_ := S.st
  refine wp_seq ?_
  refine wp_region_lit ?_
  refine lv (d := 4) rfl rfl (by kernel_rfl) (e_assign (v := .int .i64 0) rfl) ?_
  refine wpList_nil ?_
  refine then_n ?_
  refine wp_seq ?_
  refine wp_region_lit ?_
  refine lv (d := 6) rfl rfl (by kernel_rfl) (e_move (v := .int .i64 x6) (by kernel_rfl)) ?_
  refine lv (d := 7) rfl rfl (by kernel_rfl) (e_move (v := .slice A2 x1.length c3) (by kernel_rfl)) ?_
  refine lv (d := 8) rfl rfl (by kernel_rfl) (e_len (A := A2) (n := x1.length) (c := c3) Try.underlying22 (by kernel_rfl)) ?_
  refine lv (d := 9) rfl rfl (by kernel_rfl) (e_sub (k := .i64) (a := x6) (b := (x1.length : Int)) (by kernel_rfl) (by kernel_rfl)) ?_
  refine lv (d := 1) rfl rfl (by kernel_rfl) (e_assign (v := .int .i64 (IntKind.i64.wrap (x6 - (x1.length : Int)))) (by kernel_rfl)) ?_
  refine wpList_nil ?_
  refine then_n ?_
  refine wp_seq ?_
  refine wp_seq ?_
  refine wp_region_lit ?_
  refine lv (d := 10) rfl rfl (by kernel_rfl) (e_move (v := .int .i64 (IntKind.i64.wrap (x6 - (x1.length : Int)))) (by kernel_rfl)) ?_
  refine lv (d := 11) rfl rfl (by kernel_rfl) (e_lss (k := .i64) (a := (IntKind.i64.wrap (x6 - (x1.length : Int)))) (b := 0) (by kernel_rfl) rfl) ?_
  refine wpList_nil ?_
  refine then_n ?_
  by_cases q7 : (IntKind.i64.wrap (x6 - (x1.length : Int))) < 0
  · replace M := ifp q7 M
    refine cond_t rfl (bt q7 (by kernel_rfl)) ?_
    refine wp_seq ?_
    refine wp_region_lit ?_
    refine lv (d := 4) rfl rfl (by kernel_rfl) (e_assign (v := .int .i64 (-1)) rfl) ?_
    refine wpList_nil ?_
    refine then_n ?_
    refine wp_ret ?_
    refine then_r ?_
    obtain rfl := Option.some.inj M
    exact ret1 rfl rfl  (show _ = .int .i64 (-1) from (by kernel_rfl)) ⟨rfl, S0_.chg⟩
  replace M := ifn q7 M
  refine cond_f rfl (bf q7 (by kernel_rfl)) ?_
  refine wp_skip ?_
  refine then_n ?_
  refine wp_seq ?_
  refine wp_seq ?_
  refine wp_region_lit ?_
  refine lv (d := 5) rfl rfl (by kernel_rfl) (e_assign (v := .int .i64 0) rfl) ?_
  refine wpList_nil ?_
  refine then_n ?_
  refine wp_block ?_
  refine wp_loop_g (fun k17 a18 w8 => ∃ (f9 : Nat → Value) (x10 : Int) (x11 : Int), a18 = mk 27 f9 ∧ f9 0 = .slice A2 x1.length c3 ∧ f9 1 = .int .i64 x10 ∧ f9 5 = .int .i64 x11 ∧ St (anyOf []) H w [] H w8 ∧ laws_szOpS.l0 k17 x1 x10 x11 = some r) k ⟨_, (IntKind.i64.wrap (x6 - (x1.length : Int))), 0, rfl, (by kernel_rfl), (by kernel_rfl), (by kernel_rfl), S0_, M⟩ ?_
  clear M
  rintro k17 a18 w8 ⟨f9, x10, x11, rfl, e12, e13, e14, S15, M⟩
  rcases k17 with _ | k19
  · rw [laws_szOpS.l0] at M
    cases M
  rw [laws_szOpS.l0] at M
  refine wp_seq ?_
  refine wp_seq ?_
  refine wp_region_lit ?_
  refine lv (d := 12) rfl rfl (by kernel_rfl) (e_move (v := .int .i64 x11) (by exact e14)) ?_
  refine lv (d := 13) rfl rfl (by kernel_rfl) (e_move (v := .slice A2 x1.length c3) (by exact e12)) ?_
  refine lv (d := 14) rfl rfl (by kernel_rfl) (e_len (A := A2) (n := x1.length) (c := c3) Try.underlying22 (by kernel_rfl)) ?_
  refine lv (d := 15) rfl rfl (by kernel_rfl) (e_lss (k := .i64) (a := x11) (b := (x1.length : Int)) (by kernel_rfl) (by kernel_rfl)) ?_
  refine wpList_nil ?_
  refine then_n ?_
  by_cases q20 : x11 < (x1.length : Int)
  · replace M := ifp q20 M
    refine cond_t rfl (bt q20 (by kernel_rfl)) ?_
    refine wp_skip ?_
    refine then_n ?_
    refine wp_seq ?_
    refine wp_block ?_
    refine wp_seq ?_
    refine wp_region_lit ?_
    refine lv (d := 18) rfl rfl (by kernel_rfl) (e_move (v := .slice A2 x1.length c3) (by exact e12)) ?_
    refine lv (d := 19) rfl rfl (by kernel_rfl) (e_move (v := .int .i64 x11) (by exact e14)) ?_
    obtain ⟨q21, M⟩ := chk M
    obtain ⟨b22, o23, e24⟩ := Rd.addr h4 (show (x11).toNat < x1.length by omega)
    obtain ⟨y25, r26, k27⟩ := Rd.at h4 e24 (getD_some z44 (show (x11).toNat < x1.length by omega))
    obtain ⟨A28, c29, rfl, l30, h31⟩ := st44_open r26
    refine lv (d := 20) rfl rfl (by kernel_rfl) (e_indexAddr (b := b22) (off := o23) (n := x1.length) (c := c3) (sz := 3) (i := x11) (k := .i64) Try.underlying22 e24 (by kernel_rfl) (by kernel_rfl) (by kernel_rfl) q21 q20) ?_
    refine lv (d := 21) rfl rfl (by kernel_rfl) (e_loadS (b := b22) (off := o23 + (x11 : Int).toNat * 3) (cs := [.slice A28 ((x1.getD ((x11).toNat) z44).name).length c29, .int .i64 ((x1.getD ((x11).toNat) z44).pri), .int .i64 ((x1.getD ((x11).toNat) z44).typ)]) Try.underlying44 rfl (by kernel_rfl) (by kernel_rfl) (fun j_ u_ e_ => (hpx (S15.inv.cell (k27 j_ u_ e_))))) ?_
    refine lv (d := 22) rfl rfl (by kernel_rfl) (e_move (v := .int .i64 x10) (by exact e13)) ?_
    obtain ⟨t32, u33, M⟩ := bnd M
    refine lcall (d := 23) rfl rfl (by kernel_rfl) (e_call (l := [.tmp 21, .tmp 22]) (vs := [.agg #[.slice A28 ((x1.getD ((x11).toNat) z44).name).length c29, .int .i64 ((x1.getD ((x11).toNat) z44).pri), .int .i64 ((x1.getD ((x11).toNat) z44).typ)], .int .i64 x10]) Try.func23 (by kernel_rfl) rfl (by kernel_rfl) rfl) (laws_szOp.calls w8 H (x1.getD ((x11).toNat) z44) A28 c29 x10 h31 l30 S15.own0 t32 u33) ?_
    rintro _ w34 ⟨rfl, C35⟩
    refine ⟨_, rfl, ?_⟩
    obtain ⟨S36, K37⟩ := S15.still C35
    refine lv (d := 1) rfl rfl (by kernel_rfl) (e_assign (v := .int .i64 t32) (by kernel_rfl)) ?_
    refine wpList_nil ?_
    refine then_n ?_
    refine wp_seq ?_
    refine wp_region_lit ?_
    refine lv (d := 24) rfl rfl (by kernel_rfl) (e_move (v := .int .i64 t32) (by kernel_rfl)) ?_
    refine lv (d := 25) rfl rfl (by kernel_rfl) (e_lss (k := .i64) (a := t32) (b := 0) (by kernel_rfl) rfl) ?_
    refine wpList_nil ?_
    refine then_n ?_
    by_cases q38 : t32 < 0
    · replace M := ifp q38 M
      refine cond_t rfl (bt q38 (by kernel_rfl)) ?_
      refine wp_seq ?_
      refine wp_region_lit ?_
      refine lv (d := 4) rfl rfl (by kernel_rfl) (e_assign (v := .int .i64 (-1)) rfl) ?_
      refine wpList_nil ?_
      refine then_n ?_
      refine wp_ret ?_
      refine inb_r ?_
      refine then_r ?_
      refine then_r ?_
      refine inb_r ?_
      refine then_r ?_
      obtain rfl := Option.some.inj M
      exact ret1 rfl rfl  (show _ = .int .i64 (-1) from (by kernel_rfl)) ⟨rfl, S36.chg⟩
    replace M := ifn q38 M
    refine cond_f rfl (bf q38 (by kernel_rfl)) ?_
    refine wp_skip ?_
    refine inb_n ?_
    refine then_n ?_
    refine wp_region_lit ?_
    refine lv (d := 16) rfl rfl (by kernel_rfl) (e_move (v := .int .i64 x11) (by exact e14)) ?_
    refine lv (d := 17) rfl rfl (by kernel_rfl) (e_add (k := .i64) (a := x11) (b := 1) (by kernel_rfl) rfl) ?_
    refine lv (d := 5) rfl rfl (by kernel_rfl) (e_assign (v := .int .i64 (IntKind.i64.wrap (x11 + 1))) (by kernel_rfl)) ?_
    refine wpList_nil ?_
    refine then_n ?_
    exact ⟨k19, (by omega), _, t32, (IntKind.i64.wrap (x11 + 1)), rfl, (by exact e12), (by kernel_rfl), (by kernel_rfl), S36, M⟩
  replace M := ifn q20 M
  refine cond_f rfl (bf q20 (by kernel_rfl)) ?_
  refine wp_exit ?_
  refine then_e ?_
  refine then_e ?_
  refine inb_hit ?_
  refine then_n ?_
  refine wp_seq ?_
  refine wp_region_lit ?_
  refine lv (d := 26) rfl rfl (by kernel_rfl) (e_move (v := .int .i64 x10) (by exact e13)) ?_
  refine lv (d := 4) rfl rfl (by kernel_rfl) (e_assign (v := .int .i64 x10) (by kernel_rfl)) ?_
  refine wpList_nil ?_
  refine then_n ?_
  refine wp_ret ?_
  obtain rfl := Option.some.inj M
  exact ret1 rfl rfl  (show _ = .int .i64 x10 from (by kernel_rfl)) ⟨rfl, S15.chg⟩

/-! laws_toByteS -/
def st45 : Ty Sy.Op := iso (pair sl5 (pair tInt tInt)) (fun x => (x.name, x.pri, x.typ))
theorem st45_open {H : Hp} {x : Sy.Op} {cs : List Value} (h : st45.R H x cs) : ∃ (A0 : Option Addr) (c0 : Nat), cs = [.slice A0 x.name.length c0, .int .i64 x.pri, .int .i64 x.typ] ∧ x.name.length ≤ c0 ∧ Rd tByte H A0 x.name := by
  obtain ⟨_, _, rfl, ⟨A0, c0, rfl, l0, h0⟩, ⟨_, _, rfl, rfl, rfl⟩⟩ := h
  exact ⟨A0, c0, rfl, l0, h0⟩
theorem st45_mkR {H : Hp} {x : Sy.Op} {A0 : Option Addr} {c0 : Nat} (l0 : x.name.length ≤ c0) (h0 : Rd tByte H A0 x.name) : st45.R H x [.slice A0 x.name.length c0, .int .i64 x.pri, .int .i64 x.typ] := ⟨[.slice A0 x.name.length c0], [.int .i64 x.pri, .int .i64 x.typ], rfl, ⟨A0, c0, rfl, l0, h0⟩, ⟨[.int .i64 x.pri], [.int .i64 x.typ], rfl, rfl, rfl⟩⟩
theorem st45_mkO {H X : Hp} {F0 : Foot} {x : Sy.Op} {A0 : Option Addr} {c0 : Nat} (h0 : Row tByte 5 H X F0 A0 c0 x.name) : st45.O H X F0 x [.slice A0 x.name.length c0, .int .i64 x.pri, .int .i64 x.typ] := (pairO1 (a := sl5) (b := (pair tInt tInt)) (x := (x.name, (x.pri, x.typ))) (c0 := [.slice A0 x.name.length c0]) (c1 := [.int .i64 x.pri, .int .i64 x.typ]) ⟨A0, c0, rfl, h0⟩ (pairO0 (a := tInt) (b := tInt) (x := (x.pri, x.typ)) (c0 := [.int .i64 x.pri]) (c1 := [.int .i64 x.typ]) (F := no) rfl rfl))
theorem st45_openO {H X : Hp} {F : Foot} {x : Sy.Op} {cs : List Value} (h : st45.O H X F x cs) : ∃ (A0 : Option Addr) (c0 : Nat) (F0 : Foot), cs = [.slice A0 x.name.length c0, .int .i64 x.pri, .int .i64 x.typ] ∧ Row tByte 5 H X F0 A0 c0 x.name ∧ (∀ b, F0 b → F b) := by
  obtain ⟨_, _, K1, L1, rfl, ⟨A0, c0, rfl, h0⟩, ⟨_, _, K0, L0, rfl, rfl, rfl, d0, s0⟩, d1, s1⟩ := h
  exact ⟨A0, c0, _, rfl, h0, fun b hb => s1 b (.inl (hb))⟩
theorem st45_c1 {H X : Hp} {F : Foot} {x : Sy.Op} {cs : List Value} (h : st45.O H X F x cs) : cs[1]? = some (.int .i64 x.pri) := by obtain ⟨_, _, _, rfl, _, _⟩ := st45_openO h; rfl
theorem st45_r1 {H : Hp} {x : Sy.Op} {cs : List Value} (h : st45.R H x cs) : cs[1]? = some (.int .i64 x.pri) := by obtain ⟨_, _, rfl, _, _⟩ := st45_open h; rfl
theorem st45_c2 {H X : Hp} {F : Foot} {x : Sy.Op} {cs : List Value} (h : st45.O H X F x cs) : cs[2]? = some (.int .i64 x.typ) := by obtain ⟨_, _, _, rfl, _, _⟩ := st45_openO h; rfl
theorem st45_r2 {H : Hp} {x : Sy.Op} {cs : List Value} (h : st45.R H x cs) : cs[2]? = some (.int .i64 x.typ) := by obtain ⟨_, _, rfl, _, _⟩ := st45_open h; rfl
theorem st45_u0 {H X : Hp} {F1 F2 : Foot} {x : Sy.Op} {y : List UInt8} {A : Option Addr} {c : Nat} {cs : List Value} (hy : Row tByte 5 H X F2 A c y) (h : st45.O H X F1 x cs) : st45.O H X (or2 F1 F2) {x with name := y} (cs.take 0 ++ [.slice A y.length c] ++ cs.drop 1) := by
  obtain ⟨_, _, _, rfl, h0, _⟩ := st45_openO h
  exact st45_mkO (x := {x with name := y}) (hy.mono fun b hb => .inr hb)
theorem st45_u1 {H X : Hp} {F1 F2 : Foot} {x : Sy.Op} (y : Int) {cs : List Value} (h : st45.O H X F1 x cs) : st45.O H X (or2 F1 F2) {x with pri := y} (cs.take 1 ++ [.int .i64 y] ++ cs.drop 2) := by
  obtain ⟨_, _, _, rfl, h0, s0⟩ := st45_openO h
  exact st45_mkO (x := {x with pri := y}) (h0.mono fun b hb => .inl (s0 b hb))
theorem st45_u2 {H X : Hp} {F1 F2 : Foot} {x : Sy.Op} (y : Int) {cs : List Value} (h : st45.O H X F1 x cs) : st45.O H X (or2 F1 F2) {x with typ := y} (cs.take 2 ++ [.int .i64 y] ++ cs.drop 3) := by
  obtain ⟨_, _, _, rfl, h0, s0⟩ := st45_openO h
  exact st45_mkO (x := {x with typ := y}) (h0.mono fun b hb => .inl (s0 b hb))
def z45 : Sy.Op := ⟨([] : List UInt8), (0 : Int), (0 : Int)⟩
theorem z45_O (H X : Hp) : st45.O H X no z45 [.slice none 0 0, .int .i64 (0 : Int), .int .i64 (0 : Int)] := st45_mkO (x := z45) (Row.nil _ _ _ _ no)
theorem z45_R (H : Hp) : st45.R H z45 [.slice none 0 0, .int .i64 (0 : Int), .int .i64 (0 : Int)] := st45_mkR (x := z45) (Nat.le_refl _) (Rd.nil _ _ _)
def laws_toByteS.l0 : Nat → (List UInt8) → Int → (List UInt8) → Option (List UInt8)
  | 0, _, _, _ => none
  | k28 + 1, x1, x17, x19 => (if x17 < (x1.length : Int) then (if 0 ≤ x17 then (if x17 < (((x1.length : Int)).toNat : Int) then (laws_toByteS.l0 k28 x1 (IntKind.i64.wrap (x17 + 1)) (x19.set ((x17).toNat) (x1.getD ((x17).toNat) (0 : UInt8)))) else none) else none) else some x19)
def laws_toByteS.f (k : Nat) (x1 : List UInt8) : Option (List UInt8) := (if 0 ≤ (x1.length : Int) then (if ((x1.length : Int)).toNat ≤ 281474976710656 then (laws_toByteS.l0 k x1 0 (List.replicate ((x1.length : Int)).toNat (0 : UInt8))) else none) else none)
theorem laws_toByteS.calls (k : Nat) (w : World) (H : Hp) (x1 : List UInt8) (A2 : Option Addr) (c3 : Nat) (h4 : Rd tByte H A2 x1) (l5 : x1.length ≤ c3) (S : Own [] H w) (r : List UInt8) (M : laws_toByteS.f k x1 = some r) :
    Calls Try.prog 17 #[.slice A2 x1.length c3] w (fun e e_w => ∃ (A_1 : Option Addr) (c_1 : Nat) (F_1 : Foot) (H_ : Hp), e = .returned (.slice A_1 r.length c_1) ∧ Row tByte 5 H_ (hp e_w) F_1 A_1 c_1 r ∧ St (anyOf []) H w [F_1] H_ e_w) := by
  rw [laws_toByteS.f] at M
  refine enter (l := [.slice A2 x1.length c3]) 22 Try.func17 rfl rfl rfl ?_
  have S0_ := S.st
  refine wp_seq ?_
  refine wp_region_lit ?_
  refine lv (d := 2) rfl rfl (by kernel_rfl) (e_assign (v := .slice none 0 0) rfl) ?_
  refine wpList_nil ?_
  refine then_n ?_
  refine wp_seq ?_
  refine wp_region_lit ?_
  refine lv (d := 5) rfl rfl (by kernel_rfl) (e_move (v := .slice A2 x1.length c3) (by kernel_rfl)) ?_
  refine lv (d := 6) rfl rfl (by kernel_rfl) (e_len (A := A2) (n := x1.length) (c := c3) Try.underlying32 (by kernel_rfl)) ?_
  obtain ⟨q6, M⟩ := chk M
  obtain ⟨q7, M⟩ := chk M
  refine lve (d := 7) rfl rfl (by kernel_rfl) (e_make (d := tByte) (k := .i64) (k2 := .i64) (n := (x1.length : Int)) (z := .int .u8 0) (zx := (0 : UInt8)) (bytes := 1) S0_ Try.underlying32 (by kernel_rfl) rfl (by decide) (fun _ => rfl) (by kernel_rfl) (by kernel_rfl) q6 (by omega) (by omega)) ?_
  rintro _ w8 ⟨A9, c10, F11, rfl, h12, S13, K14⟩
  refine lv (d := 3) rfl rfl (by kernel_rfl) (e_assign (v := .slice A9 (((x1.length : Int)).toNat) c10) (by kernel_rfl)) ?_
  refine wpList_nil ?_
  refine then_n ?_
  refine wp_seq ?_
  refine wp_seq ?_
  refine wp_region_lit ?_
  refine lv (d := 4) rfl rfl (by kernel_rfl) (e_assign (v := .int .i64 0) rfl) ?_
  refine wpList_nil ?_
  refine then_n ?_
  refine wp_block ?_
  refine wp_loop_g (fun k26 a27 w15 => ∃ (f16 : Nat → Value) (x17 : Int) (F18 : Foot) (x19 : List UInt8), a27 = mk 22 f16 ∧ f16 0 = .slice A2 x1.length c3 ∧ f16 3 = .slice A9 (((x1.length : Int)).toNat) c10 ∧ f16 4 = .int .i64 x17 ∧ Row tByte 5 H (hp w15) F18 A9 c10 x19 ∧ x19.length = ((x1.length : Int)).toNat ∧ St (anyOf []) H w [F18] H w15 ∧ laws_toByteS.l0 k26 x1 x17 x19 = some r) k ⟨_, 0, F11, (List.replicate ((x1.length : Int)).toNat (0 : UInt8)), rfl, (by kernel_rfl), (by kernel_rfl), (by kernel_rfl), h12, List.length_replicate, S13, M⟩ ?_
  clear M
  rintro k26 a27 w15 ⟨f16, x17, F18, x19, rfl, e21, e22, e23, h12, n20, S24, M⟩
  rcases k26 with _ | k28
  · rw [laws_toByteS.l0] at M
    cases M
  rw [laws_toByteS.l0] at M
  refine wp_seq ?_
  refine wp_seq ?_
  refine wp_region_lit ?_
  refine lv (d := 8) rfl rfl (by kernel_rfl) (e_move (v := .int .i64 x17) (by exact e23)) ?_
  refine lv (d := 9) rfl rfl (by kernel_rfl) (e_move (v := .slice A2 x1.length c3) (by exact e21)) ?_
  refine lv (d := 10) rfl rfl (by kernel_rfl) (e_len (A := A2) (n := x1.length) (c := c3) Try.underlying32 (by kernel_rfl)) ?_
  refine lv (d := 11) rfl rfl (by kernel_rfl) (e_lss (k := .i64) (a := x17) (b := (x1.length : Int)) (by kernel_rfl) (by kernel_rfl)) ?_
  refine wpList_nil ?_
  refine then_n ?_
  by_cases q29 : x17 < (x1.length : Int)
  · replace M := ifp q29 M
    refine cond_t rfl (bt q29 (by kernel_rfl)) ?_
    refine wp_skip ?_
    refine then_n ?_
    refine wp_seq ?_
    refine wp_block ?_
    refine wp_region_lit ?_
    refine lv (d := 14) rfl rfl (by kernel_rfl) (e_move (v := .slice A9 (((x1.length : Int)).toNat) c10) (by exact e22)) ?_
    refine lv (d := 15) rfl rfl (by kernel_rfl) (e_move (v := .int .i64 x17) (by exact e23)) ?_
    refine lv (d := 16) rfl rfl (by kernel_rfl) (e_move (v := .slice A2 x1.length c3) (by exact e21)) ?_
    refine lv (d := 17) rfl rfl (by kernel_rfl) (e_move (v := .int .i64 x17) (by exact e23)) ?_
    obtain ⟨q30, M⟩ := chk M
    obtain ⟨b31, o32, e33⟩ := Rd.addr h4 (show (x17).toNat < x1.length by omega)
    obtain ⟨y34, r35, k36⟩ := Rd.at h4 e33 (getD_some (0 : UInt8) (show (x17).toNat < x1.length by omega))
    obtain rfl := r35
    refine lv (d := 18) rfl rfl (by kernel_rfl) (e_indexAddr (b := b31) (off := o32) (n := x1.length) (c := c3) (sz := 1) (i := x17) (k := .i64) Try.underlying32 e33 (by kernel_rfl) (by kernel_rfl) (by kernel_rfl) q30 q29) ?_
    refine lv (d := 19) rfl rfl (by kernel_rfl) (e_load1 (ad := ⟨b31, o32 + (x17 : Int).toNat * 1, none⟩) (v := .int .u8 ((x1.getD ((x17).toNat) (0 : UInt8)).toNat : Int)) Try.underlying5 rfl (by kernel_rfl) (hpx (S24.inv.cell (k36 0 _ rfl)))) ?_
    obtain ⟨q37, M⟩ := chk M
    obtain ⟨b38, e40⟩ := Row.addr h12 (show (x17).toNat < x19.length by have : x19.length = ((x1.length : Int)).toNat := n20; omega)
    refine lv (d := 20) rfl rfl (by kernel_rfl) (e_indexAddr (b := b38) (off := 0) (n := ((x1.length : Int)).toNat) (c := c10) (sz := 1) (i := x17) (k := .i64) Try.underlying32 e40 (by kernel_rfl) (by kernel_rfl) (by kernel_rfl) q30 q37) ?_
    have S41 := S24.unit
    have S42 := S41.pull (F := F18) (Fr := [no]) 1 rfl rfl
    refine lse rfl rfl (by kernel_rfl) (e_setel (d := tByte) (b := b38) (i := (x17).toNat) (v := .int .u8 ((x1.getD ((x17).toNat) (0 : UInt8)).toNat : Int)) (vs := [.int .u8 ((x1.getD ((x17).toNat) (0 : UInt8)).toNat : Int)]) (yv := (x1.getD ((x17).toNat) (0 : UInt8))) S42 (by kernel_rfl) e40 (by kernel_rfl) rfl (by kernel_rfl) h12 (show (x17).toNat < x19.length by have : x19.length = ((x1.length : Int)).toNat := n20; omega) rfl) ?_
    rintro w43 ⟨F45, h44, S46, K47⟩
    clear h12
    refine wpList_nil ?_
    refine inb_n ?_
    refine then_n ?_
    refine wp_region_lit ?_
    refine lv (d := 12) rfl rfl (by kernel_rfl) (e_move (v := .int .i64 x17) (by exact e23)) ?_
    refine lv (d := 13) rfl rfl (by kernel_rfl) (e_add (k := .i64) (a := x17) (b := 1) (by kernel_rfl) rfl) ?_
    refine lv (d := 4) rfl rfl (by kernel_rfl) (e_assign (v := .int .i64 (IntKind.i64.wrap (x17 + 1))) (by kernel_rfl)) ?_
    refine wpList_nil ?_
    refine then_n ?_
    exact ⟨k28, (by omega), _, (IntKind.i64.wrap (x17 + 1)), F45, (x19.set ((x17).toNat) (x1.getD ((x17).toNat) (0 : UInt8))), rfl, (by exact e21), (by exact e22), (by kernel_rfl), h44, (List.length_set.trans n20), S46, M⟩
  replace M := ifn q29 M
  refine cond_f rfl (bf q29 (by kernel_rfl)) ?_
  refine wp_exit ?_
  refine then_e ?_
  refine then_e ?_
  refine inb_hit ?_
  refine then_n ?_
  refine wp_seq ?_
  refine wp_region_lit ?_
  refine lv (d := 21) rfl rfl (by kernel_rfl) (e_move (v := .slice A9 (((x1.length : Int)).toNat) c10) (by exact e22)) ?_
  refine lv (d := 2) rfl rfl (by kernel_rfl) (e_assign (v := .slice A9 (((x1.length : Int)).toNat) c10) (by kernel_rfl)) ?_
  refine wpList_nil ?_
  refine then_n ?_
  refine wp_ret ?_
  obtain rfl := Option.some.inj M
  exact ret1 rfl rfl  (show _ = .slice A9 (((x1.length : Int)).toNat) c10 from (by kernel_rfl)) ⟨A9, c10, F18, H, (by rw [(show x19.length = ((x1.length : Int)).toNat from n20)]), h12, S24⟩

/-! laws_toOp -/
def laws_toOp.f (k : Nat) (x1 : Sy.Op) : Option Sy.Op := ((laws_toByteS.f k x1.name).bind fun t21 => some (⟨t21, x1.pri, x1.typ⟩ : Sy.Op))
theorem laws_toOp.calls (k : Nat) (w : World) (H : Hp) (x1 : Sy.Op) (A2 : Option Addr) (c3 : Nat) (h4 : Rd tByte H A2 x1.name) (l5 : x1.name.length ≤ c3) (S : Own [] H w) (r : Sy.Op) (M : laws_toOp.f k x1 = some r) :
    Calls Try.prog 26 #[.agg #[.slice A2 x1.name.length c3, .int .i64 x1.pri, .int .i64 x1.typ]] w (fun e e_w => ∃ (A_1 : Option Addr) (c_1 : Nat) (F_1 : Foot) (H_ : Hp), e = .returned (.agg #[.slice A_1 r.name.length c_1, .int .i64 r.pri, .int .i64 r.typ]) ∧ Row tByte 5 H_ (hp e_w) F_1 A_1 c_1 r.name ∧ St (anyOf []) H w [F_1] H_ e_w) := by
  rw [laws_toOp.f] at M
  refine enter (l := [.agg #[.slice A2 x1.name.length c3, .int .i64 x1.pri, .int .i64 x1.typ]]) 15 Try.func26 rfl rfl rfl ?_
  have S0_ := S.st
  refine wp_seq ?_
  refine wp_region_lit ?_
  refine lve (d := 1) rfl rfl (by kernel_rfl) (new_blk (v := fun g_ => .pointer (some ⟨g_, 0, none⟩)) (cs := #[.slice A2 x1.name.length c3, .int .i64 x1.pri, .int .i64 x1.typ]) (t := 44) S0_ (by kernel_rfl)) ?_
  rintro _ w6 ⟨g7, rfl, b8, S9, K10⟩
  refine lve (d := 2) rfl rfl (by kernel_rfl) (new_blk (v := fun g_ => .pointer (some ⟨g_, 0, none⟩)) (cs := #[.slice none 0 0, .int .i64 0, .int .i64 0]) (t := 45) S9 (by kernel_rfl)) ?_
  rintro _ w11 ⟨g12, rfl, b13, S14, K15⟩
  replace b8 := K15.blk 0 rfl b8
  refine wpList_nil ?_
  refine then_n ?_
  refine wp_seq ?_
  refine wp_region_lit ?_
  refine lve (d := 3) rfl rfl (by kernel_rfl) (new_blk (v := fun g_ => .pointer (some ⟨g_, 0, none⟩)) (cs := #[.slice none 0 0, .int .i64 0, .int .i64 0]) (t := 45) S14 (by kernel_rfl)) ?_
  rintro _ w16 ⟨g17, rfl, b18, S19, K20⟩
  replace b13 := K20.blk 0 rfl b13
  replace b8 := K20.blk 1 rfl b8
  refine wpList_nil ?_
  refine then_n ?_
  refine wp_seq ?_
  refine wp_region_lit ?_
  refine lv (d := 4) rfl rfl (by kernel_rfl) (e_fieldAddr (b := g7) (off := 0) (o := 0) Try.underlying44 rfl rfl (sz := 1) (by kernel_rfl) (by decide) (by kernel_rfl)) ?_
  refine lv (d := 5) rfl rfl (by kernel_rfl) (e_load1 (ad := ⟨g7, 0 + 0, none⟩) (v := .slice A2 x1.name.length c3) Try.underlying32 rfl (by kernel_rfl) (blk_cell b8 rfl)) ?_
  obtain ⟨t21, u22, M⟩ := bnd M
  refine lcall (d := 6) rfl rfl (by kernel_rfl) (e_call (l := [.tmp 5]) (vs := [.slice A2 x1.name.length c3]) Try.func17 (by kernel_rfl) rfl (by kernel_rfl) rfl) (laws_toByteS.calls k w16 H x1.name A2 c3 h4 l5 (St.own' (Fa := []) (Fr := [(is g17), (is g12), (is g7)]) S19) t21 u22) ?_
  rintro _ w23 ⟨A26, c27, F29, H24, rfl, h28, T25⟩
  refine ⟨_, rfl, ?_⟩
  obtain ⟨S30, K31⟩ := St.call (Fa := []) (Fr := [(is g17), (is g12), (is g7)]) S19 T25
  replace b18 := K31.blk 0 rfl b18
  replace b13 := K31.blk 1 rfl b13
  replace b8 := K31.blk 2 rfl b8
  have E32 := T25.ext
  refine lv (d := 7) rfl rfl (by kernel_rfl) (e_fieldAddr (b := g17) (off := 0) (o := 0) Try.underlying45 rfl rfl (sz := 1) (by kernel_rfl) (by decide) (by kernel_rfl)) ?_
  have S33 := S30.pull (F := (is g17)) (Fr := [F29, (is g12), (is g7)]) 1 rfl rfl
  refine lse rfl rfl (by kernel_rfl) (e_store (g := g17) (o := 0 + 0) (v := .slice A26 t21.length c27) (cur' := #[.slice A26 t21.length c27, .int .i64 0, .int .i64 0]) (vs := [.slice A26 t21.length c27]) S33 (by kernel_rfl) (by kernel_rfl) rfl (by kernel_rfl) b18 (Nat.le_of_ble_eq_true rfl) (List.forall_mem_cons.2 ⟨rfl, (fun _ h_ => by cases h_)⟩) rfl) ?_
  rintro w34 ⟨b35, S36, K37⟩
  replace h28 := h28.move (K37.at 0 rfl)
  replace b13 := K37.blk 1 rfl b13
  replace b8 := K37.blk 2 rfl b8
  clear b18
  refine wpList_nil ?_
  refine then_n ?_
  refine wp_seq ?_
  refine wp_region_lit ?_
  refine lv (d := 8) rfl rfl (by kernel_rfl) (e_fieldAddr (b := g7) (off := 0) (o := 1) Try.underlying44 rfl rfl (sz := 1) (by kernel_rfl) (by decide) (by kernel_rfl)) ?_
  refine lv (d := 9) rfl rfl (by kernel_rfl) (e_load1 (ad := ⟨g7, 0 + 1, none⟩) (v := .int .i64 x1.pri) Try.underlying3 rfl (by kernel_rfl) (blk_cell b8 rfl)) ?_
  refine lv (d := 10) rfl rfl (by kernel_rfl) (e_fieldAddr (b := g17) (off := 0) (o := 1) Try.underlying45 rfl rfl (sz := 1) (by kernel_rfl) (by decide) (by kernel_rfl)) ?_
  refine lse rfl rfl (by kernel_rfl) (e_store (g := g17) (o := 0 + 1) (v := .int .i64 x1.pri) (cur' := #[.slice A26 t21.length c27, .int .i64 x1.pri, .int .i64 0]) (vs := [.int .i64 x1.pri]) S36 (by kernel_rfl) (by kernel_rfl) rfl (by kernel_rfl) b35 (Nat.le_of_ble_eq_true rfl) (List.forall_mem_cons.2 ⟨rfl, (fun _ h_ => by cases h_)⟩) rfl) ?_
  rintro w38 ⟨b39, S40, K41⟩
  replace h28 := h28.move (K41.at 0 rfl)
  replace b13 := K41.blk 1 rfl b13
  replace b8 := K41.blk 2 rfl b8
  clear b35
  refine wpList_nil ?_
  refine then_n ?_
  refine wp_seq ?_
  refine wp_region_lit ?_
  refine lv (d := 11) rfl rfl (by kernel_rfl) (e_fieldAddr (b := g7) (off := 0) (o := 2) Try.underlying44 rfl rfl (sz := 1) (by kernel_rfl) (by decide) (by kernel_rfl)) ?_
  refine lv (d := 12) rfl rfl (by kernel_rfl) (e_load1 (ad := ⟨g7, 0 + 2, none⟩) (v := .int .i64 x1.typ) Try.underlying3 rfl (by kernel_rfl) (blk_cell b8 rfl)) ?_
  refine lv (d := 13) rfl rfl (by kernel_rfl) (e_fieldAddr (b := g17) (off := 0) (o := 2) Try.underlying45 rfl rfl (sz := 1) (by kernel_rfl) (by decide) (by kernel_rfl)) ?_
  refine lse rfl rfl (by kernel_rfl) (e_store (g := g17) (o := 0 + 2) (v := .int .i64 x1.typ) (cur' := #[.slice A26 t21.length c27, .int .i64 x1.pri, .int .i64 x1.typ]) (vs := [.int .i64 x1.typ]) S40 (by kernel_rfl) (by kernel_rfl) rfl (by kernel_rfl) b39 (Nat.le_of_ble_eq_true rfl) (List.forall_mem_cons.2 ⟨rfl, (fun _ h_ => by cases h_)⟩) rfl) ?_
  rintro w42 ⟨b43, S44, K45⟩
  replace h28 := h28.move (K45.at 0 rfl)
  replace b13 := K45.blk 1 rfl b13
  replace b8 := K45.blk 2 rfl b8
  clear b39
  refine wpList_nil ?_
  refine then_n ?_
  refine wp_seq ?_
  refine wp_region_lit ?_
  refine lv (d := 14) rfl rfl (by kernel_rfl) (e_loadS (b := g17) (off := 0) (cs := [.slice A26 t21.length c27, .int .i64 x1.pri, .int .i64 x1.typ]) Try.underlying45 rfl (by kernel_rfl) (by kernel_rfl) (blk_cells b43 rfl)) ?_
  have S46 := S44.pull (F := (is g12)) (Fr := [(is g17), F29, (is g7)]) 2 rfl rfl
  refine lse rfl rfl (by kernel_rfl) (e_store (g := g12) (o := 0) (v := .agg #[.slice A26 t21.length c27, .int .i64 x1.pri, .int .i64 x1.typ]) (cur' := #[.slice A26 t21.length c27, .int .i64 x1.pri, .int .i64 x1.typ]) (vs := [.slice A26 t21.length c27, .int .i64 x1.pri, .int .i64 x1.typ]) S46 (by kernel_rfl) (by kernel_rfl) rfl (by kernel_rfl) b13 (Nat.le_of_ble_eq_true rfl) (List.forall_mem_cons.2 ⟨rfl, (List.forall_mem_cons.2 ⟨rfl, (List.forall_mem_cons.2 ⟨rfl, (fun _ h_ => by cases h_)⟩)⟩)⟩) rfl) ?_
  rintro w47 ⟨b48, S49, K50⟩
  replace b43 := K50.blk 0 rfl b43
  replace h28 := h28.move (K50.at 1 rfl)
  replace b8 := K50.blk 2 rfl b8
  clear b13
  refine wpList_nil ?_
  refine then_n ?_
  refine wp_ret ?_
  obtain rfl := Option.some.inj M
  have S51 := S49.pull (F := F29) (Fr := [(is g12), (is g17), (is g7)]) 2 rfl rfl
  have S52 := St.first (Fa := [F29]) (Fr := [(is g12), (is g17), (is g7)]) S51
  exact retS (ty := 45) (cur := #[.slice A26 t21.length c27, .int .i64 x1.pri, .int .i64 x1.typ]) rfl rfl (by kernel_rfl) b48 Try.underlying45 rfl (by kernel_rfl) ⟨A26, c27, F29, H24, rfl, h28, S52⟩

/-! laws_toOpS -/
def laws_toOpS.l0 : Nat → (List Sy.Op) → Int → (List Sy.Op) → Option (List Sy.Op)
  | 0, _, _, _ => none
  | k30 + 1, x1, x19, x21 => (if x19 < (x1.length : Int) then (if 0 ≤ x19 then ((laws_toOp.f k30 (x1.getD ((x19).toNat) z44)).bind fun t43 => (if x19 < (((x1.length : Int)).toNat : Int) then (laws_toOpS.l0 k30 x1 (IntKind.i64.wrap (x19 + 1)) (x21.set ((x19).toNat) t43)) else none)) else none) else some x21)
def laws_toOpS.f (k : Nat) (x1 : List Sy.Op) : Option (List Sy.Op) := (if 0 ≤ (x1.length : Int) then (if ((x1.length : Int)).toNat ≤ 7036874417766 then (laws_toOpS.l0 k x1 0 (List.replicate ((x1.length : Int)).toNat z45)) else none) else none)
theorem laws_toOpS.calls (k : Nat) (w : World) (H : Hp) (x1 : List Sy.Op) (A2 : Option Addr) (c3 : Nat) (h4 : Rd st44 H A2 x1) (l5 : x1.length ≤ c3) (S : Own [] H w) (r : List Sy.Op) (M : laws_toOpS.f k x1 = some r) :
    Calls Try.prog 9 #[.slice A2 x1.length c3] w (fun e e_w => ∃ (A_1 : Option Addr) (c_1 : Nat) (F_1 : Foot) (H_ : Hp), e = .returned (.slice A_1 r.length c_1) ∧ Row st45 45 H_ (hp e_w) F_1 A_1 c_1 r ∧ St (anyOf []) H w [F_1] H_ e_w) := by
  rw [laws_toOpS.f] at M
  refine enter (l := [.slice A2 x1.length c3]) 23 Try.func9 rfl rfl rfl ?_
  have S0_ := S.st
  refine wp_seq ?_
  refine wp_region_lit ?_
  refine lv (d := 2) rfl rfl (by kernel_rfl) (e_assign (v := .slice none 0 0) rfl) ?_
  refine wpList_nil ?_
  refine then_n ?_
  refine wp_seq ?_
  refine wp_region_lit ?_
  refine lv (d := 5) rfl rfl (by kernel_rfl) (e_move (v := .slice A2 x1.length c3) (by kernel_rfl)) ?_
  refine lv (d := 6) rfl rfl (by kernel_rfl) (e_len (A := A2) (n := x1.length) (c := c3) Try.underlying22 (by kernel_rfl)) ?_
  obtain ⟨q6, M⟩ := chk M
  obtain ⟨q7, M⟩ := chk M
  refine lve (d := 7) rfl rfl (by kernel_rfl) (e_make (d := st45) (k := .i64) (k2 := .i64) (n := (x1.length : Int)) (z := .agg #[.slice none 0 0, .int .i64 0, .int .i64 0]) (zx := z45) (bytes := 40) S0_ Try.underlying25 (by kernel_rfl) rfl (by decide) (z45_O _) (by kernel_rfl) (by kernel_rfl) q6 (by omega) (by omega)) ?_
  rintro _ w8 ⟨A9, c10, F11, rfl, h12, S13, K14⟩
  refine lv (d := 3) rfl rfl (by kernel_rfl) (e_assign (v := .slice A9 (((x1.length : Int)).toNat) c10) (by kernel_rfl)) ?_
  refine wpList_nil ?_
  refine then_n ?_
  refine wp_seq ?_
  refine wp_seq ?_
  refine wp_region_lit ?_
  refine lv (d := 4) rfl rfl (by kernel_rfl) (e_assign (v := .int .i64 0) rfl) ?_
  refine wpList_nil ?_
  refine then_n ?_
  refine wp_block ?_
  refine wp_loop_g (fun k28 a29 w15 => ∃ (f16 : Nat → Value) (H17 : Hp) (x19 : Int) (F20 : Foot) (x21 : List Sy.Op), a29 = mk 23 f16 ∧ f16 0 = .slice A2 x1.length c3 ∧ f16 3 = .slice A9 (((x1.length : Int)).toNat) c10 ∧ f16 4 = .int .i64 x19 ∧ Row st45 45 H17 (hp w15) F20 A9 c10 x21 ∧ x21.length = ((x1.length : Int)).toNat ∧ Ext H H17 ∧ St (anyOf []) H w [F20] H17 w15 ∧ laws_toOpS.l0 k28 x1 x19 x21 = some r) k ⟨_, H, 0, F11, (List.replicate ((x1.length : Int)).toNat z45), rfl, (by kernel_rfl), (by kernel_rfl), (by kernel_rfl), h12, List.length_replicate, (Ext.refl _), S13, M⟩ ?_
  clear M
  rintro k28 a29 w15 ⟨f16, H17, x19, F20, x21, rfl, e23, e24, e25, h12, n22, Y18, S26, M⟩
  rcases k28 with _ | k30
  · rw [laws_toOpS.l0] at M
    cases M
  rw [laws_toOpS.l0] at M
  refine wp_seq ?_
  refine wp_seq ?_
  refine wp_region_lit ?_
  refine lv (d := 8) rfl rfl (by kernel_rfl) (e_move (v := .int .i64 x19) (by exact e25)) ?_
  refine lv (d := 9) rfl rfl (by kernel_rfl) (e_move (v := .slice A2 x1.length c3) (by exact e23)) ?_
  refine lv (d := 10) rfl rfl (by kernel_rfl) (e_len (A := A2) (n := x1.length) (c := c3) Try.underlying22 (by kernel_rfl)) ?_
  refine lv (d := 11) rfl rfl (by kernel_rfl) (e_lss (k := .i64) (a := x19) (b := (x1.length : Int)) (by kernel_rfl) (by kernel_rfl)) ?_
  refine wpList_nil ?_
  refine then_n ?_
  by_cases q31 : x19 < (x1.length : Int)
  · replace M := ifp q31 M
    refine cond_t rfl (bt q31 (by kernel_rfl)) ?_
    refine wp_skip ?_
    refine then_n ?_
    refine wp_seq ?_
    refine wp_block ?_
    refine wp_region_lit ?_
    refine lv (d := 14) rfl rfl (by kernel_rfl) (e_move (v := .slice A9 (((x1.length : Int)).toNat) c10) (by exact e24)) ?_
    refine lv (d := 15) rfl rfl (by kernel_rfl) (e_move (v := .int .i64 x19) (by exact e25)) ?_
    refine lv (d := 16) rfl rfl (by kernel_rfl) (e_move (v := .slice A2 x1.length c3) (by exact e23)) ?_
    refine lv (d := 17) rfl rfl (by kernel_rfl) (e_move (v := .int .i64 x19) (by exact e25)) ?_
    obtain ⟨q32, M⟩ := chk M
    obtain ⟨b33, o34, e35⟩ := Rd.addr h4 (show (x19).toNat < x1.length by omega)
    obtain ⟨y36, r37, k38⟩ := Rd.at h4 e35 (getD_some z44 (show (x19).toNat < x1.length by omega))
    obtain ⟨A39, c40, rfl, l41, h42⟩ := st44_open r37
    refine lv (d := 18) rfl rfl (by kernel_rfl) (e_indexAddr (b := b33) (off := o34) (n := x1.length) (c := c3) (sz := 3) (i := x19) (k := .i64) Try.underlying22 e35 (by kernel_rfl) (by kernel_rfl) (by kernel_rfl) q32 q31) ?_
    refine lv (d := 19) rfl rfl (by kernel_rfl) (e_loadS (b := b33) (off := o34 + (x19 : Int).toNat * 3) (cs := [.slice A39 ((x1.getD ((x19).toNat) z44).name).length c40, .int .i64 ((x1.getD ((x19).toNat) z44).pri), .int .i64 ((x1.getD ((x19).toNat) z44).typ)]) Try.underlying44 rfl (by kernel_rfl) (by kernel_rfl) (fun j_ u_ e_ => (hpx (S26.inv.cell (Y18.cell (k38 j_ u_ e_)))))) ?_
    obtain ⟨t43, u44, M⟩ := bnd M
    refine lcall (d := 20) rfl rfl (by kernel_rfl) (e_call (l := [.tmp 19]) (vs := [.agg #[.slice A39 ((x1.getD ((x19).toNat) z44).name).length c40, .int .i64 ((x1.getD ((x19).toNat) z44).pri), .int .i64 ((x1.getD ((x19).toNat) z44).typ)]]) Try.func26 (by kernel_rfl) rfl (by kernel_rfl) rfl) (laws_toOp.calls k30 w15 H17 (x1.getD ((x19).toNat) z44) A39 c40 (h42.ext Y18) l41 (St.own' (Fa := []) (Fr := [F20]) S26) t43 u44) ?_
    rintro _ w45 ⟨A48, c49, F51, H46, rfl, h50, T47⟩
    refine ⟨_, rfl, ?_⟩
    obtain ⟨S52, K53⟩ := St.call (Fa := []) (Fr := [F20]) S26 T47
    replace h12 := h12.move (K53.at 0 rfl)
    have E54 := T47.ext
    replace h12 := h12.ext E54
    obtain ⟨q55, M⟩ := chk M
    obtain ⟨b56, e58⟩ := Row.addr h12 (show (x19).toNat < x21.length by have : x21.length = ((x1.length : Int)).toNat := n22; omega)
    refine lv (d := 21) rfl rfl (by kernel_rfl) (e_indexAddr (b := b56) (off := 0) (n := ((x1.length : Int)).toNat) (c := c10) (sz := 3) (i := x19) (k := .i64) Try.underlying25 e58 (by kernel_rfl) (by kernel_rfl) (by kernel_rfl) q32 q55) ?_
    have S59 := S52.pull (F := F20) (Fr := [F51]) 1 rfl rfl
    refine lse rfl rfl (by kernel_rfl) (e_setel (d := st45) (b := b56) (i := (x19).toNat) (v := .agg #[.slice A48 t43.name.length c49, .int .i64 t43.pri, .int .i64 t43.typ]) (vs := [.slice A48 t43.name.length c49, .int .i64 t43.pri, .int .i64 t43.typ]) (yv := t43) S59 (by kernel_rfl) e58 (by kernel_rfl) rfl (by kernel_rfl) h12 (show (x19).toNat < x21.length by have : x21.length = ((x1.length : Int)).toNat := n22; omega) (st45_mkO (x := t43) h50)) ?_
    rintro w60 ⟨F62, h61, S63, K64⟩
    clear h12
    refine wpList_nil ?_
    refine inb_n ?_
    refine then_n ?_
    refine wp_region_lit ?_
    refine lv (d := 12) rfl rfl (by kernel_rfl) (e_move (v := .int .i64 x19) (by exact e25)) ?_
    refine lv (d := 13) rfl rfl (by kernel_rfl) (e_add (k := .i64) (a := x19) (b := 1) (by kernel_rfl) rfl) ?_
    refine lv (d := 4) rfl rfl (by kernel_rfl) (e_assign (v := .int .i64 (IntKind.i64.wrap (x19 + 1))) (by kernel_rfl)) ?_
    refine wpList_nil ?_
    refine then_n ?_
    exact ⟨k30, (by omega), _, H46, (IntKind.i64.wrap (x19 + 1)), F62, (x21.set ((x19).toNat) t43), rfl, (by exact e23), (by exact e24), (by kernel_rfl), h61, (List.length_set.trans n22), (Y18.trans E54), S63, M⟩
  replace M := ifn q31 M
  refine cond_f rfl (bf q31 (by kernel_rfl)) ?_
  refine wp_exit ?_
  refine then_e ?_
  refine then_e ?_
  refine inb_hit ?_
  refine then_n ?_
  refine wp_seq ?_
  refine wp_region_lit ?_
  refine lv (d := 22) rfl rfl (by kernel_rfl) (e_move (v := .slice A9 (((x1.length : Int)).toNat) c10) (by exact e24)) ?_
  refine lv (d := 2) rfl rfl (by kernel_rfl) (e_assign (v := .slice A9 (((x1.length : Int)).toNat) c10) (by kernel_rfl)) ?_
  refine wpList_nil ?_
  refine then_n ?_
  refine wp_ret ?_
  obtain rfl := Option.some.inj M
  exact ret1 rfl rfl  (show _ = .slice A9 (((x1.length : Int)).toNat) c10 from (by kernel_rfl)) ⟨A9, c10, F20, H17, (by rw [(show x21.length = ((x1.length : Int)).toNat from n22)]), h12, S26⟩

/-! spec_l3special -/
def spec_l3special.f (x1 : List UInt8) : Option Bool := (if x1 = ([91, 93] : List UInt8) then some true else (if x1 = ([123, 125] : List UInt8) then some true else some (decide (x1 = ([124] : List UInt8)))))
theorem spec_l3special.calls (w : World) (H : Hp) (x1 : List UInt8) (A2 : Option Addr) (c3 : Nat) (h4 : Rd tByte H A2 x1) (l5 : x1.length ≤ c3) (S : Own [] H w) (r : Bool) (M : spec_l3special.f x1 = some r) :
    Calls Try.prog 24 #[.slice A2 x1.length c3] w (fun e e_w => e = .returned (.bool r) ∧ Chg no w e_w) := by
  rw [spec_l3special.f] at M
  refine enter (l := [.slice A2 x1.length c3]) 16 Try.func24 rfl rfl rfl ?_
  have S0_ := S.st
  refine wp_seq ?_
  refine wp_region_lit ?_
  refine lv (d := 2) rfl rfl (by kernel_rfl) (e_assign (v := .bool false) rfl) ?_
  refine wpList_nil ?_
  refine then_n ?_
  refine wp_seq ?_
  refine wp_region_lit ?_
  refine lv (d := 4) rfl rfl (by kernel_rfl) (e_move (v := .slice A2 x1.length c3) (by kernel_rfl)) ?_
  refine lv (d := 5) rfl rfl (by kernel_rfl) (e_conv_bs (A := A2) (n := x1.length) (c := c3) (xs := x1) Try.underlying32 Try.underlying5 Try.underlying9 (by kernel_rfl) rfl (Rd.bytesE S0_.inv h4)) ?_
  refine lv (d := 3) rfl rfl (by kernel_rfl) (e_assign (v := str x1) (by kernel_rfl)) ?_
  refine wpList_nil ?_
  refine then_n ?_
  refine wp_seq ?_
  refine wp_region_lit ?_
  refine lv (d := 6) rfl rfl (by kernel_rfl) (e_move (v := str x1) (by kernel_rfl)) ?_
  refine lv (d := 7) rfl rfl (by kernel_rfl) (e_seql (p := x1) (q := ([91, 93] : List UInt8)) (by kernel_rfl) rfl) ?_
  refine lv (d := 8) rfl rfl (by kernel_rfl) (e_move (v := .bool (decide (x1 = ([91, 93] : List UInt8)))) (by kernel_rfl)) ?_
  by_cases q6 : x1 = ([91, 93] : List UInt8)
  · replace M := ifp q6 M
    refine lskip (t := 8) (c := true) rfl (by kernel_rfl) rfl (bt q6 (by kernel_rfl)) rfl rfl ?_
    refine lskip (t := 8) (c := true) rfl (by kernel_rfl) rfl (bt q6 (by kernel_rfl)) rfl rfl ?_
    refine lv (d := 11) rfl rfl (by kernel_rfl) (e_pick_t (v := .bool true) (bt q6 (by kernel_rfl)) rfl) ?_
    refine lv (d := 12) rfl rfl (by kernel_rfl) (e_move (v := .bool true) (by kernel_rfl)) ?_
    refine lskip (t := 12) (c := true) rfl (by kernel_rfl) rfl (by kernel_rfl) rfl rfl ?_
    refine lskip (t := 12) (c := true) rfl (by kernel_rfl) rfl (by kernel_rfl) rfl rfl ?_
    refine lv (d := 15) rfl rfl (by kernel_rfl) (e_pick_t (v := .bool true) (by kernel_rfl) rfl) ?_
    refine lv (d := 2) rfl rfl (by kernel_rfl) (e_assign (v := .bool true) (by kernel_rfl)) ?_
    refine wpList_nil ?_
    refine then_n ?_
    refine wp_ret ?_
    obtain rfl := Option.some.inj M
    exact ret1 rfl rfl  (show _ = .bool true from (by kernel_rfl)) ⟨rfl, S0_.chg⟩
  replace M := ifn q6 M
  refine lvg (d := 9) (t := 8) rfl (by kernel_rfl) rfl (bf q6 (by kernel_rfl)) rfl (by kernel_rfl) (e_move (v := str x1) (by kernel_rfl)) ?_
  refine lvg (d := 10) (t := 8) rfl (by kernel_rfl) rfl (bf q6 (by kernel_rfl)) rfl (by kernel_rfl) (e_seql (p := x1) (q := ([123, 125] : List UInt8)) (by kernel_rfl) rfl) ?_
  refine lv (d := 11) rfl rfl (by kernel_rfl) (e_pick_f (v := .bool (decide (x1 = ([123, 125] : List UInt8)))) (bf q6 (by kernel_rfl)) (by kernel_rfl)) ?_
  refine lv (d := 12) rfl rfl (by kernel_rfl) (e_move (v := .bool (decide (x1 = ([123, 125] : List UInt8)))) (by kernel_rfl)) ?_
  by_cases q7 : x1 = ([123, 125] : List UInt8)
  · replace M := ifp q7 M
    refine lskip (t := 12) (c := true) rfl (by kernel_rfl) rfl (bt q7 (by kernel_rfl)) rfl rfl ?_
    refine lskip (t := 12) (c := true) rfl (by kernel_rfl) rfl (bt q7 (by kernel_rfl)) rfl rfl ?_
    refine lv (d := 15) rfl rfl (by kernel_rfl) (e_pick_t (v := .bool true) (bt q7 (by kernel_rfl)) rfl) ?_
    refine lv (d := 2) rfl rfl (by kernel_rfl) (e_assign (v := .bool true) (by kernel_rfl)) ?_
    refine wpList_nil ?_
    refine then_n ?_
    refine wp_ret ?_
    obtain rfl := Option.some.inj M
    exact ret1 rfl rfl  (show _ = .bool true from (by kernel_rfl)) ⟨rfl, S0_.chg⟩
  replace M := ifn q7 M
  refine lvg (d := 13) (t := 12) rfl (by kernel_rfl) rfl (bf q7 (by kernel_rfl)) rfl (by kernel_rfl) (e_move (v := str x1) (by kernel_rfl)) ?_
  refine lvg (d := 14) (t := 12) rfl (by kernel_rfl) rfl (bf q7 (by kernel_rfl)) rfl (by kernel_rfl) (e_seql (p := x1) (q := ([124] : List UInt8)) (by kernel_rfl) rfl) ?_
  refine lv (d := 15) rfl rfl (by kernel_rfl) (e_pick_f (v := .bool (decide (x1 = ([124] : List UInt8)))) (bf q7 (by kernel_rfl)) (by kernel_rfl)) ?_
  refine lv (d := 2) rfl rfl (by kernel_rfl) (e_assign (v := .bool (decide (x1 = ([124] : List UInt8)))) (by kernel_rfl)) ?_
  refine wpList_nil ?_
  refine then_n ?_
  refine wp_ret ?_
  obtain rfl := Option.some.inj M
  exact ret1 rfl rfl  (show _ = .bool (decide (x1 = ([124] : List UInt8))) from (by kernel_rfl)) ⟨rfl, S0_.chg⟩

/-! spec_l3prefix -/
def spec_l3prefix.f (x1 : Int) : Option Bool := (if x1 = 3 then some true else some (decide (x1 = 4)))
theorem spec_l3prefix.calls (w : World) (H : Hp) (x1 : Int) (S : Own [] H w) (r : Bool) (M : spec_l3prefix.f x1 = some r) :
    Calls Try.prog 25 #[.int .i64 x1] w (fun e e_w => e = .returned (.bool r) ∧ Chg no w e_w) := by
  rw [spec_l3prefix.f] at M
  refine enter (l := [.int .i64 x1]) 9 Try.func25 rfl rfl rfl ?_
  have S0_ := S.st
  refine wp_seq ?_
  refine wp_region_lit ?_
  refine lv (d := 2) rfl rfl (by kernel_rfl) (e_assign (v := .bool false) rfl) ?_
  refine wpList_nil ?_
  refine then_n ?_
  refine wp_seq ?_
  refine wp_region_lit ?_
  refine lv (d := 3) rfl rfl (by kernel_rfl) (e_move (v := .int .i64 x1) (by kernel_rfl)) ?_
  refine lv (d := 4) rfl rfl (by kernel_rfl) (e_eql (k := .i64) (a := x1) (b := 3) (by kernel_rfl) rfl) ?_
  refine lv (d := 5) rfl rfl (by kernel_rfl) (e_move (v := .bool (decide (x1 = 3))) (by kernel_rfl)) ?_
  by_cases q2 : x1 = 3
  · replace M := ifp q2 M
    refine lskip (t := 5) (c := true) rfl (by kernel_rfl) rfl (bt q2 (by kernel_rfl)) rfl rfl ?_
    refine lskip (t := 5) (c := true) rfl (by kernel_rfl) rfl (bt q2 (by kernel_rfl)) rfl rfl ?_
    refine lv (d := 8) rfl rfl (by kernel_rfl) (e_pick_t (v := .bool true) (bt q2 (by kernel_rfl)) rfl) ?_
    refine lv (d := 2) rfl rfl (by kernel_rfl) (e_assign (v := .bool true) (by kernel_rfl)) ?_
    refine wpList_nil ?_
    refine then_n ?_
    refine wp_ret ?_
    obtain rfl := Option.some.inj M
    exact ret1 rfl rfl  (show _ = .bool true from (by kernel_rfl)) ⟨rfl, S0_.chg⟩
  replace M := ifn q2 M
  refine lvg (d := 6) (t := 5) rfl (by kernel_rfl) rfl (bf q2 (by kernel_rfl)) rfl (by kernel_rfl) (e_move (v := .int .i64 x1) (by kernel_rfl)) ?_
  refine lvg (d := 7) (t := 5) rfl (by kernel_rfl) rfl (bf q2 (by kernel_rfl)) rfl (by kernel_rfl) (e_eql (k := .i64) (a := x1) (b := 4) (by kernel_rfl) rfl) ?_
  refine lv (d := 8) rfl rfl (by kernel_rfl) (e_pick_f (v := .bool (decide (x1 = 4))) (bf q2 (by kernel_rfl)) (by kernel_rfl)) ?_
  refine lv (d := 2) rfl rfl (by kernel_rfl) (e_assign (v := .bool (decide (x1 = 4))) (by kernel_rfl)) ?_
  refine wpList_nil ?_
  refine then_n ?_
  refine wp_ret ?_
  obtain rfl := Option.some.inj M
  exact ret1 rfl rfl  (show _ = .bool (decide (x1 = 4)) from (by kernel_rfl)) ⟨rfl, S0_.chg⟩

/-! spec_ValidOps -/
mutual
def spec_ValidOps.l0 : Nat → (List Sy.Op) → Int → Int → Option Bool
  | 0, _, _, _ => none
  | k18 + 1, x1, x9, x10 => (if x10 < (x1.length : Int) then (if 0 ≤ x10 then (if (((x1.getD ((x10).toNat) z45).name).length : Int) < 1 then some false else (if (((x1.getD ((x10).toNat) z45).name).length : Int) > 100 then some false else ((spec_l3special.f ((x1.getD ((x10).toNat) z45).name)).bind fun t42 => (if t42 = true then some false else (if ((x1.getD ((x10).toNat) z45).pri) < 1 then some false else (if ((x1.getD ((x10).toNat) z45).pri) > 1200 then some false else (if ((x1.getD ((x10).toNat) z45).typ) < 0 then some false else (if ((x1.getD ((x10).toNat) z45).typ) > 6 then some false else (if (x1.getD ((x10).toNat) z45).name = ([44] : List UInt8) then (if ((x1.getD ((x10).toNat) z45).pri) ≠ 1000 then some false else (if ((x1.getD ((x10).toNat) z45).typ) ≠ 1 then some false else (spec_ValidOps.l1 k18 x1 x10 (IntKind.i64.wrap (x9 + 1))))) else (spec_ValidOps.l1 k18 x1 x10 x9)))))))))) else none) else some (decide (x9 = 1)))
def spec_ValidOps.l1 : Nat → (List Sy.Op) → Int → Int → Option Bool
  | 0, _, _, _ => none
  | k82 + 1, x1, x10, x55 => (if x10 = 0 then (spec_ValidOps.l0 k82 x1 x55 (IntKind.i64.wrap (x10 + 1))) else (if 0 ≤ (IntKind.i64.wrap (x10 - 1)) then (if (IntKind.i64.wrap (x10 - 1)) < (x1.length : Int) then (if (!(Op.bytesLess ((x1.getD (((IntKind.i64.wrap (x10 - 1))).toNat) z45).name) ((x1.getD ((x10).toNat) z45).name) || ((x1.getD (((IntKind.i64.wrap (x10 - 1))).toNat) z45).name) == ((x1.getD ((x10).toNat) z45).name))) = true then some false else (if (x1.getD (((IntKind.i64.wrap (x10 - 1))).toNat) z45).name = (x1.getD ((x10).toNat) z45).name then ((spec_l3prefix.f ((x1.getD (((IntKind.i64.wrap (x10 - 1))).toNat) z45).typ)).bind fun t112 => (if ¬ (t112 = true) then some false else ((spec_l3prefix.f ((x1.getD ((x10).toNat) z45).typ)).bind fun t119 => (if t119 = true then some false else (spec_ValidOps.l0 k82 x1 x55 (IntKind.i64.wrap (x10 + 1))))))) else (spec_ValidOps.l0 k82 x1 x55 (IntKind.i64.wrap (x10 + 1))))) else none) else none))
end
def spec_ValidOps.f (k : Nat) (x1 : List Sy.Op) : Option Bool := (if (x1.length : Int) > 200 then some false else (spec_ValidOps.l0 k x1 0 0))
theorem spec_ValidOps.calls (k : Nat) (w : World) (H : Hp) (x1 : List Sy.Op) (A2 : Option Addr) (c3 : Nat) (h4 : Rd st45 H A2 x1) (l5 : x1.length ≤ c3) (S : Own [] H w) (r : Bool) (M : spec_ValidOps.f k x1 = some r) :
    Calls Try.prog 8 #[.slice A2 x1.length c3] w (fun e e_w => e = .returned (.bool r) ∧ Chg no w e_w) := by
  rw [spec_ValidOps.f] at M
  refine enter (l := [.slice A2 x1.length c3]) 103 Try.func8 rfl rfl rfl ?_
  have S0_ := S.st
  refine wp_seq ?_
  refine wp_region_lit ?_
  refine lv (d := 2) rfl rfl (by kernel_rfl) (e_assign (v := .bool false) rfl) ?_
  refine wpList_nil ?_
  refine then_n ?_
  refine wp_seq ?_
  refine wp_seq ?_
  refine wp_region_lit ?_
  refine lv (d := 7) rfl rfl (by kernel_rfl) (e_move (v := .slice A2 x1.length c3) (by kernel_rfl)) ?_
  refine lv (d := 8) rfl rfl (by kernel_rfl) (e_len (A := A2) (n := x1.length) (c := c3) Try.underlying25 (by kernel_rfl)) ?_
  refine lv (d := 9) rfl rfl (by kernel_rfl) (e_gtr (k := .i64) (a := (x1.length : Int)) (b := 200) (by kernel_rfl) rfl) ?_
  refine wpList_nil ?_
  refine then_n ?_
  by_cases q6 : (x1.length : Int) > 200
  · replace M := ifp q6 M
    refine cond_t rfl (bt q6 (by kernel_rfl)) ?_
    refine wp_seq ?_
    refine wp_region_lit ?_
    refine lv (d := 2) rfl rfl (by kernel_rfl) (e_assign (v := .bool false) rfl) ?_
    refine wpList_nil ?_
    refine then_n ?_
    refine wp_ret ?_
    refine then_r ?_
    obtain rfl := Option.some.inj M
    exact ret1 rfl rfl  (show _ = .bool false from (by kernel_rfl)) ⟨rfl, S0_.chg⟩
  replace M := ifn q6 M
  refine cond_f rfl (bf q6 (by kernel_rfl)) ?_
  refine wp_skip ?_
  refine then_n ?_
  refine wp_seq ?_
  refine wp_region_lit ?_
  refine lv (d := 3) rfl rfl (by kernel_rfl) (e_assign (v := .int .i64 0) rfl) ?_
  refine wpList_nil ?_
  refine then_n ?_
  refine wp_seq ?_
  refine wp_seq ?_
  refine wp_region_lit ?_
  refine lv (d := 4) rfl rfl (by kernel_rfl) (e_assign (v := .int .i64 0) rfl) ?_
  refine wpList_nil ?_
  refine then_n ?_
  refine wp_block ?_
  refine wp_loop_g (fun k16 a17 w7 => ∃ (f8 : Nat → Value) (x9 : Int) (x10 : Int), a17 = mk 103 f8 ∧ f8 0 = .slice A2 x1.length c3 ∧ f8 3 = .int .i64 x9 ∧ f8 4 = .int .i64 x10 ∧ St (anyOf []) H w [] H w7 ∧ spec_ValidOps.l0 k16 x1 x9 x10 = some r) k ⟨_, 0, 0, rfl, (by kernel_rfl), (by kernel_rfl), (by kernel_rfl), S0_, M⟩ ?_
  clear M
  rintro k16 a17 w7 ⟨f8, x9, x10, rfl, e11, e12, e13, S14, M⟩
  rcases k16 with _ | k18
  · rw [spec_ValidOps.l0] at M
    cases M
  rw [spec_ValidOps.l0] at M
  refine wp_seq ?_
  refine wp_seq ?_
  refine wp_region_lit ?_
  refine lv (d := 10) rfl rfl (by kernel_rfl) (e_move (v := .int .i64 x10) (by exact e13)) ?_
  refine lv (d := 11) rfl rfl (by kernel_rfl) (e_move (v := .slice A2 x1.length c3) (by exact e11)) ?_
  refine lv (d := 12) rfl rfl (by kernel_rfl) (e_len (A := A2) (n := x1.length) (c := c3) Try.underlying25 (by kernel_rfl)) ?_
  refine lv (d := 13) rfl rfl (by kernel_rfl) (e_lss (k := .i64) (a := x10) (b := (x1.length : Int)) (by kernel_rfl) (by kernel_rfl)) ?_
  refine wpList_nil ?_
  refine then_n ?_
  by_cases q19 : x10 < (x1.length : Int)
  · replace M := ifp q19 M
    refine cond_t rfl (bt q19 (by kernel_rfl)) ?_
    refine wp_skip ?_
    refine then_n ?_
    refine wp_seq ?_
    refine wp_block ?_
    refine wp_seq ?_
    refine wp_region_lit ?_
    refine lv (d := 16) rfl rfl (by kernel_rfl) (e_move (v := .slice A2 x1.length c3) (by exact e11)) ?_
    refine lv (d := 17) rfl rfl (by kernel_rfl) (e_move (v := .int .i64 x10) (by exact e13)) ?_
    obtain ⟨q20, M⟩ := chk M
    obtain ⟨b21, o22, e23⟩ := Rd.addr h4 (show (x10).toNat < x1.length by omega)
    obtain ⟨y24, r25, k26⟩ := Rd.at h4 e23 (getD_some z45 (show (x10).toNat < x1.length by omega))
    obtain ⟨A27, c28, rfl, l29, h30⟩ := st45_open r25
    refine lv (d := 18) rfl rfl (by kernel_rfl) (e_indexAddr (b := b21) (off := o22) (n := x1.length) (c := c3) (sz := 3) (i := x10) (k := .i64) Try.underlying25 e23 (by kernel_rfl) (by kernel_rfl) (by kernel_rfl) q20 q19) ?_
    refine lv (d := 19) rfl rfl (by kernel_rfl) (e_loadS (b := b21) (off := o22 + (x10 : Int).toNat * 3) (cs := [.slice A27 ((x1.getD ((x10).toNat) z45).name).length c28, .int .i64 ((x1.getD ((x10).toNat) z45).pri), .int .i64 ((x1.getD ((x10).toNat) z45).typ)]) Try.underlying45 rfl (by kernel_rfl) (by kernel_rfl) (fun j_ u_ e_ => (hpx (S14.inv.cell (k26 j_ u_ e_))))) ?_
    refine lve (d := 5) rfl rfl (by kernel_rfl) (new_blk (v := fun g_ => .pointer (some ⟨g_, 0, none⟩)) (cs := #[.slice none 0 0, .int .i64 0, .int .i64 0]) (t := 45) S14 (by kernel_rfl)) ?_
    rintro _ w31 ⟨g32, rfl, b33, S34, K35⟩
    refine lse rfl rfl (by kernel_rfl) (e_store (g := g32) (o := 0) (v := .agg #[.slice A27 ((x1.getD ((x10).toNat) z45).name).length c28, .int .i64 ((x1.getD ((x10).toNat) z45).pri), .int .i64 ((x1.getD ((x10).toNat) z45).typ)]) (cur' := #[.slice A27 ((x1.getD ((x10).toNat) z45).name).length c28, .int .i64 ((x1.getD ((x10).toNat) z45).pri), .int .i64 ((x1.getD ((x10).toNat) z45).typ)]) (vs := [.slice A27 ((x1.getD ((x10).toNat) z45).name).length c28, .int .i64 ((x1.getD ((x10).toNat) z45).pri), .int .i64 ((x1.getD ((x10).toNat) z45).typ)]) S34 (by kernel_rfl) (by kernel_rfl) rfl (by kernel_rfl) b33 (Nat.le_of_ble_eq_true rfl) (List.forall_mem_cons.2 ⟨rfl, (List.forall_mem_cons.2 ⟨rfl, (List.forall_mem_cons.2 ⟨rfl, (fun _ h_ => by cases h_)⟩)⟩)⟩) rfl) ?_
    rintro w36 ⟨b37, S38, K39⟩
    clear b33
    refine wpList_nil ?_
    refine then_n ?_
    refine wp_seq ?_
    refine wp_seq ?_
    refine wp_region_lit ?_
    refine lv (d := 20) rfl rfl (by kernel_rfl) (e_fieldAddr (b := g32) (off := 0) (o := 0) Try.underlying45 rfl rfl (sz := 1) (by kernel_rfl) (by decide) (by kernel_rfl)) ?_
    refine lv (d := 21) rfl rfl (by kernel_rfl) (e_load1 (ad := ⟨g32, 0 + 0, none⟩) (v := .slice A27 ((x1.getD ((x10).toNat) z45).name).length c28) Try.underlying32 rfl (by kernel_rfl) (blk_cell b37 rfl)) ?_
    refine lv (d := 22) rfl rfl (by kernel_rfl) (e_len (A := A27) (n := ((x1.getD ((x10).toNat) z45).name).length) (c := c28) Try.underlying32 (by kernel_rfl)) ?_
    refine lv (d := 23) rfl rfl (by kernel_rfl) (e_lss (k := .i64) (a := (((x1.getD ((x10).toNat) z45).name).length : Int)) (b := 1) (by kernel_rfl) rfl) ?_
    refine lv (d := 24) rfl rfl (by kernel_rfl) (e_move (v := .bool (decide ((((x1.getD ((x10).toNat) z45).name).length : Int) < 1))) (by kernel_rfl)) ?_
    by_cases q40 : (((x1.getD ((x10).toNat) z45).name).length : Int) < 1
    · replace M := ifp q40 M
      refine lskip (t := 24) (c := true) rfl (by kernel_rfl) rfl (bt q40 (by kernel_rfl)) rfl rfl ?_
      refine lskip (t := 24) (c := true) rfl (by kernel_rfl) rfl (bt q40 (by kernel_rfl)) rfl rfl ?_
      refine lskip (t := 24) (c := true) rfl (by kernel_rfl) rfl (bt q40 (by kernel_rfl)) rfl rfl ?_
      refine lskip (t := 24) (c := true) rfl (by kernel_rfl) rfl (bt q40 (by kernel_rfl)) rfl rfl ?_
      refine lv (d := 29) rfl rfl (by kernel_rfl) (e_pick_t (v := .bool true) (bt q40 (by kernel_rfl)) rfl) ?_
      refine lv (d := 30) rfl rfl (by kernel_rfl) (e_move (v := .bool true) (by kernel_rfl)) ?_
      refine lskip (t := 30) (c := true) rfl (by kernel_rfl) rfl (by kernel_rfl) rfl rfl ?_
      refine lskip (t := 30) (c := true) rfl (by kernel_rfl) rfl (by kernel_rfl) rfl rfl ?_
      refine lskip (t := 30) (c := true) rfl (by kernel_rfl) rfl (by kernel_rfl) rfl rfl ?_
      refine lv (d := 34) rfl rfl (by kernel_rfl) (e_pick_t (v := .bool true) (by kernel_rfl) rfl) ?_
      refine lv (d := 35) rfl rfl (by kernel_rfl) (e_move (v := .bool true) (by kernel_rfl)) ?_
      refine lskip (t := 35) (c := true) rfl (by kernel_rfl) rfl (by kernel_rfl) rfl rfl ?_
      refine lskip (t := 35) (c := true) rfl (by kernel_rfl) rfl (by kernel_rfl) rfl rfl ?_
      refine lskip (t := 35) (c := true) rfl (by kernel_rfl) rfl (by kernel_rfl) rfl rfl ?_
      refine lv (d := 39) rfl rfl (by kernel_rfl) (e_pick_t (v := .bool true) (by kernel_rfl) rfl) ?_
      refine lv (d := 40) rfl rfl (by kernel_rfl) (e_move (v := .bool true) (by kernel_rfl)) ?_
      refine lskip (t := 40) (c := true) rfl (by kernel_rfl) rfl (by kernel_rfl) rfl rfl ?_
      refine lskip (t := 40) (c := true) rfl (by kernel_rfl) rfl (by kernel_rfl) rfl rfl ?_
      refine lskip (t := 40) (c := true) rfl (by kernel_rfl) rfl (by kernel_rfl) rfl rfl ?_
      refine lv (d := 44) rfl rfl (by kernel_rfl) (e_pick_t (v := .bool true) (by kernel_rfl) rfl) ?_
      refine lv (d := 45) rfl rfl (by kernel_rfl) (e_move (v := .bool true) (by kernel_rfl)) ?_
      refine lskip (t := 45) (c := true) rfl (by kernel_rfl) rfl (by kernel_rfl) rfl rfl ?_
      refine lskip (t := 45) (c := true) rfl (by kernel_rfl) rfl (by kernel_rfl) rfl rfl ?_
      refine lskip (t := 45) (c := true) rfl (by kernel_rfl) rfl (by kernel_rfl) rfl rfl ?_
      refine lv (d := 49) rfl rfl (by kernel_rfl) (e_pick_t (v := .bool true) (by kernel_rfl) rfl) ?_
      refine lv (d := 50) rfl rfl (by kernel_rfl) (e_move (v := .bool true) (by kernel_rfl)) ?_
      refine lskip (t := 50) (c := true) rfl (by kernel_rfl) rfl (by kernel_rfl) rfl rfl ?_
      refine lskip (t := 50) (c := true) rfl (by kernel_rfl) rfl (by kernel_rfl) rfl rfl ?_
      refine lskip (t := 50) (c := true) rfl (by kernel_rfl) rfl (by kernel_rfl) rfl rfl ?_
      refine lv (d := 54) rfl rfl (by kernel_rfl) (e_pick_t (v := .bool true) (by kernel_rfl) rfl) ?_
      refine wpList_nil ?_
      refine then_n ?_
      refine cond_t rfl (by kernel_rfl) ?_
      refine wp_seq ?_
      refine wp_region_lit ?_
      refine lv (d := 2) rfl rfl (by kernel_rfl) (e_assign (v := .bool false) rfl) ?_
      refine wpList_nil ?_
      refine then_n ?_
      refine wp_ret ?_
      refine then_r ?_
      refine inb_r ?_
      refine then_r ?_
      refine then_r ?_
      refine inb_r ?_
      refine then_r ?_
      obtain rfl := Option.some.inj M
      exact ret1 rfl rfl  (show _ = .bool false from (by kernel_rfl)) ⟨rfl, S38.chg⟩
    replace M := ifn q40 M
    refine lvg (d := 25) (t := 24) rfl (by kernel_rfl) rfl (bf q40 (by kernel_rfl)) rfl (by kernel_rfl) (e_fieldAddr (b := g32) (off := 0) (o := 0) Try.underlying45 rfl rfl (sz := 1) (by kernel_rfl) (by decide) (by kernel_rfl)) ?_
    refine lvg (d := 26) (t := 24) rfl (by kernel_rfl) rfl (bf q40 (by kernel_rfl)) rfl (by kernel_rfl) (e_load1 (ad := ⟨g32, 0 + 0, none⟩) (v := .slice A27 ((x1.getD ((x10).toNat) z45).name).length c28) Try.underlying32 rfl (by kernel_rfl) (blk_cell b37 rfl)) ?_
    refine lvg (d := 27) (t := 24) rfl (by kernel_rfl) rfl (bf q40 (by kernel_rfl)) rfl (by kernel_rfl) (e_len (A := A27) (n := ((x1.getD ((x10).toNat) z45).name).length) (c := c28) Try.underlying32 (by kernel_rfl)) ?_
    refine lvg (d := 28) (t := 24) rfl (by kernel_rfl) rfl (bf q40 (by kernel_rfl)) rfl (by kernel_rfl) (e_gtr (k := .i64) (a := (((x1.getD ((x10).toNat) z45).name).length : Int)) (b := 100) (by kernel_rfl) rfl) ?_
    refine lv (d := 29) rfl rfl (by kernel_rfl) (e_pick_f (v := .bool (decide ((((x1.getD ((x10).toNat) z45).name).length : Int) > 100))) (bf q40 (by kernel_rfl)) (by kernel_rfl)) ?_
    refine lv (d := 30) rfl rfl (by kernel_rfl) (e_move (v := .bool (decide ((((x1.getD ((x10).toNat) z45).name).length : Int) > 100))) (by kernel_rfl)) ?_
    by_cases q41 : (((x1.getD ((x10).toNat) z45).name).length : Int) > 100
    · replace M := ifp q41 M
      refine lskip (t := 30) (c := true) rfl (by kernel_rfl) rfl (bt q41 (by kernel_rfl)) rfl rfl ?_
      refine lskip (t := 30) (c := true) rfl (by kernel_rfl) rfl (bt q41 (by kernel_rfl)) rfl rfl ?_
      refine lskip (t := 30) (c := true) rfl (by kernel_rfl) rfl (bt q41 (by kernel_rfl)) rfl rfl ?_
      refine lv (d := 34) rfl rfl (by kernel_rfl) (e_pick_t (v := .bool true) (bt q41 (by kernel_rfl)) rfl) ?_
      refine lv (d := 35) rfl rfl (by kernel_rfl) (e_move (v := .bool true) (by kernel_rfl)) ?_
      refine lskip (t := 35) (c := true) rfl (by kernel_rfl) rfl (by kernel_rfl) rfl rfl ?_
      refine lskip (t := 35) (c := true) rfl (by kernel_rfl) rfl (by kernel_rfl) rfl rfl ?_
      refine lskip (t := 35) (c := true) rfl (by kernel_rfl) rfl (by kernel_rfl) rfl rfl ?_
      refine lv (d := 39) rfl rfl (by kernel_rfl) (e_pick_t (v := .bool true) (by kernel_rfl) rfl) ?_
      refine lv (d := 40) rfl rfl (by kernel_rfl) (e_move (v := .bool true) (by kernel_rfl)) ?_
      refine lskip (t := 40) (c := true) rfl (by kernel_rfl) rfl (by kernel_rfl) rfl rfl ?_
      refine lskip (t := 40) (c := true) rfl (by kernel_rfl) rfl (by kernel_rfl) rfl rfl ?_
      refine lskip (t := 40) (c := true) rfl (by kernel_rfl) rfl (by kernel_rfl) rfl rfl ?_
      refine lv (d := 44) rfl rfl (by kernel_rfl) (e_pick_t (v := .bool true) (by kernel_rfl) rfl) ?_
      refine lv (d := 45) rfl rfl (by kernel_rfl) (e_move (v := .bool true) (by kernel_rfl)) ?_
      refine lskip (t := 45) (c := true) rfl (by kernel_rfl) rfl (by kernel_rfl) rfl rfl ?_
      refine lskip (t := 45) (c := true) rfl (by kernel_rfl) rfl (by kernel_rfl) rfl rfl ?_
      refine lskip (t := 45) (c := true) rfl (by kernel_rfl) rfl (by kernel_rfl) rfl rfl ?_
      refine lv (d := 49) rfl rfl (by kernel_rfl) (e_pick_t (v := .bool true) (by kernel_rfl) rfl) ?_
      refine lv (d := 50) rfl rfl (by kernel_rfl) (e_move (v := .bool true) (by kernel_rfl)) ?_
      refine lskip (t := 50) (c := true) rfl (by kernel_rfl) rfl (by kernel_rfl) rfl rfl ?_
      refine lskip (t := 50) (c := true) rfl (by kernel_rfl) rfl (by kernel_rfl) rfl rfl ?_
      refine lskip (t := 50) (c := true) rfl (by kernel_rfl) rfl (by kernel_rfl) rfl rfl ?_
      refine lv (d := 54) rfl rfl (by kernel_rfl) (e_pick_t (v := .bool true) (by kernel_rfl) rfl) ?_
      refine wpList_nil ?_
      refine then_n ?_
      refine cond_t rfl (by kernel_rfl) ?_
      refine wp_seq ?_
      refine wp_region_lit ?_
      refine lv (d := 2) rfl rfl (by kernel_rfl) (e_assign (v := .bool false) rfl) ?_
      refine wpList_nil ?_
      refine then_n ?_
      refine wp_ret ?_
      refine then_r ?_
      refine inb_r ?_
      refine then_r ?_
      refine then_r ?_
      refine inb_r ?_
      refine then_r ?_
      obtain rfl := Option.some.inj M
      exact ret1 rfl rfl  (show _ = .bool false from (by kernel_rfl)) ⟨rfl, S38.chg⟩
    replace M := ifn q41 M
    refine lvg (d := 31) (t := 30) rfl (by kernel_rfl) rfl (bf q41 (by kernel_rfl)) rfl (by kernel_rfl) (e_fieldAddr (b := g32) (off := 0) (o := 0) Try.underlying45 rfl rfl (sz := 1) (by kernel_rfl) (by decide) (by kernel_rfl)) ?_
    refine lvg (d := 32) (t := 30) rfl (by kernel_rfl) rfl (bf q41 (by kernel_rfl)) rfl (by kernel_rfl) (e_load1 (ad := ⟨g32, 0 + 0, none⟩) (v := .slice A27 ((x1.getD ((x10).toNat) z45).name).length c28) Try.underlying32 rfl (by kernel_rfl) (blk_cell b37 rfl)) ?_
    obtain ⟨t42, u43, M⟩ := bnd M
    refine lcallg (d := 33) (t := 30) rfl (by kernel_rfl) rfl (bf q41 (by kernel_rfl)) rfl (by kernel_rfl) (e_call (l := [.tmp 32]) (vs := [.slice A27 ((x1.getD ((x10).toNat) z45).name).length c28]) Try.func24 (by kernel_rfl) rfl (by kernel_rfl) rfl) (spec_l3special.calls w36 H ((x1.getD ((x10).toNat) z45).name) A27 c28 h30 l29 S38.own0 t42 u43) ?_
    rintro _ w44 ⟨rfl, C45⟩
    refine ⟨_, rfl, ?_⟩
    obtain ⟨S46, K47⟩ := S38.still C45
    replace b37 := K47.blk 0 rfl b37
    refine lv (d := 34) rfl rfl (by kernel_rfl) (e_pick_f (v := .bool t42) (bf q41 (by kernel_rfl)) (by kernel_rfl)) ?_
    refine lv (d := 35) rfl rfl (by kernel_rfl) (e_move (v := .bool t42) (by kernel_rfl)) ?_
    by_cases q48 : t42 = true
    · replace M := ifp q48 M
      refine lskip (t := 35) (c := true) rfl (by kernel_rfl) rfl (bvt q48 (by kernel_rfl)) rfl rfl ?_
      refine lskip (t := 35) (c := true) rfl (by kernel_rfl) rfl (bvt q48 (by kernel_rfl)) rfl rfl ?_
      refine lskip (t := 35) (c := true) rfl (by kernel_rfl) rfl (bvt q48 (by kernel_rfl)) rfl rfl ?_
      refine lv (d := 39) rfl rfl (by kernel_rfl) (e_pick_t (v := .bool true) (bvt q48 (by kernel_rfl)) rfl) ?_
      refine lv (d := 40) rfl rfl (by kernel_rfl) (e_move (v := .bool true) (by kernel_rfl)) ?_
      refine lskip (t := 40) (c := true) rfl (by kernel_rfl) rfl (by kernel_rfl) rfl rfl ?_
      refine lskip (t := 40) (c := true) rfl (by kernel_rfl) rfl (by kernel_rfl) rfl rfl ?_
      refine lskip (t := 40) (c := true) rfl (by kernel_rfl) rfl (by kernel_rfl) rfl rfl ?_
      refine lv (d := 44) rfl rfl (by kernel_rfl) (e_pick_t (v := .bool true) (by kernel_rfl) rfl) ?_
      refine lv (d := 45) rfl rfl (by kernel_rfl) (e_move (v := .bool true) (by kernel_rfl)) ?_
      refine lskip (t := 45) (c := true) rfl (by kernel_rfl) rfl (by kernel_rfl) rfl rfl ?_
      refine lskip (t := 45) (c := true) rfl (by kernel_rfl) rfl (by kernel_rfl) rfl rfl ?_
      refine lskip (t := 45) (c := true) rfl (by kernel_rfl) rfl (by kernel_rfl) rfl rfl ?_
      refine lv (d := 49) rfl rfl (by kernel_rfl) (e_pick_t (v := .bool true) (by kernel_rfl) rfl) ?_
      refine lv (d := 50) rfl rfl (by kernel_rfl) (e_move (v := .bool true) (by kernel_rfl)) ?_
      refine lskip (t := 50) (c := true) rfl (by kernel_rfl) rfl (by kernel_rfl) rfl rfl ?_
      refine lskip (t := 50) (c := true) rfl (by kernel_rfl) rfl (by kernel_rfl) rfl rfl ?_
      refine lskip (t := 50) (c := true) rfl (by kernel_rfl) rfl (by kernel_rfl) rfl rfl ?_
      refine lv (d := 54) rfl rfl (by kernel_rfl) (e_pick_t (v := .bool true) (by kernel_rfl) rfl) ?_
      refine wpList_nil ?_
      refine then_n ?_
      refine cond_t rfl (by kernel_rfl) ?_
      refine wp_seq ?_
      refine wp_region_lit ?_
      refine lv (d := 2) rfl rfl (by kernel_rfl) (e_assign (v := .bool false) rfl) ?_
      refine wpList_nil ?_
      refine then_n ?_
      refine wp_ret ?_
      refine then_r ?_
      refine inb_r ?_
      refine then_r ?_
      refine then_r ?_
      refine inb_r ?_
      refine then_r ?_
      obtain rfl := Option.some.inj M
      exact ret1 rfl rfl  (show _ = .bool false from (by kernel_rfl)) ⟨rfl, S46.chg⟩
    replace M := ifn q48 M
    refine lvg (d := 36) (t := 35) rfl (by kernel_rfl) rfl (bvf q48 (by kernel_rfl)) rfl (by kernel_rfl) (e_fieldAddr (b := g32) (off := 0) (o := 1) Try.underlying45 rfl rfl (sz := 1) (by kernel_rfl) (by decide) (by kernel_rfl)) ?_
    refine lvg (d := 37) (t := 35) rfl (by kernel_rfl) rfl (bvf q48 (by kernel_rfl)) rfl (by kernel_rfl) (e_load1 (ad := ⟨g32, 0 + 1, none⟩) (v := .int .i64 ((x1.getD ((x10).toNat) z45).pri)) Try.underlying3 rfl (by kernel_rfl) (blk_cell b37 rfl)) ?_
    refine lvg (d := 38) (t := 35) rfl (by kernel_rfl) rfl (bvf q48 (by kernel_rfl)) rfl (by kernel_rfl) (e_lss (k := .i64) (a := (x1.getD ((x10).toNat) z45).pri) (b := 1) (by kernel_rfl) rfl) ?_
    refine lv (d := 39) rfl rfl (by kernel_rfl) (e_pick_f (v := .bool (decide (((x1.getD ((x10).toNat) z45).pri) < 1))) (bvf q48 (by kernel_rfl)) (by kernel_rfl)) ?_
    refine lv (d := 40) rfl rfl (by kernel_rfl) (e_move (v := .bool (decide (((x1.getD ((x10).toNat) z45).pri) < 1))) (by kernel_rfl)) ?_
    by_cases q49 : ((x1.getD ((x10).toNat) z45).pri) < 1
    · replace M := ifp q49 M
      refine lskip (t := 40) (c := true) rfl (by kernel_rfl) rfl (bt q49 (by kernel_rfl)) rfl rfl ?_
      refine lskip (t := 40) (c := true) rfl (by kernel_rfl) rfl (bt q49 (by kernel_rfl)) rfl rfl ?_
      refine lskip (t := 40) (c := true) rfl (by kernel_rfl) rfl (bt q49 (by kernel_rfl)) rfl rfl ?_
      refine lv (d := 44) rfl rfl (by kernel_rfl) (e_pick_t (v := .bool true) (bt q49 (by kernel_rfl)) rfl) ?_
      refine lv (d := 45) rfl rfl (by kernel_rfl) (e_move (v := .bool true) (by kernel_rfl)) ?_
      refine lskip (t := 45) (c := true) rfl (by kernel_rfl) rfl (by kernel_rfl) rfl rfl ?_
      refine lskip (t := 45) (c := true) rfl (by kernel_rfl) rfl (by kernel_rfl) rfl rfl ?_
      refine lskip (t := 45) (c := true) rfl (by kernel_rfl) rfl (by kernel_rfl) rfl rfl ?_
      refine lv (d := 49) rfl rfl (by kernel_rfl) (e_pick_t (v := .bool true) (by kernel_rfl) rfl) ?_
      refine lv (d := 50) rfl rfl (by kernel_rfl) (e_move (v := .bool true) (by kernel_rfl)) ?_
      refine lskip (t := 50) (c := true) rfl (by kernel_rfl) rfl (by kernel_rfl) rfl rfl ?_
      refine lskip (t := 50) (c := true) rfl (by kernel_rfl) rfl (by kernel_rfl) rfl rfl ?_
      refine lskip (t := 50) (c := true) rfl (by kernel_rfl) rfl (by kernel_rfl) rfl rfl ?_
      refine lv (d := 54) rfl rfl (by kernel_rfl) (e_pick_t (v := .bool true) (by kernel_rfl) rfl) ?_
      refine wpList_nil ?_
      refine then_n ?_
      refine cond_t rfl (by kernel_rfl) ?_
      refine wp_seq ?_
      refine wp_region_lit ?_
      refine lv (d := 2) rfl rfl (by kernel_rfl) (e_assign (v := .bool false) rfl) ?_
      refine wpList_nil ?_
      refine then_n ?_
      refine wp_ret ?_
      refine then_r ?_
      refine inb_r ?_
      refine then_r ?_
      refine then_r ?_
      refine inb_r ?_
      refine then_r ?_
      obtain rfl := Option.some.inj M
      exact ret1 rfl rfl  (show _ = .bool false from (by kernel_rfl)) ⟨rfl, S46.chg⟩
    replace M := ifn q49 M
    refine lvg (d := 41) (t := 40) rfl (by kernel_rfl) rfl (bf q49 (by kernel_rfl)) rfl (by kernel_rfl) (e_fieldAddr (b := g32) (off := 0) (o := 1) Try.underlying45 rfl rfl (sz := 1) (by kernel_rfl) (by decide) (by kernel_rfl)) ?_
    refine lvg (d := 42) (t := 40) rfl (by kernel_rfl) rfl (bf q49 (by kernel_rfl)) rfl (by kernel_rfl) (e_load1 (ad := ⟨g32, 0 + 1, none⟩) (v := .int .i64 ((x1.getD ((x10).toNat) z45).pri)) Try.underlying3 rfl (by kernel_rfl) (blk_cell b37 rfl)) ?_
    refine lvg (d := 43) (t := 40) rfl (by kernel_rfl) rfl (bf q49 (by kernel_rfl)) rfl (by kernel_rfl) (e_gtr (k := .i64) (a := (x1.getD ((x10).toNat) z45).pri) (b := 1200) (by kernel_rfl) rfl) ?_
    refine lv (d := 44) rfl rfl (by kernel_rfl) (e_pick_f (v := .bool (decide (((x1.getD ((x10).toNat) z45).pri) > 1200))) (bf q49 (by kernel_rfl)) (by kernel_rfl)) ?_
    refine lv (d := 45) rfl rfl (by kernel_rfl) (e_move (v := .bool (decide (((x1.getD ((x10).toNat) z45).pri) > 1200))) (by kernel_rfl)) ?_
    by_cases q50 : ((x1.getD ((x10).toNat) z45).pri) > 1200
    · replace M := ifp q50 M
      refine lskip (t := 45) (c := true) rfl (by kernel_rfl) rfl (bt q50 (by kernel_rfl)) rfl rfl ?_
      refine lskip (t := 45) (c := true) rfl (by kernel_rfl) rfl (bt q50 (by kernel_rfl)) rfl rfl ?_
      refine lskip (t := 45) (c := true) rfl (by kernel_rfl) rfl (bt q50 (by kernel_rfl)) rfl rfl ?_
      refine lv (d := 49) rfl rfl (by kernel_rfl) (e_pick_t (v := .bool true) (bt q50 (by kernel_rfl)) rfl) ?_
      refine lv (d := 50) rfl rfl (by kernel_rfl) (e_move (v := .bool true) (by kernel_rfl)) ?_
      refine lskip (t := 50) (c := true) rfl (by kernel_rfl) rfl (by kernel_rfl) rfl rfl ?_
      refine lskip (t := 50) (c := true) rfl (by kernel_rfl) rfl (by kernel_rfl) rfl rfl ?_
      refine lskip (t := 50) (c := true) rfl (by kernel_rfl) rfl (by kernel_rfl) rfl rfl ?_
      refine lv (d := 54) rfl rfl (by kernel_rfl) (e_pick_t (v := .bool true) (by kernel_rfl) rfl) ?_
      refine wpList_nil ?_
      refine then_n ?_
      refine cond_t rfl (by kernel_rfl) ?_
      refine wp_seq ?_
      refine wp_region_lit ?_
      refine lv (d := 2) rfl rfl (by kernel_rfl) (e_assign (v := .bool false) rfl) ?_
      refine wpList_nil ?_
      refine then_n ?_
      refine wp_ret ?_
      refine then_r ?_
      refine inb_r ?_
      refine then_r ?_
      refine then_r ?_
      refine inb_r ?_
      refine then_r ?_
      obtain rfl := Option.some.inj M
      exact ret1 rfl rfl  (show _ = .bool false from (by kernel_rfl)) ⟨rfl, S46.chg⟩
    replace M := ifn q50 M
    refine lvg (d := 46) (t := 45) rfl (by kernel_rfl) rfl (bf q50 (by kernel_rfl)) rfl (by kernel_rfl) (e_fieldAddr (b := g32) (off := 0) (o := 2) Try.underlying45 rfl rfl (sz := 1) (by kernel_rfl) (by decide) (by kernel_rfl)) ?_
    refine lvg (d := 47) (t := 45) rfl (by kernel_rfl) rfl (bf q50 (by kernel_rfl)) rfl (by kernel_rfl) (e_load1 (ad := ⟨g32, 0 + 2, none⟩) (v := .int .i64 ((x1.getD ((x10).toNat) z45).typ)) Try.underlying3 rfl (by kernel_rfl) (blk_cell b37 rfl)) ?_
    refine lvg (d := 48) (t := 45) rfl (by kernel_rfl) rfl (bf q50 (by kernel_rfl)) rfl (by kernel_rfl) (e_lss (k := .i64) (a := (x1.getD ((x10).toNat) z45).typ) (b := 0) (by kernel_rfl) rfl) ?_
    refine lv (d := 49) rfl rfl (by kernel_rfl) (e_pick_f (v := .bool (decide (((x1.getD ((x10).toNat) z45).typ) < 0))) (bf q50 (by kernel_rfl)) (by kernel_rfl)) ?_
    refine lv (d := 50) rfl rfl (by kernel_rfl) (e_move (v := .bool (decide (((x1.getD ((x10).toNat) z45).typ) < 0))) (by kernel_rfl)) ?_
    by_cases q51 : ((x1.getD ((x10).toNat) z45).typ) < 0
    · replace M := ifp q51 M
      refine lskip (t := 50) (c := true) rfl (by kernel_rfl) rfl (bt q51 (by kernel_rfl)) rfl rfl ?_
      refine lskip (t := 50) (c := true) rfl (by kernel_rfl) rfl (bt q51 (by kernel_rfl)) rfl rfl ?_
      refine lskip (t := 50) (c := true) rfl (by kernel_rfl) rfl (bt q51 (by kernel_rfl)) rfl rfl ?_
      refine lv (d := 54) rfl rfl (by kernel_rfl) (e_pick_t (v := .bool true) (bt q51 (by kernel_rfl)) rfl) ?_
      refine wpList_nil ?_
      refine then_n ?_
      refine cond_t rfl (by kernel_rfl) ?_
      refine wp_seq ?_
      refine wp_region_lit ?_
      refine lv (d := 2) rfl rfl (by kernel_rfl) (e_assign (v := .bool false) rfl) ?_
      refine wpList_nil ?_
      refine then_n ?_
      refine wp_ret ?_
      refine then_r ?_
      refine inb_r ?_
      refine then_r ?_
      refine then_r ?_
      refine inb_r ?_
      refine then_r ?_
      obtain rfl := Option.some.inj M
      exact ret1 rfl rfl  (show _ = .bool false from (by kernel_rfl)) ⟨rfl, S46.chg⟩
    replace M := ifn q51 M
    refine lvg (d := 51) (t := 50) rfl (by kernel_rfl) rfl (bf q51 (by kernel_rfl)) rfl (by kernel_rfl) (e_fieldAddr (b := g32) (off := 0) (o := 2) Try.underlying45 rfl rfl (sz := 1) (by kernel_rfl) (by decide) (by kernel_rfl)) ?_
    refine lvg (d := 52) (t := 50) rfl (by kernel_rfl) rfl (bf q51 (by kernel_rfl)) rfl (by kernel_rfl) (e_load1 (ad := ⟨g32, 0 + 2, none⟩) (v := .int .i64 ((x1.getD ((x10).toNat) z45).typ)) Try.underlying3 rfl (by kernel_rfl) (blk_cell b37 rfl)) ?_
    refine lvg (d := 53) (t := 50) rfl (by kernel_rfl) rfl (bf q51 (by kernel_rfl)) rfl (by kernel_rfl) (e_gtr (k := .i64) (a := (x1.getD ((x10).toNat) z45).typ) (b := 6) (by kernel_rfl) rfl) ?_
    refine lv (d := 54) rfl rfl (by kernel_rfl) (e_pick_f (v := .bool (decide (((x1.getD ((x10).toNat) z45).typ) > 6))) (bf q51 (by kernel_rfl)) (by kernel_rfl)) ?_
    refine wpList_nil ?_
    refine then_n ?_
    by_cases q52 : ((x1.getD ((x10).toNat) z45).typ) > 6
    · replace M := ifp q52 M
      refine cond_t rfl (bt q52 (by kernel_rfl)) ?_
      refine wp_seq ?_
      refine wp_region_lit ?_
      refine lv (d := 2) rfl rfl (by kernel_rfl) (e_assign (v := .bool false) rfl) ?_
      refine wpList_nil ?_
      refine then_n ?_
      refine wp_ret ?_
      refine then_r ?_
      refine inb_r ?_
      refine then_r ?_
      refine then_r ?_
      refine inb_r ?_
      refine then_r ?_
      obtain rfl := Option.some.inj M
      exact ret1 rfl rfl  (show _ = .bool false from (by kernel_rfl)) ⟨rfl, S46.chg⟩
    replace M := ifn q52 M
    refine cond_f rfl (bf q52 (by kernel_rfl)) ?_
    refine wp_skip ?_
    refine then_n ?_
    refine wp_seq_cut (fun a81 w53 => ∃ (k83 : Nat), k83 ≤ k18 ∧ ∃ (f54 : Nat → Value) (x55 : Int), a81 = mk 103 f54 ∧ f54 0 = .slice A2 x1.length c3 ∧ f54 3 = .int .i64 x55 ∧ f54 4 = .int .i64 x10 ∧ f54 5 = .pointer (some ⟨g32, 0, none⟩) ∧ f54 25 = .pointer (some ⟨g32, 0 + 0, none⟩) ∧ f54 26 = .slice A27 ((x1.getD ((x10).toNat) z45).name).length c28 ∧ f54 27 = .int .i64 (((x1.getD ((x10).toNat) z45).name).length : Int) ∧ f54 28 = .bool (decide ((((x1.getD ((x10).toNat) z45).name).length : Int) > 100)) ∧ f54 31 = .pointer (some ⟨g32, 0 + 0, none⟩) ∧ f54 32 = .slice A27 ((x1.getD ((x10).toNat) z45).name).length c28 ∧ f54 33 = .bool t42 ∧ f54 36 = .pointer (some ⟨g32, 0 + 1, none⟩) ∧ f54 37 = .int .i64 ((x1.getD ((x10).toNat) z45).pri) ∧ f54 38 = .bool (decide (((x1.getD ((x10).toNat) z45).pri) < 1)) ∧ f54 41 = .pointer (some ⟨g32, 0 + 1, none⟩) ∧ f54 42 = .int .i64 ((x1.getD ((x10).toNat) z45).pri) ∧ f54 43 = .bool (decide (((x1.getD ((x10).toNat) z45).pri) > 1200)) ∧ f54 46 = .pointer (some ⟨g32, 0 + 2, none⟩) ∧ f54 47 = .int .i64 ((x1.getD ((x10).toNat) z45).typ) ∧ f54 48 = .bool (decide (((x1.getD ((x10).toNat) z45).typ) < 0)) ∧ f54 51 = .pointer (some ⟨g32, 0 + 2, none⟩) ∧ f54 52 = .int .i64 ((x1.getD ((x10).toNat) z45).typ) ∧ f54 53 = .bool (decide (((x1.getD ((x10).toNat) z45).typ) > 6)) ∧ w53.heap[g32]? = some (.cells #[.slice A27 ((x1.getD ((x10).toNat) z45).name).length c28, .int .i64 ((x1.getD ((x10).toNat) z45).pri), .int .i64 ((x1.getD ((x10).toNat) z45).typ)] 45 (0, 0)) ∧ St (anyOf []) H w [(is g32)] H w53 ∧ spec_ValidOps.l1 k83 x1 x10 x55 = some r) ?_ ?_
    · refine wp_seq ?_
      refine wp_region_lit ?_
      refine lv (d := 55) rfl rfl (by kernel_rfl) (e_fieldAddr (b := g32) (off := 0) (o := 0) Try.underlying45 rfl rfl (sz := 1) (by kernel_rfl) (by decide) (by kernel_rfl)) ?_
      refine lv (d := 56) rfl rfl (by kernel_rfl) (e_load1 (ad := ⟨g32, 0 + 0, none⟩) (v := .slice A27 ((x1.getD ((x10).toNat) z45).name).length c28) Try.underlying32 rfl (by kernel_rfl) (blk_cell b37 rfl)) ?_
      refine lv (d := 57) rfl rfl (by kernel_rfl) (e_conv_bs (A := A27) (n := ((x1.getD ((x10).toNat) z45).name).length) (c := c28) (xs := (x1.getD ((x10).toNat) z45).name) Try.underlying32 Try.underlying5 Try.underlying9 (by kernel_rfl) rfl (Rd.bytesE S46.inv h30)) ?_
      refine lv (d := 58) rfl rfl (by kernel_rfl) (e_seql (p := (x1.getD ((x10).toNat) z45).name) (q := ([44] : List UInt8)) (by kernel_rfl) rfl) ?_
      refine wpList_nil ?_
      refine then_n ?_
      by_cases q84 : (x1.getD ((x10).toNat) z45).name = ([44] : List UInt8)
      · replace M := ifp q84 M
        refine cond_t rfl (bt q84 (by kernel_rfl)) ?_
        refine wp_seq ?_
        refine wp_region_lit ?_
        refine lv (d := 59) rfl rfl (by kernel_rfl) (e_move (v := .int .i64 x9) (by exact e12)) ?_
        refine lv (d := 60) rfl rfl (by kernel_rfl) (e_add (k := .i64) (a := x9) (b := 1) (by kernel_rfl) rfl) ?_
        refine lv (d := 3) rfl rfl (by kernel_rfl) (e_assign (v := .int .i64 (IntKind.i64.wrap (x9 + 1))) (by kernel_rfl)) ?_
        refine wpList_nil ?_
        refine then_n ?_
        refine wp_seq ?_
        refine wp_region_lit ?_
        refine lv (d := 61) rfl rfl (by kernel_rfl) (e_fieldAddr (b := g32) (off := 0) (o := 1) Try.underlying45 rfl rfl (sz := 1) (by kernel_rfl) (by decide) (by kernel_rfl)) ?_
        refine lv (d := 62) rfl rfl (by kernel_rfl) (e_load1 (ad := ⟨g32, 0 + 1, none⟩) (v := .int .i64 ((x1.getD ((x10).toNat) z45).pri)) Try.underlying3 rfl (by kernel_rfl) (blk_cell b37 rfl)) ?_
        refine lv (d := 63) rfl rfl (by kernel_rfl) (e_neq (k := .i64) (a := (x1.getD ((x10).toNat) z45).pri) (b := 1000) (by kernel_rfl) rfl) ?_
        refine lv (d := 64) rfl rfl (by kernel_rfl) (e_move (v := .bool (decide (((x1.getD ((x10).toNat) z45).pri) ≠ 1000))) (by kernel_rfl)) ?_
        by_cases q85 : ((x1.getD ((x10).toNat) z45).pri) ≠ 1000
        · replace M := ifp q85 M
          refine lskip (t := 64) (c := true) rfl (by kernel_rfl) rfl (bt q85 (by kernel_rfl)) rfl rfl ?_
          refine lskip (t := 64) (c := true) rfl (by kernel_rfl) rfl (bt q85 (by kernel_rfl)) rfl rfl ?_
          refine lskip (t := 64) (c := true) rfl (by kernel_rfl) rfl (bt q85 (by kernel_rfl)) rfl rfl ?_
          refine lv (d := 68) rfl rfl (by kernel_rfl) (e_pick_t (v := .bool true) (bt q85 (by kernel_rfl)) rfl) ?_
          refine wpList_nil ?_
          refine then_n ?_
          refine cond_t rfl (by kernel_rfl) ?_
          refine wp_seq ?_
          refine wp_region_lit ?_
          refine lv (d := 2) rfl rfl (by kernel_rfl) (e_assign (v := .bool false) rfl) ?_
          refine wpList_nil ?_
          refine then_n ?_
          refine wp_ret ?_
          refine then_r ?_
          refine inb_r ?_
          refine then_r ?_
          refine then_r ?_
          refine inb_r ?_
          refine then_r ?_
          obtain rfl := Option.some.inj M
          exact ret1 rfl rfl  (show _ = .bool false from (by kernel_rfl)) ⟨rfl, S46.chg⟩
        replace M := ifn q85 M
        refine lvg (d := 65) (t := 64) rfl (by kernel_rfl) rfl (bf q85 (by kernel_rfl)) rfl (by kernel_rfl) (e_fieldAddr (b := g32) (off := 0) (o := 2) Try.underlying45 rfl rfl (sz := 1) (by kernel_rfl) (by decide) (by kernel_rfl)) ?_
        refine lvg (d := 66) (t := 64) rfl (by kernel_rfl) rfl (bf q85 (by kernel_rfl)) rfl (by kernel_rfl) (e_load1 (ad := ⟨g32, 0 + 2, none⟩) (v := .int .i64 ((x1.getD ((x10).toNat) z45).typ)) Try.underlying3 rfl (by kernel_rfl) (blk_cell b37 rfl)) ?_
        refine lvg (d := 67) (t := 64) rfl (by kernel_rfl) rfl (bf q85 (by kernel_rfl)) rfl (by kernel_rfl) (e_neq (k := .i64) (a := (x1.getD ((x10).toNat) z45).typ) (b := 1) (by kernel_rfl) rfl) ?_
        refine lv (d := 68) rfl rfl (by kernel_rfl) (e_pick_f (v := .bool (decide (((x1.getD ((x10).toNat) z45).typ) ≠ 1))) (bf q85 (by kernel_rfl)) (by kernel_rfl)) ?_
        refine wpList_nil ?_
        refine then_n ?_
        by_cases q86 : ((x1.getD ((x10).toNat) z45).typ) ≠ 1
        · replace M := ifp q86 M
          refine cond_t rfl (bt q86 (by kernel_rfl)) ?_
          refine wp_seq ?_
          refine wp_region_lit ?_
          refine lv (d := 2) rfl rfl (by kernel_rfl) (e_assign (v := .bool false) rfl) ?_
          refine wpList_nil ?_
          refine then_n ?_
          refine wp_ret ?_
          refine then_r ?_
          refine inb_r ?_
          refine then_r ?_
          refine then_r ?_
          refine inb_r ?_
          refine then_r ?_
          obtain rfl := Option.some.inj M
          exact ret1 rfl rfl  (show _ = .bool false from (by kernel_rfl)) ⟨rfl, S46.chg⟩
        replace M := ifn q86 M
        refine cond_f rfl (bf q86 (by kernel_rfl)) ?_
        refine wp_skip ?_
        refine then_n ?_
        exact ⟨k18, (by omega), _, (IntKind.i64.wrap (x9 + 1)), rfl, (by exact e11), (by kernel_rfl), (by exact e13), (by kernel_rfl), (by kernel_rfl), (by kernel_rfl), (by kernel_rfl), (by kernel_rfl), (by kernel_rfl), (by kernel_rfl), (by kernel_rfl), (by kernel_rfl), (by kernel_rfl), (by kernel_rfl), (by kernel_rfl), (by kernel_rfl), (by kernel_rfl), (by kernel_rfl), (by kernel_rfl), (by kernel_rfl), (by kernel_rfl), (by kernel_rfl), (by kernel_rfl), b37, S46, M⟩
      replace M := ifn q84 M
      refine cond_f rfl (bf q84 (by kernel_rfl)) ?_
      refine wp_skip ?_
      refine then_n ?_
      exact ⟨k18, (by omega), _, x9, rfl, (by exact e11), (by exact e12), (by exact e13), (by kernel_rfl), (by kernel_rfl), (by kernel_rfl), (by kernel_rfl), (by kernel_rfl), (by kernel_rfl), (by kernel_rfl), (by kernel_rfl), (by kernel_rfl), (by kernel_rfl), (by kernel_rfl), (by kernel_rfl), (by kernel_rfl), (by kernel_rfl), (by kernel_rfl), (by kernel_rfl), (by kernel_rfl), (by kernel_rfl), (by kernel_rfl), (by kernel_rfl), b37, S46, M⟩
    clear M
    rintro a81 w53 ⟨k83, z128, f54, x55, rfl, e56, e57, e58, e59, e60, e61, e62, e63, e64, e65, e66, e67, e68, e69, e70, e71, e72, e73, e74, e75, e76, e77, e78, b37, S79, M⟩
    rcases k83 with _ | k82
    · rw [spec_ValidOps.l1] at M
      cases M
    rw [spec_ValidOps.l1] at M
    refine wp_seq ?_
    refine wp_seq ?_
    refine wp_region_lit ?_
    refine lv (d := 69) rfl rfl (by kernel_rfl) (e_move (v := .int .i64 x10) (by exact e58)) ?_
    refine lv (d := 70) rfl rfl (by kernel_rfl) (e_eql (k := .i64) (a := x10) (b := 0) (by kernel_rfl) rfl) ?_
    refine wpList_nil ?_
    refine then_n ?_
    by_cases q87 : x10 = 0
    · replace M := ifp q87 M
      refine cond_t rfl (bt q87 (by kernel_rfl)) ?_
      refine wp_exit ?_
      refine then_e ?_
      refine inb_hit ?_
      refine then_n ?_
      refine wp_region_lit ?_
      refine lv (d := 14) rfl rfl (by kernel_rfl) (e_move (v := .int .i64 x10) (by exact e58)) ?_
      refine lv (d := 15) rfl rfl (by kernel_rfl) (e_add (k := .i64) (a := x10) (b := 1) (by kernel_rfl) rfl) ?_
      refine lv (d := 4) rfl rfl (by kernel_rfl) (e_assign (v := .int .i64 (IntKind.i64.wrap (x10 + 1))) (by kernel_rfl)) ?_
      refine wpList_nil ?_
      refine then_n ?_
      have S88 := St.first (Fa := []) (Fr := [(is g32)]) S79
      exact ⟨k82, (by omega), _, x55, (IntKind.i64.wrap (x10 + 1)), rfl, (by exact e56), (by exact e57), (by kernel_rfl), S88, M⟩
    replace M := ifn q87 M
    refine cond_f rfl (bf q87 (by kernel_rfl)) ?_
    refine wp_skip ?_
    refine then_n ?_
    refine wp_seq ?_
    refine wp_region_lit ?_
    refine lv (d := 71) rfl rfl (by kernel_rfl) (e_move (v := .slice A2 x1.length c3) (by exact e56)) ?_
    refine lv (d := 72) rfl rfl (by kernel_rfl) (e_move (v := .int .i64 x10) (by exact e58)) ?_
    refine lv (d := 73) rfl rfl (by kernel_rfl) (e_sub (k := .i64) (a := x10) (b := 1) (by kernel_rfl) rfl) ?_
    obtain ⟨q89, M⟩ := chk M
    obtain ⟨q90, M⟩ := chk M
    obtain ⟨b91, o92, e93⟩ := Rd.addr h4 (show ((IntKind.i64.wrap (x10 - 1))).toNat < x1.length by omega)
    obtain ⟨y94, r95, k96⟩ := Rd.at h4 e93 (getD_some z45 (show ((IntKind.i64.wrap (x10 - 1))).toNat < x1.length by omega))
    obtain ⟨A97, c98, rfl, l99, h100⟩ := st45_open r95
    refine lv (d := 74) rfl rfl (by kernel_rfl) (e_indexAddr (b := b91) (off := o92) (n := x1.length) (c := c3) (sz := 3) (i := (IntKind.i64.wrap (x10 - 1))) (k := .i64) Try.underlying25 e93 (by kernel_rfl) (by kernel_rfl) (by kernel_rfl) q89 q90) ?_
    refine lv (d := 75) rfl rfl (by kernel_rfl) (e_loadS (b := b91) (off := o92 + ((IntKind.i64.wrap (x10 - 1)) : Int).toNat * 3) (cs := [.slice A97 ((x1.getD (((IntKind.i64.wrap (x10 - 1))).toNat) z45).name).length c98, .int .i64 ((x1.getD (((IntKind.i64.wrap (x10 - 1))).toNat) z45).pri), .int .i64 ((x1.getD (((IntKind.i64.wrap (x10 - 1))).toNat) z45).typ)]) Try.underlying45 rfl (by kernel_rfl) (by kernel_rfl) (fun j_ u_ e_ => (hpx (S79.inv.cell (k96 j_ u_ e_))))) ?_
    refine lve (d := 6) rfl rfl (by kernel_rfl) (new_blk (v := fun g_ => .pointer (some ⟨g_, 0, none⟩)) (cs := #[.slice none 0 0, .int .i64 0, .int .i64 0]) (t := 45) S79 (by kernel_rfl)) ?_
    rintro _ w101 ⟨g102, rfl, b103, S104, K105⟩
    replace b37 := K105.blk 0 rfl b37
    refine lse rfl rfl (by kernel_rfl) (e_store (g := g102) (o := 0) (v := .agg #[.slice A97 ((x1.getD (((IntKind.i64.wrap (x10 - 1))).toNat) z45).name).length c98, .int .i64 ((x1.getD (((IntKind.i64.wrap (x10 - 1))).toNat) z45).pri), .int .i64 ((x1.getD (((IntKind.i64.wrap (x10 - 1))).toNat) z45).typ)]) (cur' := #[.slice A97 ((x1.getD (((IntKind.i64.wrap (x10 - 1))).toNat) z45).name).length c98, .int .i64 ((x1.getD (((IntKind.i64.wrap (x10 - 1))).toNat) z45).pri), .int .i64 ((x1.getD (((IntKind.i64.wrap (x10 - 1))).toNat) z45).typ)]) (vs := [.slice A97 ((x1.getD (((IntKind.i64.wrap (x10 - 1))).toNat) z45).name).length c98, .int .i64 ((x1.getD (((IntKind.i64.wrap (x10 - 1))).toNat) z45).pri), .int .i64 ((x1.getD (((IntKind.i64.wrap (x10 - 1))).toNat) z45).typ)]) S104 (by kernel_rfl) (by kernel_rfl) rfl (by kernel_rfl) b103 (Nat.le_of_ble_eq_true rfl) (List.forall_mem_cons.2 ⟨rfl, (List.forall_mem_cons.2 ⟨rfl, (List.forall_mem_cons.2 ⟨rfl, (fun _ h_ => by cases h_)⟩)⟩)⟩) rfl) ?_
    rintro w106 ⟨b107, S108, K109⟩
    replace b37 := K109.blk 0 rfl b37
    clear b103
    refine wpList_nil ?_
    refine then_n ?_
    refine wp_seq ?_
    refine wp_seq ?_
    refine wp_region_lit ?_
    refine lv (d := 76) rfl rfl (by kernel_rfl) (e_fieldAddr (b := g102) (off := 0) (o := 0) Try.underlying45 rfl rfl (sz := 1) (by kernel_rfl) (by decide) (by kernel_rfl)) ?_
    refine lv (d := 77) rfl rfl (by kernel_rfl) (e_load1 (ad := ⟨g102, 0 + 0, none⟩) (v := .slice A97 ((x1.getD (((IntKind.i64.wrap (x10 - 1))).toNat) z45).name).length c98) Try.underlying32 rfl (by kernel_rfl) (blk_cell b107 rfl)) ?_
    refine lv (d := 78) rfl rfl (by kernel_rfl) (e_conv_bs (A := A97) (n := ((x1.getD (((IntKind.i64.wrap (x10 - 1))).toNat) z45).name).length) (c := c98) (xs := (x1.getD (((IntKind.i64.wrap (x10 - 1))).toNat) z45).name) Try.underlying32 Try.underlying5 Try.underlying9 (by kernel_rfl) rfl (Rd.bytesE S108.inv h100)) ?_
    refine lv (d := 79) rfl rfl (by kernel_rfl) (e_fieldAddr (b := g32) (off := 0) (o := 0) Try.underlying45 rfl rfl (sz := 1) (by kernel_rfl) (by decide) (by exact e59)) ?_
    refine lv (d := 80) rfl rfl (by kernel_rfl) (e_load1 (ad := ⟨g32, 0 + 0, none⟩) (v := .slice A27 ((x1.getD ((x10).toNat) z45).name).length c28) Try.underlying32 rfl (by kernel_rfl) (blk_cell b37 rfl)) ?_
    refine lv (d := 81) rfl rfl (by kernel_rfl) (e_conv_bs (A := A27) (n := ((x1.getD ((x10).toNat) z45).name).length) (c := c28) (xs := (x1.getD ((x10).toNat) z45).name) Try.underlying32 Try.underlying5 Try.underlying9 (by kernel_rfl) rfl (Rd.bytesE S108.inv h30)) ?_
    refine lv (d := 82) rfl rfl (by kernel_rfl) (e_sgtr (p := (x1.getD (((IntKind.i64.wrap (x10 - 1))).toNat) z45).name) (q := (x1.getD ((x10).toNat) z45).name) (by kernel_rfl) (by kernel_rfl)) ?_
    refine wpList_nil ?_
    refine then_n ?_
    by_cases q110 : (!(Op.bytesLess ((x1.getD (((IntKind.i64.wrap (x10 - 1))).toNat) z45).name) ((x1.getD ((x10).toNat) z45).name) || ((x1.getD (((IntKind.i64.wrap (x10 - 1))).toNat) z45).name) == ((x1.getD ((x10).toNat) z45).name))) = true
    · replace M := ifp q110 M
      refine cond_t rfl (bvt q110 (by kernel_rfl)) ?_
      refine wp_seq ?_
      refine wp_region_lit ?_
      refine lv (d := 2) rfl rfl (by kernel_rfl) (e_assign (v := .bool false) rfl) ?_
      refine wpList_nil ?_
      refine then_n ?_
      refine wp_ret ?_
      refine then_r ?_
      refine inb_r ?_
      refine then_r ?_
      refine then_r ?_
      refine inb_r ?_
      refine then_r ?_
      obtain rfl := Option.some.inj M
      exact ret1 rfl rfl  (show _ = .bool false from (by kernel_rfl)) ⟨rfl, S108.chg⟩
    replace M := ifn q110 M
    refine cond_f rfl (bvf q110 (by kernel_rfl)) ?_
    refine wp_skip ?_
    refine then_n ?_
    refine wp_seq ?_
    refine wp_region_lit ?_
    refine lv (d := 83) rfl rfl (by kernel_rfl) (e_fieldAddr (b := g102) (off := 0) (o := 0) Try.underlying45 rfl rfl (sz := 1) (by kernel_rfl) (by decide) (by kernel_rfl)) ?_
    refine lv (d := 84) rfl rfl (by kernel_rfl) (e_load1 (ad := ⟨g102, 0 + 0, none⟩) (v := .slice A97 ((x1.getD (((IntKind.i64.wrap (x10 - 1))).toNat) z45).name).length c98) Try.underlying32 rfl (by kernel_rfl) (blk_cell b107 rfl)) ?_
    refine lv (d := 85) rfl rfl (by kernel_rfl) (e_conv_bs (A := A97) (n := ((x1.getD (((IntKind.i64.wrap (x10 - 1))).toNat) z45).name).length) (c := c98) (xs := (x1.getD (((IntKind.i64.wrap (x10 - 1))).toNat) z45).name) Try.underlying32 Try.underlying5 Try.underlying9 (by kernel_rfl) rfl (Rd.bytesE S108.inv h100)) ?_
    refine lv (d := 86) rfl rfl (by kernel_rfl) (e_fieldAddr (b := g32) (off := 0) (o := 0) Try.underlying45 rfl rfl (sz := 1) (by kernel_rfl) (by decide) (by exact e59)) ?_
    refine lv (d := 87) rfl rfl (by kernel_rfl) (e_load1 (ad := ⟨g32, 0 + 0, none⟩) (v := .slice A27 ((x1.getD ((x10).toNat) z45).name).length c28) Try.underlying32 rfl (by kernel_rfl) (blk_cell b37 rfl)) ?_
    refine lv (d := 88) rfl rfl (by kernel_rfl) (e_conv_bs (A := A27) (n := ((x1.getD ((x10).toNat) z45).name).length) (c := c28) (xs := (x1.getD ((x10).toNat) z45).name) Try.underlying32 Try.underlying5 Try.underlying9 (by kernel_rfl) rfl (Rd.bytesE S108.inv h30)) ?_
    refine lv (d := 89) rfl rfl (by kernel_rfl) (e_seql (p := (x1.getD (((IntKind.i64.wrap (x10 - 1))).toNat) z45).name) (q := (x1.getD ((x10).toNat) z45).name) (by kernel_rfl) (by kernel_rfl)) ?_
    refine lv (d := 90) rfl rfl (by kernel_rfl) (e_move (v := .bool (decide ((x1.getD (((IntKind.i64.wrap (x10 - 1))).toNat) z45).name = (x1.getD ((x10).toNat) z45).name))) (by kernel_rfl)) ?_
    by_cases q111 : (x1.getD (((IntKind.i64.wrap (x10 - 1))).toNat) z45).name = (x1.getD ((x10).toNat) z45).name
    · replace M := ifp q111 M
      refine lvg (d := 91) (t := 90) rfl (by kernel_rfl) rfl (bt q111 (by kernel_rfl)) rfl (by kernel_rfl) (e_fieldAddr (b := g102) (off := 0) (o := 2) Try.underlying45 rfl rfl (sz := 1) (by kernel_rfl) (by decide) (by kernel_rfl)) ?_
      refine lvg (d := 92) (t := 90) rfl (by kernel_rfl) rfl (bt q111 (by kernel_rfl)) rfl (by kernel_rfl) (e_load1 (ad := ⟨g102, 0 + 2, none⟩) (v := .int .i64 ((x1.getD (((IntKind.i64.wrap (x10 - 1))).toNat) z45).typ)) Try.underlying3 rfl (by kernel_rfl) (blk_cell b107 rfl)) ?_
      obtain ⟨t112, u113, M⟩ := bnd M
      refine lcallg (d := 93) (t := 90) rfl (by kernel_rfl) rfl (bt q111 (by kernel_rfl)) rfl (by kernel_rfl) (e_call (l := [.tmp 92]) (vs := [.int .i64 ((x1.getD (((IntKind.i64.wrap (x10 - 1))).toNat) z45).typ)]) Try.func25 (by kernel_rfl) rfl (by kernel_rfl) rfl) (spec_l3prefix.calls w106 H ((x1.getD (((IntKind.i64.wrap (x10 - 1))).toNat) z45).typ)  S108.own0 t112 u113) ?_
      rintro _ w114 ⟨rfl, C115⟩
      refine ⟨_, rfl, ?_⟩
      obtain ⟨S116, K117⟩ := S108.still C115
      replace b107 := K117.blk 0 rfl b107
      replace b37 := K117.blk 1 rfl b37
      refine lvg (d := 94) (t := 90) rfl (by kernel_rfl) rfl (bt q111 (by kernel_rfl)) rfl (by kernel_rfl) (e_notv (c := t112) (by kernel_rfl)) ?_
      refine lvg (d := 95) (t := 90) rfl (by kernel_rfl) rfl (bt q111 (by kernel_rfl)) rfl (by kernel_rfl) (e_move (v := .bool (decide (¬ (t112 = true)))) (by kernel_rfl)) ?_
      by_cases q118 : ¬ (t112 = true)
      · replace M := ifp q118 M
        refine lskip (t := 95) (c := true) rfl (by kernel_rfl) rfl (bt q118 (by kernel_rfl)) rfl rfl ?_
        refine lskip (t := 95) (c := true) rfl (by kernel_rfl) rfl (bt q118 (by kernel_rfl)) rfl rfl ?_
        refine lskip (t := 95) (c := true) rfl (by kernel_rfl) rfl (bt q118 (by kernel_rfl)) rfl rfl ?_
        refine lvg (d := 99) (t := 90) rfl (by kernel_rfl) rfl (bt q111 (by kernel_rfl)) rfl (by kernel_rfl) (e_pick_t (v := .bool true) (bt q118 (by kernel_rfl)) rfl) ?_
        refine lv (d := 100) rfl rfl (by kernel_rfl) (e_pick_t (v := .bool true) (bt q111 (by kernel_rfl)) (by kernel_rfl)) ?_
        refine wpList_nil ?_
        refine then_n ?_
        refine cond_t rfl (by kernel_rfl) ?_
        refine wp_seq ?_
        refine wp_region_lit ?_
        refine lv (d := 2) rfl rfl (by kernel_rfl) (e_assign (v := .bool false) rfl) ?_
        refine wpList_nil ?_
        refine then_n ?_
        refine wp_ret ?_
        refine inb_r ?_
        refine then_r ?_
        refine then_r ?_
        refine inb_r ?_
        refine then_r ?_
        obtain rfl := Option.some.inj M
        exact ret1 rfl rfl  (show _ = .bool false from (by kernel_rfl)) ⟨rfl, S116.chg⟩
      replace M := ifn q118 M
      refine lvg (d := 96) (t := 95) rfl (by kernel_rfl) rfl (bf q118 (by kernel_rfl)) rfl (by kernel_rfl) (e_fieldAddr (b := g32) (off := 0) (o := 2) Try.underlying45 rfl rfl (sz := 1) (by kernel_rfl) (by decide) (by exact e59)) ?_
      refine lvg (d := 97) (t := 95) rfl (by kernel_rfl) rfl (bf q118 (by kernel_rfl)) rfl (by kernel_rfl) (e_load1 (ad := ⟨g32, 0 + 2, none⟩) (v := .int .i64 ((x1.getD ((x10).toNat) z45).typ)) Try.underlying3 rfl (by kernel_rfl) (blk_cell b37 rfl)) ?_
      obtain ⟨t119, u120, M⟩ := bnd M
      refine lcallg (d := 98) (t := 95) rfl (by kernel_rfl) rfl (bf q118 (by kernel_rfl)) rfl (by kernel_rfl) (e_call (l := [.tmp 97]) (vs := [.int .i64 ((x1.getD ((x10).toNat) z45).typ)]) Try.func25 (by kernel_rfl) rfl (by kernel_rfl) rfl) (spec_l3prefix.calls w114 H ((x1.getD ((x10).toNat) z45).typ)  S116.own0 t119 u120) ?_
      rintro _ w121 ⟨rfl, C122⟩
      refine ⟨_, rfl, ?_⟩
      obtain ⟨S123, K124⟩ := S116.still C122
      replace b107 := K124.blk 0 rfl b107
      replace b37 := K124.blk 1 rfl b37
      refine lvg (d := 99) (t := 90) rfl (by kernel_rfl) rfl (bt q111 (by kernel_rfl)) rfl (by kernel_rfl) (e_pick_f (v := .bool t119) (bf q118 (by kernel_rfl)) (by kernel_rfl)) ?_
      refine lv (d := 100) rfl rfl (by kernel_rfl) (e_pick_t (v := .bool t119) (bt q111 (by kernel_rfl)) (by kernel_rfl)) ?_
      refine wpList_nil ?_
      refine then_n ?_
      by_cases q125 : t119 = true
      · replace M := ifp q125 M
        refine cond_t rfl (bvt q125 (by kernel_rfl)) ?_
        refine wp_seq ?_
        refine wp_region_lit ?_
        refine lv (d := 2) rfl rfl (by kernel_rfl) (e_assign (v := .bool false) rfl) ?_
        refine wpList_nil ?_
        refine then_n ?_
        refine wp_ret ?_
        refine inb_r ?_
        refine then_r ?_
        refine then_r ?_
        refine inb_r ?_
        refine then_r ?_
        obtain rfl := Option.some.inj M
        exact ret1 rfl rfl  (show _ = .bool false from (by kernel_rfl)) ⟨rfl, S123.chg⟩
      replace M := ifn q125 M
      refine cond_f rfl (bvf q125 (by kernel_rfl)) ?_
      refine wp_skip ?_
      refine inb_n ?_
      refine then_n ?_
      refine wp_region_lit ?_
      refine lv (d := 14) rfl rfl (by kernel_rfl) (e_move (v := .int .i64 x10) (by exact e58)) ?_
      refine lv (d := 15) rfl rfl (by kernel_rfl) (e_add (k := .i64) (a := x10) (b := 1) (by kernel_rfl) rfl) ?_
      refine lv (d := 4) rfl rfl (by kernel_rfl) (e_assign (v := .int .i64 (IntKind.i64.wrap (x10 + 1))) (by kernel_rfl)) ?_
      refine wpList_nil ?_
      refine then_n ?_
      have S126 := St.first (Fa := []) (Fr := [(is g102), (is g32)]) S123
      exact ⟨k82, (by omega), _, x55, (IntKind.i64.wrap (x10 + 1)), rfl, (by exact e56), (by exact e57), (by kernel_rfl), S126, M⟩
    replace M := ifn q111 M
    refine lskip (t := 90) (c := false) rfl (by kernel_rfl) rfl (bf q111 (by kernel_rfl)) rfl rfl ?_
    refine lskip (t := 90) (c := false) rfl (by kernel_rfl) rfl (bf q111 (by kernel_rfl)) rfl rfl ?_
    refine lskip (t := 90) (c := false) rfl (by kernel_rfl) rfl (bf q111 (by kernel_rfl)) rfl rfl ?_
    refine lskip (t := 90) (c := false) rfl (by kernel_rfl) rfl (bf q111 (by kernel_rfl)) rfl rfl ?_
    refine lskip (t := 90) (c := false) rfl (by kernel_rfl) rfl (bf q111 (by kernel_rfl)) rfl rfl ?_
    refine lskipu (t := 95) rfl (by kernel_rfl) rfl (by kernel_rfl) rfl ?_
    refine lskipu (t := 95) rfl (by kernel_rfl) rfl (by kernel_rfl) rfl ?_
    refine lskipu (t := 95) rfl (by kernel_rfl) rfl (by kernel_rfl) rfl ?_
    refine lskip (t := 90) (c := false) rfl (by kernel_rfl) rfl (bf q111 (by kernel_rfl)) rfl rfl ?_
    refine lv (d := 100) rfl rfl (by kernel_rfl) (e_pick_f (v := .bool false) (bf q111 (by kernel_rfl)) rfl) ?_
    refine wpList_nil ?_
    refine then_n ?_
    refine cond_f rfl (by kernel_rfl) ?_
    refine wp_skip ?_
    refine inb_n ?_
    refine then_n ?_
    refine wp_region_lit ?_
    refine lv (d := 14) rfl rfl (by kernel_rfl) (e_move (v := .int .i64 x10) (by exact e58)) ?_
    refine lv (d := 15) rfl rfl (by kernel_rfl) (e_add (k := .i64) (a := x10) (b := 1) (by kernel_rfl) rfl) ?_
    refine lv (d := 4) rfl rfl (by kernel_rfl) (e_assign (v := .int .i64 (IntKind.i64.wrap (x10 + 1))) (by kernel_rfl)) ?_
    refine wpList_nil ?_
    refine then_n ?_
    have S127 := St.first (Fa := []) (Fr := [(is g102), (is g32)]) S108
    exact ⟨k82, (by omega), _, x55, (IntKind.i64.wrap (x10 + 1)), rfl, (by exact e56), (by exact e57), (by kernel_rfl), S127, M⟩
  replace M := ifn q19 M
  refine cond_f rfl (bf q19 (by kernel_rfl)) ?_
  refine wp_exit ?_
  refine then_e ?_
  refine then_e ?_
  refine inb_hit ?_
  refine then_n ?_
  refine wp_seq ?_
  refine wp_region_lit ?_
  refine lv (d := 101) rfl rfl (by kernel_rfl) (e_move (v := .int .i64 x9) (by exact e12)) ?_
  refine lv (d := 102) rfl rfl (by kernel_rfl) (e_eql (k := .i64) (a := x9) (b := 1) (by kernel_rfl) rfl) ?_
  refine lv (d := 2) rfl rfl (by kernel_rfl) (e_assign (v := .bool (decide (x9 = 1))) (by kernel_rfl)) ?_
  refine wpList_nil ?_
  refine then_n ?_
  refine wp_ret ?_
  obtain rfl := Option.some.inj M
  exact ret1 rfl rfl  (show _ = .bool (decide (x9 = 1)) from (by kernel_rfl)) ⟨rfl, S14.chg⟩

/-! impl_Op_prefix -/
def impl_Op_prefix.f (x1 : Sy.Op) : Option Bool := (if x1.typ = 3 then some true else some (decide (x1.typ = 4)))
theorem impl_Op_prefix.calls (w : World) (H : Hp) (x1 : Sy.Op) (A2 : Option Addr) (c3 : Nat) (h4 : Rd tByte H A2 x1.name) (l5 : x1.name.length ≤ c3) (S : Own [] H w) (r : Bool) (M : impl_Op_prefix.f x1 = some r) :
    Calls Try.prog 27 #[.agg #[.slice A2 x1.name.length c3, .int .i64 x1.pri, .int .i64 x1.typ]] w (fun e e_w => e = .returned (.bool r) ∧ Chg no w e_w) := by
  rw [impl_Op_prefix.f] at M
  refine enter (l := [.agg #[.slice A2 x1.name.length c3, .int .i64 x1.pri, .int .i64 x1.typ]]) 11 Try.func27 rfl rfl rfl ?_
  have S0_ := S.st
  refine wp_seq ?_
  refine wp_region_lit ?_
  refine lve (d := 1) rfl rfl (by kernel_rfl) (new_blk (v := fun g_ => .pointer (some ⟨g_, 0, none⟩)) (cs := #[.slice A2 x1.name.length c3, .int .i64 x1.pri, .int .i64 x1.typ]) (t := 45) S0_ (by kernel_rfl)) ?_
  rintro _ w6 ⟨g7, rfl, b8, S9, K10⟩
  refine lv (d := 2) rfl rfl (by kernel_rfl) (e_assign (v := .bool false) rfl) ?_
  refine wpList_nil ?_
  refine then_n ?_
  refine wp_seq ?_
  refine wp_region_lit ?_
  refine lv (d := 3) rfl rfl (by kernel_rfl) (e_fieldAddr (b := g7) (off := 0) (o := 2) Try.underlying45 rfl rfl (sz := 1) (by kernel_rfl) (by decide) (by kernel_rfl)) ?_
  refine lv (d := 4) rfl rfl (by kernel_rfl) (e_load1 (ad := ⟨g7, 0 + 2, none⟩) (v := .int .i64 x1.typ) Try.underlying3 rfl (by kernel_rfl) (blk_cell b8 rfl)) ?_
  refine lv (d := 5) rfl rfl (by kernel_rfl) (e_eql (k := .i64) (a := x1.typ) (b := 3) (by kernel_rfl) rfl) ?_
  refine lv (d := 6) rfl rfl (by kernel_rfl) (e_move (v := .bool (decide (x1.typ = 3))) (by kernel_rfl)) ?_
  by_cases q11 : x1.typ = 3
  · replace M := ifp q11 M
    refine lskip (t := 6) (c := true) rfl (by kernel_rfl) rfl (bt q11 (by kernel_rfl)) rfl rfl ?_
    refine lskip (t := 6) (c := true) rfl (by kernel_rfl) rfl (bt q11 (by kernel_rfl)) rfl rfl ?_
    refine lskip (t := 6) (c := true) rfl (by kernel_rfl) rfl (bt q11 (by kernel_rfl)) rfl rfl ?_
    refine lv (d := 10) rfl rfl (by kernel_rfl) (e_pick_t (v := .bool true) (bt q11 (by kernel_rfl)) rfl) ?_
    refine lv (d := 2) rfl rfl (by kernel_rfl) (e_assign (v := .bool true) (by kernel_rfl)) ?_
    refine wpList_nil ?_
    refine then_n ?_
    refine wp_ret ?_
    obtain rfl := Option.some.inj M
    exact ret1 rfl rfl  (show _ = .bool true from (by kernel_rfl)) ⟨rfl, S9.chg⟩
  replace M := ifn q11 M
  refine lvg (d := 7) (t := 6) rfl (by kernel_rfl) rfl (bf q11 (by kernel_rfl)) rfl (by kernel_rfl) (e_fieldAddr (b := g7) (off := 0) (o := 2) Try.underlying45 rfl rfl (sz := 1) (by kernel_rfl) (by decide) (by kernel_rfl)) ?_
  refine lvg (d := 8) (t := 6) rfl (by kernel_rfl) rfl (bf q11 (by kernel_rfl)) rfl (by kernel_rfl) (e_load1 (ad := ⟨g7, 0 + 2, none⟩) (v := .int .i64 x1.typ) Try.underlying3 rfl (by kernel_rfl) (blk_cell b8 rfl)) ?_
  refine lvg (d := 9) (t := 6) rfl (by kernel_rfl) rfl (bf q11 (by kernel_rfl)) rfl (by kernel_rfl) (e_eql (k := .i64) (a := x1.typ) (b := 4) (by kernel_rfl) rfl) ?_
  refine lv (d := 10) rfl rfl (by kernel_rfl) (e_pick_f (v := .bool (decide (x1.typ = 4))) (bf q11 (by kernel_rfl)) (by kernel_rfl)) ?_
  refine lv (d := 2) rfl rfl (by kernel_rfl) (e_assign (v := .bool (decide (x1.typ = 4))) (by kernel_rfl)) ?_
  refine wpList_nil ?_
  refine then_n ?_
  refine wp_ret ?_
  obtain rfl := Option.some.inj M
  exact ret1 rfl rfl  (show _ = .bool (decide (x1.typ = 4)) from (by kernel_rfl)) ⟨rfl, S9.chg⟩

/-! impl_ValidOps -/
mutual
def impl_ValidOps.l0 : Nat → (List Sy.Op) → Bool → Int → Option Bool
  | 0, _, _, _ => none
  | k20 + 1, x1, x9, x10 => (if x10 < (x1.length : Int) then (if 0 ≤ x10 then (if (x1.getD ((x10).toNat) z45).name = ([] : List UInt8) then some false else (if (((x1.getD ((x10).toNat) z45).name).length : Int) > 100 then some false else (if (x1.getD ((x10).toNat) z45).name = ([91, 93] : List UInt8) then some false else (if (x1.getD ((x10).toNat) z45).name = ([123, 125] : List UInt8) then some false else (if (x1.getD ((x10).toNat) z45).name = ([124] : List UInt8) then some false else (if ((x1.getD ((x10).toNat) z45).pri) < 1 then some false else (if ((x1.getD ((x10).toNat) z45).pri) > 1200 then some false else (if ((x1.getD ((x10).toNat) z45).typ) < 0 then some false else (if ((x1.getD ((x10).toNat) z45).typ) > 6 then some false else (if (x1.getD ((x10).toNat) z45).name = ([44] : List UInt8) then (if x9 = true then some false else (if ((x1.getD ((x10).toNat) z45).pri) ≠ 1000 then some false else (if ((x1.getD ((x10).toNat) z45).typ) ≠ 1 then some false else (impl_ValidOps.l1 k20 x1 x10 true)))) else (impl_ValidOps.l1 k20 x1 x10 x9))))))))))) else none) else some x9)
def impl_ValidOps.l1 : Nat → (List Sy.Op) → Int → Bool → Option Bool
  | 0, _, _, _ => none
  | k86 + 1, x1, x10, x53 => (if x10 > 0 then (if 0 ≤ (IntKind.i64.wrap (x10 - 1)) then (if (IntKind.i64.wrap (x10 - 1)) < (x1.length : Int) then (if (!(Op.bytesLess ((x1.getD (((IntKind.i64.wrap (x10 - 1))).toNat) z45).name) ((x1.getD ((x10).toNat) z45).name) || ((x1.getD (((IntKind.i64.wrap (x10 - 1))).toNat) z45).name) == ((x1.getD ((x10).toNat) z45).name))) = true then some false else (if (x1.getD (((IntKind.i64.wrap (x10 - 1))).toNat) z45).name = (x1.getD ((x10).toNat) z45).name then ((impl_Op_prefix.f (x1.getD (((IntKind.i64.wrap (x10 - 1))).toNat) z45)).bind fun t116 => (if t116 = true then ((impl_Op_prefix.f (x1.getD ((x10).toNat) z45)).bind fun t123 => (if ¬ (¬ (t123 = true)) then some false else (impl_ValidOps.l0 k86 x1 x53 (IntKind.i64.wrap (x10 + 1))))) else some false)) else (impl_ValidOps.l0 k86 x1 x53 (IntKind.i64.wrap (x10 + 1))))) else none) else none) else (impl_ValidOps.l0 k86 x1 x53 (IntKind.i64.wrap (x10 + 1))))
end
def impl_ValidOps.f (k : Nat) (x1 : List Sy.Op) : Option Bool := (if (x1.length : Int) > 200 then some false else (impl_ValidOps.l0 k x1 false 0))
theorem impl_ValidOps.calls (k : Nat) (w : World) (H : Hp) (x1 : List Sy.Op) (A2 : Option Addr) (c3 : Nat) (h4 : Rd st45 H A2 x1) (l5 : x1.length ≤ c3) (S : Own [] H w) (r : Bool) (M : impl_ValidOps.f k x1 = some r) :
    Calls Try.prog 10 #[.slice A2 x1.length c3] w (fun e e_w => e = .returned (.bool r) ∧ Chg no w e_w) := by
  rw [impl_ValidOps.f] at M
  refine enter (l := [.slice A2 x1.length c3]) 104 Try.func10 rfl rfl rfl ?_
  have S0_ := S.st
  refine wp_seq ?_
  refine wp_region_lit ?_
  refine lv (d := 2) rfl rfl (by kernel_rfl) (e_assign (v := .bool false) rfl) ?_
  refine wpList_nil ?_
  refine then_n ?_
  refine wp_seq ?_
  refine wp_seq ?_
  refine wp_region_lit ?_
  refine lv (d := 9) rfl rfl (by kernel_rfl) (e_move (v := .slice A2 x1.length c3) (by kernel_rfl)) ?_
  refine lv (d := 10) rfl rfl (by kernel_rfl) (e_len (A := A2) (n := x1.length) (c := c3) Try.underlying25 (by kernel_rfl)) ?_
  refine lv (d := 11) rfl rfl (by kernel_rfl) (e_gtr (k := .i64) (a := (x1.length : Int)) (b := 200) (by kernel_rfl) rfl) ?_
  refine wpList_nil ?_
  refine then_n ?_
  by_cases q6 : (x1.length : Int) > 200
  · replace M := ifp q6 M
    refine cond_t rfl (bt q6 (by kernel_rfl)) ?_
    refine wp_seq ?_
    refine wp_region_lit ?_
    refine lv (d := 2) rfl rfl (by kernel_rfl) (e_assign (v := .bool false) rfl) ?_
    refine wpList_nil ?_
    refine then_n ?_
    refine wp_ret ?_
    refine then_r ?_
    obtain rfl := Option.some.inj M
    exact ret1 rfl rfl  (show _ = .bool false from (by kernel_rfl)) ⟨rfl, S0_.chg⟩
  replace M := ifn q6 M
  refine cond_f rfl (bf q6 (by kernel_rfl)) ?_
  refine wp_skip ?_
  refine then_n ?_
  refine wp_seq ?_
  refine wp_region_lit ?_
  refine lv (d := 3) rfl rfl (by kernel_rfl) (e_assign (v := .bool false) rfl) ?_
  refine wpList_nil ?_
  refine then_n ?_
  refine wp_seq ?_
  refine wp_seq ?_
  refine wp_region_lit ?_
  refine lv (d := 12) rfl rfl (by kernel_rfl) (e_move (v := .slice A2 x1.length c3) (by kernel_rfl)) ?_
  refine lv (d := 13) rfl rfl (by kernel_rfl) (e_len (A := A2) (n := x1.length) (c := c3) Try.underlying25 (by kernel_rfl)) ?_
  refine lv (d := 14) rfl rfl (by kernel_rfl) (e_move (v := .int .i64 0) rfl) ?_
  refine wpList_nil ?_
  refine then_n ?_
  refine wp_block ?_
  refine wp_loop_g (fun k18 a19 w7 => ∃ (f8 : Nat → Value) (x9 : Bool) (x10 : Int), a19 = mk 104 f8 ∧ f8 0 = .slice A2 x1.length c3 ∧ f8 3 = .bool x9 ∧ f8 12 = .slice A2 x1.length c3 ∧ f8 13 = .int .i64 (x1.length : Int) ∧ f8 14 = .int .i64 x10 ∧ St (anyOf []) H w [] H w7 ∧ impl_ValidOps.l0 k18 x1 x9 x10 = some r) k ⟨_, false, 0, rfl, (by kernel_rfl), (by kernel_rfl), (by kernel_rfl), (by kernel_rfl), (by kernel_rfl), S0_, M⟩ ?_
  clear M
  rintro k18 a19 w7 ⟨f8, x9, x10, rfl, e11, e12, e13, e14, e15, S16, M⟩
  rcases k18 with _ | k20
  · rw [impl_ValidOps.l0] at M
    cases M
  rw [impl_ValidOps.l0] at M
  refine wp_seq ?_
  refine wp_region_lit ?_
  refine lv (d := 15) rfl rfl (by kernel_rfl) (e_lss (k := .i64) (a := x10) (b := (x1.length : Int)) (by exact e15) (by exact e14)) ?_
  refine wpList_nil ?_
  refine then_n ?_
  refine wp_seq ?_
  by_cases q21 : x10 < (x1.length : Int)
  · replace M := ifp q21 M
    refine cond_t rfl (bt q21 (by kernel_rfl)) ?_
    refine wp_skip ?_
    refine then_n ?_
    refine wp_seq ?_
    refine wp_block ?_
    refine wp_seq ?_
    refine wp_region_lit ?_
    refine lv (d := 16) rfl rfl (by kernel_rfl) (e_move (v := .int .i64 x10) (by exact e15)) ?_
    obtain ⟨q22, M⟩ := chk M
    obtain ⟨b23, o24, e25⟩ := Rd.addr h4 (show (x10).toNat < x1.length by omega)
    obtain ⟨y26, r27, k28⟩ := Rd.at h4 e25 (getD_some z45 (show (x10).toNat < x1.length by omega))
    obtain ⟨A29, c30, rfl, l31, h32⟩ := st45_open r27
    refine lv (d := 17) rfl rfl (by kernel_rfl) (e_indexAddr (b := b23) (off := o24) (n := x1.length) (c := c3) (sz := 3) (i := x10) (k := .i64) Try.underlying25 e25 (by kernel_rfl) (by exact e13) (by exact e15) q22 q21) ?_
    refine lv (d := 18) rfl rfl (by kernel_rfl) (e_loadS (b := b23) (off := o24 + (x10 : Int).toNat * 3) (cs := [.slice A29 ((x1.getD ((x10).toNat) z45).name).length c30, .int .i64 ((x1.getD ((x10).toNat) z45).pri), .int .i64 ((x1.getD ((x10).toNat) z45).typ)]) Try.underlying45 rfl (by kernel_rfl) (by kernel_rfl) (fun j_ u_ e_ => (hpx (S16.inv.cell (k28 j_ u_ e_))))) ?_
    refine lve (d := 5) rfl rfl (by kernel_rfl) (new_blk (v := fun g_ => .pointer (some ⟨g_, 0, none⟩)) (cs := #[.slice none 0 0, .int .i64 0, .int .i64 0]) (t := 45) S16 (by kernel_rfl)) ?_
    rintro _ w33 ⟨g34, rfl, b35, S36, K37⟩
    refine lv (d := 4) rfl rfl (by kernel_rfl) (e_assign (v := .int .i64 x10) (by kernel_rfl)) ?_
    refine lse rfl rfl (by kernel_rfl) (e_store (g := g34) (o := 0) (v := .agg #[.slice A29 ((x1.getD ((x10).toNat) z45).name).length c30, .int .i64 ((x1.getD ((x10).toNat) z45).pri), .int .i64 ((x1.getD ((x10).toNat) z45).typ)]) (cur' := #[.slice A29 ((x1.getD ((x10).toNat) z45).name).length c30, .int .i64 ((x1.getD ((x10).toNat) z45).pri), .int .i64 ((x1.getD ((x10).toNat) z45).typ)]) (vs := [.slice A29 ((x1.getD ((x10).toNat) z45).name).length c30, .int .i64 ((x1.getD ((x10).toNat) z45).pri), .int .i64 ((x1.getD ((x10).toNat) z45).typ)]) S36 (by kernel_rfl) (by kernel_rfl) rfl (by kernel_rfl) b35 (Nat.le_of_ble_eq_true rfl) (List.forall_mem_cons.2 ⟨rfl, (List.forall_mem_cons.2 ⟨rfl, (List.forall_mem_cons.2 ⟨rfl, (fun _ h_ => by cases h_)⟩)⟩)⟩) rfl) ?_
    rintro w38 ⟨b39, S40, K41⟩
    clear b35
    refine wpList_nil ?_
    refine then_n ?_
    refine wp_seq ?_
    refine wp_region_lit ?_
    refine lv (d := 19) rfl rfl (by kernel_rfl) (e_fieldAddr (b := g34) (off := 0) (o := 0) Try.underlying45 rfl rfl (sz := 1) (by kernel_rfl) (by decide) (by kernel_rfl)) ?_
    refine lv (d := 20) rfl rfl (by kernel_rfl) (e_load1 (ad := ⟨g34, 0 + 0, none⟩) (v := .slice A29 ((x1.getD ((x10).toNat) z45).name).length c30) Try.underlying32 rfl (by kernel_rfl) (blk_cell b39 rfl)) ?_
    refine lv (d := 21) rfl rfl (by kernel_rfl) (e_conv_bs (A := A29) (n := ((x1.getD ((x10).toNat) z45).name).length) (c := c30) (xs := (x1.getD ((x10).toNat) z45).name) Try.underlying32 Try.underlying5 Try.underlying9 (by kernel_rfl) rfl (Rd.bytesE S40.inv h32)) ?_
    refine lv (d := 6) rfl rfl (by kernel_rfl) (e_assign (v := str ((x1.getD ((x10).toNat) z45).name)) (by kernel_rfl)) ?_
    refine wpList_nil ?_
    refine then_n ?_
    refine wp_seq ?_
    refine wp_seq ?_
    refine wp_region_lit ?_
    refine lv (d := 22) rfl rfl (by kernel_rfl) (e_move (v := str ((x1.getD ((x10).toNat) z45).name)) (by kernel_rfl)) ?_
    refine lv (d := 23) rfl rfl (by kernel_rfl) (e_seql (p := (x1.getD ((x10).toNat) z45).name) (q := ([] : List UInt8)) (by kernel_rfl) rfl) ?_
    refine lv (d := 24) rfl rfl (by kernel_rfl) (e_move (v := .bool (decide ((x1.getD ((x10).toNat) z45).name = ([] : List UInt8)))) (by kernel_rfl)) ?_
    by_cases q42 : (x1.getD ((x10).toNat) z45).name = ([] : List UInt8)
    · replace M := ifp q42 M
      refine lskip (t := 24) (c := true) rfl (by kernel_rfl) rfl (bt q42 (by kernel_rfl)) rfl rfl ?_
      refine lskip (t := 24) (c := true) rfl (by kernel_rfl) rfl (bt q42 (by kernel_rfl)) rfl rfl ?_
      refine lskip (t := 24) (c := true) rfl (by kernel_rfl) rfl (bt q42 (by kernel_rfl)) rfl rfl ?_
      refine lv (d := 28) rfl rfl (by kernel_rfl) (e_pick_t (v := .bool true) (bt q42 (by kernel_rfl)) rfl) ?_
      refine lv (d := 29) rfl rfl (by kernel_rfl) (e_move (v := .bool true) (by kernel_rfl)) ?_
      refine lskip (t := 29) (c := true) rfl (by kernel_rfl) rfl (by kernel_rfl) rfl rfl ?_
      refine lskip (t := 29) (c := true) rfl (by kernel_rfl) rfl (by kernel_rfl) rfl rfl ?_
      refine lv (d := 32) rfl rfl (by kernel_rfl) (e_pick_t (v := .bool true) (by kernel_rfl) rfl) ?_
      refine lv (d := 33) rfl rfl (by kernel_rfl) (e_move (v := .bool true) (by kernel_rfl)) ?_
      refine lskip (t := 33) (c := true) rfl (by kernel_rfl) rfl (by kernel_rfl) rfl rfl ?_
      refine lskip (t := 33) (c := true) rfl (by kernel_rfl) rfl (by kernel_rfl) rfl rfl ?_
      refine lv (d := 36) rfl rfl (by kernel_rfl) (e_pick_t (v := .bool true) (by kernel_rfl) rfl) ?_
      refine lv (d := 37) rfl rfl (by kernel_rfl) (e_move (v := .bool true) (by kernel_rfl)) ?_
      refine lskip (t := 37) (c := true) rfl (by kernel_rfl) rfl (by kernel_rfl) rfl rfl ?_
      refine lskip (t := 37) (c := true) rfl (by kernel_rfl) rfl (by kernel_rfl) rfl rfl ?_
      refine lv (d := 40) rfl rfl (by kernel_rfl) (e_pick_t (v := .bool true) (by kernel_rfl) rfl) ?_
      refine lv (d := 41) rfl rfl (by kernel_rfl) (e_move (v := .bool true) (by kernel_rfl)) ?_
      refine lskip (t := 41) (c := true) rfl (by kernel_rfl) rfl (by kernel_rfl) rfl rfl ?_
      refine lskip (t := 41) (c := true) rfl (by kernel_rfl) rfl (by kernel_rfl) rfl rfl ?_
      refine lskip (t := 41) (c := true) rfl (by kernel_rfl) rfl (by kernel_rfl) rfl rfl ?_
      refine lv (d := 45) rfl rfl (by kernel_rfl) (e_pick_t (v := .bool true) (by kernel_rfl) rfl) ?_
      refine lv (d := 46) rfl rfl (by kernel_rfl) (e_move (v := .bool true) (by kernel_rfl)) ?_
      refine lskip (t := 46) (c := true) rfl (by kernel_rfl) rfl (by kernel_rfl) rfl rfl ?_
      refine lskip (t := 46) (c := true) rfl (by kernel_rfl) rfl (by kernel_rfl) rfl rfl ?_
      refine lskip (t := 46) (c := true) rfl (by kernel_rfl) rfl (by kernel_rfl) rfl rfl ?_
      refine lv (d := 50) rfl rfl (by kernel_rfl) (e_pick_t (v := .bool true) (by kernel_rfl) rfl) ?_
      refine lv (d := 51) rfl rfl (by kernel_rfl) (e_move (v := .bool true) (by kernel_rfl)) ?_
      refine lskip (t := 51) (c := true) rfl (by kernel_rfl) rfl (by kernel_rfl) rfl rfl ?_
      refine lskip (t := 51) (c := true) rfl (by kernel_rfl) rfl (by kernel_rfl) rfl rfl ?_
      refine lskip (t := 51) (c := true) rfl (by kernel_rfl) rfl (by kernel_rfl) rfl rfl ?_
      refine lv (d := 55) rfl rfl (by kernel_rfl) (e_pick_t (v := .bool true) (by kernel_rfl) rfl) ?_
      refine lv (d := 56) rfl rfl (by kernel_rfl) (e_move (v := .bool true) (by kernel_rfl)) ?_
      refine lskip (t := 56) (c := true) rfl (by kernel_rfl) rfl (by kernel_rfl) rfl rfl ?_
      refine lskip (t := 56) (c := true) rfl (by kernel_rfl) rfl (by kernel_rfl) rfl rfl ?_
      refine lskip (t := 56) (c := true) rfl (by kernel_rfl) rfl (by kernel_rfl) rfl rfl ?_
      refine lv (d := 60) rfl rfl (by kernel_rfl) (e_pick_t (v := .bool true) (by kernel_rfl) rfl) ?_
      refine wpList_nil ?_
      refine then_n ?_
      refine cond_t rfl (by kernel_rfl) ?_
      refine wp_seq ?_
      refine wp_region_lit ?_
      refine lv (d := 2) rfl rfl (by kernel_rfl) (e_assign (v := .bool false) rfl) ?_
      refine wpList_nil ?_
      refine then_n ?_
      refine wp_ret ?_
      refine then_r ?_
      refine inb_r ?_
      refine then_r ?_
      refine then_r ?_
      refine inb_r ?_
      refine then_r ?_
      obtain rfl := Option.some.inj M
      exact ret1 rfl rfl  (show _ = .bool false from (by kernel_rfl)) ⟨rfl, S40.chg⟩
    replace M := ifn q42 M
    refine lvg (d := 25) (t := 24) rfl (by kernel_rfl) rfl (bf q42 (by kernel_rfl)) rfl (by kernel_rfl) (e_move (v := str ((x1.getD ((x10).toNat) z45).name)) (by kernel_rfl)) ?_
    refine lvg (d := 26) (t := 24) rfl (by kernel_rfl) rfl (bf q42 (by kernel_rfl)) rfl (by kernel_rfl) (e_slen (p := (x1.getD ((x10).toNat) z45).name) Try.underlying9 (by kernel_rfl)) ?_
    refine lvg (d := 27) (t := 24) rfl (by kernel_rfl) rfl (bf q42 (by kernel_rfl)) rfl (by kernel_rfl) (e_gtr (k := .i64) (a := (((x1.getD ((x10).toNat) z45).name).length : Int)) (b := 100) (by kernel_rfl) rfl) ?_
    refine lv (d := 28) rfl rfl (by kernel_rfl) (e_pick_f (v := .bool (decide ((((x1.getD ((x10).toNat) z45).name).length : Int) > 100))) (bf q42 (by kernel_rfl)) (by kernel_rfl)) ?_
    refine lv (d := 29) rfl rfl (by kernel_rfl) (e_move (v := .bool (decide ((((x1.getD ((x10).toNat) z45).name).length : Int) > 100))) (by kernel_rfl)) ?_
    by_cases q43 : (((x1.getD ((x10).toNat) z45).name).length : Int) > 100
    · replace M := ifp q43 M
      refine lskip (t := 29) (c := true) rfl (by kernel_rfl) rfl (bt q43 (by kernel_rfl)) rfl rfl ?_
      refine lskip (t := 29) (c := true) rfl (by kernel_rfl) rfl (bt q43 (by kernel_rfl)) rfl rfl ?_
      refine lv (d := 32) rfl rfl (by kernel_rfl) (e_pick_t (v := .bool true) (bt q43 (by kernel_rfl)) rfl) ?_
      refine lv (d := 33) rfl rfl (by kernel_rfl) (e_move (v := .bool true) (by kernel_rfl)) ?_
      refine lskip (t := 33) (c := true) rfl (by kernel_rfl) rfl (by kernel_rfl) rfl rfl ?_
      refine lskip (t := 33) (c := true) rfl (by kernel_rfl) rfl (by kernel_rfl) rfl rfl ?_
      refine lv (d := 36) rfl rfl (by kernel_rfl) (e_pick_t (v := .bool true) (by kernel_rfl) rfl) ?_
      refine lv (d := 37) rfl rfl (by kernel_rfl) (e_move (v := .bool true) (by kernel_rfl)) ?_
      refine lskip (t := 37) (c := true) rfl (by kernel_rfl) rfl (by kernel_rfl) rfl rfl ?_
      refine lskip (t := 37) (c := true) rfl (by kernel_rfl) rfl (by kernel_rfl) rfl rfl ?_
      refine lv (d := 40) rfl rfl (by kernel_rfl) (e_pick_t (v := .bool true) (by kernel_rfl) rfl) ?_
      refine lv (d := 41) rfl rfl (by kernel_rfl) (e_move (v := .bool true) (by kernel_rfl)) ?_
      refine lskip (t := 41) (c := true) rfl (by kernel_rfl) rfl (by kernel_rfl) rfl rfl ?_
      refine lskip (t := 41) (c := true) rfl (by kernel_rfl) rfl (by kernel_rfl) rfl rfl ?_
      refine lskip (t := 41) (c := true) rfl (by kernel_rfl) rfl (by kernel_rfl) rfl rfl ?_
      refine lv (d := 45) rfl rfl (by kernel_rfl) (e_pick_t (v := .bool true) (by kernel_rfl) rfl) ?_
      refine lv (d := 46) rfl rfl (by kernel_rfl) (e_move (v := .bool true) (by kernel_rfl)) ?_
      refine lskip (t := 46) (c := true) rfl (by kernel_rfl) rfl (by kernel_rfl) rfl rfl ?_
      refine lskip (t := 46) (c := true) rfl (by kernel_rfl) rfl (by kernel_rfl) rfl rfl ?_
      refine lskip (t := 46) (c := true) rfl (by kernel_rfl) rfl (by kernel_rfl) rfl rfl ?_
      refine lv (d := 50) rfl rfl (by kernel_rfl) (e_pick_t (v := .bool true) (by kernel_rfl) rfl) ?_
      refine lv (d := 51) rfl rfl (by kernel_rfl) (e_move (v := .bool true) (by kernel_rfl)) ?_
      refine lskip (t := 51) (c := true) rfl (by kernel_rfl) rfl (by kernel_rfl) rfl rfl ?_
      refine lskip (t := 51) (c := true) rfl (by kernel_rfl) rfl (by kernel_rfl) rfl rfl ?_
      refine lskip (t := 51) (c := true) rfl (by kernel_rfl) rfl (by kernel_rfl) rfl rfl ?_
      refine lv (d := 55) rfl rfl (by kernel_rfl) (e_pick_t (v := .bool true) (by kernel_rfl) rfl) ?_
      refine lv (d := 56) rfl rfl (by kernel_rfl) (e_move (v := .bool true) (by kernel_rfl)) ?_
      refine lskip (t := 56) (c := true) rfl (by kernel_rfl) rfl (by kernel_rfl) rfl rfl ?_
      refine lskip (t := 56) (c := true) rfl (by kernel_rfl) rfl (by kernel_rfl) rfl rfl ?_
      refine lskip (t := 56) (c := true) rfl (by kernel_rfl) rfl (by kernel_rfl) rfl rfl ?_
      refine lv (d := 60) rfl rfl (by kernel_rfl) (e_pick_t (v := .bool true) (by kernel_rfl) rfl) ?_
      refine wpList_nil ?_
      refine then_n ?_
      refine cond_t rfl (by kernel_rfl) ?_
      refine wp_seq ?_
      refine wp_region_lit ?_
      refine lv (d := 2) rfl rfl (by kernel_rfl) (e_assign (v := .bool false) rfl) ?_
      refine wpList_nil ?_
      refine then_n ?_
      refine wp_ret ?_
      refine then_r ?_
      refine inb_r ?_
      refine then_r ?_
      refine then_r ?_
      refine inb_r ?_
      refine then_r ?_
      obtain rfl := Option.some.inj M
      exact ret1 rfl rfl  (show _ = .bool false from (by kernel_rfl)) ⟨rfl, S40.chg⟩
    replace M := ifn q43 M
    refine lvg (d := 30) (t := 29) rfl (by kernel_rfl) rfl (bf q43 (by kernel_rfl)) rfl (by kernel_rfl) (e_move (v := str ((x1.getD ((x10).toNat) z45).name)) (by kernel_rfl)) ?_
    refine lvg (d := 31) (t := 29) rfl (by kernel_rfl) rfl (bf q43 (by kernel_rfl)) rfl (by kernel_rfl) (e_seql (p := (x1.getD ((x10).toNat) z45).name) (q := ([91, 93] : List UInt8)) (by kernel_rfl) rfl) ?_
    refine lv (d := 32) rfl rfl (by kernel_rfl) (e_pick_f (v := .bool (decide ((x1.getD ((x10).toNat) z45).name = ([91, 93] : List UInt8)))) (bf q43 (by kernel_rfl)) (by kernel_rfl)) ?_
    refine lv (d := 33) rfl rfl (by kernel_rfl) (e_move (v := .bool (decide ((x1.getD ((x10).toNat) z45).name = ([91, 93] : List UInt8)))) (by kernel_rfl)) ?_
    by_cases q44 : (x1.getD ((x10).toNat) z45).name = ([91, 93] : List UInt8)
    · replace M := ifp q44 M
      refine lskip (t := 33) (c := true) rfl (by kernel_rfl) rfl (bt q44 (by kernel_rfl)) rfl rfl ?_
      refine lskip (t := 33) (c := true) rfl (by kernel_rfl) rfl (bt q44 (by kernel_rfl)) rfl rfl ?_
      refine lv (d := 36) rfl rfl (by kernel_rfl) (e_pick_t (v := .bool true) (bt q44 (by kernel_rfl)) rfl) ?_
      refine lv (d := 37) rfl rfl (by kernel_rfl) (e_move (v := .bool true) (by kernel_rfl)) ?_
      refine lskip (t := 37) (c := true) rfl (by kernel_rfl) rfl (by kernel_rfl) rfl rfl ?_
      refine lskip (t := 37) (c := true) rfl (by kernel_rfl) rfl (by kernel_rfl) rfl rfl ?_
      refine lv (d := 40) rfl rfl (by kernel_rfl) (e_pick_t (v := .bool true) (by kernel_rfl) rfl) ?_
      refine lv (d := 41) rfl rfl (by kernel_rfl) (e_move (v := .bool true) (by kernel_rfl)) ?_
      refine lskip (t := 41) (c := true) rfl (by kernel_rfl) rfl (by kernel_rfl) rfl rfl ?_
      refine lskip (t := 41) (c := true) rfl (by kernel_rfl) rfl (by kernel_rfl) rfl rfl ?_
      refine lskip (t := 41) (c := true) rfl (by kernel_rfl) rfl (by kernel_rfl) rfl rfl ?_
      refine lv (d := 45) rfl rfl (by kernel_rfl) (e_pick_t (v := .bool true) (by kernel_rfl) rfl) ?_
      refine lv (d := 46) rfl rfl (by kernel_rfl) (e_move (v := .bool true) (by kernel_rfl)) ?_
      refine lskip (t := 46) (c := true) rfl (by kernel_rfl) rfl (by kernel_rfl) rfl rfl ?_
      refine lskip (t := 46) (c := true) rfl (by kernel_rfl) rfl (by kernel_rfl) rfl rfl ?_
      refine lskip (t := 46) (c := true) rfl (by kernel_rfl) rfl (by kernel_rfl) rfl rfl ?_
      refine lv (d := 50) rfl rfl (by kernel_rfl) (e_pick_t (v := .bool true) (by kernel_rfl) rfl) ?_
      refine lv (d := 51) rfl rfl (by kernel_rfl) (e_move (v := .bool true) (by kernel_rfl)) ?_
      refine lskip (t := 51) (c := true) rfl (by kernel_rfl) rfl (by kernel_rfl) rfl rfl ?_
      refine lskip (t := 51) (c := true) rfl (by kernel_rfl) rfl (by kernel_rfl) rfl rfl ?_
      refine lskip (t := 51) (c := true) rfl (by kernel_rfl) rfl (by kernel_rfl) rfl rfl ?_
      refine lv (d := 55) rfl rfl (by kernel_rfl) (e_pick_t (v := .bool true) (by kernel_rfl) rfl) ?_
      refine lv (d := 56) rfl rfl (by kernel_rfl) (e_move (v := .bool true) (by kernel_rfl)) ?_
      refine lskip (t := 56) (c := true) rfl (by kernel_rfl) rfl (by kernel_rfl) rfl rfl ?_
      refine lskip (t := 56) (c := true) rfl (by kernel_rfl) rfl (by kernel_rfl) rfl rfl ?_
      refine lskip (t := 56) (c := true) rfl (by kernel_rfl) rfl (by kernel_rfl) rfl rfl ?_
      refine lv (d := 60) rfl rfl (by kernel_rfl) (e_pick_t (v := .bool true) (by kernel_rfl) rfl) ?_
      refine wpList_nil ?_
      refine then_n ?_
      refine cond_t rfl (by kernel_rfl) ?_
      refine wp_seq ?_
      refine wp_region_lit ?_
      refine lv (d := 2) rfl rfl (by kernel_rfl) (e_assign (v := .bool false) rfl) ?_
      refine wpList_nil ?_
      refine then_n ?_
      refine wp_ret ?_
      refine then_r ?_
      refine inb_r ?_
      refine then_r ?_
      refine then_r ?_
      refine inb_r ?_
      refine then_r ?_
      obtain rfl := Option.some.inj M
      exact ret1 rfl rfl  (show _ = .bool false from (by kernel_rfl)) ⟨rfl, S40.chg⟩
    replace M := ifn q44 M
    refine lvg (d := 34) (t := 33) rfl (by kernel_rfl) rfl (bf q44 (by kernel_rfl)) rfl (by kernel_rfl) (e_move (v := str ((x1.getD ((x10).toNat) z45).name)) (by kernel_rfl)) ?_
    refine lvg (d := 35) (t := 33) rfl (by kernel_rfl) rfl (bf q44 (by kernel_rfl)) rfl (by kernel_rfl) (e_seql (p := (x1.getD ((x10).toNat) z45).name) (q := ([123, 125] : List UInt8)) (by kernel_rfl) rfl) ?_
    refine lv (d := 36) rfl rfl (by kernel_rfl) (e_pick_f (v := .bool (decide ((x1.getD ((x10).toNat) z45).name = ([123, 125] : List UInt8)))) (bf q44 (by kernel_rfl)) (by kernel_rfl)) ?_
    refine lv (d := 37) rfl rfl (by kernel_rfl) (e_move (v := .bool (decide ((x1.getD ((x10).toNat) z45).name = ([123, 125] : List UInt8)))) (by kernel_rfl)) ?_
    by_cases q45 : (x1.getD ((x10).toNat) z45).name = ([123, 125] : List UInt8)
    · replace M := ifp q45 M
      refine lskip (t := 37) (c := true) rfl (by kernel_rfl) rfl (bt q45 (by kernel_rfl)) rfl rfl ?_
      refine lskip (t := 37) (c := true) rfl (by kernel_rfl) rfl (bt q45 (by kernel_rfl)) rfl rfl ?_
      refine lv (d := 40) rfl rfl (by kernel_rfl) (e_pick_t (v := .bool true) (bt q45 (by kernel_rfl)) rfl) ?_
      refine lv (d := 41) rfl rfl (by kernel_rfl) (e_move (v := .bool true) (by kernel_rfl)) ?_
      refine lskip (t := 41) (c := true) rfl (by kernel_rfl) rfl (by kernel_rfl) rfl rfl ?_
      refine lskip (t := 41) (c := true) rfl (by kernel_rfl) rfl (by kernel_rfl) rfl rfl ?_
      refine lskip (t := 41) (c := true) rfl (by kernel_rfl) rfl (by kernel_rfl) rfl rfl ?_
      refine lv (d := 45) rfl rfl (by kernel_rfl) (e_pick_t (v := .bool true) (by kernel_rfl) rfl) ?_
      refine lv (d := 46) rfl rfl (by kernel_rfl) (e_move (v := .bool true) (by kernel_rfl)) ?_
      refine lskip (t := 46) (c := true) rfl (by kernel_rfl) rfl (by kernel_rfl) rfl rfl ?_
      refine lskip (t := 46) (c := true) rfl (by kernel_rfl) rfl (by kernel_rfl) rfl rfl ?_
      refine lskip (t := 46) (c := true) rfl (by kernel_rfl) rfl (by kernel_rfl) rfl rfl ?_
      refine lv (d := 50) rfl rfl (by kernel_rfl) (e_pick_t (v := .bool true) (by kernel_rfl) rfl) ?_
      refine lv (d := 51) rfl rfl (by kernel_rfl) (e_move (v := .bool true) (by kernel_rfl)) ?_
      refine lskip (t := 51) (c := true) rfl (by kernel_rfl) rfl (by kernel_rfl) rfl rfl ?_
      refine lskip (t := 51) (c := true) rfl (by kernel_rfl) rfl (by kernel_rfl) rfl rfl ?_
      refine lskip (t := 51) (c := true) rfl (by kernel_rfl) rfl (by kernel_rfl) rfl rfl ?_
      refine lv (d := 55) rfl rfl (by kernel_rfl) (e_pick_t (v := .bool true) (by kernel_rfl) rfl) ?_
      refine lv (d := 56) rfl rfl (by kernel_rfl) (e_move (v := .bool true) (by kernel_rfl)) ?_
      refine lskip (t := 56) (c := true) rfl (by kernel_rfl) rfl (by kernel_rfl) rfl rfl ?_
      refine lskip (t := 56) (c := true) rfl (by kernel_rfl) rfl (by kernel_rfl) rfl rfl ?_
      refine lskip (t := 56) (c := true) rfl (by kernel_rfl) rfl (by kernel_rfl) rfl rfl ?_
      refine lv (d := 60) rfl rfl (by kernel_rfl) (e_pick_t (v := .bool true) (by kernel_rfl) rfl) ?_
      refine wpList_nil ?_
      refine then_n ?_
      refine cond_t rfl (by kernel_rfl) ?_
      refine wp_seq ?_
      refine wp_region_lit ?_
      refine lv (d := 2) rfl rfl (by kernel_rfl) (e_assign (v := .bool false) rfl) ?_
      refine wpList_nil ?_
      refine then_n ?_
      refine wp_ret ?_
      refine then_r ?_
      refine inb_r ?_
      refine then_r ?_
      refine then_r ?_
      refine inb_r ?_
      refine then_r ?_
      obtain rfl := Option.some.inj M
      exact ret1 rfl rfl  (show _ = .bool false from (by kernel_rfl)) ⟨rfl, S40.chg⟩
    replace M := ifn q45 M
    refine lvg (d := 38) (t := 37) rfl (by kernel_rfl) rfl (bf q45 (by kernel_rfl)) rfl (by kernel_rfl) (e_move (v := str ((x1.getD ((x10).toNat) z45).name)) (by kernel_rfl)) ?_
    refine lvg (d := 39) (t := 37) rfl (by kernel_rfl) rfl (bf q45 (by kernel_rfl)) rfl (by kernel_rfl) (e_seql (p := (x1.getD ((x10).toNat) z45).name) (q := ([124] : List UInt8)) (by kernel_rfl) rfl) ?_
    refine lv (d := 40) rfl rfl (by kernel_rfl) (e_pick_f (v := .bool (decide ((x1.getD ((x10).toNat) z45).name = ([124] : List UInt8)))) (bf q45 (by kernel_rfl)) (by kernel_rfl)) ?_
    refine lv (d := 41) rfl rfl (by kernel_rfl) (e_move (v := .bool (decide ((x1.getD ((x10).toNat) z45).name = ([124] : List UInt8)))) (by kernel_rfl)) ?_
    by_cases q46 : (x1.getD ((x10).toNat) z45).name = ([124] : List UInt8)
    · replace M := ifp q46 M
      refine lskip (t := 41) (c := true) rfl (by kernel_rfl) rfl (bt q46 (by kernel_rfl)) rfl rfl ?_
      refine lskip (t := 41) (c := true) rfl (by kernel_rfl) rfl (bt q46 (by kernel_rfl)) rfl rfl ?_
      refine lskip (t := 41) (c := true) rfl (by kernel_rfl) rfl (bt q46 (by kernel_rfl)) rfl rfl ?_
      refine lv (d := 45) rfl rfl (by kernel_rfl) (e_pick_t (v := .bool true) (bt q46 (by kernel_rfl)) rfl) ?_
      refine lv (d := 46) rfl rfl (by kernel_rfl) (e_move (v := .bool true) (by kernel_rfl)) ?_
      refine lskip (t := 46) (c := true) rfl (by kernel_rfl) rfl (by kernel_rfl) rfl rfl ?_
      refine lskip (t := 46) (c := true) rfl (by kernel_rfl) rfl (by kernel_rfl) rfl rfl ?_
      refine lskip (t := 46) (c := true) rfl (by kernel_rfl) rfl (by kernel_rfl) rfl rfl ?_
      refine lv (d := 50) rfl rfl (by kernel_rfl) (e_pick_t (v := .bool true) (by kernel_rfl) rfl) ?_
      refine lv (d := 51) rfl rfl (by kernel_rfl) (e_move (v := .bool true) (by kernel_rfl)) ?_
      refine lskip (t := 51) (c := true) rfl (by kernel_rfl) rfl (by kernel_rfl) rfl rfl ?_
      refine lskip (t := 51) (c := true) rfl (by kernel_rfl) rfl (by kernel_rfl) rfl rfl ?_
      refine lskip (t := 51) (c := true) rfl (by kernel_rfl) rfl (by kernel_rfl) rfl rfl ?_
      refine lv (d := 55) rfl rfl (by kernel_rfl) (e_pick_t (v := .bool true) (by kernel_rfl) rfl) ?_
      refine lv (d := 56) rfl rfl (by kernel_rfl) (e_move (v := .bool true) (by kernel_rfl)) ?_
      refine lskip (t := 56) (c := true) rfl (by kernel_rfl) rfl (by kernel_rfl) rfl rfl ?_
      refine lskip (t := 56) (c := true) rfl (by kernel_rfl) rfl (by kernel_rfl) rfl rfl ?_
      refine lskip (t := 56) (c := true) rfl (by kernel_rfl) rfl (by kernel_rfl) rfl rfl ?_
      refine lv (d := 60) rfl rfl (by kernel_rfl) (e_pick_t (v := .bool true) (by kernel_rfl) rfl) ?_
      refine wpList_nil ?_
      refine then_n ?_
      refine cond_t rfl (by kernel_rfl) ?_
      refine wp_seq ?_
      refine wp_region_lit ?_
      refine lv (d := 2) rfl rfl (by kernel_rfl) (e_assign (v := .bool false) rfl) ?_
      refine wpList_nil ?_
      refine then_n ?_
      refine wp_ret ?_
      refine then_r ?_
      refine inb_r ?_
      refine then_r ?_
      refine then_r ?_
      refine inb_r ?_
      refine then_r ?_
      obtain rfl := Option.some.inj M
      exact ret1 rfl rfl  (show _ = .bool false from (by kernel_rfl)) ⟨rfl, S40.chg⟩
    replace M := ifn q46 M
    refine lvg (d := 42) (t := 41) rfl (by kernel_rfl) rfl (bf q46 (by kernel_rfl)) rfl (by kernel_rfl) (e_fieldAddr (b := g34) (off := 0) (o := 1) Try.underlying45 rfl rfl (sz := 1) (by kernel_rfl) (by decide) (by kernel_rfl)) ?_
    refine lvg (d := 43) (t := 41) rfl (by kernel_rfl) rfl (bf q46 (by kernel_rfl)) rfl (by kernel_rfl) (e_load1 (ad := ⟨g34, 0 + 1, none⟩) (v := .int .i64 ((x1.getD ((x10).toNat) z45).pri)) Try.underlying3 rfl (by kernel_rfl) (blk_cell b39 rfl)) ?_
    refine lvg (d := 44) (t := 41) rfl (by kernel_rfl) rfl (bf q46 (by kernel_rfl)) rfl (by kernel_rfl) (e_lss (k := .i64) (a := (x1.getD ((x10).toNat) z45).pri) (b := 1) (by kernel_rfl) rfl) ?_
    refine lv (d := 45) rfl rfl (by kernel_rfl) (e_pick_f (v := .bool (decide (((x1.getD ((x10).toNat) z45).pri) < 1))) (bf q46 (by kernel_rfl)) (by kernel_rfl)) ?_
    refine lv (d := 46) rfl rfl (by kernel_rfl) (e_move (v := .bool (decide (((x1.getD ((x10).toNat) z45).pri) < 1))) (by kernel_rfl)) ?_
    by_cases q47 : ((x1.getD ((x10).toNat) z45).pri) < 1
    · replace M := ifp q47 M
      refine lskip (t := 46) (c := true) rfl (by kernel_rfl) rfl (bt q47 (by kernel_rfl)) rfl rfl ?_
      refine lskip (t := 46) (c := true) rfl (by kernel_rfl) rfl (bt q47 (by kernel_rfl)) rfl rfl ?_
      refine lskip (t := 46) (c := true) rfl (by kernel_rfl) rfl (bt q47 (by kernel_rfl)) rfl rfl ?_
      refine lv (d := 50) rfl rfl (by kernel_rfl) (e_pick_t (v := .bool true) (bt q47 (by kernel_rfl)) rfl) ?_
      refine lv (d := 51) rfl rfl (by kernel_rfl) (e_move (v := .bool true) (by kernel_rfl)) ?_
      refine lskip (t := 51) (c := true) rfl (by kernel_rfl) rfl (by kernel_rfl) rfl rfl ?_
      refine lskip (t := 51) (c := true) rfl (by kernel_rfl) rfl (by kernel_rfl) rfl rfl ?_
      refine lskip (t := 51) (c := true) rfl (by kernel_rfl) rfl (by kernel_rfl) rfl rfl ?_
      refine lv (d := 55) rfl rfl (by kernel_rfl) (e_pick_t (v := .bool true) (by kernel_rfl) rfl) ?_
      refine lv (d := 56) rfl rfl (by kernel_rfl) (e_move (v := .bool true) (by kernel_rfl)) ?_
      refine lskip (t := 56) (c := true) rfl (by kernel_rfl) rfl (by kernel_rfl) rfl rfl ?_
      refine lskip (t := 56) (c := true) rfl (by kernel_rfl) rfl (by kernel_rfl) rfl rfl ?_
      refine lskip (t := 56) (c := true) rfl (by kernel_rfl) rfl (by kernel_rfl) rfl rfl ?_
      refine lv (d := 60) rfl rfl (by kernel_rfl) (e_pick_t (v := .bool true) (by kernel_rfl) rfl) ?_
      refine wpList_nil ?_
      refine then_n ?_
      refine cond_t rfl (by kernel_rfl) ?_
      refine wp_seq ?_
      refine wp_region_lit ?_
      refine lv (d := 2) rfl rfl (by kernel_rfl) (e_assign (v := .bool false) rfl) ?_
      refine wpList_nil ?_
      refine then_n ?_
      refine wp_ret ?_
      refine then_r ?_
      refine inb_r ?_
      refine then_r ?_
      refine then_r ?_
      refine inb_r ?_
      refine then_r ?_
      obtain rfl := Option.some.inj M
      exact ret1 rfl rfl  (show _ = .bool false from (by kernel_rfl)) ⟨rfl, S40.chg⟩
    replace M := ifn q47 M
    refine lvg (d := 47) (t := 46) rfl (by kernel_rfl) rfl (bf q47 (by kernel_rfl)) rfl (by kernel_rfl) (e_fieldAddr (b := g34) (off := 0) (o := 1) Try.underlying45 rfl rfl (sz := 1) (by kernel_rfl) (by decide) (by kernel_rfl)) ?_
    refine lvg (d := 48) (t := 46) rfl (by kernel_rfl) rfl (bf q47 (by kernel_rfl)) rfl (by kernel_rfl) (e_load1 (ad := ⟨g34, 0 + 1, none⟩) (v := .int .i64 ((x1.getD ((x10).toNat) z45).pri)) Try.underlying3 rfl (by kernel_rfl) (blk_cell b39 rfl)) ?_
    refine lvg (d := 49) (t := 46) rfl (by kernel_rfl) rfl (bf q47 (by kernel_rfl)) rfl (by kernel_rfl) (e_gtr (k := .i64) (a := (x1.getD ((x10).toNat) z45).pri) (b := 1200) (by kernel_rfl) rfl) ?_
    refine lv (d := 50) rfl rfl (by kernel_rfl) (e_pick_f (v := .bool (decide (((x1.getD ((x10).toNat) z45).pri) > 1200))) (bf q47 (by kernel_rfl)) (by kernel_rfl)) ?_
    refine lv (d := 51) rfl rfl (by kernel_rfl) (e_move (v := .bool (decide (((x1.getD ((x10).toNat) z45).pri) > 1200))) (by kernel_rfl)) ?_
    by_cases q48 : ((x1.getD ((x10).toNat) z45).pri) > 1200
    · replace M := ifp q48 M
      refine lskip (t := 51) (c := true) rfl (by kernel_rfl) rfl (bt q48 (by kernel_rfl)) rfl rfl ?_
      refine lskip (t := 51) (c := true) rfl (by kernel_rfl) rfl (bt q48 (by kernel_rfl)) rfl rfl ?_
      refine lskip (t := 51) (c := true) rfl (by kernel_rfl) rfl (bt q48 (by kernel_rfl)) rfl rfl ?_
      refine lv (d := 55) rfl rfl (by kernel_rfl) (e_pick_t (v := .bool true) (bt q48 (by kernel_rfl)) rfl) ?_
      refine lv (d := 56) rfl rfl (by kernel_rfl) (e_move (v := .bool true) (by kernel_rfl)) ?_
      refine lskip (t := 56) (c := true) rfl (by kernel_rfl) rfl (by kernel_rfl) rfl rfl ?_
      refine lskip (t := 56) (c := true) rfl (by kernel_rfl) rfl (by kernel_rfl) rfl rfl ?_
      refine lskip (t := 56) (c := true) rfl (by kernel_rfl) rfl (by kernel_rfl) rfl rfl ?_
      refine lv (d := 60) rfl rfl (by kernel_rfl) (e_pick_t (v := .bool true) (by kernel_rfl) rfl) ?_
      refine wpList_nil ?_
      refine then_n ?_
      refine cond_t rfl (by kernel_rfl) ?_
      refine wp_seq ?_
      refine wp_region_lit ?_
      refine lv (d := 2) rfl rfl (by kernel_rfl) (e_assign (v := .bool false) rfl) ?_
      refine wpList_nil ?_
      refine then_n ?_
      refine wp_ret ?_
      refine then_r ?_
      refine inb_r ?_
      refine then_r ?_
      refine then_r ?_
      refine inb_r ?_
      refine then_r ?_
      obtain rfl := Option.some.inj M
      exact ret1 rfl rfl  (show _ = .bool false from (by kernel_rfl)) ⟨rfl, S40.chg⟩
    replace M := ifn q48 M
    refine lvg (d := 52) (t := 51) rfl (by kernel_rfl) rfl (bf q48 (by kernel_rfl)) rfl (by kernel_rfl) (e_fieldAddr (b := g34) (off := 0) (o := 2) Try.underlying45 rfl rfl (sz := 1) (by kernel_rfl) (by decide) (by kernel_rfl)) ?_
    refine lvg (d := 53) (t := 51) rfl (by kernel_rfl) rfl (bf q48 (by kernel_rfl)) rfl (by kernel_rfl) (e_load1 (ad := ⟨g34, 0 + 2, none⟩) (v := .int .i64 ((x1.getD ((x10).toNat) z45).typ)) Try.underlying3 rfl (by kernel_rfl) (blk_cell b39 rfl)) ?_
    refine lvg (d := 54) (t := 51) rfl (by kernel_rfl) rfl (bf q48 (by kernel_rfl)) rfl (by kernel_rfl) (e_lss (k := .i64) (a := (x1.getD ((x10).toNat) z45).typ) (b := 0) (by kernel_rfl) rfl) ?_
    refine lv (d := 55) rfl rfl (by kernel_rfl) (e_pick_f (v := .bool (decide (((x1.getD ((x10).toNat) z45).typ) < 0))) (bf q48 (by kernel_rfl)) (by kernel_rfl)) ?_
    refine lv (d := 56) rfl rfl (by kernel_rfl) (e_move (v := .bool (decide (((x1.getD ((x10).toNat) z45).typ) < 0))) (by kernel_rfl)) ?_
    by_cases q49 : ((x1.getD ((x10).toNat) z45).typ) < 0
    · replace M := ifp q49 M
      refine lskip (t := 56) (c := true) rfl (by kernel_rfl) rfl (bt q49 (by kernel_rfl)) rfl rfl ?_
      refine lskip (t := 56) (c := true) rfl (by kernel_rfl) rfl (bt q49 (by kernel_rfl)) rfl rfl ?_
      refine lskip (t := 56) (c := true) rfl (by kernel_rfl) rfl (bt q49 (by kernel_rfl)) rfl rfl ?_
      refine lv (d := 60) rfl rfl (by kernel_rfl) (e_pick_t (v := .bool true) (bt q49 (by kernel_rfl)) rfl) ?_
      refine wpList_nil ?_
      refine then_n ?_
      refine cond_t rfl (by kernel_rfl) ?_
      refine wp_seq ?_
      refine wp_region_lit ?_
      refine lv (d := 2) rfl rfl (by kernel_rfl) (e_assign (v := .bool false) rfl) ?_
      refine wpList_nil ?_
      refine then_n ?_
      refine wp_ret ?_
      refine then_r ?_
      refine inb_r ?_
      refine then_r ?_
      refine then_r ?_
      refine inb_r ?_
      refine then_r ?_
      obtain rfl := Option.some.inj M
      exact ret1 rfl rfl  (show _ = .bool false from (by kernel_rfl)) ⟨rfl, S40.chg⟩
    replace M := ifn q49 M
    refine lvg (d := 57) (t := 56) rfl (by kernel_rfl) rfl (bf q49 (by kernel_rfl)) rfl (by kernel_rfl) (e_fieldAddr (b := g34) (off := 0) (o := 2) Try.underlying45 rfl rfl (sz := 1) (by kernel_rfl) (by decide) (by kernel_rfl)) ?_
    refine lvg (d := 58) (t := 56) rfl (by kernel_rfl) rfl (bf q49 (by kernel_rfl)) rfl (by kernel_rfl) (e_load1 (ad := ⟨g34, 0 + 2, none⟩) (v := .int .i64 ((x1.getD ((x10).toNat) z45).typ)) Try.underlying3 rfl (by kernel_rfl) (blk_cell b39 rfl)) ?_
    refine lvg (d := 59) (t := 56) rfl (by kernel_rfl) rfl (bf q49 (by kernel_rfl)) rfl (by kernel_rfl) (e_gtr (k := .i64) (a := (x1.getD ((x10).toNat) z45).typ) (b := 6) (by kernel_rfl) rfl) ?_
    refine lv (d := 60) rfl rfl (by kernel_rfl) (e_pick_f (v := .bool (decide (((x1.getD ((x10).toNat) z45).typ) > 6))) (bf q49 (by kernel_rfl)) (by kernel_rfl)) ?_
    refine wpList_nil ?_
    refine then_n ?_
    by_cases q50 : ((x1.getD ((x10).toNat) z45).typ) > 6
    · replace M := ifp q50 M
      refine cond_t rfl (bt q50 (by kernel_rfl)) ?_
      refine wp_seq ?_
      refine wp_region_lit ?_
      refine lv (d := 2) rfl rfl (by kernel_rfl) (e_assign (v := .bool false) rfl) ?_
      refine wpList_nil ?_
      refine then_n ?_
      refine wp_ret ?_
      refine then_r ?_
      refine inb_r ?_
      refine then_r ?_
      refine then_r ?_
      refine inb_r ?_
      refine then_r ?_
      obtain rfl := Option.some.inj M
      exact ret1 rfl rfl  (show _ = .bool false from (by kernel_rfl)) ⟨rfl, S40.chg⟩
    replace M := ifn q50 M
    refine cond_f rfl (bf q50 (by kernel_rfl)) ?_
    refine wp_skip ?_
    refine then_n ?_
    refine wp_seq_cut (fun a85 w51 => ∃ (k87 : Nat), k87 ≤ k20 ∧ ∃ (f52 : Nat → Value) (x53 : Bool), a85 = mk 104 f52 ∧ f52 0 = .slice A2 x1.length c3 ∧ f52 3 = .bool x53 ∧ f52 4 = .int .i64 x10 ∧ f52 5 = .pointer (some ⟨g34, 0, none⟩) ∧ f52 6 = str ((x1.getD ((x10).toNat) z45).name) ∧ f52 12 = .slice A2 x1.length c3 ∧ f52 13 = .int .i64 (x1.length : Int) ∧ f52 14 = .int .i64 x10 ∧ f52 25 = str ((x1.getD ((x10).toNat) z45).name) ∧ f52 26 = .int .i64 (((x1.getD ((x10).toNat) z45).name).length : Int) ∧ f52 27 = .bool (decide ((((x1.getD ((x10).toNat) z45).name).length : Int) > 100)) ∧ f52 30 = str ((x1.getD ((x10).toNat) z45).name) ∧ f52 31 = .bool (decide ((x1.getD ((x10).toNat) z45).name = ([91, 93] : List UInt8))) ∧ f52 34 = str ((x1.getD ((x10).toNat) z45).name) ∧ f52 35 = .bool (decide ((x1.getD ((x10).toNat) z45).name = ([123, 125] : List UInt8))) ∧ f52 38 = str ((x1.getD ((x10).toNat) z45).name) ∧ f52 39 = .bool (decide ((x1.getD ((x10).toNat) z45).name = ([124] : List UInt8))) ∧ f52 42 = .pointer (some ⟨g34, 0 + 1, none⟩) ∧ f52 43 = .int .i64 ((x1.getD ((x10).toNat) z45).pri) ∧ f52 44 = .bool (decide (((x1.getD ((x10).toNat) z45).pri) < 1)) ∧ f52 47 = .pointer (some ⟨g34, 0 + 1, none⟩) ∧ f52 48 = .int .i64 ((x1.getD ((x10).toNat) z45).pri) ∧ f52 49 = .bool (decide (((x1.getD ((x10).toNat) z45).pri) > 1200)) ∧ f52 52 = .pointer (some ⟨g34, 0 + 2, none⟩) ∧ f52 53 = .int .i64 ((x1.getD ((x10).toNat) z45).typ) ∧ f52 54 = .bool (decide (((x1.getD ((x10).toNat) z45).typ) < 0)) ∧ f52 57 = .pointer (some ⟨g34, 0 + 2, none⟩) ∧ f52 58 = .int .i64 ((x1.getD ((x10).toNat) z45).typ) ∧ f52 59 = .bool (decide (((x1.getD ((x10).toNat) z45).typ) > 6)) ∧ w51.heap[g34]? = some (.cells #[.slice A29 ((x1.getD ((x10).toNat) z45).name).length c30, .int .i64 ((x1.getD ((x10).toNat) z45).pri), .int .i64 ((x1.getD ((x10).toNat) z45).typ)] 45 (0, 0)) ∧ St (anyOf []) H w [(is g34)] H w51 ∧ impl_ValidOps.l1 k87 x1 x10 x53 = some r) ?_ ?_
    · refine wp_seq ?_
      refine wp_region_lit ?_
      refine lv (d := 61) rfl rfl (by kernel_rfl) (e_move (v := str ((x1.getD ((x10).toNat) z45).name)) (by kernel_rfl)) ?_
      refine lv (d := 62) rfl rfl (by kernel_rfl) (e_seql (p := (x1.getD ((x10).toNat) z45).name) (q := ([44] : List UInt8)) (by kernel_rfl) rfl) ?_
      refine wpList_nil ?_
      refine then_n ?_
      by_cases q88 : (x1.getD ((x10).toNat) z45).name = ([44] : List UInt8)
      · replace M := ifp q88 M
        refine cond_t rfl (bt q88 (by kernel_rfl)) ?_
        refine wp_seq ?_
        refine wp_seq ?_
        refine wp_region_lit ?_
        refine lv (d := 63) rfl rfl (by kernel_rfl) (e_move (v := .bool x9) (by exact e12)) ?_
        refine lv (d := 64) rfl rfl (by kernel_rfl) (e_move (v := .bool x9) (by kernel_rfl)) ?_
        by_cases q89 : x9 = true
        · replace M := ifp q89 M
          refine lskip (t := 64) (c := true) rfl (by kernel_rfl) rfl (bvt q89 (by kernel_rfl)) rfl rfl ?_
          refine lskip (t := 64) (c := true) rfl (by kernel_rfl) rfl (bvt q89 (by kernel_rfl)) rfl rfl ?_
          refine lskip (t := 64) (c := true) rfl (by kernel_rfl) rfl (bvt q89 (by kernel_rfl)) rfl rfl ?_
          refine lv (d := 68) rfl rfl (by kernel_rfl) (e_pick_t (v := .bool true) (bvt q89 (by kernel_rfl)) rfl) ?_
          refine lv (d := 69) rfl rfl (by kernel_rfl) (e_move (v := .bool true) (by kernel_rfl)) ?_
          refine lskip (t := 69) (c := true) rfl (by kernel_rfl) rfl (by kernel_rfl) rfl rfl ?_
          refine lskip (t := 69) (c := true) rfl (by kernel_rfl) rfl (by kernel_rfl) rfl rfl ?_
          refine lskip (t := 69) (c := true) rfl (by kernel_rfl) rfl (by kernel_rfl) rfl rfl ?_
          refine lv (d := 73) rfl rfl (by kernel_rfl) (e_pick_t (v := .bool true) (by kernel_rfl) rfl) ?_
          refine wpList_nil ?_
          refine then_n ?_
          refine cond_t rfl (by kernel_rfl) ?_
          refine wp_seq ?_
          refine wp_region_lit ?_
          refine lv (d := 2) rfl rfl (by kernel_rfl) (e_assign (v := .bool false) rfl) ?_
          refine wpList_nil ?_
          refine then_n ?_
          refine wp_ret ?_
          refine then_r ?_
          refine then_r ?_
          refine inb_r ?_
          refine then_r ?_
          refine then_r ?_
          refine inb_r ?_
          refine then_r ?_
          obtain rfl := Option.some.inj M
          exact ret1 rfl rfl  (show _ = .bool false from (by kernel_rfl)) ⟨rfl, S40.chg⟩
        replace M := ifn q89 M
        refine lvg (d := 65) (t := 64) rfl (by kernel_rfl) rfl (bvf q89 (by kernel_rfl)) rfl (by kernel_rfl) (e_fieldAddr (b := g34) (off := 0) (o := 1) Try.underlying45 rfl rfl (sz := 1) (by kernel_rfl) (by decide) (by kernel_rfl)) ?_
        refine lvg (d := 66) (t := 64) rfl (by kernel_rfl) rfl (bvf q89 (by kernel_rfl)) rfl (by kernel_rfl) (e_load1 (ad := ⟨g34, 0 + 1, none⟩) (v := .int .i64 ((x1.getD ((x10).toNat) z45).pri)) Try.underlying3 rfl (by kernel_rfl) (blk_cell b39 rfl)) ?_
        refine lvg (d := 67) (t := 64) rfl (by kernel_rfl) rfl (bvf q89 (by kernel_rfl)) rfl (by kernel_rfl) (e_neq (k := .i64) (a := (x1.getD ((x10).toNat) z45).pri) (b := 1000) (by kernel_rfl) rfl) ?_
        refine lv (d := 68) rfl rfl (by kernel_rfl) (e_pick_f (v := .bool (decide (((x1.getD ((x10).toNat) z45).pri) ≠ 1000))) (bvf q89 (by kernel_rfl)) (by kernel_rfl)) ?_
        refine lv (d := 69) rfl rfl (by kernel_rfl) (e_move (v := .bool (decide (((x1.getD ((x10).toNat) z45).pri) ≠ 1000))) (by kernel_rfl)) ?_
        by_cases q90 : ((x1.getD ((x10).toNat) z45).pri) ≠ 1000
        · replace M := ifp q90 M
          refine lskip (t := 69) (c := true) rfl (by kernel_rfl) rfl (bt q90 (by kernel_rfl)) rfl rfl ?_
          refine lskip (t := 69) (c := true) rfl (by kernel_rfl) rfl (bt q90 (by kernel_rfl)) rfl rfl ?_
          refine lskip (t := 69) (c := true) rfl (by kernel_rfl) rfl (bt q90 (by kernel_rfl)) rfl rfl ?_
          refine lv (d := 73) rfl rfl (by kernel_rfl) (e_pick_t (v := .bool true) (bt q90 (by kernel_rfl)) rfl) ?_
          refine wpList_nil ?_
          refine then_n ?_
          refine cond_t rfl (by kernel_rfl) ?_
          refine wp_seq ?_
          refine wp_region_lit ?_
          refine lv (d := 2) rfl rfl (by kernel_rfl) (e_assign (v := .bool false) rfl) ?_
          refine wpList_nil ?_
          refine then_n ?_
          refine wp_ret ?_
          refine then_r ?_
          refine then_r ?_
          refine inb_r ?_
          refine then_r ?_
          refine then_r ?_
          refine inb_r ?_
          refine then_r ?_
          obtain rfl := Option.some.inj M
          exact ret1 rfl rfl  (show _ = .bool false from (by kernel_rfl)) ⟨rfl, S40.chg⟩
        replace M := ifn q90 M
        refine lvg (d := 70) (t := 69) rfl (by kernel_rfl) rfl (bf q90 (by kernel_rfl)) rfl (by kernel_rfl) (e_fieldAddr (b := g34) (off := 0) (o := 2) Try.underlying45 rfl rfl (sz := 1) (by kernel_rfl) (by decide) (by kernel_rfl)) ?_
        refine lvg (d := 71) (t := 69) rfl (by kernel_rfl) rfl (bf q90 (by kernel_rfl)) rfl (by kernel_rfl) (e_load1 (ad := ⟨g34, 0 + 2, none⟩) (v := .int .i64 ((x1.getD ((x10).toNat) z45).typ)) Try.underlying3 rfl (by kernel_rfl) (blk_cell b39 rfl)) ?_
        refine lvg (d := 72) (t := 69) rfl (by kernel_rfl) rfl (bf q90 (by kernel_rfl)) rfl (by kernel_rfl) (e_neq (k := .i64) (a := (x1.getD ((x10).toNat) z45).typ) (b := 1) (by kernel_rfl) rfl) ?_
        refine lv (d := 73) rfl rfl (by kernel_rfl) (e_pick_f (v := .bool (decide (((x1.getD ((x10).toNat) z45).typ) ≠ 1))) (bf q90 (by kernel_rfl)) (by kernel_rfl)) ?_
        refine wpList_nil ?_
        refine then_n ?_
        by_cases q91 : ((x1.getD ((x10).toNat) z45).typ) ≠ 1
        · replace M := ifp q91 M
          refine cond_t rfl (bt q91 (by kernel_rfl)) ?_
          refine wp_seq ?_
          refine wp_region_lit ?_
          refine lv (d := 2) rfl rfl (by kernel_rfl) (e_assign (v := .bool false) rfl) ?_
          refine wpList_nil ?_
          refine then_n ?_
          refine wp_ret ?_
          refine then_r ?_
          refine then_r ?_
          refine inb_r ?_
          refine then_r ?_
          refine then_r ?_
          refine inb_r ?_
          refine then_r ?_
          obtain rfl := Option.some.inj M
          exact ret1 rfl rfl  (show _ = .bool false from (by kernel_rfl)) ⟨rfl, S40.chg⟩
        replace M := ifn q91 M
        refine cond_f rfl (bf q91 (by kernel_rfl)) ?_
        refine wp_skip ?_
        refine then_n ?_
        refine wp_region_lit ?_
        refine lv (d := 3) rfl rfl (by kernel_rfl) (e_assign (v := .bool true) rfl) ?_
        refine wpList_nil ?_
        refine then_n ?_
        exact ⟨k20, (by omega), _, true, rfl, (by exact e11), (by kernel_rfl), (by kernel_rfl), (by kernel_rfl), (by kernel_rfl), (by exact e13), (by exact e14), (by exact e15), (by kernel_rfl), (by kernel_rfl), (by kernel_rfl), (by kernel_rfl), (by kernel_rfl), (by kernel_rfl), (by kernel_rfl), (by kernel_rfl), (by kernel_rfl), (by kernel_rfl), (by kernel_rfl), (by kernel_rfl), (by kernel_rfl), (by kernel_rfl), (by kernel_rfl), (by kernel_rfl), (by kernel_rfl), (by kernel_rfl), (by kernel_rfl), (by kernel_rfl), (by kernel_rfl), b39, S40, M⟩
      replace M := ifn q88 M
      refine cond_f rfl (bf q88 (by kernel_rfl)) ?_
      refine wp_skip ?_
      refine then_n ?_
      exact ⟨k20, (by omega), _, x9, rfl, (by exact e11), (by exact e12), (by kernel_rfl), (by kernel_rfl), (by kernel_rfl), (by exact e13), (by exact e14), (by exact e15), (by kernel_rfl), (by kernel_rfl), (by kernel_rfl), (by kernel_rfl), (by kernel_rfl), (by kernel_rfl), (by kernel_rfl), (by kernel_rfl), (by kernel_rfl), (by kernel_rfl), (by kernel_rfl), (by kernel_rfl), (by kernel_rfl), (by kernel_rfl), (by kernel_rfl), (by kernel_rfl), (by kernel_rfl), (by kernel_rfl), (by kernel_rfl), (by kernel_rfl), (by kernel_rfl), b39, S40, M⟩
    clear M
    rintro a85 w51 ⟨k87, z133, f52, x53, rfl, e54, e55, e56, e57, e58, e59, e60, e61, e62, e63, e64, e65, e66, e67, e68, e69, e70, e71, e72, e73, e74, e75, e76, e77, e78, e79, e80, e81, e82, b39, S83, M⟩
    rcases k87 with _ | k86
    · rw [impl_ValidOps.l1] at M
      cases M
    rw [impl_ValidOps.l1] at M
    refine wp_seq ?_
    refine wp_region_lit ?_
    refine lv (d := 74) rfl rfl (by kernel_rfl) (e_move (v := .int .i64 x10) (by exact e56)) ?_
    refine lv (d := 75) rfl rfl (by kernel_rfl) (e_gtr (k := .i64) (a := x10) (b := 0) (by kernel_rfl) rfl) ?_
    refine wpList_nil ?_
    refine then_n ?_
    by_cases q92 : x10 > 0
    · replace M := ifp q92 M
      refine cond_t rfl (bt q92 (by kernel_rfl)) ?_
      refine wp_seq ?_
      refine wp_region_lit ?_
      refine lv (d := 76) rfl rfl (by kernel_rfl) (e_move (v := .slice A2 x1.length c3) (by exact e54)) ?_
      refine lv (d := 77) rfl rfl (by kernel_rfl) (e_move (v := .int .i64 x10) (by exact e56)) ?_
      refine lv (d := 78) rfl rfl (by kernel_rfl) (e_sub (k := .i64) (a := x10) (b := 1) (by kernel_rfl) rfl) ?_
      obtain ⟨q93, M⟩ := chk M
      obtain ⟨q94, M⟩ := chk M
      obtain ⟨b95, o96, e97⟩ := Rd.addr h4 (show ((IntKind.i64.wrap (x10 - 1))).toNat < x1.length by omega)
      obtain ⟨y98, r99, k100⟩ := Rd.at h4 e97 (getD_some z45 (show ((IntKind.i64.wrap (x10 - 1))).toNat < x1.length by omega))
      obtain ⟨A101, c102, rfl, l103, h104⟩ := st45_open r99
      refine lv (d := 79) rfl rfl (by kernel_rfl) (e_indexAddr (b := b95) (off := o96) (n := x1.length) (c := c3) (sz := 3) (i := (IntKind.i64.wrap (x10 - 1))) (k := .i64) Try.underlying25 e97 (by kernel_rfl) (by kernel_rfl) (by kernel_rfl) q93 q94) ?_
      refine lv (d := 80) rfl rfl (by kernel_rfl) (e_loadS (b := b95) (off := o96 + ((IntKind.i64.wrap (x10 - 1)) : Int).toNat * 3) (cs := [.slice A101 ((x1.getD (((IntKind.i64.wrap (x10 - 1))).toNat) z45).name).length c102, .int .i64 ((x1.getD (((IntKind.i64.wrap (x10 - 1))).toNat) z45).pri), .int .i64 ((x1.getD (((IntKind.i64.wrap (x10 - 1))).toNat) z45).typ)]) Try.underlying45 rfl (by kernel_rfl) (by kernel_rfl) (fun j_ u_ e_ => (hpx (S83.inv.cell (k100 j_ u_ e_))))) ?_
      refine lve (d := 7) rfl rfl (by kernel_rfl) (new_blk (v := fun g_ => .pointer (some ⟨g_, 0, none⟩)) (cs := #[.slice none 0 0, .int .i64 0, .int .i64 0]) (t := 45) S83 (by kernel_rfl)) ?_
      rintro _ w105 ⟨g106, rfl, b107, S108, K109⟩
      replace b39 := K109.blk 0 rfl b39
      refine lse rfl rfl (by kernel_rfl) (e_store (g := g106) (o := 0) (v := .agg #[.slice A101 ((x1.getD (((IntKind.i64.wrap (x10 - 1))).toNat) z45).name).length c102, .int .i64 ((x1.getD (((IntKind.i64.wrap (x10 - 1))).toNat) z45).pri), .int .i64 ((x1.getD (((IntKind.i64.wrap (x10 - 1))).toNat) z45).typ)]) (cur' := #[.slice A101 ((x1.getD (((IntKind.i64.wrap (x10 - 1))).toNat) z45).name).length c102, .int .i64 ((x1.getD (((IntKind.i64.wrap (x10 - 1))).toNat) z45).pri), .int .i64 ((x1.getD (((IntKind.i64.wrap (x10 - 1))).toNat) z45).typ)]) (vs := [.slice A101 ((x1.getD (((IntKind.i64.wrap (x10 - 1))).toNat) z45).name).length c102, .int .i64 ((x1.getD (((IntKind.i64.wrap (x10 - 1))).toNat) z45).pri), .int .i64 ((x1.getD (((IntKind.i64.wrap (x10 - 1))).toNat) z45).typ)]) S108 (by kernel_rfl) (by kernel_rfl) rfl (by kernel_rfl) b107 (Nat.le_of_ble_eq_true rfl) (List.forall_mem_cons.2 ⟨rfl, (List.forall_mem_cons.2 ⟨rfl, (List.forall_mem_cons.2 ⟨rfl, (fun _ h_ => by cases h_)⟩)⟩)⟩) rfl) ?_
      rintro w110 ⟨b111, S112, K113⟩
      replace b39 := K113.blk 0 rfl b39
      clear b107
      refine wpList_nil ?_
      refine then_n ?_
      refine wp_seq ?_
      refine wp_region_lit ?_
      refine lv (d := 81) rfl rfl (by kernel_rfl) (e_fieldAddr (b := g106) (off := 0) (o := 0) Try.underlying45 rfl rfl (sz := 1) (by kernel_rfl) (by decide) (by kernel_rfl)) ?_
      refine lv (d := 82) rfl rfl (by kernel_rfl) (e_load1 (ad := ⟨g106, 0 + 0, none⟩) (v := .slice A101 ((x1.getD (((IntKind.i64.wrap (x10 - 1))).toNat) z45).name).length c102) Try.underlying32 rfl (by kernel_rfl) (blk_cell b111 rfl)) ?_
      refine lv (d := 83) rfl rfl (by kernel_rfl) (e_conv_bs (A := A101) (n := ((x1.getD (((IntKind.i64.wrap (x10 - 1))).toNat) z45).name).length) (c := c102) (xs := (x1.getD (((IntKind.i64.wrap (x10 - 1))).toNat) z45).name) Try.underlying32 Try.underlying5 Try.underlying9 (by kernel_rfl) rfl (Rd.bytesE S112.inv h104)) ?_
      refine lv (d := 8) rfl rfl (by kernel_rfl) (e_assign (v := str ((x1.getD (((IntKind.i64.wrap (x10 - 1))).toNat) z45).name)) (by kernel_rfl)) ?_
      refine wpList_nil ?_
      refine then_n ?_
      refine wp_seq ?_
      refine wp_region_lit ?_
      refine lv (d := 84) rfl rfl (by kernel_rfl) (e_move (v := str ((x1.getD (((IntKind.i64.wrap (x10 - 1))).toNat) z45).name)) (by kernel_rfl)) ?_
      refine lv (d := 85) rfl rfl (by kernel_rfl) (e_move (v := str ((x1.getD ((x10).toNat) z45).name)) (by exact e58)) ?_
      refine lv (d := 86) rfl rfl (by kernel_rfl) (e_sgtr (p := (x1.getD (((IntKind.i64.wrap (x10 - 1))).toNat) z45).name) (q := (x1.getD ((x10).toNat) z45).name) (by kernel_rfl) (by kernel_rfl)) ?_
      refine lv (d := 87) rfl rfl (by kernel_rfl) (e_move (v := .bool (!(Op.bytesLess ((x1.getD (((IntKind.i64.wrap (x10 - 1))).toNat) z45).name) ((x1.getD ((x10).toNat) z45).name) || ((x1.getD (((IntKind.i64.wrap (x10 - 1))).toNat) z45).name) == ((x1.getD ((x10).toNat) z45).name)))) (by kernel_rfl)) ?_
      by_cases q114 : (!(Op.bytesLess ((x1.getD (((IntKind.i64.wrap (x10 - 1))).toNat) z45).name) ((x1.getD ((x10).toNat) z45).name) || ((x1.getD (((IntKind.i64.wrap (x10 - 1))).toNat) z45).name) == ((x1.getD ((x10).toNat) z45).name))) = true
      · replace M := ifp q114 M
        refine lskip (t := 87) (c := true) rfl (by kernel_rfl) rfl (bvt q114 (by kernel_rfl)) rfl rfl ?_
        refine lskip (t := 87) (c := true) rfl (by kernel_rfl) rfl (bvt q114 (by kernel_rfl)) rfl rfl ?_
        refine lskip (t := 87) (c := true) rfl (by kernel_rfl) rfl (bvt q114 (by kernel_rfl)) rfl rfl ?_
        refine lskip (t := 87) (c := true) rfl (by kernel_rfl) rfl (bvt q114 (by kernel_rfl)) rfl rfl ?_
        refine lskipu (t := 91) rfl (by kernel_rfl) rfl (by kernel_rfl) rfl ?_
        refine lskipu (t := 91) rfl (by kernel_rfl) rfl (by kernel_rfl) rfl ?_
        refine lskipu (t := 91) rfl (by kernel_rfl) rfl (by kernel_rfl) rfl ?_
        refine lskipu (t := 94) rfl (by kernel_rfl) rfl (by kernel_rfl) rfl ?_
        refine lskipu (t := 94) rfl (by kernel_rfl) rfl (by kernel_rfl) rfl ?_
        refine lskipu (t := 94) rfl (by kernel_rfl) rfl (by kernel_rfl) rfl ?_
        refine lskipu (t := 91) rfl (by kernel_rfl) rfl (by kernel_rfl) rfl ?_
        refine lskipu (t := 91) rfl (by kernel_rfl) rfl (by kernel_rfl) rfl ?_
        refine lskip (t := 87) (c := true) rfl (by kernel_rfl) rfl (bvt q114 (by kernel_rfl)) rfl rfl ?_
        refine lv (d := 101) rfl rfl (by kernel_rfl) (e_pick_t (v := .bool true) (bvt q114 (by kernel_rfl)) rfl) ?_
        refine wpList_nil ?_
        refine then_n ?_
        refine cond_t rfl (by kernel_rfl) ?_
        refine wp_seq ?_
        refine wp_region_lit ?_
        refine lv (d := 2) rfl rfl (by kernel_rfl) (e_assign (v := .bool false) rfl) ?_
        refine wpList_nil ?_
        refine then_n ?_
        refine wp_ret ?_
        refine inb_r ?_
        refine then_r ?_
        refine then_r ?_
        refine inb_r ?_
        refine then_r ?_
        obtain rfl := Option.some.inj M
        exact ret1 rfl rfl  (show _ = .bool false from (by kernel_rfl)) ⟨rfl, S112.chg⟩
      replace M := ifn q114 M
      refine lvg (d := 88) (t := 87) rfl (by kernel_rfl) rfl (bvf q114 (by kernel_rfl)) rfl (by kernel_rfl) (e_move (v := str ((x1.getD (((IntKind.i64.wrap (x10 - 1))).toNat) z45).name)) (by kernel_rfl)) ?_
      refine lvg (d := 89) (t := 87) rfl (by kernel_rfl) rfl (bvf q114 (by kernel_rfl)) rfl (by kernel_rfl) (e_move (v := str ((x1.getD ((x10).toNat) z45).name)) (by exact e58)) ?_
      refine lvg (d := 90) (t := 87) rfl (by kernel_rfl) rfl (bvf q114 (by kernel_rfl)) rfl (by kernel_rfl) (e_seql (p := (x1.getD (((IntKind.i64.wrap (x10 - 1))).toNat) z45).name) (q := (x1.getD ((x10).toNat) z45).name) (by kernel_rfl) (by kernel_rfl)) ?_
      refine lvg (d := 91) (t := 87) rfl (by kernel_rfl) rfl (bvf q114 (by kernel_rfl)) rfl (by kernel_rfl) (e_move (v := .bool (decide ((x1.getD (((IntKind.i64.wrap (x10 - 1))).toNat) z45).name = (x1.getD ((x10).toNat) z45).name))) (by kernel_rfl)) ?_
      by_cases q115 : (x1.getD (((IntKind.i64.wrap (x10 - 1))).toNat) z45).name = (x1.getD ((x10).toNat) z45).name
      · replace M := ifp q115 M
        refine lvg (d := 92) (t := 91) rfl (by kernel_rfl) rfl (bt q115 (by kernel_rfl)) rfl (by kernel_rfl) (e_loadS (b := g106) (off := 0) (cs := [.slice A101 ((x1.getD (((IntKind.i64.wrap (x10 - 1))).toNat) z45).name).length c102, .int .i64 ((x1.getD (((IntKind.i64.wrap (x10 - 1))).toNat) z45).pri), .int .i64 ((x1.getD (((IntKind.i64.wrap (x10 - 1))).toNat) z45).typ)]) Try.underlying45 rfl (by kernel_rfl) (by kernel_rfl) (blk_cells b111 rfl)) ?_
        obtain ⟨t116, u117, M⟩ := bnd M
        refine lcallg (d := 93) (t := 91) rfl (by kernel_rfl) rfl (bt q115 (by kernel_rfl)) rfl (by kernel_rfl) (e_call (l := [.tmp 92]) (vs := [.agg #[.slice A101 ((x1.getD (((IntKind.i64.wrap (x10 - 1))).toNat) z45).name).length c102, .int .i64 ((x1.getD (((IntKind.i64.wrap (x10 - 1))).toNat) z45).pri), .int .i64 ((x1.getD (((IntKind.i64.wrap (x10 - 1))).toNat) z45).typ)]]) Try.func27 (by kernel_rfl) rfl (by kernel_rfl) rfl) (impl_Op_prefix.calls w110 H (x1.getD (((IntKind.i64.wrap (x10 - 1))).toNat) z45) A101 c102 h104 l103 S112.own0 t116 u117) ?_
        rintro _ w118 ⟨rfl, C119⟩
        refine ⟨_, rfl, ?_⟩
        obtain ⟨S120, K121⟩ := S112.still C119
        replace b111 := K121.blk 0 rfl b111
        replace b39 := K121.blk 1 rfl b39
        refine lvg (d := 94) (t := 91) rfl (by kernel_rfl) rfl (bt q115 (by kernel_rfl)) rfl (by kernel_rfl) (e_move (v := .bool t116) (by kernel_rfl)) ?_
        by_cases q122 : t116 = true
        · replace M := ifp q122 M
          refine lvg (d := 95) (t := 94) rfl (by kernel_rfl) rfl (bvt q122 (by kernel_rfl)) rfl (by kernel_rfl) (e_loadS (b := g34) (off := 0) (cs := [.slice A29 ((x1.getD ((x10).toNat) z45).name).length c30, .int .i64 ((x1.getD ((x10).toNat) z45).pri), .int .i64 ((x1.getD ((x10).toNat) z45).typ)]) Try.underlying45 rfl (by kernel_rfl) (by exact e57) (blk_cells b39 rfl)) ?_
          obtain ⟨t123, u124, M⟩ := bnd M
          refine lcallg (d := 96) (t := 94) rfl (by kernel_rfl) rfl (bvt q122 (by kernel_rfl)) rfl (by kernel_rfl) (e_call (l := [.tmp 95]) (vs := [.agg #[.slice A29 ((x1.getD ((x10).toNat) z45).name).length c30, .int .i64 ((x1.getD ((x10).toNat) z45).pri), .int .i64 ((x1.getD ((x10).toNat) z45).typ)]]) Try.func27 (by kernel_rfl) rfl (by kernel_rfl) rfl) (impl_Op_prefix.calls w118 H (x1.getD ((x10).toNat) z45) A29 c30 h32 l31 S120.own0 t123 u124) ?_
          rintro _ w125 ⟨rfl, C126⟩
          refine ⟨_, rfl, ?_⟩
          obtain ⟨S127, K128⟩ := S120.still C126
          replace b111 := K128.blk 0 rfl b111
          replace b39 := K128.blk 1 rfl b39
          refine lvg (d := 97) (t := 94) rfl (by kernel_rfl) rfl (bvt q122 (by kernel_rfl)) rfl (by kernel_rfl) (e_notv (c := t123) (by kernel_rfl)) ?_
          refine lvg (d := 98) (t := 91) rfl (by kernel_rfl) rfl (bt q115 (by kernel_rfl)) rfl (by kernel_rfl) (e_pick_t (v := .bool (decide (¬ (t123 = true)))) (bvt q122 (by kernel_rfl)) (by kernel_rfl)) ?_
          refine lvg (d := 99) (t := 91) rfl (by kernel_rfl) rfl (bt q115 (by kernel_rfl)) rfl (by kernel_rfl) (e_notd (c := ¬ (t123 = true)) (by kernel_rfl)) ?_
          refine lvg (d := 100) (t := 87) rfl (by kernel_rfl) rfl (bvf q114 (by kernel_rfl)) rfl (by kernel_rfl) (e_pick_t (v := .bool (decide (¬ (¬ (t123 = true))))) (bt q115 (by kernel_rfl)) (by kernel_rfl)) ?_
          refine lv (d := 101) rfl rfl (by kernel_rfl) (e_pick_f (v := .bool (decide (¬ (¬ (t123 = true))))) (bvf q114 (by kernel_rfl)) (by kernel_rfl)) ?_
          refine wpList_nil ?_
          refine then_n ?_
          by_cases q129 : ¬ (¬ (t123 = true))
          · replace M := ifp q129 M
            refine cond_t rfl (bt q129 (by kernel_rfl)) ?_
            refine wp_seq ?_
            refine wp_region_lit ?_
            refine lv (d := 2) rfl rfl (by kernel_rfl) (e_assign (v := .bool false) rfl) ?_
            refine wpList_nil ?_
            refine then_n ?_
            refine wp_ret ?_
            refine inb_r ?_
            refine then_r ?_
            refine then_r ?_
            refine inb_r ?_
            refine then_r ?_
            obtain rfl := Option.some.inj M
            exact ret1 rfl rfl  (show _ = .bool false from (by kernel_rfl)) ⟨rfl, S127.chg⟩
          replace M := ifn q129 M
          refine cond_f rfl (bf q129 (by kernel_rfl)) ?_
          refine wp_skip ?_
          refine inb_n ?_
          refine then_n ?_
          refine wp_region_lit ?_
          refine lv (d := 102) rfl rfl (by kernel_rfl) (e_add (k := .i64) (a := x10) (b := 1) (by exact e61) rfl) ?_
          refine lv (d := 14) rfl rfl (by kernel_rfl) (e_move (v := .int .i64 (IntKind.i64.wrap (x10 + 1))) (by kernel_rfl)) ?_
          refine wpList_nil ?_
          refine then_n ?_
          have S130 := St.first (Fa := []) (Fr := [(is g106), (is g34)]) S127
          exact ⟨k86, (by omega), _, x53, (IntKind.i64.wrap (x10 + 1)), rfl, (by exact e54), (by exact e55), (by exact e59), (by exact e60), (by kernel_rfl), S130, M⟩
        replace M := ifn q122 M
        refine lskip (t := 94) (c := false) rfl (by kernel_rfl) rfl (bvf q122 (by kernel_rfl)) rfl rfl ?_
        refine lskip (t := 94) (c := false) rfl (by kernel_rfl) rfl (bvf q122 (by kernel_rfl)) rfl rfl ?_
        refine lskip (t := 94) (c := false) rfl (by kernel_rfl) rfl (bvf q122 (by kernel_rfl)) rfl rfl ?_
        refine lvg (d := 98) (t := 91) rfl (by kernel_rfl) rfl (bt q115 (by kernel_rfl)) rfl (by kernel_rfl) (e_pick_f (v := .bool false) (bvf q122 (by kernel_rfl)) rfl) ?_
        refine lvg (d := 99) (t := 91) rfl (by kernel_rfl) rfl (bt q115 (by kernel_rfl)) rfl (by kernel_rfl) (e_not (c := false) (by kernel_rfl)) ?_
        refine lvg (d := 100) (t := 87) rfl (by kernel_rfl) rfl (bvf q114 (by kernel_rfl)) rfl (by kernel_rfl) (e_pick_t (v := .bool true) (bt q115 (by kernel_rfl)) (by kernel_rfl)) ?_
        refine lv (d := 101) rfl rfl (by kernel_rfl) (e_pick_f (v := .bool true) (bvf q114 (by kernel_rfl)) (by kernel_rfl)) ?_
        refine wpList_nil ?_
        refine then_n ?_
        refine cond_t rfl (by kernel_rfl) ?_
        refine wp_seq ?_
        refine wp_region_lit ?_
        refine lv (d := 2) rfl rfl (by kernel_rfl) (e_assign (v := .bool false) rfl) ?_
        refine wpList_nil ?_
        refine then_n ?_
        refine wp_ret ?_
        refine inb_r ?_
        refine then_r ?_
        refine then_r ?_
        refine inb_r ?_
        refine then_r ?_
        obtain rfl := Option.some.inj M
        exact ret1 rfl rfl  (show _ = .bool false from (by kernel_rfl)) ⟨rfl, S120.chg⟩
      replace M := ifn q115 M
      refine lskip (t := 91) (c := false) rfl (by kernel_rfl) rfl (bf q115 (by kernel_rfl)) rfl rfl ?_
      refine lskip (t := 91) (c := false) rfl (by kernel_rfl) rfl (bf q115 (by kernel_rfl)) rfl rfl ?_
      refine lskip (t := 91) (c := false) rfl (by kernel_rfl) rfl (bf q115 (by kernel_rfl)) rfl rfl ?_
      refine lskipu (t := 94) rfl (by kernel_rfl) rfl (by kernel_rfl) rfl ?_
      refine lskipu (t := 94) rfl (by kernel_rfl) rfl (by kernel_rfl) rfl ?_
      refine lskipu (t := 94) rfl (by kernel_rfl) rfl (by kernel_rfl) rfl ?_
      refine lskip (t := 91) (c := false) rfl (by kernel_rfl) rfl (bf q115 (by kernel_rfl)) rfl rfl ?_
      refine lskip (t := 91) (c := false) rfl (by kernel_rfl) rfl (bf q115 (by kernel_rfl)) rfl rfl ?_
      refine lvg (d := 100) (t := 87) rfl (by kernel_rfl) rfl (bvf q114 (by kernel_rfl)) rfl (by kernel_rfl) (e_pick_f (v := .bool false) (bf q115 (by kernel_rfl)) rfl) ?_
      refine lv (d := 101) rfl rfl (by kernel_rfl) (e_pick_f (v := .bool false) (bvf q114 (by kernel_rfl)) (by kernel_rfl)) ?_
      refine wpList_nil ?_
      refine then_n ?_
      refine cond_f rfl (by kernel_rfl) ?_
      refine wp_skip ?_
      refine inb_n ?_
      refine then_n ?_
      refine wp_region_lit ?_
      refine lv (d := 102) rfl rfl (by kernel_rfl) (e_add (k := .i64) (a := x10) (b := 1) (by exact e61) rfl) ?_
      refine lv (d := 14) rfl rfl (by kernel_rfl) (e_move (v := .int .i64 (IntKind.i64.wrap (x10 + 1))) (by kernel_rfl)) ?_
      refine wpList_nil ?_
      refine then_n ?_
      have S131 := St.first (Fa := []) (Fr := [(is g106), (is g34)]) S112
      exact ⟨k86, (by omega), _, x53, (IntKind.i64.wrap (x10 + 1)), rfl, (by exact e54), (by exact e55), (by exact e59), (by exact e60), (by kernel_rfl), S131, M⟩
    replace M := ifn q92 M
    refine cond_f rfl (bf q92 (by kernel_rfl)) ?_
    refine wp_skip ?_
    refine inb_n ?_
    refine then_n ?_
    refine wp_region_lit ?_
    refine lv (d := 102) rfl rfl (by kernel_rfl) (e_add (k := .i64) (a := x10) (b := 1) (by exact e61) rfl) ?_
    refine lv (d := 14) rfl rfl (by kernel_rfl) (e_move (v := .int .i64 (IntKind.i64.wrap (x10 + 1))) (by kernel_rfl)) ?_
    refine wpList_nil ?_
    refine then_n ?_
    have S132 := St.first (Fa := []) (Fr := [(is g34)]) S83
    exact ⟨k86, (by omega), _, x53, (IntKind.i64.wrap (x10 + 1)), rfl, (by exact e54), (by exact e55), (by exact e59), (by exact e60), (by kernel_rfl), S132, M⟩
  replace M := ifn q21 M
  refine cond_f rfl (bf q21 (by kernel_rfl)) ?_
  refine wp_exit ?_
  refine then_e ?_
  refine then_e ?_
  refine inb_hit ?_
  refine then_n ?_
  refine wp_seq ?_
  refine wp_region_lit ?_
  refine lv (d := 103) rfl rfl (by kernel_rfl) (e_move (v := .bool x9) (by exact e12)) ?_
  refine lv (d := 2) rfl rfl (by kernel_rfl) (e_assign (v := .bool x9) (by kernel_rfl)) ?_
  refine wpList_nil ?_
  refine then_n ?_
  refine wp_ret ?_
  obtain rfl := Option.some.inj M
  exact ret1 rfl rfl  (show _ = .bool x9 from (by kernel_rfl)) ⟨rfl, S16.chg⟩

/-! laws_eqByteS -/
def laws_eqByteS.l0 : Nat → (List UInt8) → (List UInt8) → Int → Option Bool
  | 0, _, _, _ => none
  | k22 + 1, x1, x6, x14 => (if x14 < (x1.length : Int) then (if 0 ≤ x14 then (if x14 < (x6.length : Int) then (if ((x1.getD ((x14).toNat) (0 : UInt8)).toNat : Int) ≠ ((x6.getD ((x14).toNat) (0 : UInt8)).toNat : Int) then some false else (laws_eqByteS.l0 k22 x1 x6 (IntKind.i64.wrap (x14 + 1)))) else none) else none) else some true)
def laws_eqByteS.f (k : Nat) (x1 : List UInt8) (x6 : List UInt8) : Option Bool := (if (x1.length : Int) ≠ (x6.length : Int) then some false else (laws_eqByteS.l0 k x1 x6 0))
theorem laws_eqByteS.calls (k : Nat) (w : World) (H : Hp) (x1 : List UInt8) (A2 : Option Addr) (c3 : Nat) (x6 : List UInt8) (A7 : Option Addr) (c8 : Nat) (h4 : Rd tByte H A2 x1) (l5 : x1.length ≤ c3) (h9 : Rd tByte H A7 x6) (l10 : x6.length ≤ c8) (S : Own [] H w) (r : Bool) (M : laws_eqByteS.f k x1 x6 = some r) :
    Calls Try.prog 19 #[.slice A2 x1.length c3, .slice A7 x6.length c8] w (fun e e_w => e = .returned (.bool r) ∧ Chg no w e_w) := by
  rw [laws_eqByteS.f] at M
  refine enter (l := [.slice A2 x1.length c3, .slice A7 x6.length c8]) 26 Try.func19 rfl rfl rfl ?_
  have S0_ := S.st
  refine wp_seq ?_
  refine wp_region_lit ?_
  refine lv (d := 4) rfl rfl (by kernel_rfl) (e_assign (v := .bool false) rfl) ?_
  refine wpList_nil ?_
  refine then_n ?_
  refine wp_seq ?_
  refine wp_seq ?_
  refine wp_region_lit ?_
  refine lv (d := 6) rfl rfl (by kernel_rfl) (e_move (v := .slice A2 x1.length c3) (by kernel_rfl)) ?_
  refine lv (d := 7) rfl rfl (by kernel_rfl) (e_len (A := A2) (n := x1.length) (c := c3) Try.underlying32 (by kernel_rfl)) ?_
  refine lv (d := 8) rfl rfl (by kernel_rfl) (e_move (v := .slice A7 x6.length c8) (by kernel_rfl)) ?_
  refine lv (d := 9) rfl rfl (by kernel_rfl) (e_len (A := A7) (n := x6.length) (c := c8) Try.underlying32 (by kernel_rfl)) ?_
  refine lv (d := 10) rfl rfl (by kernel_rfl) (e_neq (k := .i64) (a := (x1.length : Int)) (b := (x6.length : Int)) (by kernel_rfl) (by kernel_rfl)) ?_
  refine wpList_nil ?_
  refine then_n ?_
  by_cases q11 : (x1.length : Int) ≠ (x6.length : Int)
  · replace M := ifp q11 M
    refine cond_t rfl (bt q11 (by kernel_rfl)) ?_
    refine wp_seq ?_
    refine wp_region_lit ?_
    refine lv (d := 4) rfl rfl (by kernel_rfl) (e_assign (v := .bool false) rfl) ?_
    refine wpList_nil ?_
    refine then_n ?_
    refine wp_ret ?_
    refine then_r ?_
    obtain rfl := Option.some.inj M
    exact ret1 rfl rfl  (show _ = .bool false from (by kernel_rfl)) ⟨rfl, S0_.chg⟩
  replace M := ifn q11 M
  refine cond_f rfl (bf q11 (by kernel_rfl)) ?_
  refine wp_skip ?_
  refine then_n ?_
  refine wp_seq ?_
  refine wp_seq ?_
  refine wp_region_lit ?_
  refine lv (d := 5) rfl rfl (by kernel_rfl) (e_assign (v := .int .i64 0) rfl) ?_
  refine wpList_nil ?_
  refine then_n ?_
  refine wp_block ?_
  refine wp_loop_g (fun k20 a21 w12 => ∃ (f13 : Nat → Value) (x14 : Int), a21 = mk 26 f13 ∧ f13 0 = .slice A2 x1.length c3 ∧ f13 1 = .slice A7 x6.length c8 ∧ f13 5 = .int .i64 x14 ∧ St (anyOf []) H w [] H w12 ∧ laws_eqByteS.l0 k20 x1 x6 x14 = some r) k ⟨_, 0, rfl, (by kernel_rfl), (by kernel_rfl), (by kernel_rfl), S0_, M⟩ ?_
  clear M
  rintro k20 a21 w12 ⟨f13, x14, rfl, e15, e16, e17, S18, M⟩
  rcases k20 with _ | k22
  · rw [laws_eqByteS.l0] at M
    cases M
  rw [laws_eqByteS.l0] at M
  refine wp_seq ?_
  refine wp_seq ?_
  refine wp_region_lit ?_
  refine lv (d := 11) rfl rfl (by kernel_rfl) (e_move (v := .int .i64 x14) (by exact e17)) ?_
  refine lv (d := 12) rfl rfl (by kernel_rfl) (e_move (v := .slice A2 x1.length c3) (by exact e15)) ?_
  refine lv (d := 13) rfl rfl (by kernel_rfl) (e_len (A := A2) (n := x1.length) (c := c3) Try.underlying32 (by kernel_rfl)) ?_
  refine lv (d := 14) rfl rfl (by kernel_rfl) (e_lss (k := .i64) (a := x14) (b := (x1.length : Int)) (by kernel_rfl) (by kernel_rfl)) ?_
  refine wpList_nil ?_
  refine then_n ?_
  by_cases q23 : x14 < (x1.length : Int)
  · replace M := ifp q23 M
    refine cond_t rfl (bt q23 (by kernel_rfl)) ?_
    refine wp_skip ?_
    refine then_n ?_
    refine wp_seq ?_
    refine wp_block ?_
    refine wp_seq ?_
    refine region_still (by kernel_rfl) (by kernel_rfl) S18 ?_
    intro w24 S25 K26
    refine sv (d := 17) rfl rfl (by kernel_rfl) (e_move (v := .slice A2 x1.length c3) (by exact e15)) ?_
    refine sv (d := 18) rfl rfl (by kernel_rfl) (e_move (v := .int .i64 x14) (by exact e17)) ?_
    obtain ⟨q27, M⟩ := chk M
    obtain ⟨b28, o29, e30⟩ := Rd.addr h4 (show (x14).toNat < x1.length by omega)
    obtain ⟨y31, r32, k33⟩ := Rd.at h4 e30 (getD_some (0 : UInt8) (show (x14).toNat < x1.length by omega))
    obtain rfl := r32
    refine sv (d := 19) rfl rfl (by kernel_rfl) (e_indexAddr (b := b28) (off := o29) (n := x1.length) (c := c3) (sz := 1) (i := x14) (k := .i64) Try.underlying32 e30 (by kernel_rfl) (by kernel_rfl) (by kernel_rfl) q27 q23) ?_
    refine sv (d := 20) rfl rfl (by kernel_rfl) (e_load1 (ad := ⟨b28, o29 + (x14 : Int).toNat * 1, none⟩) (v := .int .u8 ((x1.getD ((x14).toNat) (0 : UInt8)).toNat : Int)) Try.underlying5 rfl (by kernel_rfl) (hpx (S25.inv.cell (k33 0 _ rfl)))) ?_
    refine sv (d := 21) rfl rfl (by kernel_rfl) (e_move (v := .slice A7 x6.length c8) (by exact e16)) ?_
    refine sv (d := 22) rfl rfl (by kernel_rfl) (e_move (v := .int .i64 x14) (by exact e17)) ?_
    obtain ⟨q34, M⟩ := chk M
    obtain ⟨b35, o36, e37⟩ := Rd.addr h9 (show (x14).toNat < x6.length by omega)
    obtain ⟨y38, r39, k40⟩ := Rd.at h9 e37 (getD_some (0 : UInt8) (show (x14).toNat < x6.length by omega))
    obtain rfl := r39
    refine sv (d := 23) rfl rfl (by kernel_rfl) (e_indexAddr (b := b35) (off := o36) (n := x6.length) (c := c8) (sz := 1) (i := x14) (k := .i64) Try.underlying32 e37 (by kernel_rfl) (by kernel_rfl) (by kernel_rfl) q27 q34) ?_
    refine sv (d := 24) rfl rfl (by kernel_rfl) (e_load1 (ad := ⟨b35, o36 + (x14 : Int).toNat * 1, none⟩) (v := .int .u8 ((x6.getD ((x14).toNat) (0 : UInt8)).toNat : Int)) Try.underlying5 rfl (by kernel_rfl) (hpx (S25.inv.cell (k40 0 _ rfl)))) ?_
    refine sv (d := 25) rfl rfl (by kernel_rfl) (e_neq (k := .u8) (a := ((x1.getD ((x14).toNat) (0 : UInt8)).toNat : Int)) (b := ((x6.getD ((x14).toNat) (0 : UInt8)).toNat : Int)) (by kernel_rfl) (by kernel_rfl)) ?_
    refine wpStill_nil ?_
    refine then_n ?_
    by_cases q41 : ((x1.getD ((x14).toNat) (0 : UInt8)).toNat : Int) ≠ ((x6.getD ((x14).toNat) (0 : UInt8)).toNat : Int)
    · replace M := ifp q41 M
      refine cond_t rfl (bt q41 (by kernel_rfl)) ?_
      refine wp_seq ?_
      refine wp_region_lit ?_
      refine lv (d := 4) rfl rfl (by kernel_rfl) (e_assign (v := .bool false) rfl) ?_
      refine wpList_nil ?_
      refine then_n ?_
      refine wp_ret ?_
      refine inb_r ?_
      refine then_r ?_
      refine then_r ?_
      refine inb_r ?_
      refine then_r ?_
      obtain rfl := Option.some.inj M
      exact ret1 rfl rfl  (show _ = .bool false from (by kernel_rfl)) ⟨rfl, S25.chg⟩
    replace M := ifn q41 M
    refine cond_f rfl (bf q41 (by kernel_rfl)) ?_
    refine wp_skip ?_
    refine inb_n ?_
    refine then_n ?_
    refine wp_region_lit ?_
    refine lv (d := 15) rfl rfl (by kernel_rfl) (e_move (v := .int .i64 x14) (by exact e17)) ?_
    refine lv (d := 16) rfl rfl (by kernel_rfl) (e_add (k := .i64) (a := x14) (b := 1) (by kernel_rfl) rfl) ?_
    refine lv (d := 5) rfl rfl (by kernel_rfl) (e_assign (v := .int .i64 (IntKind.i64.wrap (x14 + 1))) (by kernel_rfl)) ?_
    refine wpList_nil ?_
    refine then_n ?_
    exact ⟨k22, (by omega), _, (IntKind.i64.wrap (x14 + 1)), rfl, (by exact e15), (by exact e16), (by kernel_rfl), S25, M⟩
  replace M := ifn q23 M
  refine cond_f rfl (bf q23 (by kernel_rfl)) ?_
  refine wp_exit ?_
  refine then_e ?_
  refine then_e ?_
  refine inb_hit ?_
  refine then_n ?_
  refine wp_seq ?_
  refine wp_region_lit ?_
  refine lv (d := 4) rfl rfl (by kernel_rfl) (e_assign (v := .bool true) rfl) ?_
  refine wpList_nil ?_
  refine then_n ?_
  refine wp_ret ?_
  obtain rfl := Option.some.inj M
  exact ret1 rfl rfl  (show _ = .bool true from (by kernel_rfl)) ⟨rfl, S18.chg⟩

/-! laws_eqOp -/
def laws_eqOp.f (k : Nat) (x1 : Sy.Op) (x6 : Sy.Op) : Option Bool := ((laws_eqByteS.f k x1.name x6.name).bind fun t21 => (if ¬ (t21 = true) then some false else (if x1.pri ≠ x6.pri then some false else (if x1.typ ≠ x6.typ then some false else some true))))
theorem laws_eqOp.calls (k : Nat) (w : World) (H : Hp) (x1 : Sy.Op) (A2 : Option Addr) (c3 : Nat) (x6 : Sy.Op) (A7 : Option Addr) (c8 : Nat) (h4 : Rd tByte H A2 x1.name) (l5 : x1.name.length ≤ c3) (h9 : Rd tByte H A7 x6.name) (l10 : x6.name.length ≤ c8) (S : Own [] H w) (r : Bool) (M : laws_eqOp.f k x1 x6 = some r) :
    Calls Try.prog 28 #[.agg #[.slice A2 x1.name.length c3, .int .i64 x1.pri, .int .i64 x1.typ], .agg #[.slice A7 x6.name.length c8, .int .i64 x6.pri, .int .i64 x6.typ]] w (fun e e_w => e = .returned (.bool r) ∧ Chg no w e_w) := by
  rw [laws_eqOp.f] at M
  refine enter (l := [.agg #[.slice A2 x1.name.length c3, .int .i64 x1.pri, .int .i64 x1.typ], .agg #[.slice A7 x6.name.length c8, .int .i64 x6.pri, .int .i64 x6.typ]]) 21 Try.func28 rfl rfl rfl ?_
  have S0_ := S.st
  refine wp_seq ?_
  refine wp_region_lit ?_
  refine lve (d := 2) rfl rfl (by kernel_rfl) (new_blk (v := fun g_ => .pointer (some ⟨g_, 0, none⟩)) (cs := #[.slice A2 x1.name.length c3, .int .i64 x1.pri, .int .i64 x1.typ]) (t := 45) S0_ (by kernel_rfl)) ?_
  rintro _ w11 ⟨g12, rfl, b13, S14, K15⟩
  refine lve (d := 3) rfl rfl (by kernel_rfl) (new_blk (v := fun g_ => .pointer (some ⟨g_, 0, none⟩)) (cs := #[.slice A7 x6.name.length c8, .int .i64 x6.pri, .int .i64 x6.typ]) (t := 45) S14 (by kernel_rfl)) ?_
  rintro _ w16 ⟨g17, rfl, b18, S19, K20⟩
  replace b13 := K20.blk 0 rfl b13
  refine lv (d := 4) rfl rfl (by kernel_rfl) (e_assign (v := .bool false) rfl) ?_
  refine wpList_nil ?_
  refine then_n ?_
  refine wp_seq ?_
  refine wp_seq ?_
  refine wp_region_lit ?_
  refine lv (d := 5) rfl rfl (by kernel_rfl) (e_fieldAddr (b := g12) (off := 0) (o := 0) Try.underlying45 rfl rfl (sz := 1) (by kernel_rfl) (by decide) (by kernel_rfl)) ?_
  refine lv (d := 6) rfl rfl (by kernel_rfl) (e_load1 (ad := ⟨g12, 0 + 0, none⟩) (v := .slice A2 x1.name.length c3) Try.underlying32 rfl (by kernel_rfl) (blk_cell b13 rfl)) ?_
  refine lv (d := 7) rfl rfl (by kernel_rfl) (e_fieldAddr (b := g17) (off := 0) (o := 0) Try.underlying45 rfl rfl (sz := 1) (by kernel_rfl) (by decide) (by kernel_rfl)) ?_
  refine lv (d := 8) rfl rfl (by kernel_rfl) (e_load1 (ad := ⟨g17, 0 + 0, none⟩) (v := .slice A7 x6.name.length c8) Try.underlying32 rfl (by kernel_rfl) (blk_cell b18 rfl)) ?_
  obtain ⟨t21, u22, M⟩ := bnd M
  refine lcall (d := 9) rfl rfl (by kernel_rfl) (e_call (l := [.tmp 6, .tmp 8]) (vs := [.slice A2 x1.name.length c3, .slice A7 x6.name.length c8]) Try.func19 (by kernel_rfl) rfl (by kernel_rfl) rfl) (laws_eqByteS.calls k w16 H x1.name A2 c3 x6.name A7 c8 h4 l5 h9 l10 S19.own0 t21 u22) ?_
  rintro _ w23 ⟨rfl, C24⟩
  refine ⟨_, rfl, ?_⟩
  obtain ⟨S25, K26⟩ := S19.still C24
  replace b18 := K26.blk 0 rfl b18
  replace b13 := K26.blk 1 rfl b13
  refine lv (d := 10) rfl rfl (by kernel_rfl) (e_notv (c := t21) (by kernel_rfl)) ?_
  refine wpList_nil ?_
  refine then_n ?_
  by_cases q27 : ¬ (t21 = true)
  · replace M := ifp q27 M
    refine cond_t rfl (bt q27 (by kernel_rfl)) ?_
    refine wp_seq ?_
    refine wp_region_lit ?_
    refine lv (d := 4) rfl rfl (by kernel_rfl) (e_assign (v := .bool false) rfl) ?_
    refine wpList_nil ?_
    refine then_n ?_
    refine wp_ret ?_
    refine then_r ?_
    obtain rfl := Option.some.inj M
    exact ret1 rfl rfl  (show _ = .bool false from (by kernel_rfl)) ⟨rfl, S25.chg⟩
  replace M := ifn q27 M
  refine cond_f rfl (bf q27 (by kernel_rfl)) ?_
  refine wp_skip ?_
  refine then_n ?_
  refine wp_seq ?_
  refine wp_seq ?_
  refine wp_region_lit ?_
  refine lv (d := 11) rfl rfl (by kernel_rfl) (e_fieldAddr (b := g12) (off := 0) (o := 1) Try.underlying45 rfl rfl (sz := 1) (by kernel_rfl) (by decide) (by kernel_rfl)) ?_
  refine lv (d := 12) rfl rfl (by kernel_rfl) (e_load1 (ad := ⟨g12, 0 + 1, none⟩) (v := .int .i64 x1.pri) Try.underlying3 rfl (by kernel_rfl) (blk_cell b13 rfl)) ?_
  refine lv (d := 13) rfl rfl (by kernel_rfl) (e_fieldAddr (b := g17) (off := 0) (o := 1) Try.underlying45 rfl rfl (sz := 1) (by kernel_rfl) (by decide) (by kernel_rfl)) ?_
  refine lv (d := 14) rfl rfl (by kernel_rfl) (e_load1 (ad := ⟨g17, 0 + 1, none⟩) (v := .int .i64 x6.pri) Try.underlying3 rfl (by kernel_rfl) (blk_cell b18 rfl)) ?_
  refine lv (d := 15) rfl rfl (by kernel_rfl) (e_neq (k := .i64) (a := x1.pri) (b := x6.pri) (by kernel_rfl) (by kernel_rfl)) ?_
  refine wpList_nil ?_
  refine then_n ?_
  by_cases q28 : x1.pri ≠ x6.pri
  · replace M := ifp q28 M
    refine cond_t rfl (bt q28 (by kernel_rfl)) ?_
    refine wp_seq ?_
    refine wp_region_lit ?_
    refine lv (d := 4) rfl rfl (by kernel_rfl) (e_assign (v := .bool false) rfl) ?_
    refine wpList_nil ?_
    refine then_n ?_
    refine wp_ret ?_
    refine then_r ?_
    obtain rfl := Option.some.inj M
    exact ret1 rfl rfl  (show _ = .bool false from (by kernel_rfl)) ⟨rfl, S25.chg⟩
  replace M := ifn q28 M
  refine cond_f rfl (bf q28 (by kernel_rfl)) ?_
  refine wp_skip ?_
  refine then_n ?_
  refine wp_seq ?_
  refine wp_seq ?_
  refine wp_region_lit ?_
  refine lv (d := 16) rfl rfl (by kernel_rfl) (e_fieldAddr (b := g12) (off := 0) (o := 2) Try.underlying45 rfl rfl (sz := 1) (by kernel_rfl) (by decide) (by kernel_rfl)) ?_
  refine lv (d := 17) rfl rfl (by kernel_rfl) (e_load1 (ad := ⟨g12, 0 + 2, none⟩) (v := .int .i64 x1.typ) Try.underlying3 rfl (by kernel_rfl) (blk_cell b13 rfl)) ?_
  refine lv (d := 18) rfl rfl (by kernel_rfl) (e_fieldAddr (b := g17) (off := 0) (o := 2) Try.underlying45 rfl rfl (sz := 1) (by kernel_rfl) (by decide) (by kernel_rfl)) ?_
  refine lv (d := 19) rfl rfl (by kernel_rfl) (e_load1 (ad := ⟨g17, 0 + 2, none⟩) (v := .int .i64 x6.typ) Try.underlying3 rfl (by kernel_rfl) (blk_cell b18 rfl)) ?_
  refine lv (d := 20) rfl rfl (by kernel_rfl) (e_neq (k := .i64) (a := x1.typ) (b := x6.typ) (by kernel_rfl) (by kernel_rfl)) ?_
  refine wpList_nil ?_
  refine then_n ?_
  by_cases q29 : x1.typ ≠ x6.typ
  · replace M := ifp q29 M
    refine cond_t rfl (bt q29 (by kernel_rfl)) ?_
    refine wp_seq ?_
    refine wp_region_lit ?_
    refine lv (d := 4) rfl rfl (by kernel_rfl) (e_assign (v := .bool false) rfl) ?_
    refine wpList_nil ?_
    refine then_n ?_
    refine wp_ret ?_
    refine then_r ?_
    obtain rfl := Option.some.inj M
    exact ret1 rfl rfl  (show _ = .bool false from (by kernel_rfl)) ⟨rfl, S25.chg⟩
  replace M := ifn q29 M
  refine cond_f rfl (bf q29 (by kernel_rfl)) ?_
  refine wp_skip ?_
  refine then_n ?_
  refine wp_seq ?_
  refine wp_region_lit ?_
  refine lv (d := 4) rfl rfl (by kernel_rfl) (e_assign (v := .bool true) rfl) ?_
  refine wpList_nil ?_
  refine then_n ?_
  refine wp_ret ?_
  obtain rfl := Option.some.inj M
  exact ret1 rfl rfl  (show _ = .bool true from (by kernel_rfl)) ⟨rfl, S25.chg⟩

/-! laws_eqOpS -/
def laws_eqOpS.l0 : Nat → (List Sy.Op) → (List Sy.Op) → Int → Option Bool
  | 0, _, _, _ => none
  | k22 + 1, x1, x6, x14 => (if x14 < (x1.length : Int) then (if 0 ≤ x14 then (if x14 < (x6.length : Int) then ((laws_eqOp.f k22 (x1.getD ((x14).toNat) z45) (x6.getD ((x14).toNat) z45)).bind fun t46 => (if ¬ (t46 = true) then some false else (laws_eqOpS.l0 k22 x1 x6 (IntKind.i64.wrap (x14 + 1))))) else none) else none) else some true)
def laws_eqOpS.f (k : Nat) (x1 : List Sy.Op) (x6 : List Sy.Op) : Option Bool := (if (x1.length : Int) ≠ (x6.length : Int) then some false else (laws_eqOpS.l0 k x1 x6 0))
theorem laws_eqOpS.calls (k : Nat) (w : World) (H : Hp) (x1 : List Sy.Op) (A2 : Option Addr) (c3 : Nat) (x6 : List Sy.Op) (A7 : Option Addr) (c8 : Nat) (h4 : Rd st45 H A2 x1) (l5 : x1.length ≤ c3) (h9 : Rd st45 H A7 x6) (l10 : x6.length ≤ c8) (S : Own [] H w) (r : Bool) (M : laws_eqOpS.f k x1 x6 = some r) :
    Calls Try.prog 11 #[.slice A2 x1.length c3, .slice A7 x6.length c8] w (fun e e_w => e = .returned (.bool r) ∧ Chg no w e_w) := by
  rw [laws_eqOpS.f] at M
  refine enter (l := [.slice A2 x1.length c3, .slice A7 x6.length c8]) 27 Try.func11 rfl rfl rfl ?_
  have S0_ := S.st
  refine wp_seq ?_
  refine wp_region_lit ?_
  refine lv (d := 4) rfl rfl (by kernel_rfl) (e_assign (v := .bool false) rfl) ?_
  refine wpList_nil ?_
  refine then_n ?_
  refine wp_seq ?_
  refine wp_seq ?_
  refine wp_region_lit ?_
  refine lv (d := 6) rfl rfl (by kernel_rfl) (e_move (v := .slice A2 x1.length c3) (by kernel_rfl)) ?_
  refine lv (d := 7) rfl rfl (by kernel_rfl) (e_len (A := A2) (n := x1.length) (c := c3) Try.underlying25 (by kernel_rfl)) ?_
  refine lv (d := 8) rfl rfl (by kernel_rfl) (e_move (v := .slice A7 x6.length c8) (by kernel_rfl)) ?_
  refine lv (d := 9) rfl rfl (by kernel_rfl) (e_len (A := A7) (n := x6.length) (c := c8) Try.underlying25 (by kernel_rfl)) ?_
  refine lv (d := 10) rfl rfl (by kernel_rfl) (e_neq (k := .i64) (a := (x1.length : Int)) (b := (x6.length : Int)) (by kernel_rfl) (by kernel_rfl)) ?_
  refine wpList_nil ?_
  refine then_n ?_
  by_cases q11 : (x1.length : Int) ≠ (x6.length : Int)
  · replace M := ifp q11 M
    refine cond_t rfl (bt q11 (by kernel_rfl)) ?_
    refine wp_seq ?_
    refine wp_region_lit ?_
    refine lv (d := 4) rfl rfl (by kernel_rfl) (e_assign (v := .bool false) rfl) ?_
    refine wpList_nil ?_
    refine then_n ?_
    refine wp_ret ?_
    refine then_r ?_
    obtain rfl := Option.some.inj M
    exact ret1 rfl rfl  (show _ = .bool false from (by kernel_rfl)) ⟨rfl, S0_.chg⟩
  replace M := ifn q11 M
  refine cond_f rfl (bf q11 (by kernel_rfl)) ?_
  refine wp_skip ?_
  refine then_n ?_
  refine wp_seq ?_
  refine wp_seq ?_
  refine wp_region_lit ?_
  refine lv (d := 5) rfl rfl (by kernel_rfl) (e_assign (v := .int .i64 0) rfl) ?_
  refine wpList_nil ?_
  refine then_n ?_
  refine wp_block ?_
  refine wp_loop_g (fun k20 a21 w12 => ∃ (f13 : Nat → Value) (x14 : Int), a21 = mk 27 f13 ∧ f13 0 = .slice A2 x1.length c3 ∧ f13 1 = .slice A7 x6.length c8 ∧ f13 5 = .int .i64 x14 ∧ St (anyOf []) H w [] H w12 ∧ laws_eqOpS.l0 k20 x1 x6 x14 = some r) k ⟨_, 0, rfl, (by kernel_rfl), (by kernel_rfl), (by kernel_rfl), S0_, M⟩ ?_
  clear M
  rintro k20 a21 w12 ⟨f13, x14, rfl, e15, e16, e17, S18, M⟩
  rcases k20 with _ | k22
  · rw [laws_eqOpS.l0] at M
    cases M
  rw [laws_eqOpS.l0] at M
  refine wp_seq ?_
  refine wp_seq ?_
  refine wp_region_lit ?_
  refine lv (d := 11) rfl rfl (by kernel_rfl) (e_move (v := .int .i64 x14) (by exact e17)) ?_
  refine lv (d := 12) rfl rfl (by kernel_rfl) (e_move (v := .slice A2 x1.length c3) (by exact e15)) ?_
  refine lv (d := 13) rfl rfl (by kernel_rfl) (e_len (A := A2) (n := x1.length) (c := c3) Try.underlying25 (by kernel_rfl)) ?_
  refine lv (d := 14) rfl rfl (by kernel_rfl) (e_lss (k := .i64) (a := x14) (b := (x1.length : Int)) (by kernel_rfl) (by kernel_rfl)) ?_
  refine wpList_nil ?_
  refine then_n ?_
  by_cases q23 : x14 < (x1.length : Int)
  · replace M := ifp q23 M
    refine cond_t rfl (bt q23 (by kernel_rfl)) ?_
    refine wp_skip ?_
    refine then_n ?_
    refine wp_seq ?_
    refine wp_block ?_
    refine wp_seq ?_
    refine region_quiet (by kernel_rfl) (by kernel_rfl) ?_
    refine qv (d := 17) rfl rfl (by kernel_rfl) (fun wq_ hq_ => e_move (v := .slice A2 x1.length c3) (by exact e15)) ?_
    refine qv (d := 18) rfl rfl (by kernel_rfl) (fun wq_ hq_ => e_move (v := .int .i64 x14) (by exact e17)) ?_
    obtain ⟨q24, M⟩ := chk M
    obtain ⟨b25, o26, e27⟩ := Rd.addr h4 (show (x14).toNat < x1.length by omega)
    obtain ⟨y28, r29, k30⟩ := Rd.at h4 e27 (getD_some z45 (show (x14).toNat < x1.length by omega))
    obtain ⟨A31, c32, rfl, l33, h34⟩ := st45_open r29
    refine qv (d := 19) rfl rfl (by kernel_rfl) (fun wq_ hq_ => e_indexAddr (b := b25) (off := o26) (n := x1.length) (c := c3) (sz := 3) (i := x14) (k := .i64) Try.underlying25 e27 (by kernel_rfl) (by kernel_rfl) (by kernel_rfl) q24 q23) ?_
    refine qv (d := 20) rfl rfl (by kernel_rfl) (fun wq_ hq_ => e_loadS (b := b25) (off := o26 + (x14 : Int).toNat * 3) (cs := [.slice A31 ((x1.getD ((x14).toNat) z45).name).length c32, .int .i64 ((x1.getD ((x14).toNat) z45).pri), .int .i64 ((x1.getD ((x14).toNat) z45).typ)]) Try.underlying45 rfl (by kernel_rfl) (by kernel_rfl) (fun j_ u_ e_ => (hpx ((S18.still hq_).1.inv.cell (k30 j_ u_ e_))))) ?_
    refine qv (d := 21) rfl rfl (by kernel_rfl) (fun wq_ hq_ => e_move (v := .slice A7 x6.length c8) (by exact e16)) ?_
    refine qv (d := 22) rfl rfl (by kernel_rfl) (fun wq_ hq_ => e_move (v := .int .i64 x14) (by exact e17)) ?_
    obtain ⟨q35, M⟩ := chk M
    obtain ⟨b36, o37, e38⟩ := Rd.addr h9 (show (x14).toNat < x6.length by omega)
    obtain ⟨y39, r40, k41⟩ := Rd.at h9 e38 (getD_some z45 (show (x14).toNat < x6.length by omega))
    obtain ⟨A42, c43, rfl, l44, h45⟩ := st45_open r40
    refine qv (d := 23) rfl rfl (by kernel_rfl) (fun wq_ hq_ => e_indexAddr (b := b36) (off := o37) (n := x6.length) (c := c8) (sz := 3) (i := x14) (k := .i64) Try.underlying25 e38 (by kernel_rfl) (by kernel_rfl) (by kernel_rfl) q24 q35) ?_
    refine qv (d := 24) rfl rfl (by kernel_rfl) (fun wq_ hq_ => e_loadS (b := b36) (off := o37 + (x14 : Int).toNat * 3) (cs := [.slice A42 ((x6.getD ((x14).toNat) z45).name).length c43, .int .i64 ((x6.getD ((x14).toNat) z45).pri), .int .i64 ((x6.getD ((x14).toNat) z45).typ)]) Try.underlying45 rfl (by kernel_rfl) (by kernel_rfl) (fun j_ u_ e_ => (hpx ((S18.still hq_).1.inv.cell (k41 j_ u_ e_))))) ?_
    obtain ⟨t46, u47, M⟩ := bnd M
    refine qcall (v := .bool t46) (d := 25) rfl rfl (by kernel_rfl) (fun w_ => e_call (l := [.tmp 20, .tmp 24]) (vs := [.agg #[.slice A31 ((x1.getD ((x14).toNat) z45).name).length c32, .int .i64 ((x1.getD ((x14).toNat) z45).pri), .int .i64 ((x1.getD ((x14).toNat) z45).typ)], .agg #[.slice A42 ((x6.getD ((x14).toNat) z45).name).length c43, .int .i64 ((x6.getD ((x14).toNat) z45).pri), .int .i64 ((x6.getD ((x14).toNat) z45).typ)]]) Try.func28 (by kernel_rfl) rfl (by kernel_rfl) rfl) (fun wq_ hq_ => (by obtain ⟨S_, K_⟩ := S18.still hq_; exact (laws_eqOp.calls k22 wq_ H (x1.getD ((x14).toNat) z45) A31 c32 (x6.getD ((x14).toNat) z45) A42 c43 h34 l33 h45 l44 S_.own0 t46 u47))) ?_
    refine qv (d := 26) rfl rfl (by kernel_rfl) (fun wq_ hq_ => e_notv (c := t46) (by kernel_rfl)) ?_
    refine wpQuiet_nil ?_
    intro w48 C51
    obtain ⟨S49, K50⟩ := S18.still C51
    refine then_n ?_
    by_cases q52 : ¬ (t46 = true)
    · replace M := ifp q52 M
      refine cond_t rfl (bt q52 (by kernel_rfl)) ?_
      refine wp_seq ?_
      refine wp_region_lit ?_
      refine lv (d := 4) rfl rfl (by kernel_rfl) (e_assign (v := .bool false) rfl) ?_
      refine wpList_nil ?_
      refine then_n ?_
      refine wp_ret ?_
      refine inb_r ?_
      refine then_r ?_
      refine then_r ?_
      refine inb_r ?_
      refine then_r ?_
      obtain rfl := Option.some.inj M
      exact ret1 rfl rfl  (show _ = .bool false from (by kernel_rfl)) ⟨rfl, S49.chg⟩
    replace M := ifn q52 M
    refine cond_f rfl (bf q52 (by kernel_rfl)) ?_
    refine wp_skip ?_
    refine inb_n ?_
    refine then_n ?_
    refine wp_region_lit ?_
    refine lv (d := 15) rfl rfl (by kernel_rfl) (e_move (v := .int .i64 x14) (by exact e17)) ?_
    refine lv (d := 16) rfl rfl (by kernel_rfl) (e_add (k := .i64) (a := x14) (b := 1) (by kernel_rfl) rfl) ?_
    refine lv (d := 5) rfl rfl (by kernel_rfl) (e_assign (v := .int .i64 (IntKind.i64.wrap (x14 + 1))) (by kernel_rfl)) ?_
    refine wpList_nil ?_
    refine then_n ?_
    exact ⟨k22, (by omega), _, (IntKind.i64.wrap (x14 + 1)), rfl, (by exact e15), (by exact e16), (by kernel_rfl), S49, M⟩
  replace M := ifn q23 M
  refine cond_f rfl (bf q23 (by kernel_rfl)) ?_
  refine wp_exit ?_
  refine then_e ?_
  refine then_e ?_
  refine inb_hit ?_
  refine then_n ?_
  refine wp_seq ?_
  refine wp_region_lit ?_
  refine lv (d := 4) rfl rfl (by kernel_rfl) (e_assign (v := .bool true) rfl) ?_
  refine wpList_nil ?_
  refine then_n ?_
  refine wp_ret ?_
  obtain rfl := Option.some.inj M
  exact ret1 rfl rfl  (show _ = .bool true from (by kernel_rfl)) ⟨rfl, S18.chg⟩

/-! laws_FnExactValidOps -/
def laws_FnExactValidOps.f (k : Nat) (x1 : List Sy.Op) : Option Bool := ((laws_szOpS.f k x1 1048576).bind fun t6 => (if t6 < 0 then some true else ((laws_toOpS.f k x1).bind fun t13 => ((spec_ValidOps.f k t13).bind fun t25 => ((laws_toOpS.f k x1).bind fun t37 => ((impl_ValidOps.f k t37).bind fun t49 => (if t49 ≠ t25 then some false else ((laws_toOpS.f k x1).bind fun t62 => ((laws_eqOpS.f k t37 t62).bind fun t74 => (if ¬ (t74 = true) then some false else some true))))))))))
theorem laws_FnExactValidOps.calls (k : Nat) (w : World) (H : Hp) (x1 : List Sy.Op) (A2 : Option Addr) (c3 : Nat) (h4 : Rd st44 H A2 x1) (l5 : x1.length ≤ c3) (S : Own [] H w) (r : Bool) (M : laws_FnExactValidOps.f k x1 = some r) :
    Calls Try.prog 3 #[.slice A2 x1.length c3] w (fun e e_w => e = .returned (.bool r) ∧ Chg no w e_w) := by
  rw [laws_FnExactValidOps.f] at M
  refine enter (l := [.slice A2 x1.length c3]) 27 Try.func3 rfl rfl rfl ?_
  have S0_ := S.st
  refine wp_seq ?_
  refine wp_region_lit ?_
  refine lv (d := 2) rfl rfl (by kernel_rfl) (e_assign (v := .bool false) rfl) ?_
  refine wpList_nil ?_
  refine then_n ?_
  refine wp_seq ?_
  refine wp_region_lit ?_
  refine lv (d := 3) rfl rfl (by kernel_rfl) (e_assign (v := .int .i64 1048576) rfl) ?_
  refine wpList_nil ?_
  refine then_n ?_
  refine wp_seq ?_
  refine wp_region_lit ?_
  refine lv (d := 7) rfl rfl (by kernel_rfl) (e_move (v := .slice A2 x1.length c3) (by kernel_rfl)) ?_
  refine lv (d := 8) rfl rfl (by kernel_rfl) (e_move (v := .int .i64 1048576) (by kernel_rfl)) ?_
  obtain ⟨t6, u7, M⟩ := bnd M
  refine lcall (d := 9) rfl rfl (by kernel_rfl) (e_call (l := [.tmp 7, .tmp 8]) (vs := [.slice A2 x1.length c3, .int .i64 1048576]) Try.func7 (by kernel_rfl) rfl (by kernel_rfl) rfl) (laws_szOpS.calls k w H x1 A2 c3 1048576 h4 l5 S0_.own0 t6 u7) ?_
  rintro _ w8 ⟨rfl, C9⟩
  refine ⟨_, rfl, ?_⟩
  obtain ⟨S10, K11⟩ := S0_.still C9
  refine lv (d := 3) rfl rfl (by kernel_rfl) (e_assign (v := .int .i64 t6) (by kernel_rfl)) ?_
  refine wpList_nil ?_
  refine then_n ?_
  refine wp_seq ?_
  refine wp_seq ?_
  refine wp_region_lit ?_
  refine lv (d := 10) rfl rfl (by kernel_rfl) (e_move (v := .int .i64 t6) (by kernel_rfl)) ?_
  refine lv (d := 11) rfl rfl (by kernel_rfl) (e_lss (k := .i64) (a := t6) (b := 0) (by kernel_rfl) rfl) ?_
  refine wpList_nil ?_
  refine then_n ?_
  by_cases q12 : t6 < 0
  · replace M := ifp q12 M
    refine cond_t rfl (bt q12 (by kernel_rfl)) ?_
    refine wp_seq ?_
    refine wp_region_lit ?_
    refine lv (d := 2) rfl rfl (by kernel_rfl) (e_assign (v := .bool true) rfl) ?_
    refine wpList_nil ?_
    refine then_n ?_
    refine wp_ret ?_
    refine then_r ?_
    obtain rfl := Option.some.inj M
    exact ret1 rfl rfl  (show _ = .bool true from (by kernel_rfl)) ⟨rfl, S10.chg⟩
  replace M := ifn q12 M
  refine cond_f rfl (bf q12 (by kernel_rfl)) ?_
  refine wp_skip ?_
  refine then_n ?_
  refine wp_seq ?_
  refine wp_region_lit ?_
  refine lv (d := 12) rfl rfl (by kernel_rfl) (e_move (v := .slice A2 x1.length c3) (by kernel_rfl)) ?_
  obtain ⟨t13, u14, M⟩ := bnd M
  refine lcall (d := 13) rfl rfl (by kernel_rfl) (e_call (l := [.tmp 12]) (vs := [.slice A2 x1.length c3]) Try.func9 (by kernel_rfl) rfl (by kernel_rfl) rfl) (laws_toOpS.calls k w8 H x1 A2 c3 h4 l5 (St.own' (Fa := []) (Fr := []) S10) t13 u14) ?_
  rintro _ w15 ⟨A18, c19, F21, H16, rfl, h20, T17⟩
  refine ⟨_, rfl, ?_⟩
  obtain ⟨S22, K23⟩ := St.call (Fa := []) (Fr := []) S10 T17
  have E24 := T17.ext
  obtain ⟨t25, u26, M⟩ := bnd M
  refine lcall (d := 14) rfl rfl (by kernel_rfl) (e_call (l := [.tmp 13]) (vs := [.slice A18 t13.length c19]) Try.func8 (by kernel_rfl) rfl (by kernel_rfl) rfl) (by have l27 := h20.le; obtain ⟨H28, S29, E30, h31, z32⟩ := S22.frzRow h20; exact (spec_ValidOps.calls k w15 H28 t13 A18 c19 h31 l27 S29.own0 t25 u26)) ?_
  rintro _ w33 ⟨rfl, C34⟩
  refine ⟨_, rfl, ?_⟩
  obtain ⟨S35, K36⟩ := S22.still C34
  replace h20 := h20.move (K36.at 0 rfl)
  refine lv (d := 4) rfl rfl (by kernel_rfl) (e_assign (v := .bool t25) (by kernel_rfl)) ?_
  refine wpList_nil ?_
  refine then_n ?_
  refine wp_seq ?_
  refine wp_region_lit ?_
  refine lv (d := 15) rfl rfl (by kernel_rfl) (e_move (v := .slice A2 x1.length c3) (by kernel_rfl)) ?_
  obtain ⟨t37, u38, M⟩ := bnd M
  refine lcall (d := 16) rfl rfl (by kernel_rfl) (e_call (l := [.tmp 15]) (vs := [.slice A2 x1.length c3]) Try.func9 (by kernel_rfl) rfl (by kernel_rfl) rfl) (laws_toOpS.calls k w33 H16 x1 A2 c3 (h4.ext E24) l5 (St.own' (Fa := []) (Fr := [F21]) S35) t37 u38) ?_
  rintro _ w39 ⟨A42, c43, F45, H40, rfl, h44, T41⟩
  refine ⟨_, rfl, ?_⟩
  obtain ⟨S46, K47⟩ := St.call (Fa := []) (Fr := [F21]) S35 T41
  replace h20 := h20.move (K47.at 0 rfl)
  have E48 := T41.ext
  replace h20 := h20.ext E48
  refine lv (d := 5) rfl rfl (by kernel_rfl) (e_assign (v := .slice A42 t37.length c43) (by kernel_rfl)) ?_
  refine wpList_nil ?_
  refine then_n ?_
  refine wp_seq ?_
  refine wp_region_lit ?_
  refine lv (d := 17) rfl rfl (by kernel_rfl) (e_move (v := .slice A42 t37.length c43) (by kernel_rfl)) ?_
  obtain ⟨t49, u50, M⟩ := bnd M
  refine lcall (d := 18) rfl rfl (by kernel_rfl) (e_call (l := [.tmp 17]) (vs := [.slice A42 t37.length c43]) Try.func10 (by kernel_rfl) rfl (by kernel_rfl) rfl) (by have l51 := h44.le; obtain ⟨H52, S53, E54, h55, z56⟩ := S46.frzRow h44; replace h20 := h20.ext E54; exact (impl_ValidOps.calls k w39 H52 t37 A42 c43 h55 l51 S53.own0 t49 u50)) ?_
  rintro _ w57 ⟨rfl, C58⟩
  refine ⟨_, rfl, ?_⟩
  obtain ⟨S59, K60⟩ := S46.still C58
  replace h44 := h44.move (K60.at 0 rfl)
  replace h20 := h20.move (K60.at 1 rfl)
  refine lv (d := 6) rfl rfl (by kernel_rfl) (e_assign (v := .bool t49) (by kernel_rfl)) ?_
  refine wpList_nil ?_
  refine then_n ?_
  refine wp_seq ?_
  refine wp_seq ?_
  refine wp_region_lit ?_
  refine lv (d := 19) rfl rfl (by kernel_rfl) (e_move (v := .bool t49) (by kernel_rfl)) ?_
  refine lv (d := 20) rfl rfl (by kernel_rfl) (e_move (v := .bool t25) (by kernel_rfl)) ?_
  refine lv (d := 21) rfl rfl (by kernel_rfl) (e_bneq (p := t49) (q := t25) Try.underlying4 (by kernel_rfl) (by kernel_rfl)) ?_
  refine wpList_nil ?_
  refine then_n ?_
  by_cases q61 : t49 ≠ t25
  · replace M := ifp q61 M
    refine cond_t rfl (bt q61 (by kernel_rfl)) ?_
    refine wp_seq ?_
    refine wp_region_lit ?_
    refine lv (d := 2) rfl rfl (by kernel_rfl) (e_assign (v := .bool false) rfl) ?_
    refine wpList_nil ?_
    refine then_n ?_
    refine wp_ret ?_
    refine then_r ?_
    obtain rfl := Option.some.inj M
    exact ret1 rfl rfl  (show _ = .bool false from (by kernel_rfl)) ⟨rfl, S59.chg⟩
  replace M := ifn q61 M
  refine cond_f rfl (bf q61 (by kernel_rfl)) ?_
  refine wp_skip ?_
  refine then_n ?_
  refine wp_seq ?_
  refine wp_seq ?_
  refine wp_region_lit ?_
  refine lv (d := 22) rfl rfl (by kernel_rfl) (e_move (v := .slice A42 t37.length c43) (by kernel_rfl)) ?_
  refine lv (d := 23) rfl rfl (by kernel_rfl) (e_move (v := .slice A2 x1.length c3) (by kernel_rfl)) ?_
  obtain ⟨t62, u63, M⟩ := bnd M
  refine lcall (d := 24) rfl rfl (by kernel_rfl) (e_call (l := [.tmp 23]) (vs := [.slice A2 x1.length c3]) Try.func9 (by kernel_rfl) rfl (by kernel_rfl) rfl) (laws_toOpS.calls k w57 H40 x1 A2 c3 (h4.ext (E24.trans E48)) l5 (St.own' (Fa := []) (Fr := [F45, F21]) S59) t62 u63) ?_
  rintro _ w64 ⟨A67, c68, F70, H65, rfl, h69, T66⟩
  refine ⟨_, rfl, ?_⟩
  obtain ⟨S71, K72⟩ := St.call (Fa := []) (Fr := [F45, F21]) S59 T66
  replace h44 := h44.move (K72.at 0 rfl)
  replace h20 := h20.move (K72.at 1 rfl)
  have E73 := T66.ext
  replace h44 := h44.ext E73
  replace h20 := h20.ext E73
  obtain ⟨t74, u75, M⟩ := bnd M
  refine lcall (d := 25) rfl rfl (by kernel_rfl) (e_call (l := [.tmp 22, .tmp 24]) (vs := [.slice A42 t37.length c43, .slice A67 t62.length c68]) Try.func11 (by kernel_rfl) rfl (by kernel_rfl) rfl) (by have l76 := h44.le; have S77 := S71.pull (F := F45) (Fr := [F70, F21]) 1 rfl rfl; obtain ⟨H78, S79, E80, h81, z82⟩ := S77.frzRow h44; replace h69 := h69.ext E80; replace h20 := h20.ext E80; have l83 := h69.le; obtain ⟨H84, S85, E86, h87, z88⟩ := S79.frzRow h69; replace h20 := h20.ext E86; exact (laws_eqOpS.calls k w64 H84 t37 A42 c43 t62 A67 c68 (h81.ext E86) l76 h87 l83 S85.own0 t74 u75)) ?_
  rintro _ w89 ⟨rfl, C90⟩
  refine ⟨_, rfl, ?_⟩
  obtain ⟨S91, K92⟩ := S71.still C90
  replace h69 := h69.move (K92.at 0 rfl)
  replace h44 := h44.move (K92.at 1 rfl)
  replace h20 := h20.move (K92.at 2 rfl)
  refine lv (d := 26) rfl rfl (by kernel_rfl) (e_notv (c := t74) (by kernel_rfl)) ?_
  refine wpList_nil ?_
  refine then_n ?_
  by_cases q93 : ¬ (t74 = true)
  · replace M := ifp q93 M
    refine cond_t rfl (bt q93 (by kernel_rfl)) ?_
    refine wp_seq ?_
    refine wp_region_lit ?_
    refine lv (d := 2) rfl rfl (by kernel_rfl) (e_assign (v := .bool false) rfl) ?_
    refine wpList_nil ?_
    refine then_n ?_
    refine wp_ret ?_
    refine then_r ?_
    obtain rfl := Option.some.inj M
    exact ret1 rfl rfl  (show _ = .bool false from (by kernel_rfl)) ⟨rfl, S91.chg⟩
  replace M := ifn q93 M
  refine cond_f rfl (bf q93 (by kernel_rfl)) ?_
  refine wp_skip ?_
  refine then_n ?_
  refine wp_seq ?_
  refine wp_region_lit ?_
  refine lv (d := 2) rfl rfl (by kernel_rfl) (e_assign (v := .bool true) rfl) ?_
  refine wpList_nil ?_
  refine then_n ?_
  refine wp_ret ?_
  obtain rfl := Option.some.inj M
  exact ret1 rfl rfl  (show _ = .bool true from (by kernel_rfl)) ⟨rfl, S91.chg⟩
end Go.Proofs.Ytminnekeekhjcaa
