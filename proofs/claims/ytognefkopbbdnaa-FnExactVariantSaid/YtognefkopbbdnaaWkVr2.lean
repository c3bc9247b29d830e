import Derived.Test.YtognefkopbbdnaaWkVr1
namespace Go.Proofs.Ytognefkopbbdnaa
open Go.Sx Go.Sy
attribute [local irreducible] Go.wpList Go.wpStill Go.wpQuiet Go.Code.wp
set_option maxRecDepth 100000
set_option maxHeartbeats 1000000
set_option linter.unusedVariables false
set_option linter.unusedSimpArgs false

/-! impl_renumbered -/
def impl_renumbered.f (k : Nat) (x1 : Tm) : Option Tm := ((impl_counter.f 0).bind fun t4 => ((impl_node_mapped.f k x1 t4.1 t4.2).bind fun t21 => some t21.1))
theorem impl_renumbered.calls (k : Nat) (w : World) (H : Hp) (x1 : Tm) (g2 : Nat) (h3 : NodeR 125 H x1 (.pointer (some ⟨g2, 0, none⟩))) (S : Own [] H w) (r : Tm) (M : impl_renumbered.f k x1 = some r) :
    Calls Try.prog 67 #[.pointer (some ⟨g2, 0, none⟩)] w (fun e e_w => ∃ (g_1 : Nat) (H_ : Hp), e = .returned (.pointer (some ⟨g_1, 0, none⟩)) ∧ NodeR 125 H_ r (.pointer (some ⟨g_1, 0, none⟩)) ∧ St (anyOf []) H w [] H_ e_w) := by
  rw [impl_renumbered.f] at M
  refine enter (l := [.pointer (some ⟨g2, 0, none⟩)]) 6 Try.func67 rfl rfl rfl ?_
  have S0_ := S.st
  refine wp_seq ?_
  refine wp_region_lit ?_
  refine lv (d := 2) rfl rfl (by kernel_rfl) (e_assign (v := .pointer none) rfl) ?_
  refine wpList_nil ?_
  refine then_n ?_
  refine wp_seq ?_
  refine wp_region_lit ?_
  refine lv (d := 3) rfl rfl (by kernel_rfl) (e_move (v := .pointer (some ⟨g2, 0, none⟩)) (by kernel_rfl)) ?_
  obtain ⟨t4, u5, M⟩ := bnd M
  refine lcall (d := 4) rfl rfl (by kernel_rfl) (e_call (l := [.const (.int .i64 0)]) (vs := [.int .i64 0]) Try.func111 (by kernel_rfl) rfl (by kernel_rfl) rfl) (impl_counter.calls w H 0  (St.own' (Fa := []) (Fr := []) S0_) t4 u5) ?_
  rintro _ w6 ⟨g9, g11, g13, H7, rfl, h12, b10, b14, T8⟩
  refine ⟨_, rfl, ?_⟩
  obtain ⟨S15, K16⟩ := St.call (Fa := []) (Fr := []) S0_ T8
  have E17 := T8.ext
  have S18 := S15.pull (F := (is g13)) (Fr := [(is g9), (is g11)]) 2 rfl rfl
  have S19 := S18.pull (F := (is g9)) (Fr := [(is g13), (is g11)]) 1 rfl rfl
  have S20 := S19.pull (F := (is g11)) (Fr := [(is g9), (is g13)]) 2 rfl rfl
  obtain ⟨t21, u22, M⟩ := bnd M
  refine lcall (d := 5) rfl rfl (by kernel_rfl) (e_call (l := [.tmp 3, .tmp 4]) (vs := [.pointer (some ⟨g2, 0, none⟩), .func (.func 127) #[] #[.pointer (some ⟨g9, 0, none⟩), .pointer (some ⟨g13, 0, none⟩)]]) Try.func110 (by kernel_rfl) rfl (by kernel_rfl) rfl) (impl_node_mapped.calls k w6 H7 x1 g2 t4.1 g9 g11 t4.2 g13 (h3.ext' E17) h12 b10 b14 (St.own' (Fa := [(is g11), (is g9), (is g13)]) (Fr := []) S20) t21 u22) ?_
  rintro _ w23 ⟨g29, H24, rfl, h26, b27, b28, h30, T25⟩
  refine ⟨_, rfl, ?_⟩
  obtain ⟨S31, K32⟩ := St.call (Fa := [(is g11), (is g9), (is g13)]) (Fr := []) S20 T25
  have E33 := T25.ext
  refine lv (d := 2) rfl rfl (by kernel_rfl) (e_assign (v := .pointer (some ⟨g29, 0, none⟩)) (by kernel_rfl)) ?_
  refine wpList_nil ?_
  refine then_n ?_
  refine wp_ret ?_
  obtain rfl := Option.some.inj M
  have S34 := St.first (Fa := []) (Fr := [(is g9), (is g11), (is g13)]) S31
  exact ret1 rfl rfl  (show _ = .pointer (some ⟨g29, 0, none⟩) from (by kernel_rfl)) ⟨g29, H24, rfl, h30, S34⟩

/-! impl_compareInt -/
def impl_compareInt.f (x1 : Int) (x2 : Int) : Option Int := (if x1 < x2 then some (-1) else (if x1 > x2 then some 1 else some 0))
theorem impl_compareInt.calls (w : World) (H : Hp) (x1 : Int) (x2 : Int) (S : Own [] H w) (r : Int) (M : impl_compareInt.f x1 x2 = some r) :
    Calls Try.prog 106 #[.int .i64 x1, .int .i64 x2] w (fun e e_w => e = .returned (.int .i64 r) ∧ Chg no w e_w) := by
  rw [impl_compareInt.f] at M
  refine enter (l := [.int .i64 x1, .int .i64 x2]) 13 Try.func106 rfl rfl rfl ?_
  have S0_ := S.st
  refine wp_seq ?_
  refine wp_region_lit ?_
  refine lv (d := 4) rfl rfl (by kernel_rfl) (e_assign (v := .int .i64 0) rfl) ?_
  refine wpList_nil ?_
  refine then_n ?_
  refine wp_seq ?_
  refine wp_block ?_
  refine wp_seq ?_
  refine wp_region_lit ?_
  refine lv (d := 6) rfl rfl (by kernel_rfl) (e_move (v := .int .i64 x1) (by kernel_rfl)) ?_
  refine lv (d := 7) rfl rfl (by kernel_rfl) (e_move (v := .int .i64 x2) (by kernel_rfl)) ?_
  refine lv (d := 8) rfl rfl (by kernel_rfl) (e_lss (k := .i64) (a := x1) (b := x2) (by kernel_rfl) (by kernel_rfl)) ?_
  refine lv (d := 5) rfl rfl (by kernel_rfl) (e_assign (v := .bool (decide (x1 < x2))) (by kernel_rfl)) ?_
  refine wpList_nil ?_
  refine then_n ?_
  by_cases q3 : x1 < x2
  · replace M := ifp q3 M
    refine cond_t rfl (bt q3 (by kernel_rfl)) ?_
    refine wp_seq ?_
    refine wp_region_lit ?_
    refine lv (d := 4) rfl rfl (by kernel_rfl) (e_assign (v := .int .i64 (-1)) rfl) ?_
    refine wpList_nil ?_
    refine then_n ?_
    refine wp_ret ?_
    refine inb_r ?_
    refine then_r ?_
    obtain rfl := Option.some.inj M
    exact ret1 rfl rfl  (show _ = .int .i64 (-1) from (by kernel_rfl)) ⟨rfl, S0_.chg⟩
  replace M := ifn q3 M
  refine cond_f rfl (bf q3 (by kernel_rfl)) ?_
  refine wp_seq ?_
  refine wp_region_lit ?_
  refine lv (d := 10) rfl rfl (by kernel_rfl) (e_move (v := .int .i64 x1) (by kernel_rfl)) ?_
  refine lv (d := 11) rfl rfl (by kernel_rfl) (e_move (v := .int .i64 x2) (by kernel_rfl)) ?_
  refine lv (d := 12) rfl rfl (by kernel_rfl) (e_gtr (k := .i64) (a := x1) (b := x2) (by kernel_rfl) (by kernel_rfl)) ?_
  refine lv (d := 9) rfl rfl (by kernel_rfl) (e_assign (v := .bool (decide (x1 > x2))) (by kernel_rfl)) ?_
  refine wpList_nil ?_
  refine then_n ?_
  by_cases q4 : x1 > x2
  · replace M := ifp q4 M
    refine cond_t rfl (bt q4 (by kernel_rfl)) ?_
    refine wp_seq ?_
    refine wp_region_lit ?_
    refine lv (d := 4) rfl rfl (by kernel_rfl) (e_assign (v := .int .i64 1) rfl) ?_
    refine wpList_nil ?_
    refine then_n ?_
    refine wp_ret ?_
    refine inb_r ?_
    refine then_r ?_
    obtain rfl := Option.some.inj M
    exact ret1 rfl rfl  (show _ = .int .i64 1 from (by kernel_rfl)) ⟨rfl, S0_.chg⟩
  replace M := ifn q4 M
  refine cond_f rfl (bf q4 (by kernel_rfl)) ?_
  refine wp_skip ?_
  refine inb_n ?_
  refine then_n ?_
  refine wp_seq ?_
  refine wp_region_lit ?_
  refine lv (d := 4) rfl rfl (by kernel_rfl) (e_assign (v := .int .i64 0) rfl) ?_
  refine wpList_nil ?_
  refine then_n ?_
  refine wp_ret ?_
  obtain rfl := Option.some.inj M
  exact ret1 rfl rfl  (show _ = .int .i64 0 from (by kernel_rfl)) ⟨rfl, S0_.chg⟩

/-! impl_compareText -/
def impl_compareText.f (x1 : List UInt8) (x2 : List UInt8) : Option Int := (if (Op.bytesLess x1 x2) = true then some (-1) else (if (!(Op.bytesLess x1 x2 || x1 == x2)) = true then some 1 else some 0))
theorem impl_compareText.calls (w : World) (H : Hp) (x1 : List UInt8) (x2 : List UInt8) (S : Own [] H w) (r : Int) (M : impl_compareText.f x1 x2 = some r) :
    Calls Try.prog 107 #[str x1, str x2] w (fun e e_w => e = .returned (.int .i64 r) ∧ Chg no w e_w) := by
  rw [impl_compareText.f] at M
  refine enter (l := [str x1, str x2]) 13 Try.func107 rfl rfl rfl ?_
  have S0_ := S.st
  refine wp_seq ?_
  refine wp_region_lit ?_
  refine lv (d := 4) rfl rfl (by kernel_rfl) (e_assign (v := .int .i64 0) rfl) ?_
  refine wpList_nil ?_
  refine then_n ?_
  refine wp_seq ?_
  refine wp_block ?_
  refine wp_seq ?_
  refine wp_region_lit ?_
  refine lv (d := 6) rfl rfl (by kernel_rfl) (e_move (v := str x1) (by kernel_rfl)) ?_
  refine lv (d := 7) rfl rfl (by kernel_rfl) (e_move (v := str x2) (by kernel_rfl)) ?_
  refine lv (d := 8) rfl rfl (by kernel_rfl) (e_slss (p := x1) (q := x2) (by kernel_rfl) (by kernel_rfl)) ?_
  refine lv (d := 5) rfl rfl (by kernel_rfl) (e_assign (v := .bool (Op.bytesLess x1 x2)) (by kernel_rfl)) ?_
  refine wpList_nil ?_
  refine then_n ?_
  by_cases q3 : (Op.bytesLess x1 x2) = true
  · replace M := ifp q3 M
    refine cond_t rfl (bvt q3 (by kernel_rfl)) ?_
    refine wp_seq ?_
    refine wp_region_lit ?_
    refine lv (d := 4) rfl rfl (by kernel_rfl) (e_assign (v := .int .i64 (-1)) rfl) ?_
    refine wpList_nil ?_
    refine then_n ?_
    refine wp_ret ?_
    refine inb_r ?_
    refine then_r ?_
    obtain rfl := Option.some.inj M
    exact ret1 rfl rfl  (show _ = .int .i64 (-1) from (by kernel_rfl)) ⟨rfl, S0_.chg⟩
  replace M := ifn q3 M
  refine cond_f rfl (bvf q3 (by kernel_rfl)) ?_
  refine wp_seq ?_
  refine wp_region_lit ?_
  refine lv (d := 10) rfl rfl (by kernel_rfl) (e_move (v := str x1) (by kernel_rfl)) ?_
  refine lv (d := 11) rfl rfl (by kernel_rfl) (e_move (v := str x2) (by kernel_rfl)) ?_
  refine lv (d := 12) rfl rfl (by kernel_rfl) (e_sgtr (p := x1) (q := x2) (by kernel_rfl) (by kernel_rfl)) ?_
  refine lv (d := 9) rfl rfl (by kernel_rfl) (e_assign (v := .bool (!(Op.bytesLess x1 x2 || x1 == x2))) (by kernel_rfl)) ?_
  refine wpList_nil ?_
  refine then_n ?_
  by_cases q4 : (!(Op.bytesLess x1 x2 || x1 == x2)) = true
  · replace M := ifp q4 M
    refine cond_t rfl (bvt q4 (by kernel_rfl)) ?_
    refine wp_seq ?_
    refine wp_region_lit ?_
    refine lv (d := 4) rfl rfl (by kernel_rfl) (e_assign (v := .int .i64 1) rfl) ?_
    refine wpList_nil ?_
    refine then_n ?_
    refine wp_ret ?_
    refine inb_r ?_
    refine then_r ?_
    obtain rfl := Option.some.inj M
    exact ret1 rfl rfl  (show _ = .int .i64 1 from (by kernel_rfl)) ⟨rfl, S0_.chg⟩
  replace M := ifn q4 M
  refine cond_f rfl (bvf q4 (by kernel_rfl)) ?_
  refine wp_skip ?_
  refine inb_n ?_
  refine then_n ?_
  refine wp_seq ?_
  refine wp_region_lit ?_
  refine lv (d := 4) rfl rfl (by kernel_rfl) (e_assign (v := .int .i64 0) rfl) ?_
  refine wpList_nil ?_
  refine then_n ?_
  refine wp_ret ?_
  obtain rfl := Option.some.inj M
  exact ret1 rfl rfl  (show _ = .int .i64 0 from (by kernel_rfl)) ⟨rfl, S0_.chg⟩

/-! impl_compare -/
mutual
def impl_compare.l0 : Nat → Tm → Tm → Bool → Option Int
  | 0, _, _, _ => none
  | k44 + 1, x1, x4, x35 => (if x35 = true then ((impl_compareInt.f x1.n x4.n).bind fun t48 => some t48) else (if x1.kind = 2 then ((impl_compareText.f x1.text x4.text).bind fun t55 => some t55) else (if x1.n ≠ x4.n then ((impl_compareInt.f x1.n x4.n).bind fun t65 => some t65) else (if x1.text ≠ x4.text then ((impl_compareText.f x1.text x4.text).bind fun t75 => some t75) else (impl_compare.l1 k44 x1 x4 0)))))
def impl_compare.l1 : Nat → Tm → Tm → Int → Option Int
  | 0, _, _, _ => none
  | k93 + 1, x1, x4, x83 => (if x83 < (x1.args.length : Int) then (if 0 ≤ x83 then (if x83 < (x4.args.length : Int) then ((impl_compare.f k93 (x1.args.getD ((x83).toNat) (Tm.mk 0 0 [] [])) (x4.args.getD ((x83).toNat) (Tm.mk 0 0 [] []))).bind fun t115 => (if t115 ≠ 0 then some t115 else (impl_compare.l1 k93 x1 x4 (IntKind.i64.wrap (x83 + 1))))) else none) else none) else some 0)
def impl_compare.f : Nat → Tm → Tm → Option Int
  | 0, _, _ => none
  | k1_ + 1, x1, x4 => (if x1.kind ≠ x4.kind then ((impl_compareInt.f x1.kind x4.kind).bind fun t27 => some t27) else (if x1.kind = 0 then (impl_compare.l0 k1_ x1 x4 (decide (x1.kind = 0))) else (impl_compare.l0 k1_ x1 x4 (decide (x1.kind = 1)))))
end
theorem impl_compare.all : ∀ (K : Nat), (∀ (k : Nat), k < K → ∀ (w : World) (H : Hp) (x1 : Tm) (g2 : Nat) (x4 : Tm) (g5 : Nat) (h3 : NodeR 125 H x1 (.pointer (some ⟨g2, 0, none⟩))) (h6 : NodeR 125 H x4 (.pointer (some ⟨g5, 0, none⟩))) (S : Own [] H w) (r : Int) (M : impl_compare.f k x1 x4 = some r), Calls Try.prog 61 #[.pointer (some ⟨g2, 0, none⟩), .pointer (some ⟨g5, 0, none⟩)] w (fun e e_w => e = .returned (.int .i64 r) ∧ Chg no w e_w)) := by
  intro K
  induction K with
  | zero => intro k hk; omega
  | succ K ih =>
    intro k hk w H x1 g2 x4 g5 h3 h6 S r M
    rcases k with _ | k1_
    · rw [impl_compare.f] at M
      cases M
    rw [impl_compare.f] at M
    refine enter (l := [.pointer (some ⟨g2, 0, none⟩), .pointer (some ⟨g5, 0, none⟩)]) 115 Try.func61 rfl rfl rfl ?_
    have S0_ := S.st
    refine wp_seq ?_
    refine wp_region_lit ?_
    refine lv (d := 4) rfl rfl (by kernel_rfl) (e_assign (v := .int .i64 0) rfl) ?_
    refine wpList_nil ?_
    refine then_n ?_
    refine wp_seq ?_
    refine wp_seq ?_
    refine region_still (by kernel_rfl) (by kernel_rfl) S0_ ?_
    intro w7 S8 K9
    refine sv (d := 7) rfl rfl (by kernel_rfl) (e_move (v := .pointer (some ⟨g2, 0, none⟩)) (by kernel_rfl)) ?_
    refine sv (d := 8) rfl rfl (by kernel_rfl) (e_nilCheck (ad := ⟨g2, 0, none⟩) (by kernel_rfl)) ?_
    refine sv (d := 9) rfl rfl (by kernel_rfl) (e_fieldAddr (b := g2) (off := 0) (o := 0) Try.underlying125 rfl rfl (sz := 1) (by kernel_rfl) (by decide) (by kernel_rfl)) ?_
    obtain ⟨A10, c11, y12, q13, h14, h15, l16, h17⟩ := node_open h3
    refine sv (d := 10) rfl rfl (by kernel_rfl) (e_load1 (ad := ⟨g2, 0 + 0, none⟩) (v := .int .i64 x1.kind) Try.underlying3 rfl (by kernel_rfl) (blk_cells (S8.inv _ _ h14) h15 0 _ rfl)) ?_
    refine sv (d := 11) rfl rfl (by kernel_rfl) (e_move (v := .pointer (some ⟨g5, 0, none⟩)) (by kernel_rfl)) ?_
    refine sv (d := 12) rfl rfl (by kernel_rfl) (e_nilCheck (ad := ⟨g5, 0, none⟩) (by kernel_rfl)) ?_
    refine sv (d := 13) rfl rfl (by kernel_rfl) (e_fieldAddr (b := g5) (off := 0) (o := 0) Try.underlying125 rfl rfl (sz := 1) (by kernel_rfl) (by decide) (by kernel_rfl)) ?_
    obtain ⟨A18, c19, y20, q21, h22, h23, l24, h25⟩ := node_open h6
    refine sv (d := 14) rfl rfl (by kernel_rfl) (e_load1 (ad := ⟨g5, 0 + 0, none⟩) (v := .int .i64 x4.kind) Try.underlying3 rfl (by kernel_rfl) (blk_cells (S8.inv _ _ h22) h23 0 _ rfl)) ?_
    refine sv (d := 15) rfl rfl (by kernel_rfl) (e_neq (k := .i64) (a := x1.kind) (b := x4.kind) (by kernel_rfl) (by kernel_rfl)) ?_
    refine wpStill_nil ?_
    refine then_n ?_
    by_cases q26 : x1.kind ≠ x4.kind
    · replace M := ifp q26 M
      refine cond_t rfl (bt q26 (by kernel_rfl)) ?_
      refine wp_seq ?_
      refine region_quiet (by kernel_rfl) (by kernel_rfl) ?_
      refine qv (d := 16) rfl rfl (by kernel_rfl) (fun wq_ hq_ => e_move (v := .pointer (some ⟨g2, 0, none⟩)) (by kernel_rfl)) ?_
      refine qv (d := 17) rfl rfl (by kernel_rfl) (fun wq_ hq_ => e_nilCheck (ad := ⟨g2, 0, none⟩) (by kernel_rfl)) ?_
      refine qv (d := 18) rfl rfl (by kernel_rfl) (fun wq_ hq_ => e_fieldAddr (b := g2) (off := 0) (o := 0) Try.underlying125 rfl rfl (sz := 1) (by kernel_rfl) (by decide) (by kernel_rfl)) ?_
      refine qv (d := 19) rfl rfl (by kernel_rfl) (fun wq_ hq_ => e_load1 (ad := ⟨g2, 0 + 0, none⟩) (v := .int .i64 x1.kind) Try.underlying3 rfl (by kernel_rfl) (blk_cells ((S8.still hq_).1.inv _ _ h14) h15 0 _ rfl)) ?_
      refine qv (d := 20) rfl rfl (by kernel_rfl) (fun wq_ hq_ => e_move (v := .pointer (some ⟨g5, 0, none⟩)) (by kernel_rfl)) ?_
      refine qv (d := 21) rfl rfl (by kernel_rfl) (fun wq_ hq_ => e_nilCheck (ad := ⟨g5, 0, none⟩) (by kernel_rfl)) ?_
      refine qv (d := 22) rfl rfl (by kernel_rfl) (fun wq_ hq_ => e_fieldAddr (b := g5) (off := 0) (o := 0) Try.underlying125 rfl rfl (sz := 1) (by kernel_rfl) (by decide) (by kernel_rfl)) ?_
      refine qv (d := 23) rfl rfl (by kernel_rfl) (fun wq_ hq_ => e_load1 (ad := ⟨g5, 0 + 0, none⟩) (v := .int .i64 x4.kind) Try.underlying3 rfl (by kernel_rfl) (blk_cells ((S8.still hq_).1.inv _ _ h22) h23 0 _ rfl)) ?_
      obtain ⟨t27, u28, M⟩ := bnd M
      refine qcall (v := .int .i64 t27) (d := 24) rfl rfl (by kernel_rfl) (fun w_ => e_call (l := [.tmp 19, .tmp 23]) (vs := [.int .i64 x1.kind, .int .i64 x4.kind]) Try.func106 (by kernel_rfl) rfl (by kernel_rfl) rfl) (fun wq_ hq_ => (by obtain ⟨S_, K_⟩ := S8.still hq_; exact (impl_compareInt.calls wq_ H x1.kind x4.kind  S_.own0 t27 u28))) ?_
      refine qv (d := 4) rfl rfl (by kernel_rfl) (fun wq_ hq_ => e_assign (v := .int .i64 t27) (by kernel_rfl)) ?_
      refine wpQuiet_nil ?_
      intro w29 C32
      obtain ⟨S30, K31⟩ := S8.still C32
      refine then_n ?_
      refine wp_ret ?_
      refine then_r ?_
      obtain rfl := Option.some.inj M
      exact ret1 rfl rfl  (show _ = .int .i64 t27 from (by kernel_rfl)) ⟨rfl, S30.chg⟩
    replace M := ifn q26 M
    refine cond_f rfl (bf q26 (by kernel_rfl)) ?_
    refine wp_skip ?_
    refine then_n ?_
    refine wp_seq ?_
    refine wp_seq ?_
    refine wp_region_lit ?_
    refine lv (d := 25) rfl rfl (by kernel_rfl) (e_move (v := .pointer (some ⟨g2, 0, none⟩)) (by kernel_rfl)) ?_
    refine lv (d := 26) rfl rfl (by kernel_rfl) (e_nilCheck (ad := ⟨g2, 0, none⟩) (by kernel_rfl)) ?_
    refine lv (d := 27) rfl rfl (by kernel_rfl) (e_fieldAddr (b := g2) (off := 0) (o := 0) Try.underlying125 rfl rfl (sz := 1) (by kernel_rfl) (by decide) (by kernel_rfl)) ?_
    refine lv (d := 28) rfl rfl (by kernel_rfl) (e_load1 (ad := ⟨g2, 0 + 0, none⟩) (v := .int .i64 x1.kind) Try.underlying3 rfl (by kernel_rfl) (blk_cells (S8.inv _ _ h14) h15 0 _ rfl)) ?_
    refine wpList_nil ?_
    refine then_n ?_
    refine wp_block ?_
    refine wp_seq_cut (fun a43 w33 => ∃ (k45 : Nat), k45 ≤ k1_ ∧ ∃ (f34 : Nat → Value) (x35 : Bool), k45 < K ∧ a43 = mk 115 f34 ∧ f34 0 = .pointer (some ⟨g2, 0, none⟩) ∧ f34 1 = .pointer (some ⟨g5, 0, none⟩) ∧ f34 28 = .int .i64 x1.kind ∧ f34 29 = .bool x35 ∧ St (anyOf []) H w [] H w33 ∧ impl_compare.l0 k45 x1 x4 x35 = some r) ?_ ?_
    · refine wp_seq ?_
      refine wp_region_lit ?_
      refine lv (d := 30) rfl rfl (by kernel_rfl) (e_eql (k := .i64) (a := x1.kind) (b := 0) (by kernel_rfl) rfl) ?_
      refine lv (d := 29) rfl rfl (by kernel_rfl) (e_assign (v := .bool (decide (x1.kind = 0))) (by kernel_rfl)) ?_
      refine wpList_nil ?_
      refine then_n ?_
      by_cases q46 : x1.kind = 0
      · replace M := ifp q46 M
        refine cond_t rfl (bt q46 (by kernel_rfl)) ?_
        refine wp_skip ?_
        refine then_n ?_
        exact ⟨k1_, (by omega), _, (decide (x1.kind = 0)), (by omega), rfl, (by kernel_rfl), (by kernel_rfl), (by kernel_rfl), (by kernel_rfl), S8, M⟩
      replace M := ifn q46 M
      refine cond_f rfl (bf q46 (by kernel_rfl)) ?_
      refine wp_region_lit ?_
      refine lv (d := 31) rfl rfl (by kernel_rfl) (e_eql (k := .i64) (a := x1.kind) (b := 1) (by kernel_rfl) rfl) ?_
      refine lv (d := 29) rfl rfl (by kernel_rfl) (e_assign (v := .bool (decide (x1.kind = 1))) (by kernel_rfl)) ?_
      refine wpList_nil ?_
      refine then_n ?_
      exact ⟨k1_, (by omega), _, (decide (x1.kind = 1)), (by omega), rfl, (by kernel_rfl), (by kernel_rfl), (by kernel_rfl), (by kernel_rfl), S8, M⟩
    clear M
    rintro a43 w33 ⟨k45, z122, f34, x35, z41, rfl, e36, e37, e38, e39, S40, M⟩
    rcases k45 with _ | k44
    · rw [impl_compare.l0] at M
      cases M
    rw [impl_compare.l0] at M
    by_cases q47 : x35 = true
    · replace M := ifp q47 M
      refine cond_t rfl (bvt q47 (by exact e39)) ?_
      refine wp_seq ?_
      refine region_quiet (by kernel_rfl) (by kernel_rfl) ?_
      refine qv (d := 32) rfl rfl (by kernel_rfl) (fun wq_ hq_ => e_move (v := .pointer (some ⟨g2, 0, none⟩)) (by exact e36)) ?_
      refine qv (d := 33) rfl rfl (by kernel_rfl) (fun wq_ hq_ => e_nilCheck (ad := ⟨g2, 0, none⟩) (by kernel_rfl)) ?_
      refine qv (d := 34) rfl rfl (by kernel_rfl) (fun wq_ hq_ => e_fieldAddr (b := g2) (off := 0) (o := 1) Try.underlying125 rfl rfl (sz := 1) (by kernel_rfl) (by decide) (by kernel_rfl)) ?_
      refine qv (d := 35) rfl rfl (by kernel_rfl) (fun wq_ hq_ => e_load1 (ad := ⟨g2, 0 + 1, none⟩) (v := .int .i64 x1.n) Try.underlying3 rfl (by kernel_rfl) (blk_cells ((S40.still hq_).1.inv _ _ h14) h15 1 _ rfl)) ?_
      refine qv (d := 36) rfl rfl (by kernel_rfl) (fun wq_ hq_ => e_move (v := .pointer (some ⟨g5, 0, none⟩)) (by exact e37)) ?_
      refine qv (d := 37) rfl rfl (by kernel_rfl) (fun wq_ hq_ => e_nilCheck (ad := ⟨g5, 0, none⟩) (by kernel_rfl)) ?_
      refine qv (d := 38) rfl rfl (by kernel_rfl) (fun wq_ hq_ => e_fieldAddr (b := g5) (off := 0) (o := 1) Try.underlying125 rfl rfl (sz := 1) (by kernel_rfl) (by decide) (by kernel_rfl)) ?_
      refine qv (d := 39) rfl rfl (by kernel_rfl) (fun wq_ hq_ => e_load1 (ad := ⟨g5, 0 + 1, none⟩) (v := .int .i64 x4.n) Try.underlying3 rfl (by kernel_rfl) (blk_cells ((S40.still hq_).1.inv _ _ h22) h23 1 _ rfl)) ?_
      obtain ⟨t48, u49, M⟩ := bnd M
      refine qcall (v := .int .i64 t48) (d := 40) rfl rfl (by kernel_rfl) (fun w_ => e_call (l := [.tmp 35, .tmp 39]) (vs := [.int .i64 x1.n, .int .i64 x4.n]) Try.func106 (by kernel_rfl) rfl (by kernel_rfl) rfl) (fun wq_ hq_ => (by obtain ⟨S_, K_⟩ := S40.still hq_; exact (impl_compareInt.calls wq_ H x1.n x4.n  S_.own0 t48 u49))) ?_
      refine qv (d := 4) rfl rfl (by kernel_rfl) (fun wq_ hq_ => e_assign (v := .int .i64 t48) (by kernel_rfl)) ?_
      refine wpQuiet_nil ?_
      intro w50 C53
      obtain ⟨S51, K52⟩ := S40.still C53
      refine then_n ?_
      refine wp_ret ?_
      refine inb_r ?_
      refine then_r ?_
      obtain rfl := Option.some.inj M
      exact ret1 rfl rfl  (show _ = .int .i64 t48 from (by kernel_rfl)) ⟨rfl, S51.chg⟩
    replace M := ifn q47 M
    refine cond_f rfl (bvf q47 (by exact e39)) ?_
    refine wp_seq ?_
    refine wp_region_lit ?_
    refine lv (d := 42) rfl rfl (by kernel_rfl) (e_eql (k := .i64) (a := x1.kind) (b := 2) (by exact e38) rfl) ?_
    refine lv (d := 41) rfl rfl (by kernel_rfl) (e_assign (v := .bool (decide (x1.kind = 2))) (by kernel_rfl)) ?_
    refine wpList_nil ?_
    refine then_n ?_
    by_cases q54 : x1.kind = 2
    · replace M := ifp q54 M
      refine cond_t rfl (bt q54 (by kernel_rfl)) ?_
      refine wp_seq ?_
      refine region_quiet (by kernel_rfl) (by kernel_rfl) ?_
      refine qv (d := 43) rfl rfl (by kernel_rfl) (fun wq_ hq_ => e_move (v := .pointer (some ⟨g2, 0, none⟩)) (by exact e36)) ?_
      refine qv (d := 44) rfl rfl (by kernel_rfl) (fun wq_ hq_ => e_nilCheck (ad := ⟨g2, 0, none⟩) (by kernel_rfl)) ?_
      refine qv (d := 45) rfl rfl (by kernel_rfl) (fun wq_ hq_ => e_fieldAddr (b := g2) (off := 0) (o := 2) Try.underlying125 rfl rfl (sz := 1) (by kernel_rfl) (by decide) (by kernel_rfl)) ?_
      refine qv (d := 46) rfl rfl (by kernel_rfl) (fun wq_ hq_ => e_load1 (ad := ⟨g2, 0 + 2, none⟩) (v := str x1.text) Try.underlying9 rfl (by kernel_rfl) (blk_cells ((S40.still hq_).1.inv _ _ h14) h15 2 _ rfl)) ?_
      refine qv (d := 47) rfl rfl (by kernel_rfl) (fun wq_ hq_ => e_move (v := .pointer (some ⟨g5, 0, none⟩)) (by exact e37)) ?_
      refine qv (d := 48) rfl rfl (by kernel_rfl) (fun wq_ hq_ => e_nilCheck (ad := ⟨g5, 0, none⟩) (by kernel_rfl)) ?_
      refine qv (d := 49) rfl rfl (by kernel_rfl) (fun wq_ hq_ => e_fieldAddr (b := g5) (off := 0) (o := 2) Try.underlying125 rfl rfl (sz := 1) (by kernel_rfl) (by decide) (by kernel_rfl)) ?_
      refine qv (d := 50) rfl rfl (by kernel_rfl) (fun wq_ hq_ => e_load1 (ad := ⟨g5, 0 + 2, none⟩) (v := str x4.text) Try.underlying9 rfl (by kernel_rfl) (blk_cells ((S40.still hq_).1.inv _ _ h22) h23 2 _ rfl)) ?_
      obtain ⟨t55, u56, M⟩ := bnd M
      refine qcall (v := .int .i64 t55) (d := 51) rfl rfl (by kernel_rfl) (fun w_ => e_call (l := [.tmp 46, .tmp 50]) (vs := [str x1.text, str x4.text]) Try.func107 (by kernel_rfl) rfl (by kernel_rfl) rfl) (fun wq_ hq_ => (by obtain ⟨S_, K_⟩ := S40.still hq_; exact (impl_compareText.calls wq_ H x1.text x4.text  S_.own0 t55 u56))) ?_
      refine qv (d := 4) rfl rfl (by kernel_rfl) (fun wq_ hq_ => e_assign (v := .int .i64 t55) (by kernel_rfl)) ?_
      refine wpQuiet_nil ?_
      intro w57 C60
      obtain ⟨S58, K59⟩ := S40.still C60
      refine then_n ?_
      refine wp_ret ?_
      refine inb_r ?_
      refine then_r ?_
      obtain rfl := Option.some.inj M
      exact ret1 rfl rfl  (show _ = .int .i64 t55 from (by kernel_rfl)) ⟨rfl, S58.chg⟩
    replace M := ifn q54 M
    refine cond_f rfl (bf q54 (by kernel_rfl)) ?_
    refine wp_skip ?_
    refine inb_n ?_
    refine then_n ?_
    refine wp_seq ?_
    refine wp_seq ?_
    refine region_still (by kernel_rfl) (by kernel_rfl) S40 ?_
    intro w61 S62 K63
    refine sv (d := 52) rfl rfl (by kernel_rfl) (e_move (v := .pointer (some ⟨g2, 0, none⟩)) (by exact e36)) ?_
    refine sv (d := 53) rfl rfl (by kernel_rfl) (e_nilCheck (ad := ⟨g2, 0, none⟩) (by kernel_rfl)) ?_
    refine sv (d := 54) rfl rfl (by kernel_rfl) (e_fieldAddr (b := g2) (off := 0) (o := 1) Try.underlying125 rfl rfl (sz := 1) (by kernel_rfl) (by decide) (by kernel_rfl)) ?_
    refine sv (d := 55) rfl rfl (by kernel_rfl) (e_load1 (ad := ⟨g2, 0 + 1, none⟩) (v := .int .i64 x1.n) Try.underlying3 rfl (by kernel_rfl) (blk_cells (S62.inv _ _ h14) h15 1 _ rfl)) ?_
    refine sv (d := 56) rfl rfl (by kernel_rfl) (e_move (v := .pointer (some ⟨g5, 0, none⟩)) (by exact e37)) ?_
    refine sv (d := 57) rfl rfl (by kernel_rfl) (e_nilCheck (ad := ⟨g5, 0, none⟩) (by kernel_rfl)) ?_
    refine sv (d := 58) rfl rfl (by kernel_rfl) (e_fieldAddr (b := g5) (off := 0) (o := 1) Try.underlying125 rfl rfl (sz := 1) (by kernel_rfl) (by decide) (by kernel_rfl)) ?_
    refine sv (d := 59) rfl rfl (by kernel_rfl) (e_load1 (ad := ⟨g5, 0 + 1, none⟩) (v := .int .i64 x4.n) Try.underlying3 rfl (by kernel_rfl) (blk_cells (S62.inv _ _ h22) h23 1 _ rfl)) ?_
    refine sv (d := 60) rfl rfl (by kernel_rfl) (e_neq (k := .i64) (a := x1.n) (b := x4.n) (by kernel_rfl) (by kernel_rfl)) ?_
    refine wpStill_nil ?_
    refine then_n ?_
    by_cases q64 : x1.n ≠ x4.n
    · replace M := ifp q64 M
      refine cond_t rfl (bt q64 (by kernel_rfl)) ?_
      refine wp_seq ?_
      refine region_quiet (by kernel_rfl) (by kernel_rfl) ?_
      refine qv (d := 61) rfl rfl (by kernel_rfl) (fun wq_ hq_ => e_move (v := .pointer (some ⟨g2, 0, none⟩)) (by exact e36)) ?_
      refine qv (d := 62) rfl rfl (by kernel_rfl) (fun wq_ hq_ => e_nilCheck (ad := ⟨g2, 0, none⟩) (by kernel_rfl)) ?_
      refine qv (d := 63) rfl rfl (by kernel_rfl) (fun wq_ hq_ => e_fieldAddr (b := g2) (off := 0) (o := 1) Try.underlying125 rfl rfl (sz := 1) (by kernel_rfl) (by decide) (by kernel_rfl)) ?_
      refine qv (d := 64) rfl rfl (by kernel_rfl) (fun wq_ hq_ => e_load1 (ad := ⟨g2, 0 + 1, none⟩) (v := .int .i64 x1.n) Try.underlying3 rfl (by kernel_rfl) (blk_cells ((S62.still hq_).1.inv _ _ h14) h15 1 _ rfl)) ?_
      refine qv (d := 65) rfl rfl (by kernel_rfl) (fun wq_ hq_ => e_move (v := .pointer (some ⟨g5, 0, none⟩)) (by exact e37)) ?_
      refine qv (d := 66) rfl rfl (by kernel_rfl) (fun wq_ hq_ => e_nilCheck (ad := ⟨g5, 0, none⟩) (by kernel_rfl)) ?_
      refine qv (d := 67) rfl rfl (by kernel_rfl) (fun wq_ hq_ => e_fieldAddr (b := g5) (off := 0) (o := 1) Try.underlying125 rfl rfl (sz := 1) (by kernel_rfl) (by decide) (by kernel_rfl)) ?_
      refine qv (d := 68) rfl rfl (by kernel_rfl) (fun wq_ hq_ => e_load1 (ad := ⟨g5, 0 + 1, none⟩) (v := .int .i64 x4.n) Try.underlying3 rfl (by kernel_rfl) (blk_cells ((S62.still hq_).1.inv _ _ h22) h23 1 _ rfl)) ?_
      obtain ⟨t65, u66, M⟩ := bnd M
      refine qcall (v := .int .i64 t65) (d := 69) rfl rfl (by kernel_rfl) (fun w_ => e_call (l := [.tmp 64, .tmp 68]) (vs := [.int .i64 x1.n, .int .i64 x4.n]) Try.func106 (by kernel_rfl) rfl (by kernel_rfl) rfl) (fun wq_ hq_ => (by obtain ⟨S_, K_⟩ := S62.still hq_; exact (impl_compareInt.calls wq_ H x1.n x4.n  S_.own0 t65 u66))) ?_
      refine qv (d := 4) rfl rfl (by kernel_rfl) (fun wq_ hq_ => e_assign (v := .int .i64 t65) (by kernel_rfl)) ?_
      refine wpQuiet_nil ?_
      intro w67 C70
      obtain ⟨S68, K69⟩ := S62.still C70
      refine then_n ?_
      refine wp_ret ?_
      refine then_r ?_
      obtain rfl := Option.some.inj M
      exact ret1 rfl rfl  (show _ = .int .i64 t65 from (by kernel_rfl)) ⟨rfl, S68.chg⟩
    replace M := ifn q64 M
    refine cond_f rfl (bf q64 (by kernel_rfl)) ?_
    refine wp_skip ?_
    refine then_n ?_
    refine wp_seq ?_
    refine wp_seq ?_
    refine region_still (by kernel_rfl) (by kernel_rfl) S62 ?_
    intro w71 S72 K73
    refine sv (d := 70) rfl rfl (by kernel_rfl) (e_move (v := .pointer (some ⟨g2, 0, none⟩)) (by exact e36)) ?_
    refine sv (d := 71) rfl rfl (by kernel_rfl) (e_nilCheck (ad := ⟨g2, 0, none⟩) (by kernel_rfl)) ?_
    refine sv (d := 72) rfl rfl (by kernel_rfl) (e_fieldAddr (b := g2) (off := 0) (o := 2) Try.underlying125 rfl rfl (sz := 1) (by kernel_rfl) (by decide) (by kernel_rfl)) ?_
    refine sv (d := 73) rfl rfl (by kernel_rfl) (e_load1 (ad := ⟨g2, 0 + 2, none⟩) (v := str x1.text) Try.underlying9 rfl (by kernel_rfl) (blk_cells (S72.inv _ _ h14) h15 2 _ rfl)) ?_
    refine sv (d := 74) rfl rfl (by kernel_rfl) (e_move (v := .pointer (some ⟨g5, 0, none⟩)) (by exact e37)) ?_
    refine sv (d := 75) rfl rfl (by kernel_rfl) (e_nilCheck (ad := ⟨g5, 0, none⟩) (by kernel_rfl)) ?_
    refine sv (d := 76) rfl rfl (by kernel_rfl) (e_fieldAddr (b := g5) (off := 0) (o := 2) Try.underlying125 rfl rfl (sz := 1) (by kernel_rfl) (by decide) (by kernel_rfl)) ?_
    refine sv (d := 77) rfl rfl (by kernel_rfl) (e_load1 (ad := ⟨g5, 0 + 2, none⟩) (v := str x4.text) Try.underlying9 rfl (by kernel_rfl) (blk_cells (S72.inv _ _ h22) h23 2 _ rfl)) ?_
    refine sv (d := 78) rfl rfl (by kernel_rfl) (e_sneq (p := x1.text) (q := x4.text) (by kernel_rfl) (by kernel_rfl)) ?_
    refine wpStill_nil ?_
    refine then_n ?_
    by_cases q74 : x1.text ≠ x4.text
    · replace M := ifp q74 M
      refine cond_t rfl (bt q74 (by kernel_rfl)) ?_
      refine wp_seq ?_
      refine region_quiet (by kernel_rfl) (by kernel_rfl) ?_
      refine qv (d := 79) rfl rfl (by kernel_rfl) (fun wq_ hq_ => e_move (v := .pointer (some ⟨g2, 0, none⟩)) (by exact e36)) ?_
      refine qv (d := 80) rfl rfl (by kernel_rfl) (fun wq_ hq_ => e_nilCheck (ad := ⟨g2, 0, none⟩) (by kernel_rfl)) ?_
      refine qv (d := 81) rfl rfl (by kernel_rfl) (fun wq_ hq_ => e_fieldAddr (b := g2) (off := 0) (o := 2) Try.underlying125 rfl rfl (sz := 1) (by kernel_rfl) (by decide) (by kernel_rfl)) ?_
      refine qv (d := 82) rfl rfl (by kernel_rfl) (fun wq_ hq_ => e_load1 (ad := ⟨g2, 0 + 2, none⟩) (v := str x1.text) Try.underlying9 rfl (by kernel_rfl) (blk_cells ((S72.still hq_).1.inv _ _ h14) h15 2 _ rfl)) ?_
      refine qv (d := 83) rfl rfl (by kernel_rfl) (fun wq_ hq_ => e_move (v := .pointer (some ⟨g5, 0, none⟩)) (by exact e37)) ?_
      refine qv (d := 84) rfl rfl (by kernel_rfl) (fun wq_ hq_ => e_nilCheck (ad := ⟨g5, 0, none⟩) (by kernel_rfl)) ?_
      refine qv (d := 85) rfl rfl (by kernel_rfl) (fun wq_ hq_ => e_fieldAddr (b := g5) (off := 0) (o := 2) Try.underlying125 rfl rfl (sz := 1) (by kernel_rfl) (by decide) (by kernel_rfl)) ?_
      refine qv (d := 86) rfl rfl (by kernel_rfl) (fun wq_ hq_ => e_load1 (ad := ⟨g5, 0 + 2, none⟩) (v := str x4.text) Try.underlying9 rfl (by kernel_rfl) (blk_cells ((S72.still hq_).1.inv _ _ h22) h23 2 _ rfl)) ?_
      obtain ⟨t75, u76, M⟩ := bnd M
      refine qcall (v := .int .i64 t75) (d := 87) rfl rfl (by kernel_rfl) (fun w_ => e_call (l := [.tmp 82, .tmp 86]) (vs := [str x1.text, str x4.text]) Try.func107 (by kernel_rfl) rfl (by kernel_rfl) rfl) (fun wq_ hq_ => (by obtain ⟨S_, K_⟩ := S72.still hq_; exact (impl_compareText.calls wq_ H x1.text x4.text  S_.own0 t75 u76))) ?_
      refine qv (d := 4) rfl rfl (by kernel_rfl) (fun wq_ hq_ => e_assign (v := .int .i64 t75) (by kernel_rfl)) ?_
      refine wpQuiet_nil ?_
      intro w77 C80
      obtain ⟨S78, K79⟩ := S72.still C80
      refine then_n ?_
      refine wp_ret ?_
      refine then_r ?_
      obtain rfl := Option.some.inj M
      exact ret1 rfl rfl  (show _ = .int .i64 t75 from (by kernel_rfl)) ⟨rfl, S78.chg⟩
    replace M := ifn q74 M
    refine cond_f rfl (bf q74 (by kernel_rfl)) ?_
    refine wp_skip ?_
    refine then_n ?_
    refine wp_seq ?_
    refine wp_seq ?_
    refine wp_region_lit ?_
    refine lv (d := 88) rfl rfl (by kernel_rfl) (e_move (v := .pointer (some ⟨g2, 0, none⟩)) (by exact e36)) ?_
    refine lv (d := 89) rfl rfl (by kernel_rfl) (e_nilCheck (ad := ⟨g2, 0, none⟩) (by kernel_rfl)) ?_
    refine lv (d := 90) rfl rfl (by kernel_rfl) (e_fieldAddr (b := g2) (off := 0) (o := 3) Try.underlying125 rfl rfl (sz := 1) (by kernel_rfl) (by decide) (by kernel_rfl)) ?_
    refine lv (d := 91) rfl rfl (by kernel_rfl) (e_load1 (ad := ⟨g2, 0 + 3, none⟩) (v := .slice A10 x1.args.length c11) Try.underlying87 rfl (by kernel_rfl) (blk_cells (S72.inv _ _ h14) h15 3 _ rfl)) ?_
    refine lv (d := 92) rfl rfl (by kernel_rfl) (e_len (A := A10) (n := x1.args.length) (c := c11) Try.underlying87 (by kernel_rfl)) ?_
    refine lv (d := 93) rfl rfl (by kernel_rfl) (e_move (v := .int .i64 0) rfl) ?_
    refine wpList_nil ?_
    refine then_n ?_
    refine wp_block ?_
    refine wp_loop_g (fun k91 a92 w81 => ∃ (f82 : Nat → Value) (x83 : Int), k91 < K ∧ a92 = mk 115 f82 ∧ f82 0 = .pointer (some ⟨g2, 0, none⟩) ∧ f82 1 = .pointer (some ⟨g5, 0, none⟩) ∧ f82 92 = .int .i64 (x1.args.length : Int) ∧ f82 93 = .int .i64 x83 ∧ St (anyOf []) H w [] H w81 ∧ impl_compare.l1 k91 x1 x4 x83 = some r) k44 ⟨_, 0, (by omega), rfl, (by exact e36), (by exact e37), (by kernel_rfl), (by kernel_rfl), S72, M⟩ ?_
    clear M
    rintro k91 a92 w81 ⟨f82, x83, z89, rfl, e84, e85, e86, e87, S88, M⟩
    rcases k91 with _ | k93
    · rw [impl_compare.l1] at M
      cases M
    rw [impl_compare.l1] at M
    refine wp_seq ?_
    refine wp_region_lit ?_
    refine lv (d := 94) rfl rfl (by kernel_rfl) (e_lss (k := .i64) (a := x83) (b := (x1.args.length : Int)) (by exact e87) (by exact e86)) ?_
    refine wpList_nil ?_
    refine then_n ?_
    refine wp_seq ?_
    by_cases q94 : x83 < (x1.args.length : Int)
    · replace M := ifp q94 M
      refine cond_t rfl (bt q94 (by kernel_rfl)) ?_
      refine wp_skip ?_
      refine then_n ?_
      refine wp_seq ?_
      refine wp_block ?_
      refine wp_seq ?_
      refine wp_region_lit ?_
      refine lv (d := 95) rfl rfl (by kernel_rfl) (e_move (v := .int .i64 x83) (by exact e87)) ?_
      refine lv (d := 5) rfl rfl (by kernel_rfl) (e_assign (v := .int .i64 x83) (by kernel_rfl)) ?_
      refine wpList_nil ?_
      refine then_n ?_
      refine wp_seq ?_
      refine region_quiet (by kernel_rfl) (by kernel_rfl) ?_
      refine qv (d := 96) rfl rfl (by kernel_rfl) (fun wq_ hq_ => e_move (v := .pointer (some ⟨g2, 0, none⟩)) (by exact e84)) ?_
      refine qv (d := 97) rfl rfl (by kernel_rfl) (fun wq_ hq_ => e_nilCheck (ad := ⟨g2, 0, none⟩) (by kernel_rfl)) ?_
      refine qv (d := 98) rfl rfl (by kernel_rfl) (fun wq_ hq_ => e_fieldAddr (b := g2) (off := 0) (o := 3) Try.underlying125 rfl rfl (sz := 1) (by kernel_rfl) (by decide) (by kernel_rfl)) ?_
      refine qv (d := 99) rfl rfl (by kernel_rfl) (fun wq_ hq_ => e_load1 (ad := ⟨g2, 0 + 3, none⟩) (v := .slice A10 x1.args.length c11) Try.underlying87 rfl (by kernel_rfl) (blk_cells ((S88.still hq_).1.inv _ _ h14) h15 3 _ rfl)) ?_
      refine qv (d := 100) rfl rfl (by kernel_rfl) (fun wq_ hq_ => e_move (v := .int .i64 x83) (by kernel_rfl)) ?_
      obtain ⟨q95, M⟩ := chk M
      obtain ⟨b96, o97, e98⟩ := Rd.addr h17 (show (x83).toNat < x1.args.length by omega)
      obtain ⟨y99, r100, k101⟩ := Rd.at h17 e98 (getD_some (Tm.mk 0 0 [] []) (show (x83).toNat < x1.args.length by omega))
      obtain ⟨v102, rfl, h103⟩ := r100
      obtain ⟨g104, rfl⟩ := node_ptr h103
      refine qv (d := 101) rfl rfl (by kernel_rfl) (fun wq_ hq_ => e_indexAddr (b := b96) (off := o97) (n := x1.args.length) (c := c11) (sz := 1) (i := x83) (k := .i64) Try.underlying87 e98 (by kernel_rfl) (by kernel_rfl) (by kernel_rfl) q95 q94) ?_
      refine qv (d := 102) rfl rfl (by kernel_rfl) (fun wq_ hq_ => e_load1 (ad := ⟨b96, o97 + (x83 : Int).toNat * 1, none⟩) (v := .pointer (some ⟨g104, 0, none⟩)) Try.underlying74 rfl (by kernel_rfl) (hpx ((S88.still hq_).1.inv.cell (k101 0 _ rfl)))) ?_
      refine qv (d := 103) rfl rfl (by kernel_rfl) (fun wq_ hq_ => e_move (v := .pointer (some ⟨g5, 0, none⟩)) (by exact e85)) ?_
      refine qv (d := 104) rfl rfl (by kernel_rfl) (fun wq_ hq_ => e_nilCheck (ad := ⟨g5, 0, none⟩) (by kernel_rfl)) ?_
      refine qv (d := 105) rfl rfl (by kernel_rfl) (fun wq_ hq_ => e_fieldAddr (b := g5) (off := 0) (o := 3) Try.underlying125 rfl rfl (sz := 1) (by kernel_rfl) (by decide) (by kernel_rfl)) ?_
      refine qv (d := 106) rfl rfl (by kernel_rfl) (fun wq_ hq_ => e_load1 (ad := ⟨g5, 0 + 3, none⟩) (v := .slice A18 x4.args.length c19) Try.underlying87 rfl (by kernel_rfl) (blk_cells ((S88.still hq_).1.inv _ _ h22) h23 3 _ rfl)) ?_
      refine qv (d := 107) rfl rfl (by kernel_rfl) (fun wq_ hq_ => e_move (v := .int .i64 x83) (by kernel_rfl)) ?_
      obtain ⟨q105, M⟩ := chk M
      obtain ⟨b106, o107, e108⟩ := Rd.addr h25 (show (x83).toNat < x4.args.length by omega)
      obtain ⟨y109, r110, k111⟩ := Rd.at h25 e108 (getD_some (Tm.mk 0 0 [] []) (show (x83).toNat < x4.args.length by omega))
      obtain ⟨v112, rfl, h113⟩ := r110
      obtain ⟨g114, rfl⟩ := node_ptr h113
      refine qv (d := 108) rfl rfl (by kernel_rfl) (fun wq_ hq_ => e_indexAddr (b := b106) (off := o107) (n := x4.args.length) (c := c19) (sz := 1) (i := x83) (k := .i64) Try.underlying87 e108 (by kernel_rfl) (by kernel_rfl) (by kernel_rfl) q95 q105) ?_
      refine qv (d := 109) rfl rfl (by kernel_rfl) (fun wq_ hq_ => e_load1 (ad := ⟨b106, o107 + (x83 : Int).toNat * 1, none⟩) (v := .pointer (some ⟨g114, 0, none⟩)) Try.underlying74 rfl (by kernel_rfl) (hpx ((S88.still hq_).1.inv.cell (k111 0 _ rfl)))) ?_
      obtain ⟨t115, u116, M⟩ := bnd M
      refine qcall (v := .int .i64 t115) (d := 110) rfl rfl (by kernel_rfl) (fun w_ => e_call (l := [.tmp 102, .tmp 109]) (vs := [.pointer (some ⟨g104, 0, none⟩), .pointer (some ⟨g114, 0, none⟩)]) Try.func61 (by kernel_rfl) rfl (by kernel_rfl) rfl) (fun wq_ hq_ => (by obtain ⟨S_, K_⟩ := S88.still hq_; exact (ih k93 (by omega) wq_ H (x1.args.getD ((x83).toNat) (Tm.mk 0 0 [] [])) g104 (x4.args.getD ((x83).toNat) (Tm.mk 0 0 [] [])) g114 h103 h113 S_.own0 t115 u116))) ?_
      refine qv (d := 6) rfl rfl (by kernel_rfl) (fun wq_ hq_ => e_assign (v := .int .i64 t115) (by kernel_rfl)) ?_
      refine wpQuiet_nil ?_
      intro w117 C120
      obtain ⟨S118, K119⟩ := S88.still C120
      refine then_n ?_
      refine wp_seq ?_
      refine wp_region_lit ?_
      refine lv (d := 111) rfl rfl (by kernel_rfl) (e_move (v := .int .i64 t115) (by kernel_rfl)) ?_
      refine lv (d := 112) rfl rfl (by kernel_rfl) (e_neq (k := .i64) (a := t115) (b := 0) (by kernel_rfl) rfl) ?_
      refine wpList_nil ?_
      refine then_n ?_
      by_cases q121 : t115 ≠ 0
      · replace M := ifp q121 M
        refine cond_t rfl (bt q121 (by kernel_rfl)) ?_
        refine wp_seq ?_
        refine wp_region_lit ?_
        refine lv (d := 113) rfl rfl (by kernel_rfl) (e_move (v := .int .i64 t115) (by kernel_rfl)) ?_
        refine lv (d := 4) rfl rfl (by kernel_rfl) (e_assign (v := .int .i64 t115) (by kernel_rfl)) ?_
        refine wpList_nil ?_
        refine then_n ?_
        refine wp_ret ?_
        refine inb_r ?_
        refine then_r ?_
        refine then_r ?_
        refine inb_r ?_
        refine then_r ?_
        obtain rfl := Option.some.inj M
        exact ret1 rfl rfl  (show _ = .int .i64 t115 from (by kernel_rfl)) ⟨rfl, S118.chg⟩
      replace M := ifn q121 M
      refine cond_f rfl (bf q121 (by kernel_rfl)) ?_
      refine wp_skip ?_
      refine inb_n ?_
      refine then_n ?_
      refine wp_region_lit ?_
      refine lv (d := 114) rfl rfl (by kernel_rfl) (e_add (k := .i64) (a := x83) (b := 1) (by exact e87) rfl) ?_
      refine lv (d := 93) rfl rfl (by kernel_rfl) (e_move (v := .int .i64 (IntKind.i64.wrap (x83 + 1))) (by kernel_rfl)) ?_
      refine wpList_nil ?_
      refine then_n ?_
      exact ⟨k93, (by omega), _, (IntKind.i64.wrap (x83 + 1)), (by omega), rfl, (by exact e84), (by exact e85), (by exact e86), (by kernel_rfl), S118, M⟩
    replace M := ifn q94 M
    refine cond_f rfl (bf q94 (by kernel_rfl)) ?_
    refine wp_exit ?_
    refine then_e ?_
    refine then_e ?_
    refine inb_hit ?_
    refine then_n ?_
    refine wp_seq ?_
    refine wp_region_lit ?_
    refine lv (d := 4) rfl rfl (by kernel_rfl) (e_assign (v := .int .i64 0) rfl) ?_
    refine wpList_nil ?_
    refine then_n ?_
    refine wp_ret ?_
    obtain rfl := Option.some.inj M
    exact ret1 rfl rfl  (show _ = .int .i64 0 from (by kernel_rfl)) ⟨rfl, S88.chg⟩
theorem impl_compare.calls (k : Nat) (w : World) (H : Hp) (x1 : Tm) (g2 : Nat) (x4 : Tm) (g5 : Nat) (h3 : NodeR 125 H x1 (.pointer (some ⟨g2, 0, none⟩))) (h6 : NodeR 125 H x4 (.pointer (some ⟨g5, 0, none⟩))) (S : Own [] H w) (r : Int) (M : impl_compare.f k x1 x4 = some r) :
    Calls Try.prog 61 #[.pointer (some ⟨g2, 0, none⟩), .pointer (some ⟨g5, 0, none⟩)] w (fun e e_w => e = .returned (.int .i64 r) ∧ Chg no w e_w) := (impl_compare.all (k + 1)) k (Nat.lt_succ_self k) w H x1 g2 x4 g5 h3 h6 S r M

/-! impl_Variant -/
def impl_Variant.f (k : Nat) (x1 : List Cell) (x6 : List Cell) : Option Bool := ((impl_ValidTerm.f k x1).bind fun t11 => (if ¬ (t11 = true) then some false else ((impl_ValidTerm.f k x6).bind fun t18 => (if ¬ (t18 = true) then some false else (if (x1.length : Int) ≠ (x6.length : Int) then some false else ((impl_tree.f k x1).bind fun t26 => ((impl_renumbered.f k t26).bind fun t36 => ((impl_tree.f k x6).bind fun t46 => ((impl_renumbered.f k t46).bind fun t56 => ((impl_compare.f k t36 t56).bind fun t66 => some (decide (t66 = 0))))))))))))
theorem impl_Variant.calls (k : Nat) (w : World) (H : Hp) (x1 : List Cell) (A2 : Option Addr) (c3 : Nat) (x6 : List Cell) (A7 : Option Addr) (c8 : Nat) (h4 : Rd st65 H A2 x1) (l5 : x1.length ≤ c3) (h9 : Rd st65 H A7 x6) (l10 : x6.length ≤ c8) (S : Own [] H w) (r : Bool) (M : impl_Variant.f k x1 x6 = some r) :
    Calls Try.prog 33 #[.slice A2 x1.length c3, .slice A7 x6.length c8] w (fun e e_w => e = .returned (.bool r) ∧ Chg no w e_w) := by
  rw [impl_Variant.f] at M
  refine enter (l := [.slice A2 x1.length c3, .slice A7 x6.length c8]) 28 Try.func33 rfl rfl rfl ?_
  have S0_ := S.st
  refine wp_seq ?_
  refine wp_region_lit ?_
  refine lv (d := 4) rfl rfl (by kernel_rfl) (e_assign (v := .bool false) rfl) ?_
  refine wpList_nil ?_
  refine then_n ?_
  refine wp_seq ?_
  refine wp_seq ?_
  refine wp_region_lit ?_
  refine lv (d := 5) rfl rfl (by kernel_rfl) (e_move (v := .slice A2 x1.length c3) (by kernel_rfl)) ?_
  obtain ⟨t11, u12, M⟩ := bnd M
  refine lcall (d := 6) rfl rfl (by kernel_rfl) (e_call (l := [.tmp 5]) (vs := [.slice A2 x1.length c3]) Try.func17 (by kernel_rfl) rfl (by kernel_rfl) rfl) (impl_ValidTerm.calls k w H x1 A2 c3 h4 l5 S0_.own0 t11 u12) ?_
  rintro _ w13 ⟨rfl, C14⟩
  refine ⟨_, rfl, ?_⟩
  obtain ⟨S15, K16⟩ := S0_.still C14
  refine lv (d := 7) rfl rfl (by kernel_rfl) (e_notv (c := t11) (by kernel_rfl)) ?_
  refine lv (d := 8) rfl rfl (by kernel_rfl) (e_move (v := .bool (decide (¬ (t11 = true)))) (by kernel_rfl)) ?_
  by_cases q17 : ¬ (t11 = true)
  · replace M := ifp q17 M
    refine lskip (t := 8) (c := true) rfl (by kernel_rfl) rfl (bt q17 (by kernel_rfl)) rfl rfl ?_
    refine lskip (t := 8) (c := true) rfl (by kernel_rfl) rfl (bt q17 (by kernel_rfl)) rfl rfl ?_
    refine lskip (t := 8) (c := true) rfl (by kernel_rfl) rfl (bt q17 (by kernel_rfl)) rfl rfl ?_
    refine lv (d := 12) rfl rfl (by kernel_rfl) (e_pick_t (v := .bool true) (bt q17 (by kernel_rfl)) rfl) ?_
    refine lv (d := 13) rfl rfl (by kernel_rfl) (e_move (v := .bool true) (by kernel_rfl)) ?_
    refine lskip (t := 13) (c := true) rfl (by kernel_rfl) rfl (by kernel_rfl) rfl rfl ?_
    refine lskip (t := 13) (c := true) rfl (by kernel_rfl) rfl (by kernel_rfl) rfl rfl ?_
    refine lskip (t := 13) (c := true) rfl (by kernel_rfl) rfl (by kernel_rfl) rfl rfl ?_
    refine lskip (t := 13) (c := true) rfl (by kernel_rfl) rfl (by kernel_rfl) rfl rfl ?_
    refine lskip (t := 13) (c := true) rfl (by kernel_rfl) rfl (by kernel_rfl) rfl rfl ?_
    refine lv (d := 19) rfl rfl (by kernel_rfl) (e_pick_t (v := .bool true) (by kernel_rfl) rfl) ?_
    refine wpList_nil ?_
    refine then_n ?_
    refine cond_t rfl (by kernel_rfl) ?_
    refine wp_seq ?_
    refine wp_region_lit ?_
    refine lv (d := 4) rfl rfl (by kernel_rfl) (e_assign (v := .bool false) rfl) ?_
    refine wpList_nil ?_
    refine then_n ?_
    refine wp_ret ?_
    refine then_r ?_
    obtain rfl := Option.some.inj M
    exact ret1 rfl rfl  (show _ = .bool false from (by kernel_rfl)) ⟨rfl, S15.chg⟩
  replace M := ifn q17 M
  refine lvg (d := 9) (t := 8) rfl (by kernel_rfl) rfl (bf q17 (by kernel_rfl)) rfl (by kernel_rfl) (e_move (v := .slice A7 x6.length c8) (by kernel_rfl)) ?_
  obtain ⟨t18, u19, M⟩ := bnd M
  refine lcallg (d := 10) (t := 8) rfl (by kernel_rfl) rfl (bf q17 (by kernel_rfl)) rfl (by kernel_rfl) (e_call (l := [.tmp 9]) (vs := [.slice A7 x6.length c8]) Try.func17 (by kernel_rfl) rfl (by kernel_rfl) rfl) (impl_ValidTerm.calls k w13 H x6 A7 c8 h9 l10 S15.own0 t18 u19) ?_
  rintro _ w20 ⟨rfl, C21⟩
  refine ⟨_, rfl, ?_⟩
  obtain ⟨S22, K23⟩ := S15.still C21
  refine lvg (d := 11) (t := 8) rfl (by kernel_rfl) rfl (bf q17 (by kernel_rfl)) rfl (by kernel_rfl) (e_notv (c := t18) (by kernel_rfl)) ?_
  refine lv (d := 12) rfl rfl (by kernel_rfl) (e_pick_f (v := .bool (decide (¬ (t18 = true)))) (bf q17 (by kernel_rfl)) (by kernel_rfl)) ?_
  refine lv (d := 13) rfl rfl (by kernel_rfl) (e_move (v := .bool (decide (¬ (t18 = true)))) (by kernel_rfl)) ?_
  by_cases q24 : ¬ (t18 = true)
  · replace M := ifp q24 M
    refine lskip (t := 13) (c := true) rfl (by kernel_rfl) rfl (bt q24 (by kernel_rfl)) rfl rfl ?_
    refine lskip (t := 13) (c := true) rfl (by kernel_rfl) rfl (bt q24 (by kernel_rfl)) rfl rfl ?_
    refine lskip (t := 13) (c := true) rfl (by kernel_rfl) rfl (bt q24 (by kernel_rfl)) rfl rfl ?_
    refine lskip (t := 13) (c := true) rfl (by kernel_rfl) rfl (bt q24 (by kernel_rfl)) rfl rfl ?_
    refine lskip (t := 13) (c := true) rfl (by kernel_rfl) rfl (bt q24 (by kernel_rfl)) rfl rfl ?_
    refine lv (d := 19) rfl rfl (by kernel_rfl) (e_pick_t (v := .bool true) (bt q24 (by kernel_rfl)) rfl) ?_
    refine wpList_nil ?_
    refine then_n ?_
    refine cond_t rfl (by kernel_rfl) ?_
    refine wp_seq ?_
    refine wp_region_lit ?_
    refine lv (d := 4) rfl rfl (by kernel_rfl) (e_assign (v := .bool false) rfl) ?_
    refine wpList_nil ?_
    refine then_n ?_
    refine wp_ret ?_
    refine then_r ?_
    obtain rfl := Option.some.inj M
    exact ret1 rfl rfl  (show _ = .bool false from (by kernel_rfl)) ⟨rfl, S22.chg⟩
  replace M := ifn q24 M
  refine lvg (d := 14) (t := 13) rfl (by kernel_rfl) rfl (bf q24 (by kernel_rfl)) rfl (by kernel_rfl) (e_move (v := .slice A2 x1.length c3) (by kernel_rfl)) ?_
  refine lvg (d := 15) (t := 13) rfl (by kernel_rfl) rfl (bf q24 (by kernel_rfl)) rfl (by kernel_rfl) (e_len (A := A2) (n := x1.length) (c := c3) Try.underlying25 (by kernel_rfl)) ?_
  refine lvg (d := 16) (t := 13) rfl (by kernel_rfl) rfl (bf q24 (by kernel_rfl)) rfl (by kernel_rfl) (e_move (v := .slice A7 x6.length c8) (by kernel_rfl)) ?_
  refine lvg (d := 17) (t := 13) rfl (by kernel_rfl) rfl (bf q24 (by kernel_rfl)) rfl (by kernel_rfl) (e_len (A := A7) (n := x6.length) (c := c8) Try.underlying25 (by kernel_rfl)) ?_
  refine lvg (d := 18) (t := 13) rfl (by kernel_rfl) rfl (bf q24 (by kernel_rfl)) rfl (by kernel_rfl) (e_neq (k := .i64) (a := (x1.length : Int)) (b := (x6.length : Int)) (by kernel_rfl) (by kernel_rfl)) ?_
  refine lv (d := 19) rfl rfl (by kernel_rfl) (e_pick_f (v := .bool (decide ((x1.length : Int) ≠ (x6.length : Int)))) (bf q24 (by kernel_rfl)) (by kernel_rfl)) ?_
  refine wpList_nil ?_
  refine then_n ?_
  by_cases q25 : (x1.length : Int) ≠ (x6.length : Int)
  · replace M := ifp q25 M
    refine cond_t rfl (bt q25 (by kernel_rfl)) ?_
    refine wp_seq ?_
    refine wp_region_lit ?_
    refine lv (d := 4) rfl rfl (by kernel_rfl) (e_assign (v := .bool false) rfl) ?_
    refine wpList_nil ?_
    refine then_n ?_
    refine wp_ret ?_
    refine then_r ?_
    obtain rfl := Option.some.inj M
    exact ret1 rfl rfl  (show _ = .bool false from (by kernel_rfl)) ⟨rfl, S22.chg⟩
  replace M := ifn q25 M
  refine cond_f rfl (bf q25 (by kernel_rfl)) ?_
  refine wp_skip ?_
  refine then_n ?_
  refine wp_seq ?_
  refine wp_region_lit ?_
  refine lv (d := 20) rfl rfl (by kernel_rfl) (e_move (v := .slice A2 x1.length c3) (by kernel_rfl)) ?_
  obtain ⟨t26, u27, M⟩ := bnd M
  refine lcall (d := 21) rfl rfl (by kernel_rfl) (e_call (l := [.tmp 20]) (vs := [.slice A2 x1.length c3]) Try.func62 (by kernel_rfl) rfl (by kernel_rfl) rfl) (impl_tree.calls k w20 H x1 A2 c3 h4 l5 (St.own' (Fa := []) (Fr := []) S22) t26 u27) ?_
  rintro _ w28 ⟨g31, H29, rfl, h32, T30⟩
  refine ⟨_, rfl, ?_⟩
  obtain ⟨S33, K34⟩ := St.call (Fa := []) (Fr := []) S22 T30
  have E35 := T30.ext
  obtain ⟨t36, u37, M⟩ := bnd M
  refine lcall (d := 22) rfl rfl (by kernel_rfl) (e_call (l := [.tmp 21]) (vs := [.pointer (some ⟨g31, 0, none⟩)]) Try.func67 (by kernel_rfl) rfl (by kernel_rfl) rfl) (impl_renumbered.calls k w28 H29 t26 g31 h32 (St.own' (Fa := []) (Fr := []) S33) t36 u37) ?_
  rintro _ w38 ⟨g41, H39, rfl, h42, T40⟩
  refine ⟨_, rfl, ?_⟩
  obtain ⟨S43, K44⟩ := St.call (Fa := []) (Fr := []) S33 T40
  have E45 := T40.ext
  refine lv (d := 23) rfl rfl (by kernel_rfl) (e_move (v := .slice A7 x6.length c8) (by kernel_rfl)) ?_
  obtain ⟨t46, u47, M⟩ := bnd M
  refine lcall (d := 24) rfl rfl (by kernel_rfl) (e_call (l := [.tmp 23]) (vs := [.slice A7 x6.length c8]) Try.func62 (by kernel_rfl) rfl (by kernel_rfl) rfl) (impl_tree.calls k w38 H39 x6 A7 c8 (h9.ext (E35.trans E45)) l10 (St.own' (Fa := []) (Fr := []) S43) t46 u47) ?_
  rintro _ w48 ⟨g51, H49, rfl, h52, T50⟩
  refine ⟨_, rfl, ?_⟩
  obtain ⟨S53, K54⟩ := St.call (Fa := []) (Fr := []) S43 T50
  have E55 := T50.ext
  obtain ⟨t56, u57, M⟩ := bnd M
  refine lcall (d := 25) rfl rfl (by kernel_rfl) (e_call (l := [.tmp 24]) (vs := [.pointer (some ⟨g51, 0, none⟩)]) Try.func67 (by kernel_rfl) rfl (by kernel_rfl) rfl) (impl_renumbered.calls k w48 H49 t46 g51 h52 (St.own' (Fa := []) (Fr := []) S53) t56 u57) ?_
  rintro _ w58 ⟨g61, H59, rfl, h62, T60⟩
  refine ⟨_, rfl, ?_⟩
  obtain ⟨S63, K64⟩ := St.call (Fa := []) (Fr := []) S53 T60
  have E65 := T60.ext
  obtain ⟨t66, u67, M⟩ := bnd M
  refine lcall (d := 26) rfl rfl (by kernel_rfl) (e_call (l := [.tmp 22, .tmp 25]) (vs := [.pointer (some ⟨g41, 0, none⟩), .pointer (some ⟨g61, 0, none⟩)]) Try.func61 (by kernel_rfl) rfl (by kernel_rfl) rfl) (impl_compare.calls k w58 H59 t36 g41 t56 g61 (h42.ext' (E55.trans E65)) h62 S63.own0 t66 u67) ?_
  rintro _ w68 ⟨rfl, C69⟩
  refine ⟨_, rfl, ?_⟩
  obtain ⟨S70, K71⟩ := S63.still C69
  refine lv (d := 27) rfl rfl (by kernel_rfl) (e_eql (k := .i64) (a := t66) (b := 0) (by kernel_rfl) rfl) ?_
  refine lv (d := 4) rfl rfl (by kernel_rfl) (e_assign (v := .bool (decide (t66 = 0))) (by kernel_rfl)) ?_
  refine wpList_nil ?_
  refine then_n ?_
  refine wp_ret ?_
  obtain rfl := Option.some.inj M
  exact ret1 rfl rfl  (show _ = .bool (decide (t66 = 0)) from (by kernel_rfl)) ⟨rfl, S70.chg⟩

/-! laws_eqByteS -/
def laws_eqByteS.l0 : Nat → (List UInt8) → (List UInt8) → Int → Option Bool
  | 0, _, _, _ => none
  | k23 + 1, x1, x6, x14 => (if x14 < (x1.length : Int) then (if 0 ≤ x14 then (if x14 < (x6.length : Int) then (if ((x1.getD ((x14).toNat) (0 : UInt8)).toNat : Int) ≠ ((x6.getD ((x14).toNat) (0 : UInt8)).toNat : Int) then some false else (laws_eqByteS.l0 k23 x1 x6 (IntKind.i64.wrap (x14 + 1)))) else none) else none) else some true)
def laws_eqByteS.f (k : Nat) (x1 : List UInt8) (x6 : List UInt8) : Option Bool := (if (x1.length : Int) ≠ (x6.length : Int) then some false else (laws_eqByteS.l0 k x1 x6 0))
theorem laws_eqByteS.calls (k : Nat) (w : World) (H : Hp) (x1 : List UInt8) (A2 : Option Addr) (c3 : Nat) (x6 : List UInt8) (A7 : Option Addr) (c8 : Nat) (h4 : Rd tByte H A2 x1) (l5 : x1.length ≤ c3) (h9 : Rd tByte H A7 x6) (l10 : x6.length ≤ c8) (S : Own [] H w) (r : Bool) (M : laws_eqByteS.f k x1 x6 = some r) :
    Calls Try.prog 104 #[.slice A2 x1.length c3, .slice A7 x6.length c8] w (fun e e_w => e = .returned (.bool r) ∧ Chg no w e_w) := by
  rw [laws_eqByteS.f] at M
  refine enter (l := [.slice A2 x1.length c3, .slice A7 x6.length c8]) 26 Try.func104 rfl rfl rfl ?_
  have S0_ := S.st
  refine wp_seq ?_
  refine wp_region_lit ?_
  refine lv (d := 4) rfl rfl (by kernel_rfl) (e_assign (v := .bool false) rfl) ?_
  refine wpList_nil ?_
  refine then_n ?_
  refine wp_seq ?_
  refine wp_seq ?_
  refine wp_region_lit ?_
  refine lv (d := 6) rfl rfl (by kernel_rfl) (e_move (v := .slice A2 x1.length c3) (by kernel_rfl)) ?_
  refine lv (d := 7) rfl rfl (by kernel_rfl) (e_len (A := A2) (n := x1.length) (c := c3) Try.underlying59 (by kernel_rfl)) ?_
  refine lv (d := 8) rfl rfl (by kernel_rfl) (e_move (v := .slice A7 x6.length c8) (by kernel_rfl)) ?_
  refine lv (d := 9) rfl rfl (by kernel_rfl) (e_len (A := A7) (n := x6.length) (c := c8) Try.underlying59 (by kernel_rfl)) ?_
  refine lv (d := 10) rfl rfl (by kernel_rfl) (e_neq (k := .i64) (a := (x1.length : Int)) (b := (x6.length : Int)) (by kernel_rfl) (by kernel_rfl)) ?_
  refine wpList_nil ?_
  refine then_n ?_
  by_cases q11 : (x1.length : Int) ≠ (x6.length : Int)
  · replace M := ifp q11 M
    refine cond_t rfl (bt q11 (by kernel_rfl)) ?_
    refine wp_seq ?_
    refine wp_region_lit ?_
    refine lv (d := 4) rfl rfl (by kernel_rfl) (e_assign (v := .bool false) rfl) ?_
    refine wpList_nil ?_
    refine then_n ?_
    refine wp_ret ?_
    refine then_r ?_
    obtain rfl := Option.some.inj M
    exact ret1 rfl rfl  (show _ = .bool false from (by kernel_rfl)) ⟨rfl, S0_.chg⟩
  replace M := ifn q11 M
  refine cond_f rfl (bf q11 (by kernel_rfl)) ?_
  refine wp_skip ?_
  refine then_n ?_
  refine wp_seq ?_
  refine wp_seq ?_
  refine wp_region_lit ?_
  refine lv (d := 5) rfl rfl (by kernel_rfl) (e_assign (v := .int .i64 0) rfl) ?_
  refine wpList_nil ?_
  refine then_n ?_
  refine wp_block ?_
  refine wp_loop_g (fun k21 a22 w12 => ∃ (f13 : Nat → Value) (x14 : Int), a22 = mk 26 f13 ∧ f13 0 = .slice A2 x1.length c3 ∧ f13 1 = .slice A7 x6.length c8 ∧ f13 5 = .int .i64 x14 ∧ St (anyOf []) H w [] H w12 ∧ laws_eqByteS.l0 k21 x1 x6 x14 = some r) k ⟨_, 0, rfl, (by kernel_rfl), (by kernel_rfl), (by kernel_rfl), S0_, M⟩ ?_
  clear M
  rintro k21 a22 w12 ⟨f13, x14, rfl, e15, e16, e17, S18, M⟩
  rcases k21 with _ | k23
  · rw [laws_eqByteS.l0] at M
    cases M
  rw [laws_eqByteS.l0] at M
  refine wp_seq ?_
  refine wp_seq ?_
  refine wp_region_lit ?_
  refine lv (d := 11) rfl rfl (by kernel_rfl) (e_move (v := .int .i64 x14) (by exact e17)) ?_
  refine lv (d := 12) rfl rfl (by kernel_rfl) (e_move (v := .slice A2 x1.length c3) (by exact e15)) ?_
  refine lv (d := 13) rfl rfl (by kernel_rfl) (e_len (A := A2) (n := x1.length) (c := c3) Try.underlying59 (by kernel_rfl)) ?_
  refine lv (d := 14) rfl rfl (by kernel_rfl) (e_lss (k := .i64) (a := x14) (b := (x1.length : Int)) (by kernel_rfl) (by kernel_rfl)) ?_
  refine wpList_nil ?_
  refine then_n ?_
  by_cases q24 : x14 < (x1.length : Int)
  · replace M := ifp q24 M
    refine cond_t rfl (bt q24 (by kernel_rfl)) ?_
    refine wp_skip ?_
    refine then_n ?_
    refine wp_seq ?_
    refine wp_block ?_
    refine wp_seq ?_
    refine region_still (by kernel_rfl) (by kernel_rfl) S18 ?_
    intro w25 S26 K27
    refine sv (d := 17) rfl rfl (by kernel_rfl) (e_move (v := .slice A2 x1.length c3) (by exact e15)) ?_
    refine sv (d := 18) rfl rfl (by kernel_rfl) (e_move (v := .int .i64 x14) (by exact e17)) ?_
    obtain ⟨q28, M⟩ := chk M
    obtain ⟨b29, o30, e31⟩ := Rd.addr h4 (show (x14).toNat < x1.length by omega)
    obtain ⟨y32, r33, k34⟩ := Rd.at h4 e31 (getD_some (0 : UInt8) (show (x14).toNat < x1.length by omega))
    obtain rfl := r33
    refine sv (d := 19) rfl rfl (by kernel_rfl) (e_indexAddr (b := b29) (off := o30) (n := x1.length) (c := c3) (sz := 1) (i := x14) (k := .i64) Try.underlying59 e31 (by kernel_rfl) (by kernel_rfl) (by kernel_rfl) q28 q24) ?_
    refine sv (d := 20) rfl rfl (by kernel_rfl) (e_load1 (ad := ⟨b29, o30 + (x14 : Int).toNat * 1, none⟩) (v := .int .u8 ((x1.getD ((x14).toNat) (0 : UInt8)).toNat : Int)) Try.underlying5 rfl (by kernel_rfl) (hpx (S26.inv.cell (k34 0 _ rfl)))) ?_
    refine sv (d := 21) rfl rfl (by kernel_rfl) (e_move (v := .slice A7 x6.length c8) (by exact e16)) ?_
    refine sv (d := 22) rfl rfl (by kernel_rfl) (e_move (v := .int .i64 x14) (by exact e17)) ?_
    obtain ⟨q35, M⟩ := chk M
    obtain ⟨b36, o37, e38⟩ := Rd.addr h9 (show (x14).toNat < x6.length by omega)
    obtain ⟨y39, r40, k41⟩ := Rd.at h9 e38 (getD_some (0 : UInt8) (show (x14).toNat < x6.length by omega))
    obtain rfl := r40
    refine sv (d := 23) rfl rfl (by kernel_rfl) (e_indexAddr (b := b36) (off := o37) (n := x6.length) (c := c8) (sz := 1) (i := x14) (k := .i64) Try.underlying59 e38 (by kernel_rfl) (by kernel_rfl) (by kernel_rfl) q28 q35) ?_
    refine sv (d := 24) rfl rfl (by kernel_rfl) (e_load1 (ad := ⟨b36, o37 + (x14 : Int).toNat * 1, none⟩) (v := .int .u8 ((x6.getD ((x14).toNat) (0 : UInt8)).toNat : Int)) Try.underlying5 rfl (by kernel_rfl) (hpx (S26.inv.cell (k41 0 _ rfl)))) ?_
    refine sv (d := 25) rfl rfl (by kernel_rfl) (e_neq (k := .u8) (a := ((x1.getD ((x14).toNat) (0 : UInt8)).toNat : Int)) (b := ((x6.getD ((x14).toNat) (0 : UInt8)).toNat : Int)) (by kernel_rfl) (by kernel_rfl)) ?_
    refine wpStill_nil ?_
    refine then_n ?_
    by_cases q42 : ((x1.getD ((x14).toNat) (0 : UInt8)).toNat : Int) ≠ ((x6.getD ((x14).toNat) (0 : UInt8)).toNat : Int)
    · replace M := ifp q42 M
      refine cond_t rfl (bt q42 (by kernel_rfl)) ?_
      refine wp_seq ?_
      refine wp_region_lit ?_
      refine lv (d := 4) rfl rfl (by kernel_rfl) (e_assign (v := .bool false) rfl) ?_
      refine wpList_nil ?_
      refine then_n ?_
      refine wp_ret ?_
      refine inb_r ?_
      refine then_r ?_
      refine then_r ?_
      refine inb_r ?_
      refine then_r ?_
      obtain rfl := Option.some.inj M
      exact ret1 rfl rfl  (show _ = .bool false from (by kernel_rfl)) ⟨rfl, S26.chg⟩
    replace M := ifn q42 M
    refine cond_f rfl (bf q42 (by kernel_rfl)) ?_
    refine wp_skip ?_
    refine inb_n ?_
    refine then_n ?_
    refine wp_region_lit ?_
    refine lv (d := 15) rfl rfl (by kernel_rfl) (e_move (v := .int .i64 x14) (by exact e17)) ?_
    refine lv (d := 16) rfl rfl (by kernel_rfl) (e_add (k := .i64) (a := x14) (b := 1) (by kernel_rfl) rfl) ?_
    refine lv (d := 5) rfl rfl (by kernel_rfl) (e_assign (v := .int .i64 (IntKind.i64.wrap (x14 + 1))) (by kernel_rfl)) ?_
    refine wpList_nil ?_
    refine then_n ?_
    exact ⟨k23, (by omega), _, (IntKind.i64.wrap (x14 + 1)), rfl, (by exact e15), (by exact e16), (by kernel_rfl), S26, M⟩
  replace M := ifn q24 M
  refine cond_f rfl (bf q24 (by kernel_rfl)) ?_
  refine wp_exit ?_
  refine then_e ?_
  refine then_e ?_
  refine inb_hit ?_
  refine then_n ?_
  refine wp_seq ?_
  refine wp_region_lit ?_
  refine lv (d := 4) rfl rfl (by kernel_rfl) (e_assign (v := .bool true) rfl) ?_
  refine wpList_nil ?_
  refine then_n ?_
  refine wp_ret ?_
  obtain rfl := Option.some.inj M
  exact ret1 rfl rfl  (show _ = .bool true from (by kernel_rfl)) ⟨rfl, S18.chg⟩

/-! laws_eqCell -/
def laws_eqCell.f (k : Nat) (x1 : Cell) (x6 : Cell) : Option Bool := (if x1.kind ≠ x6.kind then some false else (if x1.n ≠ x6.n then some false else ((laws_eqByteS.f k x1.text x6.text).bind fun t23 => (if ¬ (t23 = true) then some false else some true))))
theorem laws_eqCell.calls (k : Nat) (w : World) (H : Hp) (x1 : Cell) (A2 : Option Addr) (c3 : Nat) (x6 : Cell) (A7 : Option Addr) (c8 : Nat) (h4 : Rd tByte H A2 x1.text) (l5 : x1.text.length ≤ c3) (h9 : Rd tByte H A7 x6.text) (l10 : x6.text.length ≤ c8) (S : Own [] H w) (r : Bool) (M : laws_eqCell.f k x1 x6 = some r) :
    Calls Try.prog 59 #[.agg #[.int .i64 x1.kind, .int .i64 x1.n, .slice A2 x1.text.length c3], .agg #[.int .i64 x6.kind, .int .i64 x6.n, .slice A7 x6.text.length c8]] w (fun e e_w => e = .returned (.bool r) ∧ Chg no w e_w) := by
  rw [laws_eqCell.f] at M
  refine enter (l := [.agg #[.int .i64 x1.kind, .int .i64 x1.n, .slice A2 x1.text.length c3], .agg #[.int .i64 x6.kind, .int .i64 x6.n, .slice A7 x6.text.length c8]]) 21 Try.func59 rfl rfl rfl ?_
  have S0_ := S.st
  refine wp_seq ?_
  refine wp_region_lit ?_
  refine lve (d := 2) rfl rfl (by kernel_rfl) (new_blk (v := fun g_ => .pointer (some ⟨g_, 0, none⟩)) (cs := #[.int .i64 x1.kind, .int .i64 x1.n, .slice A2 x1.text.length c3]) (t := 65) S0_ (by kernel_rfl)) ?_
  rintro _ w11 ⟨g12, rfl, b13, S14, K15⟩
  refine lve (d := 3) rfl rfl (by kernel_rfl) (new_blk (v := fun g_ => .pointer (some ⟨g_, 0, none⟩)) (cs := #[.int .i64 x6.kind, .int .i64 x6.n, .slice A7 x6.text.length c8]) (t := 65) S14 (by kernel_rfl)) ?_
  rintro _ w16 ⟨g17, rfl, b18, S19, K20⟩
  replace b13 := K20.blk 0 rfl b13
  refine lv (d := 4) rfl rfl (by kernel_rfl) (e_assign (v := .bool false) rfl) ?_
  refine wpList_nil ?_
  refine then_n ?_
  refine wp_seq ?_
  refine wp_seq ?_
  refine wp_region_lit ?_
  refine lv (d := 5) rfl rfl (by kernel_rfl) (e_fieldAddr (b := g12) (off := 0) (o := 0) Try.underlying65 rfl rfl (sz := 1) (by kernel_rfl) (by decide) (by kernel_rfl)) ?_
  refine lv (d := 6) rfl rfl (by kernel_rfl) (e_load1 (ad := ⟨g12, 0 + 0, none⟩) (v := .int .i64 x1.kind) Try.underlying3 rfl (by kernel_rfl) (blk_cell b13 rfl)) ?_
  refine lv (d := 7) rfl rfl (by kernel_rfl) (e_fieldAddr (b := g17) (off := 0) (o := 0) Try.underlying65 rfl rfl (sz := 1) (by kernel_rfl) (by decide) (by kernel_rfl)) ?_
  refine lv (d := 8) rfl rfl (by kernel_rfl) (e_load1 (ad := ⟨g17, 0 + 0, none⟩) (v := .int .i64 x6.kind) Try.underlying3 rfl (by kernel_rfl) (blk_cell b18 rfl)) ?_
  refine lv (d := 9) rfl rfl (by kernel_rfl) (e_neq (k := .i64) (a := x1.kind) (b := x6.kind) (by kernel_rfl) (by kernel_rfl)) ?_
  refine wpList_nil ?_
  refine then_n ?_
  by_cases q21 : x1.kind ≠ x6.kind
  · replace M := ifp q21 M
    refine cond_t rfl (bt q21 (by kernel_rfl)) ?_
    refine wp_seq ?_
    refine wp_region_lit ?_
    refine lv (d := 4) rfl rfl (by kernel_rfl) (e_assign (v := .bool false) rfl) ?_
    refine wpList_nil ?_
    refine then_n ?_
    refine wp_ret ?_
    refine then_r ?_
    obtain rfl := Option.some.inj M
    exact ret1 rfl rfl  (show _ = .bool false from (by kernel_rfl)) ⟨rfl, S19.chg⟩
  replace M := ifn q21 M
  refine cond_f rfl (bf q21 (by kernel_rfl)) ?_
  refine wp_skip ?_
  refine then_n ?_
  refine wp_seq ?_
  refine wp_seq ?_
  refine wp_region_lit ?_
  refine lv (d := 10) rfl rfl (by kernel_rfl) (e_fieldAddr (b := g12) (off := 0) (o := 1) Try.underlying65 rfl rfl (sz := 1) (by kernel_rfl) (by decide) (by kernel_rfl)) ?_
  refine lv (d := 11) rfl rfl (by kernel_rfl) (e_load1 (ad := ⟨g12, 0 + 1, none⟩) (v := .int .i64 x1.n) Try.underlying3 rfl (by kernel_rfl) (blk_cell b13 rfl)) ?_
  refine lv (d := 12) rfl rfl (by kernel_rfl) (e_fieldAddr (b := g17) (off := 0) (o := 1) Try.underlying65 rfl rfl (sz := 1) (by kernel_rfl) (by decide) (by kernel_rfl)) ?_
  refine lv (d := 13) rfl rfl (by kernel_rfl) (e_load1 (ad := ⟨g17, 0 + 1, none⟩) (v := .int .i64 x6.n) Try.underlying3 rfl (by kernel_rfl) (blk_cell b18 rfl)) ?_
  refine lv (d := 14) rfl rfl (by kernel_rfl) (e_neq (k := .i64) (a := x1.n) (b := x6.n) (by kernel_rfl) (by kernel_rfl)) ?_
  refine wpList_nil ?_
  refine then_n ?_
  by_cases q22 : x1.n ≠ x6.n
  · replace M := ifp q22 M
    refine cond_t rfl (bt q22 (by kernel_rfl)) ?_
    refine wp_seq ?_
    refine wp_region_lit ?_
    refine lv (d := 4) rfl rfl (by kernel_rfl) (e_assign (v := .bool false) rfl) ?_
    refine wpList_nil ?_
    refine then_n ?_
    refine wp_ret ?_
    refine then_r ?_
    obtain rfl := Option.some.inj M
    exact ret1 rfl rfl  (show _ = .bool false from (by kernel_rfl)) ⟨rfl, S19.chg⟩
  replace M := ifn q22 M
  refine cond_f rfl (bf q22 (by kernel_rfl)) ?_
  refine wp_skip ?_
  refine then_n ?_
  refine wp_seq ?_
  refine wp_seq ?_
  refine wp_region_lit ?_
  refine lv (d := 15) rfl rfl (by kernel_rfl) (e_fieldAddr (b := g12) (off := 0) (o := 2) Try.underlying65 rfl rfl (sz := 1) (by kernel_rfl) (by decide) (by kernel_rfl)) ?_
  refine lv (d := 16) rfl rfl (by kernel_rfl) (e_load1 (ad := ⟨g12, 0 + 2, none⟩) (v := .slice A2 x1.text.length c3) Try.underlying59 rfl (by kernel_rfl) (blk_cell b13 rfl)) ?_
  refine lv (d := 17) rfl rfl (by kernel_rfl) (e_fieldAddr (b := g17) (off := 0) (o := 2) Try.underlying65 rfl rfl (sz := 1) (by kernel_rfl) (by decide) (by kernel_rfl)) ?_
  refine lv (d := 18) rfl rfl (by kernel_rfl) (e_load1 (ad := ⟨g17, 0 + 2, none⟩) (v := .slice A7 x6.text.length c8) Try.underlying59 rfl (by kernel_rfl) (blk_cell b18 rfl)) ?_
  obtain ⟨t23, u24, M⟩ := bnd M
  refine lcall (d := 19) rfl rfl (by kernel_rfl) (e_call (l := [.tmp 16, .tmp 18]) (vs := [.slice A2 x1.text.length c3, .slice A7 x6.text.length c8]) Try.func104 (by kernel_rfl) rfl (by kernel_rfl) rfl) (laws_eqByteS.calls k w16 H x1.text A2 c3 x6.text A7 c8 h4 l5 h9 l10 S19.own0 t23 u24) ?_
  rintro _ w25 ⟨rfl, C26⟩
  refine ⟨_, rfl, ?_⟩
  obtain ⟨S27, K28⟩ := S19.still C26
  replace b18 := K28.blk 0 rfl b18
  replace b13 := K28.blk 1 rfl b13
  refine lv (d := 20) rfl rfl (by kernel_rfl) (e_notv (c := t23) (by kernel_rfl)) ?_
  refine wpList_nil ?_
  refine then_n ?_
  by_cases q29 : ¬ (t23 = true)
  · replace M := ifp q29 M
    refine cond_t rfl (bt q29 (by kernel_rfl)) ?_
    refine wp_seq ?_
    refine wp_region_lit ?_
    refine lv (d := 4) rfl rfl (by kernel_rfl) (e_assign (v := .bool false) rfl) ?_
    refine wpList_nil ?_
    refine then_n ?_
    refine wp_ret ?_
    refine then_r ?_
    obtain rfl := Option.some.inj M
    exact ret1 rfl rfl  (show _ = .bool false from (by kernel_rfl)) ⟨rfl, S27.chg⟩
  replace M := ifn q29 M
  refine cond_f rfl (bf q29 (by kernel_rfl)) ?_
  refine wp_skip ?_
  refine then_n ?_
  refine wp_seq ?_
  refine wp_region_lit ?_
  refine lv (d := 4) rfl rfl (by kernel_rfl) (e_assign (v := .bool true) rfl) ?_
  refine wpList_nil ?_
  refine then_n ?_
  refine wp_ret ?_
  obtain rfl := Option.some.inj M
  exact ret1 rfl rfl  (show _ = .bool true from (by kernel_rfl)) ⟨rfl, S27.chg⟩

/-! laws_eqCellS -/
def laws_eqCellS.l0 : Nat → (List Cell) → (List Cell) → Int → Option Bool
  | 0, _, _, _ => none
  | k23 + 1, x1, x6, x14 => (if x14 < (x1.length : Int) then (if 0 ≤ x14 then (if x14 < (x6.length : Int) then ((laws_eqCell.f k23 (x1.getD ((x14).toNat) z65) (x6.getD ((x14).toNat) z65)).bind fun t47 => (if ¬ (t47 = true) then some false else (laws_eqCellS.l0 k23 x1 x6 (IntKind.i64.wrap (x14 + 1))))) else none) else none) else some true)
def laws_eqCellS.f (k : Nat) (x1 : List Cell) (x6 : List Cell) : Option Bool := (if (x1.length : Int) ≠ (x6.length : Int) then some false else (laws_eqCellS.l0 k x1 x6 0))
theorem laws_eqCellS.calls (k : Nat) (w : World) (H : Hp) (x1 : List Cell) (A2 : Option Addr) (c3 : Nat) (x6 : List Cell) (A7 : Option Addr) (c8 : Nat) (h4 : Rd st65 H A2 x1) (l5 : x1.length ≤ c3) (h9 : Rd st65 H A7 x6) (l10 : x6.length ≤ c8) (S : Own [] H w) (r : Bool) (M : laws_eqCellS.f k x1 x6 = some r) :
    Calls Try.prog 18 #[.slice A2 x1.length c3, .slice A7 x6.length c8] w (fun e e_w => e = .returned (.bool r) ∧ Chg no w e_w) := by
  rw [laws_eqCellS.f] at M
  refine enter (l := [.slice A2 x1.length c3, .slice A7 x6.length c8]) 27 Try.func18 rfl rfl rfl ?_
  have S0_ := S.st
  refine wp_seq ?_
  refine wp_region_lit ?_
  refine lv (d := 4) rfl rfl (by kernel_rfl) (e_assign (v := .bool false) rfl) ?_
  refine wpList_nil ?_
  refine then_n ?_
  refine wp_seq ?_
  refine wp_seq ?_
  refine wp_region_lit ?_
  refine lv (d := 6) rfl rfl (by kernel_rfl) (e_move (v := .slice A2 x1.length c3) (by kernel_rfl)) ?_
  refine lv (d := 7) rfl rfl (by kernel_rfl) (e_len (A := A2) (n := x1.length) (c := c3) Try.underlying25 (by kernel_rfl)) ?_
  refine lv (d := 8) rfl rfl (by kernel_rfl) (e_move (v := .slice A7 x6.length c8) (by kernel_rfl)) ?_
  refine lv (d := 9) rfl rfl (by kernel_rfl) (e_len (A := A7) (n := x6.length) (c := c8) Try.underlying25 (by kernel_rfl)) ?_
  refine lv (d := 10) rfl rfl (by kernel_rfl) (e_neq (k := .i64) (a := (x1.length : Int)) (b := (x6.length : Int)) (by kernel_rfl) (by kernel_rfl)) ?_
  refine wpList_nil ?_
  refine then_n ?_
  by_cases q11 : (x1.length : Int) ≠ (x6.length : Int)
  · replace M := ifp q11 M
    refine cond_t rfl (bt q11 (by kernel_rfl)) ?_
    refine wp_seq ?_
    refine wp_region_lit ?_
    refine lv (d := 4) rfl rfl (by kernel_rfl) (e_assign (v := .bool false) rfl) ?_
    refine wpList_nil ?_
    refine then_n ?_
    refine wp_ret ?_
    refine then_r ?_
    obtain rfl := Option.some.inj M
    exact ret1 rfl rfl  (show _ = .bool false from (by kernel_rfl)) ⟨rfl, S0_.chg⟩
  replace M := ifn q11 M
  refine cond_f rfl (bf q11 (by kernel_rfl)) ?_
  refine wp_skip ?_
  refine then_n ?_
  refine wp_seq ?_
  refine wp_seq ?_
  refine wp_region_lit ?_
  refine lv (d := 5) rfl rfl (by kernel_rfl) (e_assign (v := .int .i64 0) rfl) ?_
  refine wpList_nil ?_
  refine then_n ?_
  refine wp_block ?_
  refine wp_loop_g (fun k21 a22 w12 => ∃ (f13 : Nat → Value) (x14 : Int), a22 = mk 27 f13 ∧ f13 0 = .slice A2 x1.length c3 ∧ f13 1 = .slice A7 x6.length c8 ∧ f13 5 = .int .i64 x14 ∧ St (anyOf []) H w [] H w12 ∧ laws_eqCellS.l0 k21 x1 x6 x14 = some r) k ⟨_, 0, rfl, (by kernel_rfl), (by kernel_rfl), (by kernel_rfl), S0_, M⟩ ?_
  clear M
  rintro k21 a22 w12 ⟨f13, x14, rfl, e15, e16, e17, S18, M⟩
  rcases k21 with _ | k23
  · rw [laws_eqCellS.l0] at M
    cases M
  rw [laws_eqCellS.l0] at M
  refine wp_seq ?_
  refine wp_seq ?_
  refine wp_region_lit ?_
  refine lv (d := 11) rfl rfl (by kernel_rfl) (e_move (v := .int .i64 x14) (by exact e17)) ?_
  refine lv (d := 12) rfl rfl (by kernel_rfl) (e_move (v := .slice A2 x1.length c3) (by exact e15)) ?_
  refine lv (d := 13) rfl rfl (by kernel_rfl) (e_len (A := A2) (n := x1.length) (c := c3) Try.underlying25 (by kernel_rfl)) ?_
  refine lv (d := 14) rfl rfl (by kernel_rfl) (e_lss (k := .i64) (a := x14) (b := (x1.length : Int)) (by kernel_rfl) (by kernel_rfl)) ?_
  refine wpList_nil ?_
  refine then_n ?_
  by_cases q24 : x14 < (x1.length : Int)
  · replace M := ifp q24 M
    refine cond_t rfl (bt q24 (by kernel_rfl)) ?_
    refine wp_skip ?_
    refine then_n ?_
    refine wp_seq ?_
    refine wp_block ?_
    refine wp_seq ?_
    refine region_quiet (by kernel_rfl) (by kernel_rfl) ?_
    refine qv (d := 17) rfl rfl (by kernel_rfl) (fun wq_ hq_ => e_move (v := .slice A2 x1.length c3) (by exact e15)) ?_
    refine qv (d := 18) rfl rfl (by kernel_rfl) (fun wq_ hq_ => e_move (v := .int .i64 x14) (by exact e17)) ?_
    obtain ⟨q25, M⟩ := chk M
    obtain ⟨b26, o27, e28⟩ := Rd.addr h4 (show (x14).toNat < x1.length by omega)
    obtain ⟨y29, r30, k31⟩ := Rd.at h4 e28 (getD_some z65 (show (x14).toNat < x1.length by omega))
    obtain ⟨A32, c33, rfl, l34, h35⟩ := st65_open r30
    refine qv (d := 19) rfl rfl (by kernel_rfl) (fun wq_ hq_ => e_indexAddr (b := b26) (off := o27) (n := x1.length) (c := c3) (sz := 3) (i := x14) (k := .i64) Try.underlying25 e28 (by kernel_rfl) (by kernel_rfl) (by kernel_rfl) q25 q24) ?_
    refine qv (d := 20) rfl rfl (by kernel_rfl) (fun wq_ hq_ => e_loadS (b := b26) (off := o27 + (x14 : Int).toNat * 3) (cs := [.int .i64 ((x1.getD ((x14).toNat) z65).kind), .int .i64 ((x1.getD ((x14).toNat) z65).n), .slice A32 ((x1.getD ((x14).toNat) z65).text).length c33]) Try.underlying65 rfl (by kernel_rfl) (by kernel_rfl) (fun j_ u_ e_ => (hpx ((S18.still hq_).1.inv.cell (k31 j_ u_ e_))))) ?_
    refine qv (d := 21) rfl rfl (by kernel_rfl) (fun wq_ hq_ => e_move (v := .slice A7 x6.length c8) (by exact e16)) ?_
    refine qv (d := 22) rfl rfl (by kernel_rfl) (fun wq_ hq_ => e_move (v := .int .i64 x14) (by exact e17)) ?_
    obtain ⟨q36, M⟩ := chk M
    obtain ⟨b37, o38, e39⟩ := Rd.addr h9 (show (x14).toNat < x6.length by omega)
    obtain ⟨y40, r41, k42⟩ := Rd.at h9 e39 (getD_some z65 (show (x14).toNat < x6.length by omega))
    obtain ⟨A43, c44, rfl, l45, h46⟩ := st65_open r41
    refine qv (d := 23) rfl rfl (by kernel_rfl) (fun wq_ hq_ => e_indexAddr (b := b37) (off := o38) (n := x6.length) (c := c8) (sz := 3) (i := x14) (k := .i64) Try.underlying25 e39 (by kernel_rfl) (by kernel_rfl) (by kernel_rfl) q25 q36) ?_
    refine qv (d := 24) rfl rfl (by kernel_rfl) (fun wq_ hq_ => e_loadS (b := b37) (off := o38 + (x14 : Int).toNat * 3) (cs := [.int .i64 ((x6.getD ((x14).toNat) z65).kind), .int .i64 ((x6.getD ((x14).toNat) z65).n), .slice A43 ((x6.getD ((x14).toNat) z65).text).length c44]) Try.underlying65 rfl (by kernel_rfl) (by kernel_rfl) (fun j_ u_ e_ => (hpx ((S18.still hq_).1.inv.cell (k42 j_ u_ e_))))) ?_
    obtain ⟨t47, u48, M⟩ := bnd M
    refine qcall (v := .bool t47) (d := 25) rfl rfl (by kernel_rfl) (fun w_ => e_call (l := [.tmp 20, .tmp 24]) (vs := [.agg #[.int .i64 ((x1.getD ((x14).toNat) z65).kind), .int .i64 ((x1.getD ((x14).toNat) z65).n), .slice A32 ((x1.getD ((x14).toNat) z65).text).length c33], .agg #[.int .i64 ((x6.getD ((x14).toNat) z65).kind), .int .i64 ((x6.getD ((x14).toNat) z65).n), .slice A43 ((x6.getD ((x14).toNat) z65).text).length c44]]) Try.func59 (by kernel_rfl) rfl (by kernel_rfl) rfl) (fun wq_ hq_ => (by obtain ⟨S_, K_⟩ := S18.still hq_; exact (laws_eqCell.calls k23 wq_ H (x1.getD ((x14).toNat) z65) A32 c33 (x6.getD ((x14).toNat) z65) A43 c44 h35 l34 h46 l45 S_.own0 t47 u48))) ?_
    refine qv (d := 26) rfl rfl (by kernel_rfl) (fun wq_ hq_ => e_notv (c := t47) (by kernel_rfl)) ?_
    refine wpQuiet_nil ?_
    intro w49 C52
    obtain ⟨S50, K51⟩ := S18.still C52
    refine then_n ?_
    by_cases q53 : ¬ (t47 = true)
    · replace M := ifp q53 M
      refine cond_t rfl (bt q53 (by kernel_rfl)) ?_
      refine wp_seq ?_
      refine wp_region_lit ?_
      refine lv (d := 4) rfl rfl (by kernel_rfl) (e_assign (v := .bool false) rfl) ?_
      refine wpList_nil ?_
      refine then_n ?_
      refine wp_ret ?_
      refine inb_r ?_
      refine then_r ?_
      refine then_r ?_
      refine inb_r ?_
      refine then_r ?_
      obtain rfl := Option.some.inj M
      exact ret1 rfl rfl  (show _ = .bool false from (by kernel_rfl)) ⟨rfl, S50.chg⟩
    replace M := ifn q53 M
    refine cond_f rfl (bf q53 (by kernel_rfl)) ?_
    refine wp_skip ?_
    refine inb_n ?_
    refine then_n ?_
    refine wp_region_lit ?_
    refine lv (d := 15) rfl rfl (by kernel_rfl) (e_move (v := .int .i64 x14) (by exact e17)) ?_
    refine lv (d := 16) rfl rfl (by kernel_rfl) (e_add (k := .i64) (a := x14) (b := 1) (by kernel_rfl) rfl) ?_
    refine lv (d := 5) rfl rfl (by kernel_rfl) (e_assign (v := .int .i64 (IntKind.i64.wrap (x14 + 1))) (by kernel_rfl)) ?_
    refine wpList_nil ?_
    refine then_n ?_
    exact ⟨k23, (by omega), _, (IntKind.i64.wrap (x14 + 1)), rfl, (by exact e15), (by exact e16), (by kernel_rfl), S50, M⟩
  replace M := ifn q24 M
  refine cond_f rfl (bf q24 (by kernel_rfl)) ?_
  refine wp_exit ?_
  refine then_e ?_
  refine then_e ?_
  refine inb_hit ?_
  refine then_n ?_
  refine wp_seq ?_
  refine wp_region_lit ?_
  refine lv (d := 4) rfl rfl (by kernel_rfl) (e_assign (v := .bool true) rfl) ?_
  refine wpList_nil ?_
  refine then_n ?_
  refine wp_ret ?_
  obtain rfl := Option.some.inj M
  exact ret1 rfl rfl  (show _ = .bool true from (by kernel_rfl)) ⟨rfl, S18.chg⟩

/-! laws_FnExactVariant -/
def laws_FnExactVariant.f (k : Nat) (x1 : List Cell) (x6 : List Cell) : Option Bool := ((laws_szCellS.f k x1 1048576).bind fun t11 => (if t11 < 0 then some true else ((laws_szCellS.f k x6 t11).bind fun t18 => (if t18 < 0 then some true else ((laws_toCellS.f k x1).bind fun t25 => ((laws_toCellS.f k x6).bind fun t37 => ((spec_Variant.f k t25 t37).bind fun t49 => ((laws_toCellS.f k x1).bind fun t68 => ((laws_toCellS.f k x6).bind fun t80 => ((impl_Variant.f k t68 t80).bind fun t92 => (if t92 ≠ t49 then some false else ((laws_toCellS.f k x1).bind fun t112 => ((laws_eqCellS.f k t68 t112).bind fun t124 => (if ¬ (t124 = true) then some false else ((laws_toCellS.f k x6).bind fun t144 => ((laws_eqCellS.f k t80 t144).bind fun t156 => (if ¬ (t156 = true) then some false else some true)))))))))))))))))
theorem laws_FnExactVariant.calls (k : Nat) (w : World) (H : Hp) (x1 : List Cell) (A2 : Option Addr) (c3 : Nat) (x6 : List Cell) (A7 : Option Addr) (c8 : Nat) (h4 : Rd st68 H A2 x1) (l5 : x1.length ≤ c3) (h9 : Rd st68 H A7 x6) (l10 : x6.length ≤ c8) (S : Own [] H w) (r : Bool) (M : laws_FnExactVariant.f k x1 x6 = some r) :
    Calls Try.prog 8 #[.slice A2 x1.length c3, .slice A7 x6.length c8] w (fun e e_w => e = .returned (.bool r) ∧ Chg no w e_w) := by
  rw [laws_FnExactVariant.f] at M
  refine enter (l := [.slice A2 x1.length c3, .slice A7 x6.length c8]) 45 Try.func8 rfl rfl rfl ?_
  have S0_ := S.st
  refine wp_seq ?_
  refine wp_region_lit ?_
  refine lv (d := 4) rfl rfl (by kernel_rfl) (e_assign (v := .bool false) rfl) ?_
  refine wpList_nil ?_
  refine then_n ?_
  refine wp_seq ?_
  refine wp_region_lit ?_
  refine lv (d := 5) rfl rfl (by kernel_rfl) (e_assign (v := .int .i64 1048576) rfl) ?_
  refine wpList_nil ?_
  refine then_n ?_
  refine wp_seq ?_
  refine wp_region_lit ?_
  refine lv (d := 10) rfl rfl (by kernel_rfl) (e_move (v := .slice A2 x1.length c3) (by kernel_rfl)) ?_
  refine lv (d := 11) rfl rfl (by kernel_rfl) (e_move (v := .int .i64 1048576) (by kernel_rfl)) ?_
  obtain ⟨t11, u12, M⟩ := bnd M
  refine lcall (d := 12) rfl rfl (by kernel_rfl) (e_call (l := [.tmp 10, .tmp 11]) (vs := [.slice A2 x1.length c3, .int .i64 1048576]) Try.func14 (by kernel_rfl) rfl (by kernel_rfl) rfl) (laws_szCellS.calls k w H x1 A2 c3 1048576 h4 l5 S0_.own0 t11 u12) ?_
  rintro _ w13 ⟨rfl, C14⟩
  refine ⟨_, rfl, ?_⟩
  obtain ⟨S15, K16⟩ := S0_.still C14
  refine lv (d := 5) rfl rfl (by kernel_rfl) (e_assign (v := .int .i64 t11) (by kernel_rfl)) ?_
  refine wpList_nil ?_
  refine then_n ?_
  refine wp_seq ?_
  refine wp_seq ?_
  refine wp_region_lit ?_
  refine lv (d := 13) rfl rfl (by kernel_rfl) (e_move (v := .int .i64 t11) (by kernel_rfl)) ?_
  refine lv (d := 14) rfl rfl (by kernel_rfl) (e_lss (k := .i64) (a := t11) (b := 0) (by kernel_rfl) rfl) ?_
  refine wpList_nil ?_
  refine then_n ?_
  by_cases q17 : t11 < 0
  · replace M := ifp q17 M
    refine cond_t rfl (bt q17 (by kernel_rfl)) ?_
    refine wp_seq ?_
    refine wp_region_lit ?_
    refine lv (d := 4) rfl rfl (by kernel_rfl) (e_assign (v := .bool true) rfl) ?_
    refine wpList_nil ?_
    refine then_n ?_
    refine wp_ret ?_
    refine then_r ?_
    obtain rfl := Option.some.inj M
    exact ret1 rfl rfl  (show _ = .bool true from (by kernel_rfl)) ⟨rfl, S15.chg⟩
  replace M := ifn q17 M
  refine cond_f rfl (bf q17 (by kernel_rfl)) ?_
  refine wp_skip ?_
  refine then_n ?_
  refine wp_seq ?_
  refine wp_region_lit ?_
  refine lv (d := 15) rfl rfl (by kernel_rfl) (e_move (v := .slice A7 x6.length c8) (by kernel_rfl)) ?_
  refine lv (d := 16) rfl rfl (by kernel_rfl) (e_move (v := .int .i64 t11) (by kernel_rfl)) ?_
  obtain ⟨t18, u19, M⟩ := bnd M
  refine lcall (d := 17) rfl rfl (by kernel_rfl) (e_call (l := [.tmp 15, .tmp 16]) (vs := [.slice A7 x6.length c8, .int .i64 t11]) Try.func14 (by kernel_rfl) rfl (by kernel_rfl) rfl) (laws_szCellS.calls k w13 H x6 A7 c8 t11 h9 l10 S15.own0 t18 u19) ?_
  rintro _ w20 ⟨rfl, C21⟩
  refine ⟨_, rfl, ?_⟩
  obtain ⟨S22, K23⟩ := S15.still C21
  refine lv (d := 5) rfl rfl (by kernel_rfl) (e_assign (v := .int .i64 t18) (by kernel_rfl)) ?_
  refine wpList_nil ?_
  refine then_n ?_
  refine wp_seq ?_
  refine wp_seq ?_
  refine wp_region_lit ?_
  refine lv (d := 18) rfl rfl (by kernel_rfl) (e_move (v := .int .i64 t18) (by kernel_rfl)) ?_
  refine lv (d := 19) rfl rfl (by kernel_rfl) (e_lss (k := .i64) (a := t18) (b := 0) (by kernel_rfl) rfl) ?_
  refine wpList_nil ?_
  refine then_n ?_
  by_cases q24 : t18 < 0
  · replace M := ifp q24 M
    refine cond_t rfl (bt q24 (by kernel_rfl)) ?_
    refine wp_seq ?_
    refine wp_region_lit ?_
    refine lv (d := 4) rfl rfl (by kernel_rfl) (e_assign (v := .bool true) rfl) ?_
    refine wpList_nil ?_
    refine then_n ?_
    refine wp_ret ?_
    refine then_r ?_
    obtain rfl := Option.some.inj M
    exact ret1 rfl rfl  (show _ = .bool true from (by kernel_rfl)) ⟨rfl, S22.chg⟩
  replace M := ifn q24 M
  refine cond_f rfl (bf q24 (by kernel_rfl)) ?_
  refine wp_skip ?_
  refine then_n ?_
  refine wp_seq ?_
  refine wp_region_lit ?_
  refine lv (d := 20) rfl rfl (by kernel_rfl) (e_move (v := .slice A2 x1.length c3) (by kernel_rfl)) ?_
  obtain ⟨t25, u26, M⟩ := bnd M
  refine lcall (d := 21) rfl rfl (by kernel_rfl) (e_call (l := [.tmp 20]) (vs := [.slice A2 x1.length c3]) Try.func16 (by kernel_rfl) rfl (by kernel_rfl) rfl) (laws_toCellS.calls k w20 H x1 A2 c3 h4 l5 (St.own' (Fa := []) (Fr := []) S22) t25 u26) ?_
  rintro _ w27 ⟨A30, c31, F33, H28, rfl, h32, T29⟩
  refine ⟨_, rfl, ?_⟩
  obtain ⟨S34, K35⟩ := St.call (Fa := []) (Fr := []) S22 T29
  have E36 := T29.ext
  refine lv (d := 22) rfl rfl (by kernel_rfl) (e_move (v := .slice A7 x6.length c8) (by kernel_rfl)) ?_
  obtain ⟨t37, u38, M⟩ := bnd M
  refine lcall (d := 23) rfl rfl (by kernel_rfl) (e_call (l := [.tmp 22]) (vs := [.slice A7 x6.length c8]) Try.func16 (by kernel_rfl) rfl (by kernel_rfl) rfl) (laws_toCellS.calls k w27 H28 x6 A7 c8 (h9.ext E36) l10 (St.own' (Fa := []) (Fr := [F33]) S34) t37 u38) ?_
  rintro _ w39 ⟨A42, c43, F45, H40, rfl, h44, T41⟩
  refine ⟨_, rfl, ?_⟩
  obtain ⟨S46, K47⟩ := St.call (Fa := []) (Fr := [F33]) S34 T41
  replace h32 := h32.move (K47.at 0 rfl)
  have E48 := T41.ext
  replace h32 := h32.ext E48
  obtain ⟨t49, u50, M⟩ := bnd M
  refine lcall (d := 24) rfl rfl (by kernel_rfl) (e_call (l := [.tmp 21, .tmp 23]) (vs := [.slice A30 t25.length c31, .slice A42 t37.length c43]) Try.func32 (by kernel_rfl) rfl (by kernel_rfl) rfl) (by have l51 := h32.le; have S52 := S46.pull (F := F33) (Fr := [F45]) 1 rfl rfl; obtain ⟨H53, S54, E55, h56, z57⟩ := S52.frzRow h32; replace h44 := h44.ext E55; have l58 := h44.le; obtain ⟨H59, S60, E61, h62, z63⟩ := S54.frzRow h44; exact (spec_Variant.calls k w39 H59 t25 A30 c31 t37 A42 c43 (h56.ext E61) l51 h62 l58 S60.own0 t49 u50)) ?_
  rintro _ w64 ⟨rfl, C65⟩
  refine ⟨_, rfl, ?_⟩
  obtain ⟨S66, K67⟩ := S46.still C65
  replace h44 := h44.move (K67.at 0 rfl)
  replace h32 := h32.move (K67.at 1 rfl)
  refine lv (d := 6) rfl rfl (by kernel_rfl) (e_assign (v := .bool t49) (by kernel_rfl)) ?_
  refine wpList_nil ?_
  refine then_n ?_
  refine wp_seq ?_
  refine wp_region_lit ?_
  refine lv (d := 25) rfl rfl (by kernel_rfl) (e_move (v := .slice A2 x1.length c3) (by kernel_rfl)) ?_
  obtain ⟨t68, u69, M⟩ := bnd M
  refine lcall (d := 26) rfl rfl (by kernel_rfl) (e_call (l := [.tmp 25]) (vs := [.slice A2 x1.length c3]) Try.func16 (by kernel_rfl) rfl (by kernel_rfl) rfl) (laws_toCellS.calls k w64 H40 x1 A2 c3 (h4.ext (E36.trans E48)) l5 (St.own' (Fa := []) (Fr := [F45, F33]) S66) t68 u69) ?_
  rintro _ w70 ⟨A73, c74, F76, H71, rfl, h75, T72⟩
  refine ⟨_, rfl, ?_⟩
  obtain ⟨S77, K78⟩ := St.call (Fa := []) (Fr := [F45, F33]) S66 T72
  replace h44 := h44.move (K78.at 0 rfl)
  replace h32 := h32.move (K78.at 1 rfl)
  have E79 := T72.ext
  replace h44 := h44.ext E79
  replace h32 := h32.ext E79
  refine lv (d := 7) rfl rfl (by kernel_rfl) (e_assign (v := .slice A73 t68.length c74) (by kernel_rfl)) ?_
  refine wpList_nil ?_
  refine then_n ?_
  refine wp_seq ?_
  refine wp_region_lit ?_
  refine lv (d := 27) rfl rfl (by kernel_rfl) (e_move (v := .slice A7 x6.length c8) (by kernel_rfl)) ?_
  obtain ⟨t80, u81, M⟩ := bnd M
  refine lcall (d := 28) rfl rfl (by kernel_rfl) (e_call (l := [.tmp 27]) (vs := [.slice A7 x6.length c8]) Try.func16 (by kernel_rfl) rfl (by kernel_rfl) rfl) (laws_toCellS.calls k w70 H71 x6 A7 c8 (h9.ext ((E36.trans E48).trans E79)) l10 (St.own' (Fa := []) (Fr := [F76, F45, F33]) S77) t80 u81) ?_
  rintro _ w82 ⟨A85, c86, F88, H83, rfl, h87, T84⟩
  refine ⟨_, rfl, ?_⟩
  obtain ⟨S89, K90⟩ := St.call (Fa := []) (Fr := [F76, F45, F33]) S77 T84
  replace h75 := h75.move (K90.at 0 rfl)
  replace h44 := h44.move (K90.at 1 rfl)
  replace h32 := h32.move (K90.at 2 rfl)
  have E91 := T84.ext
  replace h75 := h75.ext E91
  replace h44 := h44.ext E91
  replace h32 := h32.ext E91
  refine lv (d := 8) rfl rfl (by kernel_rfl) (e_assign (v := .slice A85 t80.length c86) (by kernel_rfl)) ?_
  refine wpList_nil ?_
  refine then_n ?_
  refine wp_seq ?_
  refine wp_region_lit ?_
  refine lv (d := 29) rfl rfl (by kernel_rfl) (e_move (v := .slice A73 t68.length c74) (by kernel_rfl)) ?_
  refine lv (d := 30) rfl rfl (by kernel_rfl) (e_move (v := .slice A85 t80.length c86) (by kernel_rfl)) ?_
  obtain ⟨t92, u93, M⟩ := bnd M
  refine lcall (d := 31) rfl rfl (by kernel_rfl) (e_call (l := [.tmp 29, .tmp 30]) (vs := [.slice A73 t68.length c74, .slice A85 t80.length c86]) Try.func33 (by kernel_rfl) rfl (by kernel_rfl) rfl) (by have l94 := h75.le; have S95 := S89.pull (F := F76) (Fr := [F88, F45, F33]) 1 rfl rfl; obtain ⟨H96, S97, E98, h99, z100⟩ := S95.frzRow h75; replace h87 := h87.ext E98; replace h44 := h44.ext E98; replace h32 := h32.ext E98; have l101 := h87.le; obtain ⟨H102, S103, E104, h105, z106⟩ := S97.frzRow h87; replace h44 := h44.ext E104; replace h32 := h32.ext E104; exact (impl_Variant.calls k w82 H102 t68 A73 c74 t80 A85 c86 (h99.ext E104) l94 h105 l101 S103.own0 t92 u93)) ?_
  rintro _ w107 ⟨rfl, C108⟩
  refine ⟨_, rfl, ?_⟩
  obtain ⟨S109, K110⟩ := S89.still C108
  replace h87 := h87.move (K110.at 0 rfl)
  replace h75 := h75.move (K110.at 1 rfl)
  replace h44 := h44.move (K110.at 2 rfl)
  replace h32 := h32.move (K110.at 3 rfl)
  refine lv (d := 9) rfl rfl (by kernel_rfl) (e_assign (v := .bool t92) (by kernel_rfl)) ?_
  refine wpList_nil ?_
  refine then_n ?_
  refine wp_seq ?_
  refine wp_seq ?_
  refine wp_region_lit ?_
  refine lv (d := 32) rfl rfl (by kernel_rfl) (e_move (v := .bool t92) (by kernel_rfl)) ?_
  refine lv (d := 33) rfl rfl (by kernel_rfl) (e_move (v := .bool t49) (by kernel_rfl)) ?_
  refine lv (d := 34) rfl rfl (by kernel_rfl) (e_bneq (p := t92) (q := t49) Try.underlying4 (by kernel_rfl) (by kernel_rfl)) ?_
  refine wpList_nil ?_
  refine then_n ?_
  by_cases q111 : t92 ≠ t49
  · replace M := ifp q111 M
    refine cond_t rfl (bt q111 (by kernel_rfl)) ?_
    refine wp_seq ?_
    refine wp_region_lit ?_
    refine lv (d := 4) rfl rfl (by kernel_rfl) (e_assign (v := .bool false) rfl) ?_
    refine wpList_nil ?_
    refine then_n ?_
    refine wp_ret ?_
    refine then_r ?_
    obtain rfl := Option.some.inj M
    exact ret1 rfl rfl  (show _ = .bool false from (by kernel_rfl)) ⟨rfl, S109.chg⟩
  replace M := ifn q111 M
  refine cond_f rfl (bf q111 (by kernel_rfl)) ?_
  refine wp_skip ?_
  refine then_n ?_
  refine wp_seq ?_
  refine wp_seq ?_
  refine wp_region_lit ?_
  refine lv (d := 35) rfl rfl (by kernel_rfl) (e_move (v := .slice A73 t68.length c74) (by kernel_rfl)) ?_
  refine lv (d := 36) rfl rfl (by kernel_rfl) (e_move (v := .slice A2 x1.length c3) (by kernel_rfl)) ?_
  obtain ⟨t112, u113, M⟩ := bnd M
  refine lcall (d := 37) rfl rfl (by kernel_rfl) (e_call (l := [.tmp 36]) (vs := [.slice A2 x1.length c3]) Try.func16 (by kernel_rfl) rfl (by kernel_rfl) rfl) (laws_toCellS.calls k w107 H83 x1 A2 c3 (h4.ext (((E36.trans E48).trans E79).trans E91)) l5 (St.own' (Fa := []) (Fr := [F88, F76, F45, F33]) S109) t112 u113) ?_
  rintro _ w114 ⟨A117, c118, F120, H115, rfl, h119, T116⟩
  refine ⟨_, rfl, ?_⟩
  obtain ⟨S121, K122⟩ := St.call (Fa := []) (Fr := [F88, F76, F45, F33]) S109 T116
  replace h87 := h87.move (K122.at 0 rfl)
  replace h75 := h75.move (K122.at 1 rfl)
  replace h44 := h44.move (K122.at 2 rfl)
  replace h32 := h32.move (K122.at 3 rfl)
  have E123 := T116.ext
  replace h87 := h87.ext E123
  replace h75 := h75.ext E123
  replace h44 := h44.ext E123
  replace h32 := h32.ext E123
  obtain ⟨t124, u125, M⟩ := bnd M
  refine lcall (d := 38) rfl rfl (by kernel_rfl) (e_call (l := [.tmp 35, .tmp 37]) (vs := [.slice A73 t68.length c74, .slice A117 t112.length c118]) Try.func18 (by kernel_rfl) rfl (by kernel_rfl) rfl) (by have l126 := h75.le; have S127 := S121.pull (F := F76) (Fr := [F120, F88, F45, F33]) 2 rfl rfl; obtain ⟨H128, S129, E130, h131, z132⟩ := S127.frzRow h75; replace h119 := h119.ext E130; replace h87 := h87.ext E130; replace h44 := h44.ext E130; replace h32 := h32.ext E130; have l133 := h119.le; obtain ⟨H134, S135, E136, h137, z138⟩ := S129.frzRow h119; replace h87 := h87.ext E136; replace h44 := h44.ext E136; replace h32 := h32.ext E136; exact (laws_eqCellS.calls k w114 H134 t68 A73 c74 t112 A117 c118 (h131.ext E136) l126 h137 l133 S135.own0 t124 u125)) ?_
  rintro _ w139 ⟨rfl, C140⟩
  refine ⟨_, rfl, ?_⟩
  obtain ⟨S141, K142⟩ := S121.still C140
  replace h119 := h119.move (K142.at 0 rfl)
  replace h87 := h87.move (K142.at 1 rfl)
  replace h75 := h75.move (K142.at 2 rfl)
  replace h44 := h44.move (K142.at 3 rfl)
  replace h32 := h32.move (K142.at 4 rfl)
  refine lv (d := 39) rfl rfl (by kernel_rfl) (e_notv (c := t124) (by kernel_rfl)) ?_
  refine wpList_nil ?_
  refine then_n ?_
  by_cases q143 : ¬ (t124 = true)
  · replace M := ifp q143 M
    refine cond_t rfl (bt q143 (by kernel_rfl)) ?_
    refine wp_seq ?_
    refine wp_region_lit ?_
    refine lv (d := 4) rfl rfl (by kernel_rfl) (e_assign (v := .bool false) rfl) ?_
    refine wpList_nil ?_
    refine then_n ?_
    refine wp_ret ?_
    refine then_r ?_
    obtain rfl := Option.some.inj M
    exact ret1 rfl rfl  (show _ = .bool false from (by kernel_rfl)) ⟨rfl, S141.chg⟩
  replace M := ifn q143 M
  refine cond_f rfl (bf q143 (by kernel_rfl)) ?_
  refine wp_skip ?_
  refine then_n ?_
  refine wp_seq ?_
  refine wp_seq ?_
  refine wp_region_lit ?_
  refine lv (d := 40) rfl rfl (by kernel_rfl) (e_move (v := .slice A85 t80.length c86) (by kernel_rfl)) ?_
  refine lv (d := 41) rfl rfl (by kernel_rfl) (e_move (v := .slice A7 x6.length c8) (by kernel_rfl)) ?_
  obtain ⟨t144, u145, M⟩ := bnd M
  refine lcall (d := 42) rfl rfl (by kernel_rfl) (e_call (l := [.tmp 41]) (vs := [.slice A7 x6.length c8]) Try.func16 (by kernel_rfl) rfl (by kernel_rfl) rfl) (laws_toCellS.calls k w139 H115 x6 A7 c8 (h9.ext ((((E36.trans E48).trans E79).trans E91).trans E123)) l10 (St.own' (Fa := []) (Fr := [F120, F88, F76, F45, F33]) S141) t144 u145) ?_
  rintro _ w146 ⟨A149, c150, F152, H147, rfl, h151, T148⟩
  refine ⟨_, rfl, ?_⟩
  obtain ⟨S153, K154⟩ := St.call (Fa := []) (Fr := [F120, F88, F76, F45, F33]) S141 T148
  replace h119 := h119.move (K154.at 0 rfl)
  replace h87 := h87.move (K154.at 1 rfl)
  replace h75 := h75.move (K154.at 2 rfl)
  replace h44 := h44.move (K154.at 3 rfl)
  replace h32 := h32.move (K154.at 4 rfl)
  have E155 := T148.ext
  replace h119 := h119.ext E155
  replace h87 := h87.ext E155
  replace h75 := h75.ext E155
  replace h44 := h44.ext E155
  replace h32 := h32.ext E155
  obtain ⟨t156, u157, M⟩ := bnd M
  refine lcall (d := 43) rfl rfl (by kernel_rfl) (e_call (l := [.tmp 40, .tmp 42]) (vs := [.slice A85 t80.length c86, .slice A149 t144.length c150]) Try.func18 (by kernel_rfl) rfl (by kernel_rfl) rfl) (by have l158 := h87.le; have S159 := S153.pull (F := F88) (Fr := [F152, F120, F76, F45, F33]) 2 rfl rfl; obtain ⟨H160, S161, E162, h163, z164⟩ := S159.frzRow h87; replace h151 := h151.ext E162; replace h119 := h119.ext E162; replace h75 := h75.ext E162; replace h44 := h44.ext E162; replace h32 := h32.ext E162; have l165 := h151.le; obtain ⟨H166, S167, E168, h169, z170⟩ := S161.frzRow h151; replace h119 := h119.ext E168; replace h75 := h75.ext E168; replace h44 := h44.ext E168; replace h32 := h32.ext E168; exact (laws_eqCellS.calls k w146 H166 t80 A85 c86 t144 A149 c150 (h163.ext E168) l158 h169 l165 S167.own0 t156 u157)) ?_
  rintro _ w171 ⟨rfl, C172⟩
  refine ⟨_, rfl, ?_⟩
  obtain ⟨S173, K174⟩ := S153.still C172
  replace h151 := h151.move (K174.at 0 rfl)
  replace h119 := h119.move (K174.at 1 rfl)
  replace h87 := h87.move (K174.at 2 rfl)
  replace h75 := h75.move (K174.at 3 rfl)
  replace h44 := h44.move (K174.at 4 rfl)
  replace h32 := h32.move (K174.at 5 rfl)
  refine lv (d := 44) rfl rfl (by kernel_rfl) (e_notv (c := t156) (by kernel_rfl)) ?_
  refine wpList_nil ?_
  refine then_n ?_
  by_cases q175 : ¬ (t156 = true)
  · replace M := ifp q175 M
    refine cond_t rfl (bt q175 (by kernel_rfl)) ?_
    refine wp_seq ?_
    refine wp_region_lit ?_
    refine lv (d := 4) rfl rfl (by kernel_rfl) (e_assign (v := .bool false) rfl) ?_
    refine wpList_nil ?_
    refine then_n ?_
    refine wp_ret ?_
    refine then_r ?_
    obtain rfl := Option.some.inj M
    exact ret1 rfl rfl  (show _ = .bool false from (by kernel_rfl)) ⟨rfl, S173.chg⟩
  replace M := ifn q175 M
  refine cond_f rfl (bf q175 (by kernel_rfl)) ?_
  refine wp_skip ?_
  refine then_n ?_
  refine wp_seq ?_
  refine wp_region_lit ?_
  refine lv (d := 4) rfl rfl (by kernel_rfl) (e_assign (v := .bool true) rfl) ?_
  refine wpList_nil ?_
  refine then_n ?_
  refine wp_ret ?_
  obtain rfl := Option.some.inj M
  exact ret1 rfl rfl  (show _ = .bool true from (by kernel_rfl)) ⟨rfl, S173.chg⟩
end Go.Proofs.Ytognefkopbbdnaa
