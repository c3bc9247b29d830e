import Derived.Test.YtminnekeekhjcaaWkSo1
namespace Go.Proofs.Ytminnekeekhjcaa
open Go.Sx Go.Sy
attribute [local irreducible] Go.wpList Go.wpStill Go.wpQuiet Go.Code.wp
set_option maxRecDepth 100000
set_option maxHeartbeats 1000000
set_option linter.unusedVariables false
set_option linter.unusedSimpArgs false

/-! sort_nextPowerOfTwo -/
def sort_nextPowerOfTwo.f (x1 : Int) : Option Int := ((bits_Len.f (IntKind.u64.wrap (x1))).bind fun t2 => (if 0 ≤ (IntKind.u64.wrap (t2)) then some (IntKind.u64.wrap (1 * 2 ^ (min (Int.toNat (IntKind.u64.wrap (t2))) 64))) else none))
theorem sort_nextPowerOfTwo.calls (w : World) (H : Hp) (x1 : Int) (S : Own [] H w) (r : Int) (M : sort_nextPowerOfTwo.f x1 = some r) :
    Calls Try.prog 74 #[.int .i64 x1] w (fun e e_w => e = .returned (.int .u64 r) ∧ Chg no w e_w) := by
  rw [sort_nextPowerOfTwo.f] at M
  refine enter (l := [.int .i64 x1]) 10 Try.func74 rfl rfl rfl ?_
  have S0_ := S.st
  refine wp_seq ?_
  refine wp_region_lit ?_
  refine lv (d := 2) rfl rfl (by kernel_rfl) (e_assign (v := .int .u64 0) rfl) ?_
  refine wpList_nil ?_
  refine then_n ?_
  refine wp_seq ?_
  refine wp_region_lit ?_
  refine lv (d := 4) rfl rfl (by kernel_rfl) (e_move (v := .int .i64 x1) (by kernel_rfl)) ?_
  refine lv (d := 5) rfl rfl (by kernel_rfl) (e_conv_int (k := .i64) (a := x1) (by kernel_rfl) Try.underlying75 (by kernel_rfl)) ?_
  obtain ⟨t2, u3, M⟩ := bnd M
  refine lcall (d := 6) rfl rfl (by kernel_rfl) (e_call (l := [.tmp 5]) (vs := [.int .u64 (IntKind.u64.wrap (x1))]) Try.func52 (by kernel_rfl) rfl (by kernel_rfl) rfl) (bits_Len.calls w H (IntKind.u64.wrap (x1))  S0_.own0 t2 u3) ?_
  rintro _ w4 ⟨rfl, C5⟩
  refine ⟨_, rfl, ?_⟩
  obtain ⟨S6, K7⟩ := S0_.still C5
  refine lv (d := 7) rfl rfl (by kernel_rfl) (e_conv_int (k := .i64) (a := t2) (by kernel_rfl) Try.underlying75 (by kernel_rfl)) ?_
  refine lv (d := 3) rfl rfl (by kernel_rfl) (e_assign (v := .int .u64 (IntKind.u64.wrap (t2))) (by kernel_rfl)) ?_
  refine wpList_nil ?_
  refine then_n ?_
  refine wp_seq ?_
  refine wp_region_lit ?_
  refine lv (d := 8) rfl rfl (by kernel_rfl) (e_move (v := .int .u64 (IntKind.u64.wrap (t2))) (by kernel_rfl)) ?_
  obtain ⟨q8, M⟩ := chk M
  refine lv (d := 9) rfl rfl (by kernel_rfl) (e_shl (k := .u64) (k2 := .u64) (a := 1) (b := (IntKind.u64.wrap (t2))) rfl (by kernel_rfl) q8) ?_
  refine lv (d := 2) rfl rfl (by kernel_rfl) (e_assign (v := .int .u64 (IntKind.u64.wrap (1 * 2 ^ (min (Int.toNat (IntKind.u64.wrap (t2))) 64)))) (by kernel_rfl)) ?_
  refine wpList_nil ?_
  refine then_n ?_
  refine wp_ret ?_
  obtain rfl := Option.some.inj M
  exact ret1 rfl rfl  (show _ = .int .u64 (IntKind.u64.wrap (1 * 2 ^ (min (Int.toNat (IntKind.u64.wrap (t2))) 64))) from (by kernel_rfl)) ⟨rfl, S6.chg⟩

/-! sort_xorshift_Next -/
def sort_xorshift_Next_2.f (x1 : Int) : Option (Int × Int) := some ((bits .xor .u64 (bits .xor .u64 (bits .xor .u64 x1 (IntKind.u64.wrap (x1 * 2 ^ 13))) (Int.fdiv (bits .xor .u64 x1 (IntKind.u64.wrap (x1 * 2 ^ 13))) (2 ^ 7))) (IntKind.u64.wrap ((bits .xor .u64 (bits .xor .u64 x1 (IntKind.u64.wrap (x1 * 2 ^ 13))) (Int.fdiv (bits .xor .u64 x1 (IntKind.u64.wrap (x1 * 2 ^ 13))) (2 ^ 7))) * 2 ^ 17))), (bits .xor .u64 (bits .xor .u64 (bits .xor .u64 x1 (IntKind.u64.wrap (x1 * 2 ^ 13))) (Int.fdiv (bits .xor .u64 x1 (IntKind.u64.wrap (x1 * 2 ^ 13))) (2 ^ 7))) (IntKind.u64.wrap ((bits .xor .u64 (bits .xor .u64 x1 (IntKind.u64.wrap (x1 * 2 ^ 13))) (Int.fdiv (bits .xor .u64 x1 (IntKind.u64.wrap (x1 * 2 ^ 13))) (2 ^ 7))) * 2 ^ 17))))
theorem sort_xorshift_Next_2.calls (w : World) (H : Hp) (x1 : Int) (g2 : Nat) (b3 : w.heap[g2]? = some (.cells #[.int .u64 x1] 94 (0, 0))) (S : Own [(is g2)] H w) (r : Int × Int) (M : sort_xorshift_Next_2.f x1 = some r) :
    Calls Try.prog 75 #[.pointer (some ⟨g2, 0, none⟩)] w (fun e e_w => ∃ (H_ : Hp), e = .returned (.int .u64 r.1) ∧ e_w.heap[g2]? = some (.cells #[.int .u64 r.2] 94 (0, 0)) ∧ St (anyOf [(is g2)]) H w [(is g2)] H_ e_w) := by
  rw [sort_xorshift_Next_2.f] at M
  refine enter (l := [.pointer (some ⟨g2, 0, none⟩)]) 33 Try.func75 rfl rfl rfl ?_
  have S0_ := S.st
  refine wp_seq ?_
  refine wp_region_lit ?_
  refine lv (d := 2) rfl rfl (by kernel_rfl) (e_assign (v := .int .u64 0) rfl) ?_
  refine wpList_nil ?_
  refine then_n ?_
  refine wp_seq ?_
  refine region_mix (S := (fun (L_ : Array Bool) (w_ : World) => Ext H (hp w_) ∧ (L_.getD 9 true = false → (∀ b_, (is g2) b_ → hp w_ b_ = hp w b_)))) (by kernel_rfl) S0_ ?_
  intro w4 S5 K6 hc7
  have o8 := b3
  have hs9 : (fun (L_ : Array Bool) (w_ : World) => Ext H (hp w_) ∧ (L_.getD 9 true = false → (∀ b_, (is g2) b_ → hp w_ b_ = hp w b_))) (Array.replicate 10 false) w4 := ⟨S5.inv, (fun _ => (fun b_ h_ => K6.at 0 rfl b_ h_))⟩
  replace b3 := K6.blk 0 rfl b3
  refine xv (i := 0) (d := 3) rfl rfl rfl (by kernel_rfl) (by kernel_rfl) (fun L_ w_ => by simp only [getD_set_ne true (show (0 : Nat) ≠ 9 by decide)]) hc7 hs9 (fun L_ w_ hc_ hu_ hs_ => e_move (v := .pointer (some ⟨g2, 0, none⟩)) (by kernel_rfl)) ?_; intro hc10 hs11
  refine xv (i := 1) (d := 4) rfl rfl rfl (by kernel_rfl) (by kernel_rfl) (fun L_ w_ => by simp only [getD_set_ne true (show (1 : Nat) ≠ 9 by decide)]) hc10 hs11 (fun L_ w_ hc_ hu_ hs_ => e_nilCheck (ad := ⟨g2, 0, none⟩) (by kernel_rfl)) ?_; intro hc12 hs13
  refine xv (i := 2) (d := 5) rfl rfl rfl (by kernel_rfl) (by kernel_rfl) (fun L_ w_ => by simp only [getD_set_ne true (show (2 : Nat) ≠ 9 by decide)]) hc12 hs13 (fun L_ w_ hc_ hu_ hs_ => e_load1 (ad := ⟨g2, 0, none⟩) (v := .int .u64 x1) Try.underlying94 rfl (by kernel_rfl) (blk_cell (((hs_.2 (unl 9 9 2 hc_ hu_ (by kernel_rfl))) _ rfl).trans o8) rfl)) ?_; intro hc14 hs15
  refine xone (i := 3) (by kernel_rfl) hc14 ?_
  refine yo (i := 3) (d := 6) rfl rfl (wanted_none rfl _) (by kernel_rfl) (by kernel_rfl) (fun L_ w_ => by simp only [getD_set_ne true (show (3 : Nat) ≠ 9 by decide)]) hs15 (e_move (v := .pointer (some ⟨g2, 0, none⟩)) (by kernel_rfl)) ?_; intro hc16 hs17
  refine xone (i := 4) (by kernel_rfl) hc16 ?_
  refine yo (i := 4) (d := 7) rfl rfl (wanted_none rfl _) (by kernel_rfl) (by kernel_rfl) (fun L_ w_ => by simp only [getD_set_ne true (show (4 : Nat) ≠ 9 by decide)]) hs17 (e_nilCheck (ad := ⟨g2, 0, none⟩) (by kernel_rfl)) ?_; intro hc18 hs19
  refine xone (i := 5) (by kernel_rfl) hc18 ?_
  refine yo (i := 5) (d := 8) rfl rfl (wanted_none rfl _) (by kernel_rfl) (by kernel_rfl) (fun L_ w_ => by simp only [getD_set_ne true (show (5 : Nat) ≠ 9 by decide)]) hs19 (e_load1 (ad := ⟨g2, 0, none⟩) (v := .int .u64 x1) Try.underlying94 rfl (by kernel_rfl) (blk_cell b3 rfl)) ?_; intro hc20 hs21
  refine xone (i := 6) (by kernel_rfl) hc20 ?_
  refine yo (i := 6) (d := 9) rfl rfl (wanted_none rfl _) (by kernel_rfl) (by kernel_rfl) (fun L_ w_ => by simp only [getD_set_ne true (show (6 : Nat) ≠ 9 by decide)]) hs21 (e_shl (k := .u64) (k2 := .u64) (a := x1) (b := 13) (by kernel_rfl) rfl (by decide)) ?_; intro hc22 hs23
  refine xone (i := 7) (by kernel_rfl) hc22 ?_
  refine yo (i := 7) (d := 10) rfl rfl (wanted_none rfl _) (by kernel_rfl) (by kernel_rfl) (fun L_ w_ => by simp only [getD_set_ne true (show (7 : Nat) ≠ 9 by decide)]) hs23 (e_xor (k := .u64) (a := x1) (b := (IntKind.u64.wrap (x1 * 2 ^ 13))) (by kernel_rfl) (by kernel_rfl)) ?_; intro hc24 hs25
  refine xone (i := 8) (by kernel_rfl) hc24 ?_
  refine yo (i := 8) (d := 11) rfl rfl (wanted_none rfl _) (by kernel_rfl) (by kernel_rfl) (fun L_ w_ => by simp only [getD_set_ne true (show (8 : Nat) ≠ 9 by decide)]) hs25 (e_nilCheck (ad := ⟨g2, 0, none⟩) (by kernel_rfl)) ?_; intro hc26 hs27
  refine xone (i := 9) (by kernel_rfl) hc26 ?_
  refine ys (i := 9) rfl rfl (wanted_none rfl _) (by kernel_rfl) (by kernel_rfl) (e_store (g := g2) (o := 0) (v := .int .u64 (bits .xor .u64 x1 (IntKind.u64.wrap (x1 * 2 ^ 13)))) (cur' := #[.int .u64 (bits .xor .u64 x1 (IntKind.u64.wrap (x1 * 2 ^ 13)))]) (vs := [.int .u64 (bits .xor .u64 x1 (IntKind.u64.wrap (x1 * 2 ^ 13)))]) S5 (by kernel_rfl) (by kernel_rfl) rfl (by kernel_rfl) b3 (Nat.le_of_ble_eq_true rfl) (List.forall_mem_cons.2 ⟨rfl, (fun _ h_ => by cases h_)⟩) rfl) ?_
  rintro hc32 w28 ⟨b29, S30, K31⟩
  refine ⟨⟨S30.inv, (fun q_ => absurd q_ (by decide +kernel))⟩, fun hs33 => ?_⟩
  clear b3
  refine xn (by kernel_rfl) ?_ _
  refine then_n ?_
  refine wp_seq ?_
  refine region_mix (S := (fun (L_ : Array Bool) (w_ : World) => Ext H (hp w_) ∧ (L_.getD 9 true = false → (∀ b_, (is g2) b_ → hp w_ b_ = hp w28 b_)))) (by kernel_rfl) S30 ?_
  intro w34 S35 K36 hc37
  have o38 := b29
  have hs39 : (fun (L_ : Array Bool) (w_ : World) => Ext H (hp w_) ∧ (L_.getD 9 true = false → (∀ b_, (is g2) b_ → hp w_ b_ = hp w28 b_))) (Array.replicate 10 false) w34 := ⟨S35.inv, (fun _ => (fun b_ h_ => K36.at 0 rfl b_ h_))⟩
  replace b29 := K36.blk 0 rfl b29
  refine xv (i := 0) (d := 12) rfl rfl rfl (by kernel_rfl) (by kernel_rfl) (fun L_ w_ => by simp only [getD_set_ne true (show (0 : Nat) ≠ 9 by decide)]) hc37 hs39 (fun L_ w_ hc_ hu_ hs_ => e_move (v := .pointer (some ⟨g2, 0, none⟩)) (by kernel_rfl)) ?_; intro hc40 hs41
  refine xv (i := 1) (d := 13) rfl rfl rfl (by kernel_rfl) (by kernel_rfl) (fun L_ w_ => by simp only [getD_set_ne true (show (1 : Nat) ≠ 9 by decide)]) hc40 hs41 (fun L_ w_ hc_ hu_ hs_ => e_nilCheck (ad := ⟨g2, 0, none⟩) (by kernel_rfl)) ?_; intro hc42 hs43
  refine xv (i := 2) (d := 14) rfl rfl rfl (by kernel_rfl) (by kernel_rfl) (fun L_ w_ => by simp only [getD_set_ne true (show (2 : Nat) ≠ 9 by decide)]) hc42 hs43 (fun L_ w_ hc_ hu_ hs_ => e_load1 (ad := ⟨g2, 0, none⟩) (v := .int .u64 (bits .xor .u64 x1 (IntKind.u64.wrap (x1 * 2 ^ 13)))) Try.underlying94 rfl (by kernel_rfl) (blk_cell (((hs_.2 (unl 9 9 2 hc_ hu_ (by kernel_rfl))) _ rfl).trans o38) rfl)) ?_; intro hc44 hs45
  refine xone (i := 3) (by kernel_rfl) hc44 ?_
  refine yo (i := 3) (d := 15) rfl rfl (wanted_none rfl _) (by kernel_rfl) (by kernel_rfl) (fun L_ w_ => by simp only [getD_set_ne true (show (3 : Nat) ≠ 9 by decide)]) hs45 (e_move (v := .pointer (some ⟨g2, 0, none⟩)) (by kernel_rfl)) ?_; intro hc46 hs47
  refine xone (i := 4) (by kernel_rfl) hc46 ?_
  refine yo (i := 4) (d := 16) rfl rfl (wanted_none rfl _) (by kernel_rfl) (by kernel_rfl) (fun L_ w_ => by simp only [getD_set_ne true (show (4 : Nat) ≠ 9 by decide)]) hs47 (e_nilCheck (ad := ⟨g2, 0, none⟩) (by kernel_rfl)) ?_; intro hc48 hs49
  refine xone (i := 5) (by kernel_rfl) hc48 ?_
  refine yo (i := 5) (d := 17) rfl rfl (wanted_none rfl _) (by kernel_rfl) (by kernel_rfl) (fun L_ w_ => by simp only [getD_set_ne true (show (5 : Nat) ≠ 9 by decide)]) hs49 (e_load1 (ad := ⟨g2, 0, none⟩) (v := .int .u64 (bits .xor .u64 x1 (IntKind.u64.wrap (x1 * 2 ^ 13)))) Try.underlying94 rfl (by kernel_rfl) (blk_cell b29 rfl)) ?_; intro hc50 hs51
  refine xone (i := 6) (by kernel_rfl) hc50 ?_
  refine yo (i := 6) (d := 18) rfl rfl (wanted_none rfl _) (by kernel_rfl) (by kernel_rfl) (fun L_ w_ => by simp only [getD_set_ne true (show (6 : Nat) ≠ 9 by decide)]) hs51 (e_shr (k := .u64) (k2 := .u64) (a := (bits .xor .u64 x1 (IntKind.u64.wrap (x1 * 2 ^ 13)))) (b := 7) (by kernel_rfl) rfl (by decide)) ?_; intro hc52 hs53
  refine xone (i := 7) (by kernel_rfl) hc52 ?_
  refine yo (i := 7) (d := 19) rfl rfl (wanted_none rfl _) (by kernel_rfl) (by kernel_rfl) (fun L_ w_ => by simp only [getD_set_ne true (show (7 : Nat) ≠ 9 by decide)]) hs53 (e_xor (k := .u64) (a := (bits .xor .u64 x1 (IntKind.u64.wrap (x1 * 2 ^ 13)))) (b := (Int.fdiv (bits .xor .u64 x1 (IntKind.u64.wrap (x1 * 2 ^ 13))) (2 ^ 7))) (by kernel_rfl) (by kernel_rfl)) ?_; intro hc54 hs55
  refine xone (i := 8) (by kernel_rfl) hc54 ?_
  refine yo (i := 8) (d := 20) rfl rfl (wanted_none rfl _) (by kernel_rfl) (by kernel_rfl) (fun L_ w_ => by simp only [getD_set_ne true (show (8 : Nat) ≠ 9 by decide)]) hs55 (e_nilCheck (ad := ⟨g2, 0, none⟩) (by kernel_rfl)) ?_; intro hc56 hs57
  refine xone (i := 9) (by kernel_rfl) hc56 ?_
  refine ys (i := 9) rfl rfl (wanted_none rfl _) (by kernel_rfl) (by kernel_rfl) (e_store (g := g2) (o := 0) (v := .int .u64 (bits .xor .u64 (bits .xor .u64 x1 (IntKind.u64.wrap (x1 * 2 ^ 13))) (Int.fdiv (bits .xor .u64 x1 (IntKind.u64.wrap (x1 * 2 ^ 13))) (2 ^ 7)))) (cur' := #[.int .u64 (bits .xor .u64 (bits .xor .u64 x1 (IntKind.u64.wrap (x1 * 2 ^ 13))) (Int.fdiv (bits .xor .u64 x1 (IntKind.u64.wrap (x1 * 2 ^ 13))) (2 ^ 7)))]) (vs := [.int .u64 (bits .xor .u64 (bits .xor .u64 x1 (IntKind.u64.wrap (x1 * 2 ^ 13))) (Int.fdiv (bits .xor .u64 x1 (IntKind.u64.wrap (x1 * 2 ^ 13))) (2 ^ 7)))]) S35 (by kernel_rfl) (by kernel_rfl) rfl (by kernel_rfl) b29 (Nat.le_of_ble_eq_true rfl) (List.forall_mem_cons.2 ⟨rfl, (fun _ h_ => by cases h_)⟩) rfl) ?_
  rintro hc62 w58 ⟨b59, S60, K61⟩
  refine ⟨⟨S60.inv, (fun q_ => absurd q_ (by decide +kernel))⟩, fun hs63 => ?_⟩
  clear b29
  refine xn (by kernel_rfl) ?_ _
  refine then_n ?_
  refine wp_seq ?_
  refine region_mix (S := (fun (L_ : Array Bool) (w_ : World) => Ext H (hp w_) ∧ (L_.getD 9 true = false → (∀ b_, (is g2) b_ → hp w_ b_ = hp w58 b_)))) (by kernel_rfl) S60 ?_
  intro w64 S65 K66 hc67
  have o68 := b59
  have hs69 : (fun (L_ : Array Bool) (w_ : World) => Ext H (hp w_) ∧ (L_.getD 9 true = false → (∀ b_, (is g2) b_ → hp w_ b_ = hp w58 b_))) (Array.replicate 10 false) w64 := ⟨S65.inv, (fun _ => (fun b_ h_ => K66.at 0 rfl b_ h_))⟩
  replace b59 := K66.blk 0 rfl b59
  refine xv (i := 0) (d := 21) rfl rfl rfl (by kernel_rfl) (by kernel_rfl) (fun L_ w_ => by simp only [getD_set_ne true (show (0 : Nat) ≠ 9 by decide)]) hc67 hs69 (fun L_ w_ hc_ hu_ hs_ => e_move (v := .pointer (some ⟨g2, 0, none⟩)) (by kernel_rfl)) ?_; intro hc70 hs71
  refine xv (i := 1) (d := 22) rfl rfl rfl (by kernel_rfl) (by kernel_rfl) (fun L_ w_ => by simp only [getD_set_ne true (show (1 : Nat) ≠ 9 by decide)]) hc70 hs71 (fun L_ w_ hc_ hu_ hs_ => e_nilCheck (ad := ⟨g2, 0, none⟩) (by kernel_rfl)) ?_; intro hc72 hs73
  refine xv (i := 2) (d := 23) rfl rfl rfl (by kernel_rfl) (by kernel_rfl) (fun L_ w_ => by simp only [getD_set_ne true (show (2 : Nat) ≠ 9 by decide)]) hc72 hs73 (fun L_ w_ hc_ hu_ hs_ => e_load1 (ad := ⟨g2, 0, none⟩) (v := .int .u64 (bits .xor .u64 (bits .xor .u64 x1 (IntKind.u64.wrap (x1 * 2 ^ 13))) (Int.fdiv (bits .xor .u64 x1 (IntKind.u64.wrap (x1 * 2 ^ 13))) (2 ^ 7)))) Try.underlying94 rfl (by kernel_rfl) (blk_cell (((hs_.2 (unl 9 9 2 hc_ hu_ (by kernel_rfl))) _ rfl).trans o68) rfl)) ?_; intro hc74 hs75
  refine xone (i := 3) (by kernel_rfl) hc74 ?_
  refine yo (i := 3) (d := 24) rfl rfl (wanted_none rfl _) (by kernel_rfl) (by kernel_rfl) (fun L_ w_ => by simp only [getD_set_ne true (show (3 : Nat) ≠ 9 by decide)]) hs75 (e_move (v := .pointer (some ⟨g2, 0, none⟩)) (by kernel_rfl)) ?_; intro hc76 hs77
  refine xone (i := 4) (by kernel_rfl) hc76 ?_
  refine yo (i := 4) (d := 25) rfl rfl (wanted_none rfl _) (by kernel_rfl) (by kernel_rfl) (fun L_ w_ => by simp only [getD_set_ne true (show (4 : Nat) ≠ 9 by decide)]) hs77 (e_nilCheck (ad := ⟨g2, 0, none⟩) (by kernel_rfl)) ?_; intro hc78 hs79
  refine xone (i := 5) (by kernel_rfl) hc78 ?_
  refine yo (i := 5) (d := 26) rfl rfl (wanted_none rfl _) (by kernel_rfl) (by kernel_rfl) (fun L_ w_ => by simp only [getD_set_ne true (show (5 : Nat) ≠ 9 by decide)]) hs79 (e_load1 (ad := ⟨g2, 0, none⟩) (v := .int .u64 (bits .xor .u64 (bits .xor .u64 x1 (IntKind.u64.wrap (x1 * 2 ^ 13))) (Int.fdiv (bits .xor .u64 x1 (IntKind.u64.wrap (x1 * 2 ^ 13))) (2 ^ 7)))) Try.underlying94 rfl (by kernel_rfl) (blk_cell b59 rfl)) ?_; intro hc80 hs81
  refine xone (i := 6) (by kernel_rfl) hc80 ?_
  refine yo (i := 6) (d := 27) rfl rfl (wanted_none rfl _) (by kernel_rfl) (by kernel_rfl) (fun L_ w_ => by simp only [getD_set_ne true (show (6 : Nat) ≠ 9 by decide)]) hs81 (e_shl (k := .u64) (k2 := .u64) (a := (bits .xor .u64 (bits .xor .u64 x1 (IntKind.u64.wrap (x1 * 2 ^ 13))) (Int.fdiv (bits .xor .u64 x1 (IntKind.u64.wrap (x1 * 2 ^ 13))) (2 ^ 7)))) (b := 17) (by kernel_rfl) rfl (by decide)) ?_; intro hc82 hs83
  refine xone (i := 7) (by kernel_rfl) hc82 ?_
  refine yo (i := 7) (d := 28) rfl rfl (wanted_none rfl _) (by kernel_rfl) (by kernel_rfl) (fun L_ w_ => by simp only [getD_set_ne true (show (7 : Nat) ≠ 9 by decide)]) hs83 (e_xor (k := .u64) (a := (bits .xor .u64 (bits .xor .u64 x1 (IntKind.u64.wrap (x1 * 2 ^ 13))) (Int.fdiv (bits .xor .u64 x1 (IntKind.u64.wrap (x1 * 2 ^ 13))) (2 ^ 7)))) (b := (IntKind.u64.wrap ((bits .xor .u64 (bits .xor .u64 x1 (IntKind.u64.wrap (x1 * 2 ^ 13))) (Int.fdiv (bits .xor .u64 x1 (IntKind.u64.wrap (x1 * 2 ^ 13))) (2 ^ 7))) * 2 ^ 17))) (by kernel_rfl) (by kernel_rfl)) ?_; intro hc84 hs85
  refine xone (i := 8) (by kernel_rfl) hc84 ?_
  refine yo (i := 8) (d := 29) rfl rfl (wanted_none rfl _) (by kernel_rfl) (by kernel_rfl) (fun L_ w_ => by simp only [getD_set_ne true (show (8 : Nat) ≠ 9 by decide)]) hs85 (e_nilCheck (ad := ⟨g2, 0, none⟩) (by kernel_rfl)) ?_; intro hc86 hs87
  refine xone (i := 9) (by kernel_rfl) hc86 ?_
  refine ys (i := 9) rfl rfl (wanted_none rfl _) (by kernel_rfl) (by kernel_rfl) (e_store (g := g2) (o := 0) (v := .int .u64 (bits .xor .u64 (bits .xor .u64 (bits .xor .u64 x1 (IntKind.u64.wrap (x1 * 2 ^ 13))) (Int.fdiv (bits .xor .u64 x1 (IntKind.u64.wrap (x1 * 2 ^ 13))) (2 ^ 7))) (IntKind.u64.wrap ((bits .xor .u64 (bits .xor .u64 x1 (IntKind.u64.wrap (x1 * 2 ^ 13))) (Int.fdiv (bits .xor .u64 x1 (IntKind.u64.wrap (x1 * 2 ^ 13))) (2 ^ 7))) * 2 ^ 17)))) (cur' := #[.int .u64 (bits .xor .u64 (bits .xor .u64 (bits .xor .u64 x1 (IntKind.u64.wrap (x1 * 2 ^ 13))) (Int.fdiv (bits .xor .u64 x1 (IntKind.u64.wrap (x1 * 2 ^ 13))) (2 ^ 7))) (IntKind.u64.wrap ((bits .xor .u64 (bits .xor .u64 x1 (IntKind.u64.wrap (x1 * 2 ^ 13))) (Int.fdiv (bits .xor .u64 x1 (IntKind.u64.wrap (x1 * 2 ^ 13))) (2 ^ 7))) * 2 ^ 17)))]) (vs := [.int .u64 (bits .xor .u64 (bits .xor .u64 (bits .xor .u64 x1 (IntKind.u64.wrap (x1 * 2 ^ 13))) (Int.fdiv (bits .xor .u64 x1 (IntKind.u64.wrap (x1 * 2 ^ 13))) (2 ^ 7))) (IntKind.u64.wrap ((bits .xor .u64 (bits .xor .u64 x1 (IntKind.u64.wrap (x1 * 2 ^ 13))) (Int.fdiv (bits .xor .u64 x1 (IntKind.u64.wrap (x1 * 2 ^ 13))) (2 ^ 7))) * 2 ^ 17)))]) S65 (by kernel_rfl) (by kernel_rfl) rfl (by kernel_rfl) b59 (Nat.le_of_ble_eq_true rfl) (List.forall_mem_cons.2 ⟨rfl, (fun _ h_ => by cases h_)⟩) rfl) ?_
  rintro hc92 w88 ⟨b89, S90, K91⟩
  refine ⟨⟨S90.inv, (fun q_ => absurd q_ (by decide +kernel))⟩, fun hs93 => ?_⟩
  clear b59
  refine xn (by kernel_rfl) ?_ _
  refine then_n ?_
  refine wp_seq ?_
  refine wp_region_lit ?_
  refine lv (d := 30) rfl rfl (by kernel_rfl) (e_move (v := .pointer (some ⟨g2, 0, none⟩)) (by kernel_rfl)) ?_
  refine lv (d := 31) rfl rfl (by kernel_rfl) (e_nilCheck (ad := ⟨g2, 0, none⟩) (by kernel_rfl)) ?_
  refine lv (d := 32) rfl rfl (by kernel_rfl) (e_load1 (ad := ⟨g2, 0, none⟩) (v := .int .u64 (bits .xor .u64 (bits .xor .u64 (bits .xor .u64 x1 (IntKind.u64.wrap (x1 * 2 ^ 13))) (Int.fdiv (bits .xor .u64 x1 (IntKind.u64.wrap (x1 * 2 ^ 13))) (2 ^ 7))) (IntKind.u64.wrap ((bits .xor .u64 (bits .xor .u64 x1 (IntKind.u64.wrap (x1 * 2 ^ 13))) (Int.fdiv (bits .xor .u64 x1 (IntKind.u64.wrap (x1 * 2 ^ 13))) (2 ^ 7))) * 2 ^ 17)))) Try.underlying94 rfl (by kernel_rfl) (blk_cell b89 rfl)) ?_
  refine lv (d := 2) rfl rfl (by kernel_rfl) (e_assign (v := .int .u64 (bits .xor .u64 (bits .xor .u64 (bits .xor .u64 x1 (IntKind.u64.wrap (x1 * 2 ^ 13))) (Int.fdiv (bits .xor .u64 x1 (IntKind.u64.wrap (x1 * 2 ^ 13))) (2 ^ 7))) (IntKind.u64.wrap ((bits .xor .u64 (bits .xor .u64 x1 (IntKind.u64.wrap (x1 * 2 ^ 13))) (Int.fdiv (bits .xor .u64 x1 (IntKind.u64.wrap (x1 * 2 ^ 13))) (2 ^ 7))) * 2 ^ 17)))) (by kernel_rfl)) ?_
  refine wpList_nil ?_
  refine then_n ?_
  refine wp_ret ?_
  obtain rfl := Option.some.inj M
  exact ret1 rfl rfl  (show _ = .int .u64 (bits .xor .u64 (bits .xor .u64 (bits .xor .u64 x1 (IntKind.u64.wrap (x1 * 2 ^ 13))) (Int.fdiv (bits .xor .u64 x1 (IntKind.u64.wrap (x1 * 2 ^ 13))) (2 ^ 7))) (IntKind.u64.wrap ((bits .xor .u64 (bits .xor .u64 x1 (IntKind.u64.wrap (x1 * 2 ^ 13))) (Int.fdiv (bits .xor .u64 x1 (IntKind.u64.wrap (x1 * 2 ^ 13))) (2 ^ 7))) * 2 ^ 17))) from (by kernel_rfl)) ⟨H, rfl, b89, S90⟩

/-! sort_breakPatterns_func -/
def sort_breakPatterns_func.l0 : Nat → (List Sy.Op) → Int → Int → Int → Int → (List Sy.Op) → Int → Option (List Sy.Op)
  | 0, _, _, _, _, _, _, _ => none
  | k54 + 1, x1, x11, x12, t28, x38, x40, x42 => (if x38 ≤ (IntKind.i64.wrap ((IntKind.i64.wrap (x11 + (IntKind.i64.wrap ((IntKind.i64.wrap (Int.tdiv (IntKind.i64.wrap (x12 - x11)) 4)) * 2)))) + 1)) then ((sort_xorshift_Next_2.f x42).bind fun t56 => (if (IntKind.i64.wrap ((bits .and .u64 t56.1 (IntKind.u64.wrap (t28 - 1))))) ≥ (IntKind.i64.wrap (x12 - x11)) then (if 0 ≤ x38 then (if x38 < (x1.length : Int) then (if 0 ≤ (IntKind.i64.wrap (x11 + (IntKind.i64.wrap ((IntKind.i64.wrap ((bits .and .u64 t56.1 (IntKind.u64.wrap (t28 - 1))))) - (IntKind.i64.wrap (x12 - x11)))))) then (if (IntKind.i64.wrap (x11 + (IntKind.i64.wrap ((IntKind.i64.wrap ((bits .and .u64 t56.1 (IntKind.u64.wrap (t28 - 1))))) - (IntKind.i64.wrap (x12 - x11)))))) < (x1.length : Int) then (sort_breakPatterns_func.l0 k54 x1 x11 x12 t28 (IntKind.i64.wrap (x38 + 1)) (swL x40 (x38).toNat ((IntKind.i64.wrap (x11 + (IntKind.i64.wrap ((IntKind.i64.wrap ((bits .and .u64 t56.1 (IntKind.u64.wrap (t28 - 1))))) - (IntKind.i64.wrap (x12 - x11))))))).toNat) t56.2) else none) else none) else none) else none) else (if 0 ≤ x38 then (if x38 < (x1.length : Int) then (if 0 ≤ (IntKind.i64.wrap (x11 + (IntKind.i64.wrap ((bits .and .u64 t56.1 (IntKind.u64.wrap (t28 - 1))))))) then (if (IntKind.i64.wrap (x11 + (IntKind.i64.wrap ((bits .and .u64 t56.1 (IntKind.u64.wrap (t28 - 1))))))) < (x1.length : Int) then (sort_breakPatterns_func.l0 k54 x1 x11 x12 t28 (IntKind.i64.wrap (x38 + 1)) (swL x40 (x38).toNat ((IntKind.i64.wrap (x11 + (IntKind.i64.wrap ((bits .and .u64 t56.1 (IntKind.u64.wrap (t28 - 1)))))))).toNat) t56.2) else none) else none) else none) else none))) else some x40)
def sort_breakPatterns_func.f (k : Nat) (x1 : List Sy.Op) (x11 : Int) (x12 : Int) : Option (List Sy.Op) := (if (IntKind.i64.wrap (x12 - x11)) ≥ 8 then ((sort_nextPowerOfTwo.f (IntKind.i64.wrap (x12 - x11))).bind fun t28 => (sort_breakPatterns_func.l0 k x1 x11 x12 t28 (IntKind.i64.wrap ((IntKind.i64.wrap (x11 + (IntKind.i64.wrap ((IntKind.i64.wrap (Int.tdiv (IntKind.i64.wrap (x12 - x11)) 4)) * 2)))) - 1)) x1 (IntKind.u64.wrap ((IntKind.i64.wrap (x12 - x11)))))) else some x1)
theorem sort_breakPatterns_func.calls (k : Nat) (w : World) (H : Hp) (x1 : List Sy.Op) (A2 : Option Addr) (c3 : Nat) (F4 : Foot) (g6 : Nat) (f8 : FuncId) (a9 : Array Value) (x11 : Int) (x12 : Int) (h5 : Row st45 45 H (hp w) F4 A2 c3 x1) (b7 : w.heap[g6]? = some (.cells #[.slice A2 x1.length c3] 25 (0, 0))) (h10 : SwOK Try.prog st45 45 f8 a9 A2 c3 x1.length) (S : Own [F4, (is g6)] H w) (r : List Sy.Op) (M : sort_breakPatterns_func.f k x1 x11 x12 = some r) :
    Calls Try.prog 67 #[.agg #[.func (.func 48) #[] #[.pointer (some ⟨g6, 0, none⟩)], .func (.func f8) #[] a9], .int .i64 x11, .int .i64 x12] w (fun e e_w => ∃ (F_1 : Foot) (H_ : Hp), e = .returned (.tuple #[]) ∧ r.length = x1.length ∧ Row st45 45 H_ (hp e_w) F_1 A2 c3 r ∧ e_w.heap[g6]? = some (.cells #[.slice A2 x1.length c3] 25 (0, 0)) ∧ St (anyOf [F4, (is g6)]) H w [F_1, (is g6)] H_ e_w) := by
  rw [sort_breakPatterns_func.f] at M
  refine enter (l := [.agg #[.func (.func 48) #[] #[.pointer (some ⟨g6, 0, none⟩)], .func (.func f8) #[] a9], .int .i64 x11, .int .i64 x12]) 54 Try.func67 rfl rfl rfl ?_
  have S0_ := S.st
  refine wp_seq ?_
  refine wp_region_lit ?_
  refine lve (d := 3) rfl rfl (by kernel_rfl) (new_blk (v := fun g_ => .pointer (some ⟨g_, 0, none⟩)) (cs := #[.func (.func 48) #[] #[.pointer (some ⟨g6, 0, none⟩)], .func (.func f8) #[] a9]) (t := 78) S0_ (by kernel_rfl)) ?_
  rintro _ w13 ⟨g14, rfl, b15, S16, K17⟩
  replace h5 := h5.move (K17.at 0 rfl)
  replace b7 := K17.blk 1 rfl b7
  refine wpList_nil ?_
  refine then_n ?_
  refine wp_seq ?_
  refine wp_region_lit ?_
  refine lv (d := 11) rfl rfl (by kernel_rfl) (e_move (v := .int .i64 x12) (by kernel_rfl)) ?_
  refine lv (d := 12) rfl rfl (by kernel_rfl) (e_move (v := .int .i64 x11) (by kernel_rfl)) ?_
  refine lv (d := 13) rfl rfl (by kernel_rfl) (e_sub (k := .i64) (a := x12) (b := x11) (by kernel_rfl) (by kernel_rfl)) ?_
  refine lv (d := 6) rfl rfl (by kernel_rfl) (e_assign (v := .int .i64 (IntKind.i64.wrap (x12 - x11))) (by kernel_rfl)) ?_
  refine wpList_nil ?_
  refine then_n ?_
  refine wp_seq ?_
  refine wp_region_lit ?_
  refine lv (d := 14) rfl rfl (by kernel_rfl) (e_move (v := .int .i64 (IntKind.i64.wrap (x12 - x11))) (by kernel_rfl)) ?_
  refine lv (d := 15) rfl rfl (by kernel_rfl) (e_geq (k := .i64) (a := (IntKind.i64.wrap (x12 - x11))) (b := 8) (by kernel_rfl) rfl) ?_
  refine wpList_nil ?_
  refine then_n ?_
  by_cases q18 : (IntKind.i64.wrap (x12 - x11)) ≥ 8
  · replace M := ifp q18 M
    refine cond_t rfl (bt q18 (by kernel_rfl)) ?_
    refine wp_seq ?_
    refine wp_region_lit ?_
    refine lv (d := 16) rfl rfl (by kernel_rfl) (e_move (v := .int .i64 (IntKind.i64.wrap (x12 - x11))) (by kernel_rfl)) ?_
    refine lv (d := 17) rfl rfl (by kernel_rfl) (e_conv_int (k := .i64) (a := (IntKind.i64.wrap (x12 - x11))) (by kernel_rfl) Try.underlying94 (by kernel_rfl)) ?_
    refine lve (d := 7) rfl rfl (by kernel_rfl) (new_blk (v := fun g_ => .pointer (some ⟨g_, 0, none⟩)) (cs := #[.int .u64 0]) (t := 94) S16 (by kernel_rfl)) ?_
    rintro _ w19 ⟨g20, rfl, b21, S22, K23⟩
    replace b15 := K23.blk 0 rfl b15
    replace h5 := h5.move (K23.at 1 rfl)
    replace b7 := K23.blk 2 rfl b7
    refine lse rfl rfl (by kernel_rfl) (e_store (g := g20) (o := 0) (v := .int .u64 (IntKind.u64.wrap ((IntKind.i64.wrap (x12 - x11))))) (cur' := #[.int .u64 (IntKind.u64.wrap ((IntKind.i64.wrap (x12 - x11))))]) (vs := [.int .u64 (IntKind.u64.wrap ((IntKind.i64.wrap (x12 - x11))))]) S22 (by kernel_rfl) (by kernel_rfl) rfl (by kernel_rfl) b21 (Nat.le_of_ble_eq_true rfl) (List.forall_mem_cons.2 ⟨rfl, (fun _ h_ => by cases h_)⟩) rfl) ?_
    rintro w24 ⟨b25, S26, K27⟩
    replace b15 := K27.blk 0 rfl b15
    replace h5 := h5.move (K27.at 1 rfl)
    replace b7 := K27.blk 2 rfl b7
    clear b21
    refine wpList_nil ?_
    refine then_n ?_
    refine wp_seq ?_
    refine wp_region_lit ?_
    refine lv (d := 18) rfl rfl (by kernel_rfl) (e_move (v := .int .i64 (IntKind.i64.wrap (x12 - x11))) (by kernel_rfl)) ?_
    obtain ⟨t28, u29, M⟩ := bnd M
    refine lcall (d := 19) rfl rfl (by kernel_rfl) (e_call (l := [.tmp 18]) (vs := [.int .i64 (IntKind.i64.wrap (x12 - x11))]) Try.func74 (by kernel_rfl) rfl (by kernel_rfl) rfl) (sort_nextPowerOfTwo.calls w24 H (IntKind.i64.wrap (x12 - x11))  S26.own0 t28 u29) ?_
    rintro _ w30 ⟨rfl, C31⟩
    refine ⟨_, rfl, ?_⟩
    obtain ⟨S32, K33⟩ := S26.still C31
    replace b25 := K33.blk 0 rfl b25
    replace b15 := K33.blk 1 rfl b15
    replace h5 := h5.move (K33.at 2 rfl)
    replace b7 := K33.blk 3 rfl b7
    refine lv (d := 8) rfl rfl (by kernel_rfl) (e_assign (v := .int .u64 t28) (by kernel_rfl)) ?_
    refine wpList_nil ?_
    refine then_n ?_
    refine wp_seq ?_
    refine wp_region_lit ?_
    refine lv (d := 20) rfl rfl (by kernel_rfl) (e_move (v := .int .i64 x11) (by kernel_rfl)) ?_
    refine lv (d := 21) rfl rfl (by kernel_rfl) (e_move (v := .int .i64 (IntKind.i64.wrap (x12 - x11))) (by kernel_rfl)) ?_
    refine lv (d := 22) rfl rfl (by kernel_rfl) (e_quo (k := .i64) (a := (IntKind.i64.wrap (x12 - x11))) (b := 4) (by kernel_rfl) rfl (by decide)) ?_
    refine lv (d := 23) rfl rfl (by kernel_rfl) (e_mul (k := .i64) (a := (IntKind.i64.wrap (Int.tdiv (IntKind.i64.wrap (x12 - x11)) 4))) (b := 2) (by kernel_rfl) rfl) ?_
    refine lv (d := 24) rfl rfl (by kernel_rfl) (e_add (k := .i64) (a := x11) (b := (IntKind.i64.wrap ((IntKind.i64.wrap (Int.tdiv (IntKind.i64.wrap (x12 - x11)) 4)) * 2))) (by kernel_rfl) (by kernel_rfl)) ?_
    refine lv (d := 25) rfl rfl (by kernel_rfl) (e_sub (k := .i64) (a := (IntKind.i64.wrap (x11 + (IntKind.i64.wrap ((IntKind.i64.wrap (Int.tdiv (IntKind.i64.wrap (x12 - x11)) 4)) * 2))))) (b := 1) (by kernel_rfl) rfl) ?_
    refine lv (d := 9) rfl rfl (by kernel_rfl) (e_assign (v := .int .i64 (IntKind.i64.wrap ((IntKind.i64.wrap (x11 + (IntKind.i64.wrap ((IntKind.i64.wrap (Int.tdiv (IntKind.i64.wrap (x12 - x11)) 4)) * 2)))) - 1))) (by kernel_rfl)) ?_
    refine wpList_nil ?_
    refine then_n ?_
    refine wp_block ?_
    refine wp_loop_g (fun k52 a53 w34 => ∃ (f35 : Nat → Value) (H36 : Hp) (x38 : Int) (F39 : Foot) (x40 : List Sy.Op) (x42 : Int), a53 = mk 54 f35 ∧ f35 1 = .int .i64 x11 ∧ f35 3 = .pointer (some ⟨g14, 0, none⟩) ∧ f35 6 = .int .i64 (IntKind.i64.wrap (x12 - x11)) ∧ f35 7 = .pointer (some ⟨g20, 0, none⟩) ∧ f35 8 = .int .u64 t28 ∧ f35 9 = .int .i64 x38 ∧ w34.heap[g20]? = some (.cells #[.int .u64 x42] 94 (0, 0)) ∧ w34.heap[g14]? = some (.cells #[.func (.func 48) #[] #[.pointer (some ⟨g6, 0, none⟩)], .func (.func f8) #[] a9] 78 (0, 0)) ∧ Row st45 45 H36 (hp w34) F39 A2 c3 x40 ∧ w34.heap[g6]? = some (.cells #[.slice A2 x1.length c3] 25 (0, 0)) ∧ x40.length = x1.length ∧ Ext H H36 ∧ St (anyOf [F4, (is g6)]) H w [(is g20), (is g14), F39, (is g6)] H36 w34 ∧ sort_breakPatterns_func.l0 k52 x1 x11 x12 t28 x38 x40 x42 = some r) k ⟨_, H, (IntKind.i64.wrap ((IntKind.i64.wrap (x11 + (IntKind.i64.wrap ((IntKind.i64.wrap (Int.tdiv (IntKind.i64.wrap (x12 - x11)) 4)) * 2)))) - 1)), F4, x1, (IntKind.u64.wrap ((IntKind.i64.wrap (x12 - x11)))), rfl, (by kernel_rfl), (by kernel_rfl), (by kernel_rfl), (by kernel_rfl), (by kernel_rfl), (by kernel_rfl), b25, b15, h5, b7, rfl, (Ext.refl _), S32, M⟩ ?_
    clear M
    rintro k52 a53 w34 ⟨f35, H36, x38, F39, x40, x42, rfl, e43, e44, e45, e46, e47, e48, b25, b15, h5, b7, n41, Y37, S49, M⟩
    rcases k52 with _ | k54
    · rw [sort_breakPatterns_func.l0] at M
      cases M
    rw [sort_breakPatterns_func.l0] at M
    refine wp_seq ?_
    refine wp_seq ?_
    refine wp_region_lit ?_
    refine lv (d := 26) rfl rfl (by kernel_rfl) (e_move (v := .int .i64 x38) (by exact e48)) ?_
    refine lv (d := 27) rfl rfl (by kernel_rfl) (e_move (v := .int .i64 x11) (by exact e43)) ?_
    refine lv (d := 28) rfl rfl (by kernel_rfl) (e_move (v := .int .i64 (IntKind.i64.wrap (x12 - x11))) (by exact e45)) ?_
    refine lv (d := 29) rfl rfl (by kernel_rfl) (e_quo (k := .i64) (a := (IntKind.i64.wrap (x12 - x11))) (b := 4) (by kernel_rfl) rfl (by decide)) ?_
    refine lv (d := 30) rfl rfl (by kernel_rfl) (e_mul (k := .i64) (a := (IntKind.i64.wrap (Int.tdiv (IntKind.i64.wrap (x12 - x11)) 4))) (b := 2) (by kernel_rfl) rfl) ?_
    refine lv (d := 31) rfl rfl (by kernel_rfl) (e_add (k := .i64) (a := x11) (b := (IntKind.i64.wrap ((IntKind.i64.wrap (Int.tdiv (IntKind.i64.wrap (x12 - x11)) 4)) * 2))) (by kernel_rfl) (by kernel_rfl)) ?_
    refine lv (d := 32) rfl rfl (by kernel_rfl) (e_add (k := .i64) (a := (IntKind.i64.wrap (x11 + (IntKind.i64.wrap ((IntKind.i64.wrap (Int.tdiv (IntKind.i64.wrap (x12 - x11)) 4)) * 2))))) (b := 1) (by kernel_rfl) rfl) ?_
    refine lv (d := 33) rfl rfl (by kernel_rfl) (e_leq (k := .i64) (a := x38) (b := (IntKind.i64.wrap ((IntKind.i64.wrap (x11 + (IntKind.i64.wrap ((IntKind.i64.wrap (Int.tdiv (IntKind.i64.wrap (x12 - x11)) 4)) * 2)))) + 1))) (by kernel_rfl) (by kernel_rfl)) ?_
    refine wpList_nil ?_
    refine then_n ?_
    by_cases q55 : x38 ≤ (IntKind.i64.wrap ((IntKind.i64.wrap (x11 + (IntKind.i64.wrap ((IntKind.i64.wrap (Int.tdiv (IntKind.i64.wrap (x12 - x11)) 4)) * 2)))) + 1))
    · replace M := ifp q55 M
      refine cond_t rfl (bt q55 (by kernel_rfl)) ?_
      refine wp_skip ?_
      refine then_n ?_
      refine wp_seq ?_
      refine wp_block ?_
      refine wp_seq ?_
      refine wp_region_lit ?_
      obtain ⟨t56, u57, M⟩ := bnd M
      refine lcall (d := 36) rfl rfl (by kernel_rfl) (e_call (l := [.tmp 7]) (vs := [.pointer (some ⟨g20, 0, none⟩)]) Try.func75 (by kernel_rfl) rfl (map_c (by exact e46) rfl) rfl) (sort_xorshift_Next_2.calls w34 H36 x42 g20 b25 (St.own' (Fa := [(is g20)]) (Fr := [(is g14), F39, (is g6)]) S49) t56 u57) ?_
      rintro _ w58 ⟨H59, rfl, b61, T60⟩
      refine ⟨_, rfl, ?_⟩
      obtain ⟨S62, K63⟩ := St.call (Fa := [(is g20)]) (Fr := [(is g14), F39, (is g6)]) S49 T60
      replace b15 := K63.blk 0 rfl b15
      replace h5 := h5.move (K63.at 1 rfl)
      replace b7 := K63.blk 2 rfl b7
      have E64 := T60.ext
      replace h5 := h5.ext E64
      refine lv (d := 37) rfl rfl (by kernel_rfl) (e_move (v := .int .u64 t28) (by exact e47)) ?_
      refine lv (d := 38) rfl rfl (by kernel_rfl) (e_sub (k := .u64) (a := t28) (b := 1) (by kernel_rfl) rfl) ?_
      refine lv (d := 39) rfl rfl (by kernel_rfl) (e_and (k := .u64) (a := t56.1) (b := (IntKind.u64.wrap (t28 - 1))) (by kernel_rfl) (by kernel_rfl)) ?_
      refine lv (d := 40) rfl rfl (by kernel_rfl) (e_conv_int (k := .u64) (a := (bits .and .u64 t56.1 (IntKind.u64.wrap (t28 - 1)))) (by kernel_rfl) Try.underlying3 (by kernel_rfl)) ?_
      refine lv (d := 10) rfl rfl (by kernel_rfl) (e_assign (v := .int .i64 (IntKind.i64.wrap ((bits .and .u64 t56.1 (IntKind.u64.wrap (t28 - 1)))))) (by kernel_rfl)) ?_
      refine wpList_nil ?_
      refine then_n ?_
      refine wp_seq ?_
      refine wp_seq ?_
      refine wp_region_lit ?_
      refine lv (d := 41) rfl rfl (by kernel_rfl) (e_move (v := .int .i64 (IntKind.i64.wrap ((bits .and .u64 t56.1 (IntKind.u64.wrap (t28 - 1)))))) (by kernel_rfl)) ?_
      refine lv (d := 42) rfl rfl (by kernel_rfl) (e_move (v := .int .i64 (IntKind.i64.wrap (x12 - x11))) (by exact e45)) ?_
      refine lv (d := 43) rfl rfl (by kernel_rfl) (e_geq (k := .i64) (a := (IntKind.i64.wrap ((bits .and .u64 t56.1 (IntKind.u64.wrap (t28 - 1)))))) (b := (IntKind.i64.wrap (x12 - x11))) (by kernel_rfl) (by kernel_rfl)) ?_
      refine wpList_nil ?_
      refine then_n ?_
      by_cases q65 : (IntKind.i64.wrap ((bits .and .u64 t56.1 (IntKind.u64.wrap (t28 - 1))))) ≥ (IntKind.i64.wrap (x12 - x11))
      · replace M := ifp q65 M
        refine cond_t rfl (bt q65 (by kernel_rfl)) ?_
        refine wp_region_lit ?_
        refine lv (d := 44) rfl rfl (by kernel_rfl) (e_move (v := .int .i64 (IntKind.i64.wrap ((bits .and .u64 t56.1 (IntKind.u64.wrap (t28 - 1)))))) (by kernel_rfl)) ?_
        refine lv (d := 45) rfl rfl (by kernel_rfl) (e_move (v := .int .i64 (IntKind.i64.wrap (x12 - x11))) (by exact e45)) ?_
        refine lv (d := 46) rfl rfl (by kernel_rfl) (e_sub (k := .i64) (a := (IntKind.i64.wrap ((bits .and .u64 t56.1 (IntKind.u64.wrap (t28 - 1)))))) (b := (IntKind.i64.wrap (x12 - x11))) (by kernel_rfl) (by kernel_rfl)) ?_
        refine lv (d := 10) rfl rfl (by kernel_rfl) (e_assign (v := .int .i64 (IntKind.i64.wrap ((IntKind.i64.wrap ((bits .and .u64 t56.1 (IntKind.u64.wrap (t28 - 1))))) - (IntKind.i64.wrap (x12 - x11))))) (by kernel_rfl)) ?_
        refine wpList_nil ?_
        refine then_n ?_
        refine wp_region_lit ?_
        refine lv (d := 47) rfl rfl (by kernel_rfl) (e_fieldAddr (b := g14) (off := 0) (o := 1) Try.underlying78 rfl rfl (sz := 1) (by kernel_rfl) (by decide) (by exact e44)) ?_
        refine lv (d := 48) rfl rfl (by kernel_rfl) (e_load1 (ad := ⟨g14, 0 + 1, none⟩) (v := .func (.func f8) #[] a9) Try.underlying72 rfl (by kernel_rfl) (blk_cell b15 rfl)) ?_
        refine lv (d := 49) rfl rfl (by kernel_rfl) (e_move (v := .int .i64 x38) (by exact e48)) ?_
        refine lv (d := 50) rfl rfl (by kernel_rfl) (e_move (v := .int .i64 x11) (by exact e43)) ?_
        refine lv (d := 51) rfl rfl (by kernel_rfl) (e_move (v := .int .i64 (IntKind.i64.wrap ((IntKind.i64.wrap ((bits .and .u64 t56.1 (IntKind.u64.wrap (t28 - 1))))) - (IntKind.i64.wrap (x12 - x11))))) (by kernel_rfl)) ?_
        refine lv (d := 52) rfl rfl (by kernel_rfl) (e_add (k := .i64) (a := x11) (b := (IntKind.i64.wrap ((IntKind.i64.wrap ((bits .and .u64 t56.1 (IntKind.u64.wrap (t28 - 1))))) - (IntKind.i64.wrap (x12 - x11))))) (by kernel_rfl) (by kernel_rfl)) ?_
        obtain ⟨q66, M⟩ := chk M
        obtain ⟨q67, M⟩ := chk M
        obtain ⟨q68, M⟩ := chk M
        obtain ⟨q69, M⟩ := chk M
        have S70 := S62.pull (F := F39) (Fr := [(is g20), (is g14), (is g6)]) 2 rfl rfl
        refine lve (d := 53) rfl rfl (by kernel_rfl) (e_swap (a := x38) (b := (IntKind.i64.wrap (x11 + (IntKind.i64.wrap ((IntKind.i64.wrap ((bits .and .u64 t56.1 (IntKind.u64.wrap (t28 - 1))))) - (IntKind.i64.wrap (x12 - x11))))))) S70 h5 n41 h10 (by kernel_rfl) (by kernel_rfl) (by kernel_rfl) q66 q67 q68 q69) ?_
        rintro _ w71 ⟨rfl, h72, S73, K74⟩
        replace b61 := K74.blk 0 rfl b61
        replace b15 := K74.blk 1 rfl b15
        replace b7 := K74.blk 2 rfl b7
        clear h5
        refine wpList_nil ?_
        refine inb_n ?_
        refine then_n ?_
        refine wp_region_lit ?_
        refine lv (d := 34) rfl rfl (by kernel_rfl) (e_move (v := .int .i64 x38) (by exact e48)) ?_
        refine lv (d := 35) rfl rfl (by kernel_rfl) (e_add (k := .i64) (a := x38) (b := 1) (by kernel_rfl) rfl) ?_
        refine lv (d := 9) rfl rfl (by kernel_rfl) (e_assign (v := .int .i64 (IntKind.i64.wrap (x38 + 1))) (by kernel_rfl)) ?_
        refine wpList_nil ?_
        refine then_n ?_
        have S75 := S73.pull (F := (is g6)) (Fr := [F39, (is g20), (is g14)]) 3 rfl rfl
        have S76 := S75.pull (F := F39) (Fr := [(is g6), (is g20), (is g14)]) 1 rfl rfl
        have S77 := S76.pull (F := (is g14)) (Fr := [F39, (is g6), (is g20)]) 3 rfl rfl
        have S78 := S77.pull (F := (is g20)) (Fr := [(is g14), F39, (is g6)]) 3 rfl rfl
        exact ⟨k54, (by omega), _, H59, (IntKind.i64.wrap (x38 + 1)), F39, (swL x40 (x38).toNat ((IntKind.i64.wrap (x11 + (IntKind.i64.wrap ((IntKind.i64.wrap ((bits .and .u64 t56.1 (IntKind.u64.wrap (t28 - 1))))) - (IntKind.i64.wrap (x12 - x11))))))).toNat), t56.2, rfl, (by exact e43), (by exact e44), (by exact e45), (by exact e46), (by exact e47), (by kernel_rfl), b61, b15, h72, b7, ((swL_len _ _ _).trans n41), (Y37.trans E64), S78, M⟩
      replace M := ifn q65 M
      refine cond_f rfl (bf q65 (by kernel_rfl)) ?_
      refine wp_skip ?_
      refine then_n ?_
      refine wp_region_lit ?_
      refine lv (d := 47) rfl rfl (by kernel_rfl) (e_fieldAddr (b := g14) (off := 0) (o := 1) Try.underlying78 rfl rfl (sz := 1) (by kernel_rfl) (by decide) (by exact e44)) ?_
      refine lv (d := 48) rfl rfl (by kernel_rfl) (e_load1 (ad := ⟨g14, 0 + 1, none⟩) (v := .func (.func f8) #[] a9) Try.underlying72 rfl (by kernel_rfl) (blk_cell b15 rfl)) ?_
      refine lv (d := 49) rfl rfl (by kernel_rfl) (e_move (v := .int .i64 x38) (by exact e48)) ?_
      refine lv (d := 50) rfl rfl (by kernel_rfl) (e_move (v := .int .i64 x11) (by exact e43)) ?_
      refine lv (d := 51) rfl rfl (by kernel_rfl) (e_move (v := .int .i64 (IntKind.i64.wrap ((bits .and .u64 t56.1 (IntKind.u64.wrap (t28 - 1)))))) (by kernel_rfl)) ?_
      refine lv (d := 52) rfl rfl (by kernel_rfl) (e_add (k := .i64) (a := x11) (b := (IntKind.i64.wrap ((bits .and .u64 t56.1 (IntKind.u64.wrap (t28 - 1)))))) (by kernel_rfl) (by kernel_rfl)) ?_
      obtain ⟨q79, M⟩ := chk M
      obtain ⟨q80, M⟩ := chk M
      obtain ⟨q81, M⟩ := chk M
      obtain ⟨q82, M⟩ := chk M
      have S83 := S62.pull (F := F39) (Fr := [(is g20), (is g14), (is g6)]) 2 rfl rfl
      refine lve (d := 53) rfl rfl (by kernel_rfl) (e_swap (a := x38) (b := (IntKind.i64.wrap (x11 + (IntKind.i64.wrap ((bits .and .u64 t56.1 (IntKind.u64.wrap (t28 - 1)))))))) S83 h5 n41 h10 (by kernel_rfl) (by kernel_rfl) (by kernel_rfl) q79 q80 q81 q82) ?_
      rintro _ w84 ⟨rfl, h85, S86, K87⟩
      replace b61 := K87.blk 0 rfl b61
      replace b15 := K87.blk 1 rfl b15
      replace b7 := K87.blk 2 rfl b7
      clear h5
      refine wpList_nil ?_
      refine inb_n ?_
      refine then_n ?_
      refine wp_region_lit ?_
      refine lv (d := 34) rfl rfl (by kernel_rfl) (e_move (v := .int .i64 x38) (by exact e48)) ?_
      refine lv (d := 35) rfl rfl (by kernel_rfl) (e_add (k := .i64) (a := x38) (b := 1) (by kernel_rfl) rfl) ?_
      refine lv (d := 9) rfl rfl (by kernel_rfl) (e_assign (v := .int .i64 (IntKind.i64.wrap (x38 + 1))) (by kernel_rfl)) ?_
      refine wpList_nil ?_
      refine then_n ?_
      have S88 := S86.pull (F := (is g6)) (Fr := [F39, (is g20), (is g14)]) 3 rfl rfl
      have S89 := S88.pull (F := F39) (Fr := [(is g6), (is g20), (is g14)]) 1 rfl rfl
      have S90 := S89.pull (F := (is g14)) (Fr := [F39, (is g6), (is g20)]) 3 rfl rfl
      have S91 := S90.pull (F := (is g20)) (Fr := [(is g14), F39, (is g6)]) 3 rfl rfl
      exact ⟨k54, (by omega), _, H59, (IntKind.i64.wrap (x38 + 1)), F39, (swL x40 (x38).toNat ((IntKind.i64.wrap (x11 + (IntKind.i64.wrap ((bits .and .u64 t56.1 (IntKind.u64.wrap (t28 - 1)))))))).toNat), t56.2, rfl, (by exact e43), (by exact e44), (by exact e45), (by exact e46), (by exact e47), (by kernel_rfl), b61, b15, h85, b7, ((swL_len _ _ _).trans n41), (Y37.trans E64), S91, M⟩
    replace M := ifn q55 M
    refine cond_f rfl (bf q55 (by kernel_rfl)) ?_
    refine wp_exit ?_
    refine then_e ?_
    refine then_e ?_
    refine inb_hit ?_
    obtain rfl := Option.some.inj M
    have S92 := S49.pull (F := (is g6)) (Fr := [(is g20), (is g14), F39]) 3 rfl rfl
    have S93 := S92.pull (F := F39) (Fr := [(is g6), (is g20), (is g14)]) 3 rfl rfl
    have S94 := St.first (Fa := [F39, (is g6)]) (Fr := [(is g20), (is g14)]) S93
    exact end0 rfl ⟨F39, H36, rfl, n41, h5, b7, S94⟩
  replace M := ifn q18 M
  refine cond_f rfl (bf q18 (by kernel_rfl)) ?_
  refine wp_skip ?_
  obtain rfl := Option.some.inj M
  have S95 := S16.pull (F := (is g6)) (Fr := [(is g14), F4]) 2 rfl rfl
  have S96 := S95.pull (F := F4) (Fr := [(is g6), (is g14)]) 2 rfl rfl
  have S97 := St.first (Fa := [F4, (is g6)]) (Fr := [(is g14)]) S96
  exact end0 rfl ⟨F4, H, rfl, rfl, h5, b7, S97⟩

/-! sort_pdqsort_func -/
mutual
def sort_pdqsort_func.l0 : Nat → Int → Int → Int → Bool → Bool → (List Sy.Op) → Option (List Sy.Op)
  | 0, _, _, _, _, _, _ => none
  | k42 + 1, x23, x24, x25, x26, x27, x29 => (if (IntKind.i64.wrap (x24 - x23)) ≤ 12 then ((sort_insertionSort_func.f k42 x29 x23 x24).bind fun t46 => some t46) else (if x25 = 0 then ((sort_heapSort_func.f k42 x29 x23 x24).bind fun t64 => some t64) else (if ¬ (x26 = true) then ((sort_breakPatterns_func.f k42 x29 x23 x24).bind fun t103 => (sort_pdqsort_func.l1 k42 x23 x24 x26 x27 (IntKind.i64.wrap (x25 - 1)) t103)) else (sort_pdqsort_func.l1 k42 x23 x24 x26 x27 x25 x29))))
def sort_pdqsort_func.l1 : Nat → Int → Int → Bool → Bool → Int → (List Sy.Op) → Option (List Sy.Op)
  | 0, _, _, _, _, _, _ => none
  | k98 + 1, x23, x24, x26, x27, x83, x85 => ((sort_choosePivot_func.f k98 x85 x23 x24).bind fun t120 => (if t120.2 = 2 then ((sort_reverseRange_func.f k98 x85 x23 x24).bind fun t157 => (sort_pdqsort_func.l2 k98 x23 x24 x26 x27 x83 (IntKind.i64.wrap ((IntKind.i64.wrap (x24 - 1)) - (IntKind.i64.wrap (t120.1 - x23)))) 1 t157)) else (sort_pdqsort_func.l2 k98 x23 x24 x26 x27 x83 t120.1 t120.2 x85)))
def sort_pdqsort_func.l2 : Nat → Int → Int → Bool → Bool → Int → Int → Int → (List Sy.Op) → Option (List Sy.Op)
  | 0, _, _, _, _, _, _, _, _ => none
  | k152 + 1, x23, x24, x26, x27, x83, x134, x135, x137 => (if x26 = true then (if x27 = true then (if x135 = 1 then ((sort_partialInsertionSort_func.f k152 x137 x23 x24).bind fun t195 => (if t195.1 = true then some t195.2 else (sort_pdqsort_func.l3 k152 x23 x24 x26 x27 x83 x134 t195.2))) else (sort_pdqsort_func.l3 k152 x23 x24 x26 x27 x83 x134 x137)) else (sort_pdqsort_func.l3 k152 x23 x24 x26 x27 x83 x134 x137)) else (sort_pdqsort_func.l3 k152 x23 x24 x26 x27 x83 x134 x137))
def sort_pdqsort_func.l3 : Nat → Int → Int → Bool → Bool → Int → Int → (List Sy.Op) → Option (List Sy.Op)
  | 0, _, _, _, _, _, _, _ => none
  | k188 + 1, x23, x24, x26, x27, x83, x134, x174 => (if x23 > 0 then ((impl_sortOps_c1.f (IntKind.i64.wrap (x23 - 1)) x134 x174).bind fun t212 => (if ¬ (t212 = true) then ((sort_partitionEqual_func.f k188 x174 x23 x24 x134).bind fun t232 => (sort_pdqsort_func.l0 k188 t232.1 x24 x83 x26 x27 t232.2)) else ((sort_partition_func.f k188 x174 x23 x24 x134).bind fun t249 => (if (IntKind.i64.wrap (t249.1 - x23)) < (IntKind.i64.wrap (x24 - t249.1)) then ((sort_pdqsort_func.f k188 t249.2.2 x23 t249.1 x83).bind fun t264 => (sort_pdqsort_func.l0 k188 (IntKind.i64.wrap (t249.1 + 1)) x24 x83 (decide ((IntKind.i64.wrap (t249.1 - x23)) ≥ (IntKind.i64.wrap (Int.tdiv (IntKind.i64.wrap (x24 - x23)) 8)))) t249.2.1 t264)) else ((sort_pdqsort_func.f k188 t249.2.2 (IntKind.i64.wrap (t249.1 + 1)) x24 x83).bind fun t281 => (sort_pdqsort_func.l0 k188 x23 t249.1 x83 (decide ((IntKind.i64.wrap (x24 - t249.1)) ≥ (IntKind.i64.wrap (Int.tdiv (IntKind.i64.wrap (x24 - x23)) 8)))) t249.2.1 t281)))))) else ((sort_partition_func.f k188 x174 x23 x24 x134).bind fun t298 => (if (IntKind.i64.wrap (t298.1 - x23)) < (IntKind.i64.wrap (x24 - t298.1)) then ((sort_pdqsort_func.f k188 t298.2.2 x23 t298.1 x83).bind fun t313 => (sort_pdqsort_func.l0 k188 (IntKind.i64.wrap (t298.1 + 1)) x24 x83 (decide ((IntKind.i64.wrap (t298.1 - x23)) ≥ (IntKind.i64.wrap (Int.tdiv (IntKind.i64.wrap (x24 - x23)) 8)))) t298.2.1 t313)) else ((sort_pdqsort_func.f k188 t298.2.2 (IntKind.i64.wrap (t298.1 + 1)) x24 x83).bind fun t330 => (sort_pdqsort_func.l0 k188 x23 t298.1 x83 (decide ((IntKind.i64.wrap (x24 - t298.1)) ≥ (IntKind.i64.wrap (Int.tdiv (IntKind.i64.wrap (x24 - x23)) 8)))) t298.2.1 t330)))))
def sort_pdqsort_func.f : Nat → (List Sy.Op) → Int → Int → Int → Option (List Sy.Op)
  | 0, _, _, _, _ => none
  | k1_ + 1, x1, x11, x12, x13 => (sort_pdqsort_func.l0 k1_ x11 x12 x13 true true x1)
end
theorem sort_pdqsort_func.all : ∀ (K : Nat), (∀ (k : Nat), k < K → ∀ (w : World) (H : Hp) (x1 : List Sy.Op) (A2 : Option Addr) (c3 : Nat) (F4 : Foot) (g6 : Nat) (f8 : FuncId) (a9 : Array Value) (x11 : Int) (x12 : Int) (x13 : Int) (h5 : Row st45 45 H (hp w) F4 A2 c3 x1) (b7 : w.heap[g6]? = some (.cells #[.slice A2 x1.length c3] 25 (0, 0))) (h10 : SwOK Try.prog st45 45 f8 a9 A2 c3 x1.length) (S : Own [F4, (is g6)] H w) (r : List Sy.Op) (M : sort_pdqsort_func.f k x1 x11 x12 x13 = some r), Calls Try.prog 53 #[.agg #[.func (.func 48) #[] #[.pointer (some ⟨g6, 0, none⟩)], .func (.func f8) #[] a9], .int .i64 x11, .int .i64 x12, .int .i64 x13] w (fun e e_w => ∃ (F_1 : Foot) (H_ : Hp), e = .returned (.tuple #[]) ∧ r.length = x1.length ∧ Row st45 45 H_ (hp e_w) F_1 A2 c3 r ∧ e_w.heap[g6]? = some (.cells #[.slice A2 x1.length c3] 25 (0, 0)) ∧ St (anyOf [F4, (is g6)]) H w [F_1, (is g6)] H_ e_w)) := by
  intro K
  induction K with
  | zero => intro k hk; omega
  | succ K ih =>
    intro k hk w H x1 A2 c3 F4 g6 f8 a9 x11 x12 x13 h5 b7 h10 S r M
    rcases k with _ | k1_
    · rw [sort_pdqsort_func.f] at M
      cases M
    rw [sort_pdqsort_func.f] at M
    refine enter (l := [.agg #[.func (.func 48) #[] #[.pointer (some ⟨g6, 0, none⟩)], .func (.func f8) #[] a9], .int .i64 x11, .int .i64 x12, .int .i64 x13]) 130 Try.func53 rfl rfl rfl ?_
    have S0_ := S.st
    refine wp_seq ?_
    refine wp_region_lit ?_
    refine lve (d := 4) rfl rfl (by kernel_rfl) (new_blk (v := fun g_ => .pointer (some ⟨g_, 0, none⟩)) (cs := #[.func (.func 48) #[] #[.pointer (some ⟨g6, 0, none⟩)], .func (.func f8) #[] a9]) (t := 78) S0_ (by kernel_rfl)) ?_
    rintro _ w14 ⟨g15, rfl, b16, S17, K18⟩
    replace h5 := h5.move (K18.at 0 rfl)
    replace b7 := K18.blk 1 rfl b7
    refine wpList_nil ?_
    refine then_n ?_
    refine wp_seq ?_
    refine wp_region_lit ?_
    refine lv (d := 8) rfl rfl (by kernel_rfl) (e_assign (v := .bool true) rfl) ?_
    refine wpList_nil ?_
    refine then_n ?_
    refine wp_seq ?_
    refine wp_region_lit ?_
    refine lv (d := 9) rfl rfl (by kernel_rfl) (e_assign (v := .bool true) rfl) ?_
    refine wpList_nil ?_
    refine then_n ?_
    refine wp_block ?_
    refine wp_loop_g (fun k40 a41 w19 => ∃ (f20 : Nat → Value) (H21 : Hp) (x23 : Int) (x24 : Int) (x25 : Int) (x26 : Bool) (x27 : Bool) (F28 : Foot) (x29 : List Sy.Op), k40 < K ∧ a41 = mk 130 f20 ∧ f20 1 = .int .i64 x23 ∧ f20 2 = .int .i64 x24 ∧ f20 3 = .int .i64 x25 ∧ f20 4 = .pointer (some ⟨g15, 0, none⟩) ∧ f20 8 = .bool x26 ∧ f20 9 = .bool x27 ∧ w19.heap[g15]? = some (.cells #[.func (.func 48) #[] #[.pointer (some ⟨g6, 0, none⟩)], .func (.func f8) #[] a9] 78 (0, 0)) ∧ Row st45 45 H21 (hp w19) F28 A2 c3 x29 ∧ w19.heap[g6]? = some (.cells #[.slice A2 x1.length c3] 25 (0, 0)) ∧ x29.length = x1.length ∧ Ext H H21 ∧ St (anyOf [F4, (is g6)]) H w [(is g15), F28, (is g6)] H21 w19 ∧ sort_pdqsort_func.l0 k40 x23 x24 x25 x26 x27 x29 = some r) k1_ ⟨_, H, x11, x12, x13, true, true, F4, x1, (by omega), rfl, (by kernel_rfl), (by kernel_rfl), (by kernel_rfl), (by kernel_rfl), (by kernel_rfl), (by kernel_rfl), b16, h5, b7, rfl, (Ext.refl _), S17, M⟩ ?_
    clear M
    rintro k40 a41 w19 ⟨f20, H21, x23, x24, x25, x26, x27, F28, x29, z38, rfl, e31, e32, e33, e34, e35, e36, b16, h5, b7, n30, Y22, S37, M⟩
    rcases k40 with _ | k42
    · rw [sort_pdqsort_func.l0] at M
      cases M
    rw [sort_pdqsort_func.l0] at M
    refine wp_block ?_
    refine wp_seq ?_
    refine wp_region_lit ?_
    refine lv (d := 19) rfl rfl (by kernel_rfl) (e_move (v := .int .i64 x24) (by exact e32)) ?_
    refine lv (d := 20) rfl rfl (by kernel_rfl) (e_move (v := .int .i64 x23) (by exact e31)) ?_
    refine lv (d := 21) rfl rfl (by kernel_rfl) (e_sub (k := .i64) (a := x24) (b := x23) (by kernel_rfl) (by kernel_rfl)) ?_
    refine lv (d := 10) rfl rfl (by kernel_rfl) (e_assign (v := .int .i64 (IntKind.i64.wrap (x24 - x23))) (by kernel_rfl)) ?_
    refine wpList_nil ?_
    refine then_n ?_
    refine wp_seq ?_
    refine wp_seq ?_
    refine wp_region_lit ?_
    refine lv (d := 22) rfl rfl (by kernel_rfl) (e_move (v := .int .i64 (IntKind.i64.wrap (x24 - x23))) (by kernel_rfl)) ?_
    refine lv (d := 23) rfl rfl (by kernel_rfl) (e_leq (k := .i64) (a := (IntKind.i64.wrap (x24 - x23))) (b := 12) (by kernel_rfl) rfl) ?_
    refine wpList_nil ?_
    refine then_n ?_
    by_cases q43 : (IntKind.i64.wrap (x24 - x23)) ≤ 12
    · replace M := ifp q43 M
      refine cond_t rfl (bt q43 (by kernel_rfl)) ?_
      refine wp_seq ?_
      refine wp_region_lit ?_
      refine lv (d := 24) rfl rfl (by kernel_rfl) (e_loadS (b := g15) (off := 0) (cs := [.func (.func 48) #[] #[.pointer (some ⟨g6, 0, none⟩)], .func (.func f8) #[] a9]) Try.underlying78 rfl (by kernel_rfl) (by exact e34) (blk_cells b16 rfl)) ?_
      refine lv (d := 25) rfl rfl (by kernel_rfl) (e_move (v := .int .i64 x23) (by exact e31)) ?_
      refine lv (d := 26) rfl rfl (by kernel_rfl) (e_move (v := .int .i64 x24) (by exact e32)) ?_
      have S44 := S37.pull (F := (is g6)) (Fr := [(is g15), F28]) 2 rfl rfl
      have S45 := S44.pull (F := F28) (Fr := [(is g6), (is g15)]) 2 rfl rfl
      obtain ⟨t46, u47, M⟩ := bnd M
      refine lcall (d := 27) rfl rfl (by kernel_rfl) (e_call (l := [.tmp 24, .tmp 25, .tmp 26]) (vs := [.agg #[.func (.func 48) #[] #[.pointer (some ⟨g6, 0, none⟩)], .func (.func f8) #[] a9], .int .i64 x23, .int .i64 x24]) Try.func65 (by kernel_rfl) rfl (by kernel_rfl) rfl) (by have q_ := (sort_insertionSort_func.calls k42 w19 H21 x29 A2 c3 F28 g6 f8 a9 x23 x24 h5 (by rw [show x29.length = x1.length from n30]; exact b7) (by rw [show x29.length = x1.length from n30]; exact h10) (St.own' (Fa := [F28, (is g6)]) (Fr := [(is g15)]) S45) t46 u47); (try rw [(show x29.length = x1.length from n30)] at q_); exact q_) ?_
      rintro _ w48 ⟨F52, H49, rfl, n53, h51, b54, T50⟩
      refine ⟨_, rfl, ?_⟩
      obtain ⟨S55, K56⟩ := St.call (Fa := [F28, (is g6)]) (Fr := [(is g15)]) S45 T50
      replace b16 := K56.blk 0 rfl b16
      have E57 := T50.ext
      refine wpList_nil ?_
      refine then_n ?_
      refine wp_ret ?_
      refine then_r ?_
      refine inb_r ?_
      refine then_r ?_
      refine inb_r ?_
      obtain rfl := Option.some.inj M
      have S58 := S55.pull (F := (is g6)) (Fr := [F52, (is g15)]) 1 rfl rfl
      have S59 := S58.pull (F := F52) (Fr := [(is g6), (is g15)]) 1 rfl rfl
      have S60 := St.first (Fa := [F52, (is g6)]) (Fr := [(is g15)]) S59
      exact Go.Sy.ret0 rfl ⟨F52, H49, rfl, n53, h51, b54, S60⟩
    replace M := ifn q43 M
    refine cond_f rfl (bf q43 (by kernel_rfl)) ?_
    refine wp_skip ?_
    refine then_n ?_
    refine wp_seq ?_
    refine wp_seq ?_
    refine wp_region_lit ?_
    refine lv (d := 28) rfl rfl (by kernel_rfl) (e_move (v := .int .i64 x25) (by exact e33)) ?_
    refine lv (d := 29) rfl rfl (by kernel_rfl) (e_eql (k := .i64) (a := x25) (b := 0) (by kernel_rfl) rfl) ?_
    refine wpList_nil ?_
    refine then_n ?_
    by_cases q61 : x25 = 0
    · replace M := ifp q61 M
      refine cond_t rfl (bt q61 (by kernel_rfl)) ?_
      refine wp_seq ?_
      refine wp_region_lit ?_
      refine lv (d := 30) rfl rfl (by kernel_rfl) (e_loadS (b := g15) (off := 0) (cs := [.func (.func 48) #[] #[.pointer (some ⟨g6, 0, none⟩)], .func (.func f8) #[] a9]) Try.underlying78 rfl (by kernel_rfl) (by exact e34) (blk_cells b16 rfl)) ?_
      refine lv (d := 31) rfl rfl (by kernel_rfl) (e_move (v := .int .i64 x23) (by exact e31)) ?_
      refine lv (d := 32) rfl rfl (by kernel_rfl) (e_move (v := .int .i64 x24) (by exact e32)) ?_
      have S62 := S37.pull (F := (is g6)) (Fr := [(is g15), F28]) 2 rfl rfl
      have S63 := S62.pull (F := F28) (Fr := [(is g6), (is g15)]) 2 rfl rfl
      obtain ⟨t64, u65, M⟩ := bnd M
      refine lcall (d := 33) rfl rfl (by kernel_rfl) (e_call (l := [.tmp 30, .tmp 31, .tmp 32]) (vs := [.agg #[.func (.func 48) #[] #[.pointer (some ⟨g6, 0, none⟩)], .func (.func f8) #[] a9], .int .i64 x23, .int .i64 x24]) Try.func66 (by kernel_rfl) rfl (by kernel_rfl) rfl) (by have q_ := (sort_heapSort_func.calls k42 w19 H21 x29 A2 c3 F28 g6 f8 a9 x23 x24 h5 (by rw [show x29.length = x1.length from n30]; exact b7) (by rw [show x29.length = x1.length from n30]; exact h10) (St.own' (Fa := [F28, (is g6)]) (Fr := [(is g15)]) S63) t64 u65); (try rw [(show x29.length = x1.length from n30)] at q_); exact q_) ?_
      rintro _ w66 ⟨F70, H67, rfl, n71, h69, b72, T68⟩
      refine ⟨_, rfl, ?_⟩
      obtain ⟨S73, K74⟩ := St.call (Fa := [F28, (is g6)]) (Fr := [(is g15)]) S63 T68
      replace b16 := K74.blk 0 rfl b16
      have E75 := T68.ext
      refine wpList_nil ?_
      refine then_n ?_
      refine wp_ret ?_
      refine then_r ?_
      refine inb_r ?_
      refine then_r ?_
      refine inb_r ?_
      obtain rfl := Option.some.inj M
      have S76 := S73.pull (F := (is g6)) (Fr := [F70, (is g15)]) 1 rfl rfl
      have S77 := S76.pull (F := F70) (Fr := [(is g6), (is g15)]) 1 rfl rfl
      have S78 := St.first (Fa := [F70, (is g6)]) (Fr := [(is g15)]) S77
      exact Go.Sy.ret0 rfl ⟨F70, H67, rfl, n71, h69, b72, S78⟩
    replace M := ifn q61 M
    refine cond_f rfl (bf q61 (by kernel_rfl)) ?_
    refine wp_skip ?_
    refine then_n ?_
    refine wp_seq_cut (fun a97 w79 => ∃ (k99 : Nat), k99 ≤ k42 ∧ ∃ (f80 : Nat → Value) (H81 : Hp) (x83 : Int) (F84 : Foot) (x85 : List Sy.Op), k99 < K ∧ a97 = mk 130 f80 ∧ f80 1 = .int .i64 x23 ∧ f80 2 = .int .i64 x24 ∧ f80 3 = .int .i64 x83 ∧ f80 4 = .pointer (some ⟨g15, 0, none⟩) ∧ f80 8 = .bool x26 ∧ f80 9 = .bool x27 ∧ f80 10 = .int .i64 (IntKind.i64.wrap (x24 - x23)) ∧ w79.heap[g15]? = some (.cells #[.func (.func 48) #[] #[.pointer (some ⟨g6, 0, none⟩)], .func (.func f8) #[] a9] 78 (0, 0)) ∧ Row st45 45 H81 (hp w79) F84 A2 c3 x85 ∧ w79.heap[g6]? = some (.cells #[.slice A2 x1.length c3] 25 (0, 0)) ∧ x85.length = x1.length ∧ Ext H21 H81 ∧ St (anyOf [F4, (is g6)]) H w [(is g15), F84, (is g6)] H81 w79 ∧ sort_pdqsort_func.l1 k99 x23 x24 x26 x27 x83 x85 = some r) ?_ ?_
    · refine wp_seq ?_
      refine wp_region_lit ?_
      refine lv (d := 34) rfl rfl (by kernel_rfl) (e_move (v := .bool x26) (by exact e35)) ?_
      refine lv (d := 35) rfl rfl (by kernel_rfl) (e_notv (c := x26) (by kernel_rfl)) ?_
      refine wpList_nil ?_
      refine then_n ?_
      by_cases q100 : ¬ (x26 = true)
      · replace M := ifp q100 M
        refine cond_t rfl (bt q100 (by kernel_rfl)) ?_
        refine wp_seq ?_
        refine wp_region_lit ?_
        refine lv (d := 36) rfl rfl (by kernel_rfl) (e_loadS (b := g15) (off := 0) (cs := [.func (.func 48) #[] #[.pointer (some ⟨g6, 0, none⟩)], .func (.func f8) #[] a9]) Try.underlying78 rfl (by kernel_rfl) (by exact e34) (blk_cells b16 rfl)) ?_
        refine lv (d := 37) rfl rfl (by kernel_rfl) (e_move (v := .int .i64 x23) (by exact e31)) ?_
        refine lv (d := 38) rfl rfl (by kernel_rfl) (e_move (v := .int .i64 x24) (by exact e32)) ?_
        have S101 := S37.pull (F := (is g6)) (Fr := [(is g15), F28]) 2 rfl rfl
        have S102 := S101.pull (F := F28) (Fr := [(is g6), (is g15)]) 2 rfl rfl
        obtain ⟨t103, u104, M⟩ := bnd M
        refine lcall (d := 39) rfl rfl (by kernel_rfl) (e_call (l := [.tmp 36, .tmp 37, .tmp 38]) (vs := [.agg #[.func (.func 48) #[] #[.pointer (some ⟨g6, 0, none⟩)], .func (.func f8) #[] a9], .int .i64 x23, .int .i64 x24]) Try.func67 (by kernel_rfl) rfl (by kernel_rfl) rfl) (by have q_ := (sort_breakPatterns_func.calls k42 w19 H21 x29 A2 c3 F28 g6 f8 a9 x23 x24 h5 (by rw [show x29.length = x1.length from n30]; exact b7) (by rw [show x29.length = x1.length from n30]; exact h10) (St.own' (Fa := [F28, (is g6)]) (Fr := [(is g15)]) S102) t103 u104); (try rw [(show x29.length = x1.length from n30)] at q_); exact q_) ?_
        rintro _ w105 ⟨F109, H106, rfl, n110, h108, b111, T107⟩
        refine ⟨_, rfl, ?_⟩
        obtain ⟨S112, K113⟩ := St.call (Fa := [F28, (is g6)]) (Fr := [(is g15)]) S102 T107
        replace b16 := K113.blk 0 rfl b16
        have E114 := T107.ext
        refine wpList_nil ?_
        refine then_n ?_
        refine wp_region_lit ?_
        refine lv (d := 40) rfl rfl (by kernel_rfl) (e_move (v := .int .i64 x25) (by exact e33)) ?_
        refine lv (d := 41) rfl rfl (by kernel_rfl) (e_sub (k := .i64) (a := x25) (b := 1) (by kernel_rfl) rfl) ?_
        refine lv (d := 3) rfl rfl (by kernel_rfl) (e_assign (v := .int .i64 (IntKind.i64.wrap (x25 - 1))) (by kernel_rfl)) ?_
        refine wpList_nil ?_
        refine then_n ?_
        have S115 := S112.pull (F := (is g6)) (Fr := [F109, (is g15)]) 1 rfl rfl
        have S116 := S115.pull (F := F109) (Fr := [(is g6), (is g15)]) 1 rfl rfl
        have S117 := S116.pull (F := (is g15)) (Fr := [F109, (is g6)]) 2 rfl rfl
        exact ⟨k42, (by omega), _, H106, (IntKind.i64.wrap (x25 - 1)), F109, t103, (by omega), rfl, (by exact e31), (by exact e32), (by kernel_rfl), (by exact e34), (by exact e35), (by exact e36), (by kernel_rfl), b16, h108, b111, n110, E114, S117, M⟩
      replace M := ifn q100 M
      refine cond_f rfl (bf q100 (by kernel_rfl)) ?_
      refine wp_skip ?_
      refine then_n ?_
      exact ⟨k42, (by omega), _, H21, x25, F28, x29, (by omega), rfl, (by exact e31), (by exact e32), (by exact e33), (by exact e34), (by exact e35), (by exact e36), (by kernel_rfl), b16, h5, b7, n30, (Ext.refl _), S37, M⟩
    clear M
    rintro a97 w79 ⟨k99, z347, f80, H81, x83, F84, x85, z95, rfl, e87, e88, e89, e90, e91, e92, e93, b16, h5, b7, n86, Y82, S94, M⟩
    rcases k99 with _ | k98
    · rw [sort_pdqsort_func.l1] at M
      cases M
    rw [sort_pdqsort_func.l1] at M
    refine wp_seq ?_
    refine wp_region_lit ?_
    refine lv (d := 43) rfl rfl (by kernel_rfl) (e_loadS (b := g15) (off := 0) (cs := [.func (.func 48) #[] #[.pointer (some ⟨g6, 0, none⟩)], .func (.func f8) #[] a9]) Try.underlying78 rfl (by kernel_rfl) (by exact e90) (blk_cells b16 rfl)) ?_
    refine lv (d := 44) rfl rfl (by kernel_rfl) (e_move (v := .int .i64 x23) (by exact e87)) ?_
    refine lv (d := 45) rfl rfl (by kernel_rfl) (e_move (v := .int .i64 x24) (by exact e88)) ?_
    have S118 := S94.pull (F := (is g6)) (Fr := [(is g15), F84]) 2 rfl rfl
    have S119 := S118.pull (F := F84) (Fr := [(is g6), (is g15)]) 2 rfl rfl
    obtain ⟨t120, u121, M⟩ := bnd M
    refine lcall (d := 46) rfl rfl (by kernel_rfl) (e_call (l := [.tmp 43, .tmp 44, .tmp 45]) (vs := [.agg #[.func (.func 48) #[] #[.pointer (some ⟨g6, 0, none⟩)], .func (.func f8) #[] a9], .int .i64 x23, .int .i64 x24]) Try.func68 (by kernel_rfl) rfl (by kernel_rfl) rfl) (by have q_ := (sort_choosePivot_func.calls k98 w79 H81 x85 A2 c3 F84 g6 f8 a9 x23 x24 h5 (by rw [show x85.length = x1.length from n86]; exact b7) (by rw [show x85.length = x1.length from n86]; exact h10) (St.own' (Fa := [F84, (is g6)]) (Fr := [(is g15)]) S119) t120 u121); (try rw [(show x85.length = x1.length from n86)] at q_); exact q_) ?_
    rintro _ w122 ⟨H123, rfl, h125, b126, T124⟩
    refine ⟨_, rfl, ?_⟩
    obtain ⟨S127, K128⟩ := St.call (Fa := [F84, (is g6)]) (Fr := [(is g15)]) S119 T124
    replace b16 := K128.blk 0 rfl b16
    have E129 := T124.ext
    refine lv (d := 42) rfl rfl (by kernel_rfl) (e_move (v := .tuple #[.int .i64 t120.1, .int .i64 t120.2]) (by kernel_rfl)) ?_
    refine lv (d := 47) rfl rfl (by kernel_rfl) (e_extract (vs := #[.int .i64 t120.1, .int .i64 t120.2]) (v := .int .i64 t120.1) (by kernel_rfl) rfl) ?_
    refine lv (d := 48) rfl rfl (by kernel_rfl) (e_extract (vs := #[.int .i64 t120.1, .int .i64 t120.2]) (v := .int .i64 t120.2) (by kernel_rfl) rfl) ?_
    refine lv (d := 11) rfl rfl (by kernel_rfl) (e_assign (v := .int .i64 t120.1) (by kernel_rfl)) ?_
    refine lv (d := 12) rfl rfl (by kernel_rfl) (e_assign (v := .int .i64 t120.2) (by kernel_rfl)) ?_
    refine wpList_nil ?_
    refine then_n ?_
    refine wp_seq_cut (fun a151 w130 => ∃ (k153 : Nat), k153 ≤ k98 ∧ ∃ (f131 : Nat → Value) (H132 : Hp) (x134 : Int) (x135 : Int) (F136 : Foot) (x137 : List Sy.Op), k153 < K ∧ a151 = mk 130 f131 ∧ f131 1 = .int .i64 x23 ∧ f131 2 = .int .i64 x24 ∧ f131 3 = .int .i64 x83 ∧ f131 4 = .pointer (some ⟨g15, 0, none⟩) ∧ f131 8 = .bool x26 ∧ f131 9 = .bool x27 ∧ f131 10 = .int .i64 (IntKind.i64.wrap (x24 - x23)) ∧ f131 11 = .int .i64 x134 ∧ f131 12 = .int .i64 x135 ∧ Row st45 45 H132 (hp w130) F136 A2 c3 x137 ∧ w130.heap[g6]? = some (.cells #[.slice A2 x1.length c3] 25 (0, 0)) ∧ w130.heap[g15]? = some (.cells #[.func (.func 48) #[] #[.pointer (some ⟨g6, 0, none⟩)], .func (.func f8) #[] a9] 78 (0, 0)) ∧ x137.length = x1.length ∧ Ext H123 H132 ∧ St (anyOf [F4, (is g6)]) H w [F136, (is g6), (is g15)] H132 w130 ∧ sort_pdqsort_func.l2 k153 x23 x24 x26 x27 x83 x134 x135 x137 = some r) ?_ ?_
    · refine wp_seq ?_
      refine wp_region_lit ?_
      refine lv (d := 49) rfl rfl (by kernel_rfl) (e_move (v := .int .i64 t120.2) (by kernel_rfl)) ?_
      refine lv (d := 50) rfl rfl (by kernel_rfl) (e_eql (k := .i64) (a := t120.2) (b := 2) (by kernel_rfl) rfl) ?_
      refine wpList_nil ?_
      refine then_n ?_
      by_cases q154 : t120.2 = 2
      · replace M := ifp q154 M
        refine cond_t rfl (bt q154 (by kernel_rfl)) ?_
        refine wp_seq ?_
        refine wp_region_lit ?_
        refine lv (d := 51) rfl rfl (by kernel_rfl) (e_loadS (b := g15) (off := 0) (cs := [.func (.func 48) #[] #[.pointer (some ⟨g6, 0, none⟩)], .func (.func f8) #[] a9]) Try.underlying78 rfl (by kernel_rfl) (by exact e90) (blk_cells b16 rfl)) ?_
        refine lv (d := 52) rfl rfl (by kernel_rfl) (e_move (v := .int .i64 x23) (by exact e87)) ?_
        refine lv (d := 53) rfl rfl (by kernel_rfl) (e_move (v := .int .i64 x24) (by exact e88)) ?_
        have S155 := S127.pull (F := (is g6)) (Fr := [F84, (is g15)]) 1 rfl rfl
        have S156 := S155.pull (F := F84) (Fr := [(is g6), (is g15)]) 1 rfl rfl
        obtain ⟨t157, u158, M⟩ := bnd M
        refine lcall (d := 54) rfl rfl (by kernel_rfl) (e_call (l := [.tmp 51, .tmp 52, .tmp 53]) (vs := [.agg #[.func (.func 48) #[] #[.pointer (some ⟨g6, 0, none⟩)], .func (.func f8) #[] a9], .int .i64 x23, .int .i64 x24]) Try.func69 (by kernel_rfl) rfl (by kernel_rfl) rfl) (by have q_ := (sort_reverseRange_func.calls k98 w122 H123 x85 A2 c3 F84 g6 f8 a9 x23 x24 h125 (by rw [show x85.length = x1.length from n86]; exact b126) (by rw [show x85.length = x1.length from n86]; exact h10) (St.own' (Fa := [F84, (is g6)]) (Fr := [(is g15)]) S156) t157 u158); (try rw [(show x85.length = x1.length from n86)] at q_); exact q_) ?_
        rintro _ w159 ⟨F163, H160, rfl, n164, h162, b165, T161⟩
        refine ⟨_, rfl, ?_⟩
        obtain ⟨S166, K167⟩ := St.call (Fa := [F84, (is g6)]) (Fr := [(is g15)]) S156 T161
        replace b16 := K167.blk 0 rfl b16
        have E168 := T161.ext
        refine wpList_nil ?_
        refine then_n ?_
        refine wp_seq ?_
        refine wp_region_lit ?_
        refine lv (d := 55) rfl rfl (by kernel_rfl) (e_move (v := .int .i64 x24) (by exact e88)) ?_
        refine lv (d := 56) rfl rfl (by kernel_rfl) (e_sub (k := .i64) (a := x24) (b := 1) (by kernel_rfl) rfl) ?_
        refine lv (d := 57) rfl rfl (by kernel_rfl) (e_move (v := .int .i64 t120.1) (by kernel_rfl)) ?_
        refine lv (d := 58) rfl rfl (by kernel_rfl) (e_move (v := .int .i64 x23) (by exact e87)) ?_
        refine lv (d := 59) rfl rfl (by kernel_rfl) (e_sub (k := .i64) (a := t120.1) (b := x23) (by kernel_rfl) (by kernel_rfl)) ?_
        refine lv (d := 60) rfl rfl (by kernel_rfl) (e_sub (k := .i64) (a := (IntKind.i64.wrap (x24 - 1))) (b := (IntKind.i64.wrap (t120.1 - x23))) (by kernel_rfl) (by kernel_rfl)) ?_
        refine lv (d := 11) rfl rfl (by kernel_rfl) (e_assign (v := .int .i64 (IntKind.i64.wrap ((IntKind.i64.wrap (x24 - 1)) - (IntKind.i64.wrap (t120.1 - x23))))) (by kernel_rfl)) ?_
        refine wpList_nil ?_
        refine then_n ?_
        refine wp_region_lit ?_
        refine lv (d := 12) rfl rfl (by kernel_rfl) (e_assign (v := .int .i64 1) rfl) ?_
        refine wpList_nil ?_
        refine then_n ?_
        exact ⟨k98, (by omega), _, H160, (IntKind.i64.wrap ((IntKind.i64.wrap (x24 - 1)) - (IntKind.i64.wrap (t120.1 - x23)))), 1, F163, t157, (by omega), rfl, (by exact e87), (by exact e88), (by exact e89), (by exact e90), (by exact e91), (by exact e92), (by exact e93), (by kernel_rfl), (by kernel_rfl), h162, b165, b16, n164, E168, S166, M⟩
      replace M := ifn q154 M
      refine cond_f rfl (bf q154 (by kernel_rfl)) ?_
      refine wp_skip ?_
      refine then_n ?_
      exact ⟨k98, (by omega), _, H123, t120.1, t120.2, F84, x85, (by omega), rfl, (by exact e87), (by exact e88), (by exact e89), (by exact e90), (by exact e91), (by exact e92), (by exact e93), (by kernel_rfl), (by kernel_rfl), h125, b126, b16, n86, (Ext.refl _), S127, M⟩
    clear M
    rintro a151 w130 ⟨k153, z346, f131, H132, x134, x135, F136, x137, z149, rfl, e139, e140, e141, e142, e143, e144, e145, e146, e147, h125, b126, b16, n138, Y133, S148, M⟩
    rcases k153 with _ | k152
    · rw [sort_pdqsort_func.l2] at M
      cases M
    rw [sort_pdqsort_func.l2] at M
    refine wp_seq_cut (fun a187 w169 => ∃ (k189 : Nat), k189 ≤ k152 ∧ ∃ (f170 : Nat → Value) (H171 : Hp) (F173 : Foot) (x174 : List Sy.Op), k189 < K ∧ a187 = mk 130 f170 ∧ f170 1 = .int .i64 x23 ∧ f170 2 = .int .i64 x24 ∧ f170 3 = .int .i64 x83 ∧ f170 4 = .pointer (some ⟨g15, 0, none⟩) ∧ f170 8 = .bool x26 ∧ f170 9 = .bool x27 ∧ f170 10 = .int .i64 (IntKind.i64.wrap (x24 - x23)) ∧ f170 11 = .int .i64 x134 ∧ Row st45 45 H171 (hp w169) F173 A2 c3 x174 ∧ w169.heap[g6]? = some (.cells #[.slice A2 x1.length c3] 25 (0, 0)) ∧ w169.heap[g15]? = some (.cells #[.func (.func 48) #[] #[.pointer (some ⟨g6, 0, none⟩)], .func (.func f8) #[] a9] 78 (0, 0)) ∧ x174.length = x1.length ∧ Ext H132 H171 ∧ St (anyOf [F4, (is g6)]) H w [F173, (is g6), (is g15)] H171 w169 ∧ sort_pdqsort_func.l3 k189 x23 x24 x26 x27 x83 x134 x174 = some r) ?_ ?_
    · refine wp_seq ?_
      refine wp_region_lit ?_
      refine lv (d := 61) rfl rfl (by kernel_rfl) (e_move (v := .bool x26) (by exact e143)) ?_
      refine lv (d := 62) rfl rfl (by kernel_rfl) (e_move (v := .bool x26) (by kernel_rfl)) ?_
      by_cases q190 : x26 = true
      · replace M := ifp q190 M
        refine lvg (d := 63) (t := 62) rfl (by kernel_rfl) rfl (bvt q190 (by kernel_rfl)) rfl (by kernel_rfl) (e_move (v := .bool x27) (by exact e144)) ?_
        refine lv (d := 64) rfl rfl (by kernel_rfl) (e_pick_t (v := .bool x27) (bvt q190 (by kernel_rfl)) (by kernel_rfl)) ?_
        refine lv (d := 65) rfl rfl (by kernel_rfl) (e_move (v := .bool x27) (by kernel_rfl)) ?_
        by_cases q191 : x27 = true
        · replace M := ifp q191 M
          refine lvg (d := 66) (t := 65) rfl (by kernel_rfl) rfl (bvt q191 (by kernel_rfl)) rfl (by kernel_rfl) (e_move (v := .int .i64 x135) (by exact e147)) ?_
          refine lvg (d := 67) (t := 65) rfl (by kernel_rfl) rfl (bvt q191 (by kernel_rfl)) rfl (by kernel_rfl) (e_eql (k := .i64) (a := x135) (b := 1) (by kernel_rfl) rfl) ?_
          refine lv (d := 68) rfl rfl (by kernel_rfl) (e_pick_t (v := .bool (decide (x135 = 1))) (bvt q191 (by kernel_rfl)) (by kernel_rfl)) ?_
          refine wpList_nil ?_
          refine then_n ?_
          by_cases q192 : x135 = 1
          · replace M := ifp q192 M
            refine cond_t rfl (bt q192 (by kernel_rfl)) ?_
            refine wp_seq ?_
            refine wp_region_lit ?_
            refine lv (d := 69) rfl rfl (by kernel_rfl) (e_loadS (b := g15) (off := 0) (cs := [.func (.func 48) #[] #[.pointer (some ⟨g6, 0, none⟩)], .func (.func f8) #[] a9]) Try.underlying78 rfl (by kernel_rfl) (by exact e142) (blk_cells b16 rfl)) ?_
            refine lv (d := 70) rfl rfl (by kernel_rfl) (e_move (v := .int .i64 x23) (by exact e139)) ?_
            refine lv (d := 71) rfl rfl (by kernel_rfl) (e_move (v := .int .i64 x24) (by exact e140)) ?_
            have S193 := S148.pull (F := (is g6)) (Fr := [F136, (is g15)]) 1 rfl rfl
            have S194 := S193.pull (F := F136) (Fr := [(is g6), (is g15)]) 1 rfl rfl
            obtain ⟨t195, u196, M⟩ := bnd M
            refine lcall (d := 72) rfl rfl (by kernel_rfl) (e_call (l := [.tmp 69, .tmp 70, .tmp 71]) (vs := [.agg #[.func (.func 48) #[] #[.pointer (some ⟨g6, 0, none⟩)], .func (.func f8) #[] a9], .int .i64 x23, .int .i64 x24]) Try.func70 (by kernel_rfl) rfl (by kernel_rfl) rfl) (by have q_ := (sort_partialInsertionSort_func.calls k152 w130 H132 x137 A2 c3 F136 g6 f8 a9 x23 x24 h125 (by rw [show x137.length = x1.length from n138]; exact b126) (by rw [show x137.length = x1.length from n138]; exact h10) (St.own' (Fa := [F136, (is g6)]) (Fr := [(is g15)]) S194) t195 u196); (try rw [(show x137.length = x1.length from n138)] at q_); exact q_) ?_
            rintro _ w197 ⟨F201, H198, rfl, n202, h200, b203, T199⟩
            refine ⟨_, rfl, ?_⟩
            obtain ⟨S204, K205⟩ := St.call (Fa := [F136, (is g6)]) (Fr := [(is g15)]) S194 T199
            replace b16 := K205.blk 0 rfl b16
            have E206 := T199.ext
            refine wpList_nil ?_
            refine then_n ?_
            by_cases q207 : t195.1 = true
            · replace M := ifp q207 M
              refine cond_t rfl (bvt q207 (by kernel_rfl)) ?_
              refine wp_ret ?_
              refine then_r ?_
              refine inb_r ?_
              refine then_r ?_
              refine inb_r ?_
              obtain rfl := Option.some.inj M
              have S208 := S204.pull (F := (is g6)) (Fr := [F201, (is g15)]) 1 rfl rfl
              have S209 := S208.pull (F := F201) (Fr := [(is g6), (is g15)]) 1 rfl rfl
              have S210 := St.first (Fa := [F201, (is g6)]) (Fr := [(is g15)]) S209
              exact Go.Sy.ret0 rfl ⟨F201, H198, rfl, n202, h200, b203, S210⟩
            replace M := ifn q207 M
            refine cond_f rfl (bvf q207 (by kernel_rfl)) ?_
            refine wp_skip ?_
            refine then_n ?_
            exact ⟨k152, (by omega), _, H198, F201, t195.2, (by omega), rfl, (by exact e139), (by exact e140), (by exact e141), (by exact e142), (by exact e143), (by exact e144), (by exact e145), (by exact e146), h200, b203, b16, n202, E206, S204, M⟩
          replace M := ifn q192 M
          refine cond_f rfl (bf q192 (by kernel_rfl)) ?_
          refine wp_skip ?_
          refine then_n ?_
          exact ⟨k152, (by omega), _, H132, F136, x137, (by omega), rfl, (by exact e139), (by exact e140), (by exact e141), (by exact e142), (by exact e143), (by exact e144), (by exact e145), (by exact e146), h125, b126, b16, n138, (Ext.refl _), S148, M⟩
        replace M := ifn q191 M
        refine lskip (t := 65) (c := false) rfl (by kernel_rfl) rfl (bvf q191 (by kernel_rfl)) rfl rfl ?_
        refine lskip (t := 65) (c := false) rfl (by kernel_rfl) rfl (bvf q191 (by kernel_rfl)) rfl rfl ?_
        refine lv (d := 68) rfl rfl (by kernel_rfl) (e_pick_f (v := .bool false) (bvf q191 (by kernel_rfl)) rfl) ?_
        refine wpList_nil ?_
        refine then_n ?_
        refine cond_f rfl (by kernel_rfl) ?_
        refine wp_skip ?_
        refine then_n ?_
        exact ⟨k152, (by omega), _, H132, F136, x137, (by omega), rfl, (by exact e139), (by exact e140), (by exact e141), (by exact e142), (by exact e143), (by exact e144), (by exact e145), (by exact e146), h125, b126, b16, n138, (Ext.refl _), S148, M⟩
      replace M := ifn q190 M
      refine lskip (t := 62) (c := false) rfl (by kernel_rfl) rfl (bvf q190 (by kernel_rfl)) rfl rfl ?_
      refine lv (d := 64) rfl rfl (by kernel_rfl) (e_pick_f (v := .bool false) (bvf q190 (by kernel_rfl)) rfl) ?_
      refine lv (d := 65) rfl rfl (by kernel_rfl) (e_move (v := .bool false) (by kernel_rfl)) ?_
      refine lskip (t := 65) (c := false) rfl (by kernel_rfl) rfl (by kernel_rfl) rfl rfl ?_
      refine lskip (t := 65) (c := false) rfl (by kernel_rfl) rfl (by kernel_rfl) rfl rfl ?_
      refine lv (d := 68) rfl rfl (by kernel_rfl) (e_pick_f (v := .bool false) (by kernel_rfl) rfl) ?_
      refine wpList_nil ?_
      refine then_n ?_
      refine cond_f rfl (by kernel_rfl) ?_
      refine wp_skip ?_
      refine then_n ?_
      exact ⟨k152, (by omega), _, H132, F136, x137, (by omega), rfl, (by exact e139), (by exact e140), (by exact e141), (by exact e142), (by exact e143), (by exact e144), (by exact e145), (by exact e146), h125, b126, b16, n138, (Ext.refl _), S148, M⟩
    clear M
    rintro a187 w169 ⟨k189, z345, f170, H171, F173, x174, z185, rfl, e176, e177, e178, e179, e180, e181, e182, e183, h125, b126, b16, n175, Y172, S184, M⟩
    rcases k189 with _ | k188
    · rw [sort_pdqsort_func.l3] at M
      cases M
    rw [sort_pdqsort_func.l3] at M
    refine wp_seq ?_
    refine wp_seq ?_
    refine wp_region_lit ?_
    refine lv (d := 73) rfl rfl (by kernel_rfl) (e_move (v := .int .i64 x23) (by exact e176)) ?_
    refine lv (d := 74) rfl rfl (by kernel_rfl) (e_gtr (k := .i64) (a := x23) (b := 0) (by kernel_rfl) rfl) ?_
    refine lv (d := 75) rfl rfl (by kernel_rfl) (e_move (v := .bool (decide (x23 > 0))) (by kernel_rfl)) ?_
    by_cases q211 : x23 > 0
    · replace M := ifp q211 M
      refine lvg (d := 76) (t := 75) rfl (by kernel_rfl) rfl (bt q211 (by kernel_rfl)) rfl (by kernel_rfl) (e_fieldAddr (b := g15) (off := 0) (o := 0) Try.underlying78 rfl rfl (sz := 1) (by kernel_rfl) (by decide) (by exact e179)) ?_
      refine lvg (d := 77) (t := 75) rfl (by kernel_rfl) rfl (bt q211 (by kernel_rfl)) rfl (by kernel_rfl) (e_load1 (ad := ⟨g15, 0 + 0, none⟩) (v := .func (.func 48) #[] #[.pointer (some ⟨g6, 0, none⟩)]) Try.underlying64 rfl (by kernel_rfl) (blk_cell b16 rfl)) ?_
      refine lvg (d := 78) (t := 75) rfl (by kernel_rfl) rfl (bt q211 (by kernel_rfl)) rfl (by kernel_rfl) (e_move (v := .int .i64 x23) (by exact e176)) ?_
      refine lvg (d := 79) (t := 75) rfl (by kernel_rfl) rfl (bt q211 (by kernel_rfl)) rfl (by kernel_rfl) (e_sub (k := .i64) (a := x23) (b := 1) (by kernel_rfl) rfl) ?_
      refine lvg (d := 80) (t := 75) rfl (by kernel_rfl) rfl (bt q211 (by kernel_rfl)) rfl (by kernel_rfl) (e_move (v := .int .i64 x134) (by exact e183)) ?_
      obtain ⟨t212, u213, M⟩ := bnd M
      refine lcallg (d := 81) (t := 75) rfl (by kernel_rfl) rfl (bt q211 (by kernel_rfl)) rfl (by kernel_rfl) (e_callv (l := [.tmp 79, .tmp 80]) (vs := [.int .i64 (IntKind.i64.wrap (x23 - 1)), .int .i64 x134]) (cs := [.pointer (some ⟨g6, 0, none⟩)]) Try.func48 (by kernel_rfl) rfl (by kernel_rfl) (by kernel_rfl)) (by have l214 := h125.le; obtain ⟨H215, S216, E217, h218, z219⟩ := S184.frzRow h125; obtain ⟨H220, S221, E222, h223, z224⟩ := S216.frzBlk b126; exact (by have q_ := (impl_sortOps_c1.calls w169 H220 (IntKind.i64.wrap (x23 - 1)) x134 x174 g6 A2 c3 (h218.ext E222) l214 (by rw [show x174.length = x1.length from n175]; exact h223) S221.own0 t212 u213); (try rw [(show x174.length = x1.length from n175)] at q_); exact q_)) ?_
      rintro _ w225 ⟨rfl, C226⟩
      refine ⟨_, rfl, ?_⟩
      obtain ⟨S227, K228⟩ := S184.still C226
      replace h125 := h125.move (K228.at 0 rfl)
      replace b126 := K228.blk 1 rfl b126
      replace b16 := K228.blk 2 rfl b16
      refine lvg (d := 82) (t := 75) rfl (by kernel_rfl) rfl (bt q211 (by kernel_rfl)) rfl (by kernel_rfl) (e_notv (c := t212) (by kernel_rfl)) ?_
      refine lv (d := 83) rfl rfl (by kernel_rfl) (e_pick_t (v := .bool (decide (¬ (t212 = true)))) (bt q211 (by kernel_rfl)) (by kernel_rfl)) ?_
      refine wpList_nil ?_
      refine then_n ?_
      by_cases q229 : ¬ (t212 = true)
      · replace M := ifp q229 M
        refine cond_t rfl (bt q229 (by kernel_rfl)) ?_
        refine wp_seq ?_
        refine wp_region_lit ?_
        refine lv (d := 84) rfl rfl (by kernel_rfl) (e_loadS (b := g15) (off := 0) (cs := [.func (.func 48) #[] #[.pointer (some ⟨g6, 0, none⟩)], .func (.func f8) #[] a9]) Try.underlying78 rfl (by kernel_rfl) (by exact e179) (blk_cells b16 rfl)) ?_
        refine lv (d := 85) rfl rfl (by kernel_rfl) (e_move (v := .int .i64 x23) (by exact e176)) ?_
        refine lv (d := 86) rfl rfl (by kernel_rfl) (e_move (v := .int .i64 x24) (by exact e177)) ?_
        refine lv (d := 87) rfl rfl (by kernel_rfl) (e_move (v := .int .i64 x134) (by exact e183)) ?_
        have S230 := S227.pull (F := (is g6)) (Fr := [F173, (is g15)]) 1 rfl rfl
        have S231 := S230.pull (F := F173) (Fr := [(is g6), (is g15)]) 1 rfl rfl
        obtain ⟨t232, u233, M⟩ := bnd M
        refine lcall (d := 88) rfl rfl (by kernel_rfl) (e_call (l := [.tmp 84, .tmp 85, .tmp 86, .tmp 87]) (vs := [.agg #[.func (.func 48) #[] #[.pointer (some ⟨g6, 0, none⟩)], .func (.func f8) #[] a9], .int .i64 x23, .int .i64 x24, .int .i64 x134]) Try.func71 (by kernel_rfl) rfl (by kernel_rfl) rfl) (by have q_ := (sort_partitionEqual_func.calls k188 w225 H171 x174 A2 c3 F173 g6 f8 a9 x23 x24 x134 h125 (by rw [show x174.length = x1.length from n175]; exact b126) (by rw [show x174.length = x1.length from n175]; exact h10) (St.own' (Fa := [F173, (is g6)]) (Fr := [(is g15)]) S231) t232 u233); (try rw [(show x174.length = x1.length from n175)] at q_); exact q_) ?_
        rintro _ w234 ⟨F238, H235, rfl, n239, h237, b240, T236⟩
        refine ⟨_, rfl, ?_⟩
        obtain ⟨S241, K242⟩ := St.call (Fa := [F173, (is g6)]) (Fr := [(is g15)]) S231 T236
        replace b16 := K242.blk 0 rfl b16
        have E243 := T236.ext
        refine lv (d := 13) rfl rfl (by kernel_rfl) (e_assign (v := .int .i64 t232.1) (by kernel_rfl)) ?_
        refine wpList_nil ?_
        refine then_n ?_
        refine wp_seq ?_
        refine wp_region_lit ?_
        refine lv (d := 89) rfl rfl (by kernel_rfl) (e_move (v := .int .i64 t232.1) (by kernel_rfl)) ?_
        refine lv (d := 1) rfl rfl (by kernel_rfl) (e_assign (v := .int .i64 t232.1) (by kernel_rfl)) ?_
        refine wpList_nil ?_
        refine then_n ?_
        refine wp_exit ?_
        refine then_e ?_
        refine inb_hit ?_
        refine then_n ?_
        have S244 := S241.pull (F := (is g6)) (Fr := [F238, (is g15)]) 1 rfl rfl
        have S245 := S244.pull (F := F238) (Fr := [(is g6), (is g15)]) 1 rfl rfl
        have S246 := S245.pull (F := (is g15)) (Fr := [F238, (is g6)]) 2 rfl rfl
        exact ⟨k188, (by omega), _, H235, t232.1, x24, x83, x26, x27, F238, t232.2, (by omega), rfl, (by kernel_rfl), (by exact e177), (by exact e178), (by exact e179), (by exact e180), (by exact e181), b16, h237, b240, n239, (((((Y22.trans Y82).trans E129).trans Y133).trans Y172).trans E243), S246, M⟩
      replace M := ifn q229 M
      refine cond_f rfl (bf q229 (by kernel_rfl)) ?_
      refine wp_skip ?_
      refine then_n ?_
      refine wp_seq ?_
      refine wp_region_lit ?_
      refine lv (d := 91) rfl rfl (by kernel_rfl) (e_loadS (b := g15) (off := 0) (cs := [.func (.func 48) #[] #[.pointer (some ⟨g6, 0, none⟩)], .func (.func f8) #[] a9]) Try.underlying78 rfl (by kernel_rfl) (by exact e179) (blk_cells b16 rfl)) ?_
      refine lv (d := 92) rfl rfl (by kernel_rfl) (e_move (v := .int .i64 x23) (by exact e176)) ?_
      refine lv (d := 93) rfl rfl (by kernel_rfl) (e_move (v := .int .i64 x24) (by exact e177)) ?_
      refine lv (d := 94) rfl rfl (by kernel_rfl) (e_move (v := .int .i64 x134) (by exact e183)) ?_
      have S247 := S227.pull (F := (is g6)) (Fr := [F173, (is g15)]) 1 rfl rfl
      have S248 := S247.pull (F := F173) (Fr := [(is g6), (is g15)]) 1 rfl rfl
      obtain ⟨t249, u250, M⟩ := bnd M
      refine lcall (d := 95) rfl rfl (by kernel_rfl) (e_call (l := [.tmp 91, .tmp 92, .tmp 93, .tmp 94]) (vs := [.agg #[.func (.func 48) #[] #[.pointer (some ⟨g6, 0, none⟩)], .func (.func f8) #[] a9], .int .i64 x23, .int .i64 x24, .int .i64 x134]) Try.func72 (by kernel_rfl) rfl (by kernel_rfl) rfl) (by have q_ := (sort_partition_func.calls k188 w225 H171 x174 A2 c3 F173 g6 f8 a9 x23 x24 x134 h125 (by rw [show x174.length = x1.length from n175]; exact b126) (by rw [show x174.length = x1.length from n175]; exact h10) (St.own' (Fa := [F173, (is g6)]) (Fr := [(is g15)]) S248) t249 u250); (try rw [(show x174.length = x1.length from n175)] at q_); exact q_) ?_
      rintro _ w251 ⟨F255, H252, rfl, n256, h254, b257, T253⟩
      refine ⟨_, rfl, ?_⟩
      obtain ⟨S258, K259⟩ := St.call (Fa := [F173, (is g6)]) (Fr := [(is g15)]) S248 T253
      replace b16 := K259.blk 0 rfl b16
      have E260 := T253.ext
      refine lv (d := 90) rfl rfl (by kernel_rfl) (e_move (v := .tuple #[.int .i64 t249.1, .bool t249.2.1]) (by kernel_rfl)) ?_
      refine lv (d := 96) rfl rfl (by kernel_rfl) (e_extract (vs := #[.int .i64 t249.1, .bool t249.2.1]) (v := .int .i64 t249.1) (by kernel_rfl) rfl) ?_
      refine lv (d := 97) rfl rfl (by kernel_rfl) (e_extract (vs := #[.int .i64 t249.1, .bool t249.2.1]) (v := .bool t249.2.1) (by kernel_rfl) rfl) ?_
      refine lv (d := 14) rfl rfl (by kernel_rfl) (e_assign (v := .int .i64 t249.1) (by kernel_rfl)) ?_
      refine lv (d := 15) rfl rfl (by kernel_rfl) (e_assign (v := .bool t249.2.1) (by kernel_rfl)) ?_
      refine wpList_nil ?_
      refine then_n ?_
      refine wp_seq ?_
      refine wp_region_lit ?_
      refine lv (d := 98) rfl rfl (by kernel_rfl) (e_move (v := .bool t249.2.1) (by kernel_rfl)) ?_
      refine lv (d := 9) rfl rfl (by kernel_rfl) (e_assign (v := .bool t249.2.1) (by kernel_rfl)) ?_
      refine wpList_nil ?_
      refine then_n ?_
      refine wp_seq ?_
      refine wp_region_lit ?_
      refine lv (d := 99) rfl rfl (by kernel_rfl) (e_move (v := .int .i64 t249.1) (by kernel_rfl)) ?_
      refine lv (d := 100) rfl rfl (by kernel_rfl) (e_move (v := .int .i64 x23) (by exact e176)) ?_
      refine lv (d := 101) rfl rfl (by kernel_rfl) (e_sub (k := .i64) (a := t249.1) (b := x23) (by kernel_rfl) (by kernel_rfl)) ?_
      refine lv (d := 102) rfl rfl (by kernel_rfl) (e_move (v := .int .i64 x24) (by exact e177)) ?_
      refine lv (d := 103) rfl rfl (by kernel_rfl) (e_move (v := .int .i64 t249.1) (by kernel_rfl)) ?_
      refine lv (d := 104) rfl rfl (by kernel_rfl) (e_sub (k := .i64) (a := x24) (b := t249.1) (by kernel_rfl) (by kernel_rfl)) ?_
      refine lv (d := 16) rfl rfl (by kernel_rfl) (e_assign (v := .int .i64 (IntKind.i64.wrap (t249.1 - x23))) (by kernel_rfl)) ?_
      refine lv (d := 17) rfl rfl (by kernel_rfl) (e_assign (v := .int .i64 (IntKind.i64.wrap (x24 - t249.1))) (by kernel_rfl)) ?_
      refine wpList_nil ?_
      refine then_n ?_
      refine wp_seq ?_
      refine wp_region_lit ?_
      refine lv (d := 105) rfl rfl (by kernel_rfl) (e_move (v := .int .i64 (IntKind.i64.wrap (x24 - x23))) (by exact e182)) ?_
      refine lv (d := 106) rfl rfl (by kernel_rfl) (e_quo (k := .i64) (a := (IntKind.i64.wrap (x24 - x23))) (b := 8) (by kernel_rfl) rfl (by decide)) ?_
      refine lv (d := 18) rfl rfl (by kernel_rfl) (e_assign (v := .int .i64 (IntKind.i64.wrap (Int.tdiv (IntKind.i64.wrap (x24 - x23)) 8))) (by kernel_rfl)) ?_
      refine wpList_nil ?_
      refine then_n ?_
      refine wp_seq ?_
      refine wp_region_lit ?_
      refine lv (d := 107) rfl rfl (by kernel_rfl) (e_move (v := .int .i64 (IntKind.i64.wrap (t249.1 - x23))) (by kernel_rfl)) ?_
      refine lv (d := 108) rfl rfl (by kernel_rfl) (e_move (v := .int .i64 (IntKind.i64.wrap (x24 - t249.1))) (by kernel_rfl)) ?_
      refine lv (d := 109) rfl rfl (by kernel_rfl) (e_lss (k := .i64) (a := (IntKind.i64.wrap (t249.1 - x23))) (b := (IntKind.i64.wrap (x24 - t249.1))) (by kernel_rfl) (by kernel_rfl)) ?_
      refine wpList_nil ?_
      refine then_n ?_
      by_cases q261 : (IntKind.i64.wrap (t249.1 - x23)) < (IntKind.i64.wrap (x24 - t249.1))
      · replace M := ifp q261 M
        refine cond_t rfl (bt q261 (by kernel_rfl)) ?_
        refine wp_seq ?_
        refine wp_region_lit ?_
        refine lv (d := 110) rfl rfl (by kernel_rfl) (e_move (v := .int .i64 (IntKind.i64.wrap (t249.1 - x23))) (by kernel_rfl)) ?_
        refine lv (d := 111) rfl rfl (by kernel_rfl) (e_move (v := .int .i64 (IntKind.i64.wrap (Int.tdiv (IntKind.i64.wrap (x24 - x23)) 8))) (by kernel_rfl)) ?_
        refine lv (d := 112) rfl rfl (by kernel_rfl) (e_geq (k := .i64) (a := (IntKind.i64.wrap (t249.1 - x23))) (b := (IntKind.i64.wrap (Int.tdiv (IntKind.i64.wrap (x24 - x23)) 8))) (by kernel_rfl) (by kernel_rfl)) ?_
        refine lv (d := 8) rfl rfl (by kernel_rfl) (e_assign (v := .bool (decide ((IntKind.i64.wrap (t249.1 - x23)) ≥ (IntKind.i64.wrap (Int.tdiv (IntKind.i64.wrap (x24 - x23)) 8))))) (by kernel_rfl)) ?_
        refine wpList_nil ?_
        refine then_n ?_
        refine wp_seq ?_
        refine wp_region_lit ?_
        refine lv (d := 113) rfl rfl (by kernel_rfl) (e_loadS (b := g15) (off := 0) (cs := [.func (.func 48) #[] #[.pointer (some ⟨g6, 0, none⟩)], .func (.func f8) #[] a9]) Try.underlying78 rfl (by kernel_rfl) (by exact e179) (blk_cells b16 rfl)) ?_
        refine lv (d := 114) rfl rfl (by kernel_rfl) (e_move (v := .int .i64 x23) (by exact e176)) ?_
        refine lv (d := 115) rfl rfl (by kernel_rfl) (e_move (v := .int .i64 t249.1) (by kernel_rfl)) ?_
        refine lv (d := 116) rfl rfl (by kernel_rfl) (e_move (v := .int .i64 x83) (by exact e178)) ?_
        have S262 := S258.pull (F := (is g6)) (Fr := [F255, (is g15)]) 1 rfl rfl
        have S263 := S262.pull (F := F255) (Fr := [(is g6), (is g15)]) 1 rfl rfl
        obtain ⟨t264, u265, M⟩ := bnd M
        refine lcall (d := 117) rfl rfl (by kernel_rfl) (e_call (l := [.tmp 113, .tmp 114, .tmp 115, .tmp 116]) (vs := [.agg #[.func (.func 48) #[] #[.pointer (some ⟨g6, 0, none⟩)], .func (.func f8) #[] a9], .int .i64 x23, .int .i64 t249.1, .int .i64 x83]) Try.func53 (by kernel_rfl) rfl (by kernel_rfl) rfl) (by have q_ := (ih k188 (by omega) w251 H252 t249.2.2 A2 c3 F255 g6 f8 a9 x23 t249.1 x83 h254 (by rw [show t249.2.2.length = x1.length from n256]; exact b257) (by rw [show t249.2.2.length = x1.length from n256]; exact h10) (St.own' (Fa := [F255, (is g6)]) (Fr := [(is g15)]) S263) t264 u265); (try rw [(show t249.2.2.length = x1.length from n256)] at q_); exact q_) ?_
        rintro _ w266 ⟨F270, H267, rfl, n271, h269, b272, T268⟩
        refine ⟨_, rfl, ?_⟩
        obtain ⟨S273, K274⟩ := St.call (Fa := [F255, (is g6)]) (Fr := [(is g15)]) S263 T268
        replace b16 := K274.blk 0 rfl b16
        have E275 := T268.ext
        refine wpList_nil ?_
        refine then_n ?_
        refine wp_region_lit ?_
        refine lv (d := 118) rfl rfl (by kernel_rfl) (e_move (v := .int .i64 t249.1) (by kernel_rfl)) ?_
        refine lv (d := 119) rfl rfl (by kernel_rfl) (e_add (k := .i64) (a := t249.1) (b := 1) (by kernel_rfl) rfl) ?_
        refine lv (d := 1) rfl rfl (by kernel_rfl) (e_assign (v := .int .i64 (IntKind.i64.wrap (t249.1 + 1))) (by kernel_rfl)) ?_
        refine wpList_nil ?_
        refine inb_n ?_
        refine then_n ?_
        have S276 := S273.pull (F := (is g6)) (Fr := [F270, (is g15)]) 1 rfl rfl
        have S277 := S276.pull (F := F270) (Fr := [(is g6), (is g15)]) 1 rfl rfl
        have S278 := S277.pull (F := (is g15)) (Fr := [F270, (is g6)]) 2 rfl rfl
        exact ⟨k188, (by omega), _, H267, (IntKind.i64.wrap (t249.1 + 1)), x24, x83, (decide ((IntKind.i64.wrap (t249.1 - x23)) ≥ (IntKind.i64.wrap (Int.tdiv (IntKind.i64.wrap (x24 - x23)) 8)))), t249.2.1, F270, t264, (by omega), rfl, (by kernel_rfl), (by exact e177), (by exact e178), (by exact e179), (by kernel_rfl), (by kernel_rfl), b16, h269, b272, n271, ((((((Y22.trans Y82).trans E129).trans Y133).trans Y172).trans E260).trans E275), S278, M⟩
      replace M := ifn q261 M
      refine cond_f rfl (bf q261 (by kernel_rfl)) ?_
      refine wp_seq ?_
      refine wp_region_lit ?_
      refine lv (d := 120) rfl rfl (by kernel_rfl) (e_move (v := .int .i64 (IntKind.i64.wrap (x24 - t249.1))) (by kernel_rfl)) ?_
      refine lv (d := 121) rfl rfl (by kernel_rfl) (e_move (v := .int .i64 (IntKind.i64.wrap (Int.tdiv (IntKind.i64.wrap (x24 - x23)) 8))) (by kernel_rfl)) ?_
      refine lv (d := 122) rfl rfl (by kernel_rfl) (e_geq (k := .i64) (a := (IntKind.i64.wrap (x24 - t249.1))) (b := (IntKind.i64.wrap (Int.tdiv (IntKind.i64.wrap (x24 - x23)) 8))) (by kernel_rfl) (by kernel_rfl)) ?_
      refine lv (d := 8) rfl rfl (by kernel_rfl) (e_assign (v := .bool (decide ((IntKind.i64.wrap (x24 - t249.1)) ≥ (IntKind.i64.wrap (Int.tdiv (IntKind.i64.wrap (x24 - x23)) 8))))) (by kernel_rfl)) ?_
      refine wpList_nil ?_
      refine then_n ?_
      refine wp_seq ?_
      refine wp_region_lit ?_
      refine lv (d := 123) rfl rfl (by kernel_rfl) (e_loadS (b := g15) (off := 0) (cs := [.func (.func 48) #[] #[.pointer (some ⟨g6, 0, none⟩)], .func (.func f8) #[] a9]) Try.underlying78 rfl (by kernel_rfl) (by exact e179) (blk_cells b16 rfl)) ?_
      refine lv (d := 124) rfl rfl (by kernel_rfl) (e_move (v := .int .i64 t249.1) (by kernel_rfl)) ?_
      refine lv (d := 125) rfl rfl (by kernel_rfl) (e_add (k := .i64) (a := t249.1) (b := 1) (by kernel_rfl) rfl) ?_
      refine lv (d := 126) rfl rfl (by kernel_rfl) (e_move (v := .int .i64 x24) (by exact e177)) ?_
      refine lv (d := 127) rfl rfl (by kernel_rfl) (e_move (v := .int .i64 x83) (by exact e178)) ?_
      have S279 := S258.pull (F := (is g6)) (Fr := [F255, (is g15)]) 1 rfl rfl
      have S280 := S279.pull (F := F255) (Fr := [(is g6), (is g15)]) 1 rfl rfl
      obtain ⟨t281, u282, M⟩ := bnd M
      refine lcall (d := 128) rfl rfl (by kernel_rfl) (e_call (l := [.tmp 123, .tmp 125, .tmp 126, .tmp 127]) (vs := [.agg #[.func (.func 48) #[] #[.pointer (some ⟨g6, 0, none⟩)], .func (.func f8) #[] a9], .int .i64 (IntKind.i64.wrap (t249.1 + 1)), .int .i64 x24, .int .i64 x83]) Try.func53 (by kernel_rfl) rfl (by kernel_rfl) rfl) (by have q_ := (ih k188 (by omega) w251 H252 t249.2.2 A2 c3 F255 g6 f8 a9 (IntKind.i64.wrap (t249.1 + 1)) x24 x83 h254 (by rw [show t249.2.2.length = x1.length from n256]; exact b257) (by rw [show t249.2.2.length = x1.length from n256]; exact h10) (St.own' (Fa := [F255, (is g6)]) (Fr := [(is g15)]) S280) t281 u282); (try rw [(show t249.2.2.length = x1.length from n256)] at q_); exact q_) ?_
      rintro _ w283 ⟨F287, H284, rfl, n288, h286, b289, T285⟩
      refine ⟨_, rfl, ?_⟩
      obtain ⟨S290, K291⟩ := St.call (Fa := [F255, (is g6)]) (Fr := [(is g15)]) S280 T285
      replace b16 := K291.blk 0 rfl b16
      have E292 := T285.ext
      refine wpList_nil ?_
      refine then_n ?_
      refine wp_region_lit ?_
      refine lv (d := 129) rfl rfl (by kernel_rfl) (e_move (v := .int .i64 t249.1) (by kernel_rfl)) ?_
      refine lv (d := 2) rfl rfl (by kernel_rfl) (e_assign (v := .int .i64 t249.1) (by kernel_rfl)) ?_
      refine wpList_nil ?_
      refine inb_n ?_
      refine then_n ?_
      have S293 := S290.pull (F := (is g6)) (Fr := [F287, (is g15)]) 1 rfl rfl
      have S294 := S293.pull (F := F287) (Fr := [(is g6), (is g15)]) 1 rfl rfl
      have S295 := S294.pull (F := (is g15)) (Fr := [F287, (is g6)]) 2 rfl rfl
      exact ⟨k188, (by omega), _, H284, x23, t249.1, x83, (decide ((IntKind.i64.wrap (x24 - t249.1)) ≥ (IntKind.i64.wrap (Int.tdiv (IntKind.i64.wrap (x24 - x23)) 8)))), t249.2.1, F287, t281, (by omega), rfl, (by exact e176), (by kernel_rfl), (by exact e178), (by exact e179), (by kernel_rfl), (by kernel_rfl), b16, h286, b289, n288, ((((((Y22.trans Y82).trans E129).trans Y133).trans Y172).trans E260).trans E292), S295, M⟩
    replace M := ifn q211 M
    refine lskip (t := 75) (c := false) rfl (by kernel_rfl) rfl (bf q211 (by kernel_rfl)) rfl rfl ?_
    refine lskip (t := 75) (c := false) rfl (by kernel_rfl) rfl (bf q211 (by kernel_rfl)) rfl rfl ?_
    refine lskip (t := 75) (c := false) rfl (by kernel_rfl) rfl (bf q211 (by kernel_rfl)) rfl rfl ?_
    refine lskip (t := 75) (c := false) rfl (by kernel_rfl) rfl (bf q211 (by kernel_rfl)) rfl rfl ?_
    refine lskip (t := 75) (c := false) rfl (by kernel_rfl) rfl (bf q211 (by kernel_rfl)) rfl rfl ?_
    refine lskip (t := 75) (c := false) rfl (by kernel_rfl) rfl (bf q211 (by kernel_rfl)) rfl rfl ?_
    refine lskip (t := 75) (c := false) rfl (by kernel_rfl) rfl (bf q211 (by kernel_rfl)) rfl rfl ?_
    refine lv (d := 83) rfl rfl (by kernel_rfl) (e_pick_f (v := .bool false) (bf q211 (by kernel_rfl)) rfl) ?_
    refine wpList_nil ?_
    refine then_n ?_
    refine cond_f rfl (by kernel_rfl) ?_
    refine wp_skip ?_
    refine then_n ?_
    refine wp_seq ?_
    refine wp_region_lit ?_
    refine lv (d := 91) rfl rfl (by kernel_rfl) (e_loadS (b := g15) (off := 0) (cs := [.func (.func 48) #[] #[.pointer (some ⟨g6, 0, none⟩)], .func (.func f8) #[] a9]) Try.underlying78 rfl (by kernel_rfl) (by exact e179) (blk_cells b16 rfl)) ?_
    refine lv (d := 92) rfl rfl (by kernel_rfl) (e_move (v := .int .i64 x23) (by exact e176)) ?_
    refine lv (d := 93) rfl rfl (by kernel_rfl) (e_move (v := .int .i64 x24) (by exact e177)) ?_
    refine lv (d := 94) rfl rfl (by kernel_rfl) (e_move (v := .int .i64 x134) (by exact e183)) ?_
    have S296 := S184.pull (F := (is g6)) (Fr := [F173, (is g15)]) 1 rfl rfl
    have S297 := S296.pull (F := F173) (Fr := [(is g6), (is g15)]) 1 rfl rfl
    obtain ⟨t298, u299, M⟩ := bnd M
    refine lcall (d := 95) rfl rfl (by kernel_rfl) (e_call (l := [.tmp 91, .tmp 92, .tmp 93, .tmp 94]) (vs := [.agg #[.func (.func 48) #[] #[.pointer (some ⟨g6, 0, none⟩)], .func (.func f8) #[] a9], .int .i64 x23, .int .i64 x24, .int .i64 x134]) Try.func72 (by kernel_rfl) rfl (by kernel_rfl) rfl) (by have q_ := (sort_partition_func.calls k188 w169 H171 x174 A2 c3 F173 g6 f8 a9 x23 x24 x134 h125 (by rw [show x174.length = x1.length from n175]; exact b126) (by rw [show x174.length = x1.length from n175]; exact h10) (St.own' (Fa := [F173, (is g6)]) (Fr := [(is g15)]) S297) t298 u299); (try rw [(show x174.length = x1.length from n175)] at q_); exact q_) ?_
    rintro _ w300 ⟨F304, H301, rfl, n305, h303, b306, T302⟩
    refine ⟨_, rfl, ?_⟩
    obtain ⟨S307, K308⟩ := St.call (Fa := [F173, (is g6)]) (Fr := [(is g15)]) S297 T302
    replace b16 := K308.blk 0 rfl b16
    have E309 := T302.ext
    refine lv (d := 90) rfl rfl (by kernel_rfl) (e_move (v := .tuple #[.int .i64 t298.1, .bool t298.2.1]) (by kernel_rfl)) ?_
    refine lv (d := 96) rfl rfl (by kernel_rfl) (e_extract (vs := #[.int .i64 t298.1, .bool t298.2.1]) (v := .int .i64 t298.1) (by kernel_rfl) rfl) ?_
    refine lv (d := 97) rfl rfl (by kernel_rfl) (e_extract (vs := #[.int .i64 t298.1, .bool t298.2.1]) (v := .bool t298.2.1) (by kernel_rfl) rfl) ?_
    refine lv (d := 14) rfl rfl (by kernel_rfl) (e_assign (v := .int .i64 t298.1) (by kernel_rfl)) ?_
    refine lv (d := 15) rfl rfl (by kernel_rfl) (e_assign (v := .bool t298.2.1) (by kernel_rfl)) ?_
    refine wpList_nil ?_
    refine then_n ?_
    refine wp_seq ?_
    refine wp_region_lit ?_
    refine lv (d := 98) rfl rfl (by kernel_rfl) (e_move (v := .bool t298.2.1) (by kernel_rfl)) ?_
    refine lv (d := 9) rfl rfl (by kernel_rfl) (e_assign (v := .bool t298.2.1) (by kernel_rfl)) ?_
    refine wpList_nil ?_
    refine then_n ?_
    refine wp_seq ?_
    refine wp_region_lit ?_
    refine lv (d := 99) rfl rfl (by kernel_rfl) (e_move (v := .int .i64 t298.1) (by kernel_rfl)) ?_
    refine lv (d := 100) rfl rfl (by kernel_rfl) (e_move (v := .int .i64 x23) (by exact e176)) ?_
    refine lv (d := 101) rfl rfl (by kernel_rfl) (e_sub (k := .i64) (a := t298.1) (b := x23) (by kernel_rfl) (by kernel_rfl)) ?_
    refine lv (d := 102) rfl rfl (by kernel_rfl) (e_move (v := .int .i64 x24) (by exact e177)) ?_
    refine lv (d := 103) rfl rfl (by kernel_rfl) (e_move (v := .int .i64 t298.1) (by kernel_rfl)) ?_
    refine lv (d := 104) rfl rfl (by kernel_rfl) (e_sub (k := .i64) (a := x24) (b := t298.1) (by kernel_rfl) (by kernel_rfl)) ?_
    refine lv (d := 16) rfl rfl (by kernel_rfl) (e_assign (v := .int .i64 (IntKind.i64.wrap (t298.1 - x23))) (by kernel_rfl)) ?_
    refine lv (d := 17) rfl rfl (by kernel_rfl) (e_assign (v := .int .i64 (IntKind.i64.wrap (x24 - t298.1))) (by kernel_rfl)) ?_
    refine wpList_nil ?_
    refine then_n ?_
    refine wp_seq ?_
    refine wp_region_lit ?_
    refine lv (d := 105) rfl rfl (by kernel_rfl) (e_move (v := .int .i64 (IntKind.i64.wrap (x24 - x23))) (by exact e182)) ?_
    refine lv (d := 106) rfl rfl (by kernel_rfl) (e_quo (k := .i64) (a := (IntKind.i64.wrap (x24 - x23))) (b := 8) (by kernel_rfl) rfl (by decide)) ?_
    refine lv (d := 18) rfl rfl (by kernel_rfl) (e_assign (v := .int .i64 (IntKind.i64.wrap (Int.tdiv (IntKind.i64.wrap (x24 - x23)) 8))) (by kernel_rfl)) ?_
    refine wpList_nil ?_
    refine then_n ?_
    refine wp_seq ?_
    refine wp_region_lit ?_
    refine lv (d := 107) rfl rfl (by kernel_rfl) (e_move (v := .int .i64 (IntKind.i64.wrap (t298.1 - x23))) (by kernel_rfl)) ?_
    refine lv (d := 108) rfl rfl (by kernel_rfl) (e_move (v := .int .i64 (IntKind.i64.wrap (x24 - t298.1))) (by kernel_rfl)) ?_
    refine lv (d := 109) rfl rfl (by kernel_rfl) (e_lss (k := .i64) (a := (IntKind.i64.wrap (t298.1 - x23))) (b := (IntKind.i64.wrap (x24 - t298.1))) (by kernel_rfl) (by kernel_rfl)) ?_
    refine wpList_nil ?_
    refine then_n ?_
    by_cases q310 : (IntKind.i64.wrap (t298.1 - x23)) < (IntKind.i64.wrap (x24 - t298.1))
    · replace M := ifp q310 M
      refine cond_t rfl (bt q310 (by kernel_rfl)) ?_
      refine wp_seq ?_
      refine wp_region_lit ?_
      refine lv (d := 110) rfl rfl (by kernel_rfl) (e_move (v := .int .i64 (IntKind.i64.wrap (t298.1 - x23))) (by kernel_rfl)) ?_
      refine lv (d := 111) rfl rfl (by kernel_rfl) (e_move (v := .int .i64 (IntKind.i64.wrap (Int.tdiv (IntKind.i64.wrap (x24 - x23)) 8))) (by kernel_rfl)) ?_
      refine lv (d := 112) rfl rfl (by kernel_rfl) (e_geq (k := .i64) (a := (IntKind.i64.wrap (t298.1 - x23))) (b := (IntKind.i64.wrap (Int.tdiv (IntKind.i64.wrap (x24 - x23)) 8))) (by kernel_rfl) (by kernel_rfl)) ?_
      refine lv (d := 8) rfl rfl (by kernel_rfl) (e_assign (v := .bool (decide ((IntKind.i64.wrap (t298.1 - x23)) ≥ (IntKind.i64.wrap (Int.tdiv (IntKind.i64.wrap (x24 - x23)) 8))))) (by kernel_rfl)) ?_
      refine wpList_nil ?_
      refine then_n ?_
      refine wp_seq ?_
      refine wp_region_lit ?_
      refine lv (d := 113) rfl rfl (by kernel_rfl) (e_loadS (b := g15) (off := 0) (cs := [.func (.func 48) #[] #[.pointer (some ⟨g6, 0, none⟩)], .func (.func f8) #[] a9]) Try.underlying78 rfl (by kernel_rfl) (by exact e179) (blk_cells b16 rfl)) ?_
      refine lv (d := 114) rfl rfl (by kernel_rfl) (e_move (v := .int .i64 x23) (by exact e176)) ?_
      refine lv (d := 115) rfl rfl (by kernel_rfl) (e_move (v := .int .i64 t298.1) (by kernel_rfl)) ?_
      refine lv (d := 116) rfl rfl (by kernel_rfl) (e_move (v := .int .i64 x83) (by exact e178)) ?_
      have S311 := S307.pull (F := (is g6)) (Fr := [F304, (is g15)]) 1 rfl rfl
      have S312 := S311.pull (F := F304) (Fr := [(is g6), (is g15)]) 1 rfl rfl
      obtain ⟨t313, u314, M⟩ := bnd M
      refine lcall (d := 117) rfl rfl (by kernel_rfl) (e_call (l := [.tmp 113, .tmp 114, .tmp 115, .tmp 116]) (vs := [.agg #[.func (.func 48) #[] #[.pointer (some ⟨g6, 0, none⟩)], .func (.func f8) #[] a9], .int .i64 x23, .int .i64 t298.1, .int .i64 x83]) Try.func53 (by kernel_rfl) rfl (by kernel_rfl) rfl) (by have q_ := (ih k188 (by omega) w300 H301 t298.2.2 A2 c3 F304 g6 f8 a9 x23 t298.1 x83 h303 (by rw [show t298.2.2.length = x1.length from n305]; exact b306) (by rw [show t298.2.2.length = x1.length from n305]; exact h10) (St.own' (Fa := [F304, (is g6)]) (Fr := [(is g15)]) S312) t313 u314); (try rw [(show t298.2.2.length = x1.length from n305)] at q_); exact q_) ?_
      rintro _ w315 ⟨F319, H316, rfl, n320, h318, b321, T317⟩
      refine ⟨_, rfl, ?_⟩
      obtain ⟨S322, K323⟩ := St.call (Fa := [F304, (is g6)]) (Fr := [(is g15)]) S312 T317
      replace b16 := K323.blk 0 rfl b16
      have E324 := T317.ext
      refine wpList_nil ?_
      refine then_n ?_
      refine wp_region_lit ?_
      refine lv (d := 118) rfl rfl (by kernel_rfl) (e_move (v := .int .i64 t298.1) (by kernel_rfl)) ?_
      refine lv (d := 119) rfl rfl (by kernel_rfl) (e_add (k := .i64) (a := t298.1) (b := 1) (by kernel_rfl) rfl) ?_
      refine lv (d := 1) rfl rfl (by kernel_rfl) (e_assign (v := .int .i64 (IntKind.i64.wrap (t298.1 + 1))) (by kernel_rfl)) ?_
      refine wpList_nil ?_
      refine inb_n ?_
      refine then_n ?_
      have S325 := S322.pull (F := (is g6)) (Fr := [F319, (is g15)]) 1 rfl rfl
      have S326 := S325.pull (F := F319) (Fr := [(is g6), (is g15)]) 1 rfl rfl
      have S327 := S326.pull (F := (is g15)) (Fr := [F319, (is g6)]) 2 rfl rfl
      exact ⟨k188, (by omega), _, H316, (IntKind.i64.wrap (t298.1 + 1)), x24, x83, (decide ((IntKind.i64.wrap (t298.1 - x23)) ≥ (IntKind.i64.wrap (Int.tdiv (IntKind.i64.wrap (x24 - x23)) 8)))), t298.2.1, F319, t313, (by omega), rfl, (by kernel_rfl), (by exact e177), (by exact e178), (by exact e179), (by kernel_rfl), (by kernel_rfl), b16, h318, b321, n320, ((((((Y22.trans Y82).trans E129).trans Y133).trans Y172).trans E309).trans E324), S327, M⟩
    replace M := ifn q310 M
    refine cond_f rfl (bf q310 (by kernel_rfl)) ?_
    refine wp_seq ?_
    refine wp_region_lit ?_
    refine lv (d := 120) rfl rfl (by kernel_rfl) (e_move (v := .int .i64 (IntKind.i64.wrap (x24 - t298.1))) (by kernel_rfl)) ?_
    refine lv (d := 121) rfl rfl (by kernel_rfl) (e_move (v := .int .i64 (IntKind.i64.wrap (Int.tdiv (IntKind.i64.wrap (x24 - x23)) 8))) (by kernel_rfl)) ?_
    refine lv (d := 122) rfl rfl (by kernel_rfl) (e_geq (k := .i64) (a := (IntKind.i64.wrap (x24 - t298.1))) (b := (IntKind.i64.wrap (Int.tdiv (IntKind.i64.wrap (x24 - x23)) 8))) (by kernel_rfl) (by kernel_rfl)) ?_
    refine lv (d := 8) rfl rfl (by kernel_rfl) (e_assign (v := .bool (decide ((IntKind.i64.wrap (x24 - t298.1)) ≥ (IntKind.i64.wrap (Int.tdiv (IntKind.i64.wrap (x24 - x23)) 8))))) (by kernel_rfl)) ?_
    refine wpList_nil ?_
    refine then_n ?_
    refine wp_seq ?_
    refine wp_region_lit ?_
    refine lv (d := 123) rfl rfl (by kernel_rfl) (e_loadS (b := g15) (off := 0) (cs := [.func (.func 48) #[] #[.pointer (some ⟨g6, 0, none⟩)], .func (.func f8) #[] a9]) Try.underlying78 rfl (by kernel_rfl) (by exact e179) (blk_cells b16 rfl)) ?_
    refine lv (d := 124) rfl rfl (by kernel_rfl) (e_move (v := .int .i64 t298.1) (by kernel_rfl)) ?_
    refine lv (d := 125) rfl rfl (by kernel_rfl) (e_add (k := .i64) (a := t298.1) (b := 1) (by kernel_rfl) rfl) ?_
    refine lv (d := 126) rfl rfl (by kernel_rfl) (e_move (v := .int .i64 x24) (by exact e177)) ?_
    refine lv (d := 127) rfl rfl (by kernel_rfl) (e_move (v := .int .i64 x83) (by exact e178)) ?_
    have S328 := S307.pull (F := (is g6)) (Fr := [F304, (is g15)]) 1 rfl rfl
    have S329 := S328.pull (F := F304) (Fr := [(is g6), (is g15)]) 1 rfl rfl
    obtain ⟨t330, u331, M⟩ := bnd M
    refine lcall (d := 128) rfl rfl (by kernel_rfl) (e_call (l := [.tmp 123, .tmp 125, .tmp 126, .tmp 127]) (vs := [.agg #[.func (.func 48) #[] #[.pointer (some ⟨g6, 0, none⟩)], .func (.func f8) #[] a9], .int .i64 (IntKind.i64.wrap (t298.1 + 1)), .int .i64 x24, .int .i64 x83]) Try.func53 (by kernel_rfl) rfl (by kernel_rfl) rfl) (by have q_ := (ih k188 (by omega) w300 H301 t298.2.2 A2 c3 F304 g6 f8 a9 (IntKind.i64.wrap (t298.1 + 1)) x24 x83 h303 (by rw [show t298.2.2.length = x1.length from n305]; exact b306) (by rw [show t298.2.2.length = x1.length from n305]; exact h10) (St.own' (Fa := [F304, (is g6)]) (Fr := [(is g15)]) S329) t330 u331); (try rw [(show t298.2.2.length = x1.length from n305)] at q_); exact q_) ?_
    rintro _ w332 ⟨F336, H333, rfl, n337, h335, b338, T334⟩
    refine ⟨_, rfl, ?_⟩
    obtain ⟨S339, K340⟩ := St.call (Fa := [F304, (is g6)]) (Fr := [(is g15)]) S329 T334
    replace b16 := K340.blk 0 rfl b16
    have E341 := T334.ext
    refine wpList_nil ?_
    refine then_n ?_
    refine wp_region_lit ?_
    refine lv (d := 129) rfl rfl (by kernel_rfl) (e_move (v := .int .i64 t298.1) (by kernel_rfl)) ?_
    refine lv (d := 2) rfl rfl (by kernel_rfl) (e_assign (v := .int .i64 t298.1) (by kernel_rfl)) ?_
    refine wpList_nil ?_
    refine inb_n ?_
    refine then_n ?_
    have S342 := S339.pull (F := (is g6)) (Fr := [F336, (is g15)]) 1 rfl rfl
    have S343 := S342.pull (F := F336) (Fr := [(is g6), (is g15)]) 1 rfl rfl
    have S344 := S343.pull (F := (is g15)) (Fr := [F336, (is g6)]) 2 rfl rfl
    exact ⟨k188, (by omega), _, H333, x23, t298.1, x83, (decide ((IntKind.i64.wrap (x24 - t298.1)) ≥ (IntKind.i64.wrap (Int.tdiv (IntKind.i64.wrap (x24 - x23)) 8)))), t298.2.1, F336, t330, (by omega), rfl, (by exact e176), (by kernel_rfl), (by exact e178), (by exact e179), (by kernel_rfl), (by kernel_rfl), b16, h335, b338, n337, ((((((Y22.trans Y82).trans E129).trans Y133).trans Y172).trans E309).trans E341), S344, M⟩
theorem sort_pdqsort_func.calls (k : Nat) (w : World) (H : Hp) (x1 : List Sy.Op) (A2 : Option Addr) (c3 : Nat) (F4 : Foot) (g6 : Nat) (f8 : FuncId) (a9 : Array Value) (x11 : Int) (x12 : Int) (x13 : Int) (h5 : Row st45 45 H (hp w) F4 A2 c3 x1) (b7 : w.heap[g6]? = some (.cells #[.slice A2 x1.length c3] 25 (0, 0))) (h10 : SwOK Try.prog st45 45 f8 a9 A2 c3 x1.length) (S : Own [F4, (is g6)] H w) (r : List Sy.Op) (M : sort_pdqsort_func.f k x1 x11 x12 x13 = some r) :
    Calls Try.prog 53 #[.agg #[.func (.func 48) #[] #[.pointer (some ⟨g6, 0, none⟩)], .func (.func f8) #[] a9], .int .i64 x11, .int .i64 x12, .int .i64 x13] w (fun e e_w => ∃ (F_1 : Foot) (H_ : Hp), e = .returned (.tuple #[]) ∧ r.length = x1.length ∧ Row st45 45 H_ (hp e_w) F_1 A2 c3 r ∧ e_w.heap[g6]? = some (.cells #[.slice A2 x1.length c3] 25 (0, 0)) ∧ St (anyOf [F4, (is g6)]) H w [F_1, (is g6)] H_ e_w) := (sort_pdqsort_func.all (k + 1)) k (Nat.lt_succ_self k) w H x1 A2 c3 F4 g6 f8 a9 x11 x12 x13 h5 b7 h10 S r M
end Go.Proofs.Ytminnekeekhjcaa
