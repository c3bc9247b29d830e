import Derived.Test.YtminnekeekhjcaaPuSo2
namespace Go.Proofs.Ytminnekeekhjcaa
open Go.Sx Go.Sy
set_option linter.unusedVariables false
set_option linter.unusedSimpArgs false
set_option linter.unusedSectionVars false
set_option maxRecDepth 8000
section
variable {x1 : List Sy.Op} {N : Nat}
/-! ### partition -/
theorem pt_up (hx : x1.length = N) (hN : N ≤ 1000) (a j : Nat) (ha : a < N) (hj : j < N) (D : Array Sy.Op) (hD : D.size = N) (R : Int × Bool × List Sy.Op) : ∀ (m i : Nat), j + 1 - i ≤ m → i ≤ N →
    Ev (fun k => sort_partition_func.l6 k x1 a j D.toList (Sort.scanUp (fun x => ltO x D[a]!) D j i)) R → Ev (fun k => sort_partition_func.l7 k x1 a j D.toList i) R := by
  intro m
  induction m with
  | zero =>
    intro i hm hi H
    rw [Sort.scanUp, if_neg (by simp; omega)] at H
    refine Ev.succ (fun k => ?_) H
    rw [sort_partition_func.l7, if_neg (by omega)]
  | succ m ih =>
    intro i hm hi H
    rw [Sort.scanUp] at H
    by_cases h : i ≤ j
    · by_cases hl : ltO D[i]! D[a]! = true
      · rw [if_pos (by simp [h, hl])] at H
        refine Ev.succ (fun k => ?_) (ih (i + 1) (by omega) (by omega) H)
        rw [sort_partition_func.l7, if_pos (by omega), less_val D (by omega) (by omega), Option.bind_some, if_pos hl, wi (by omega)]
      · rw [if_neg (by simp [hl])] at H
        refine Ev.succ (fun k => ?_) H
        rw [sort_partition_func.l7, if_pos (by omega), less_val D (by omega) (by omega), Option.bind_some, if_neg hl]
    · rw [if_neg (by simp; omega)] at H
      refine Ev.succ (fun k => ?_) H
      rw [sort_partition_func.l7, if_neg (by omega)]
theorem pt_down (hx : x1.length = N) (hN : N ≤ 1000) (a i : Nat) (ha : a < N) (hi : 1 ≤ i) (D : Array Sy.Op) (hD : D.size = N) (R : Int × Bool × List Sy.Op) : ∀ (j : Nat), j < N →
    Ev (fun k => sort_partition_func.l8 k x1 a D.toList i (Sort.scanDown (fun x => !ltO x D[a]!) D i j)) R → Ev (fun k => sort_partition_func.l9 k x1 a D.toList i j) R := by
  intro j
  induction j with
  | zero =>
    intro hj H
    rw [Sort.scanDown] at H
    refine Ev.succ (fun k => ?_) H
    rw [sort_partition_func.l9, if_neg (by omega)]
  | succ j ih =>
    intro hj H
    rw [Sort.scanDown] at H
    by_cases h : i ≤ j + 1
    · by_cases hl : ltO D[j + 1]! D[a]! = true
      · rw [if_neg (by simp [hl])] at H
        refine Ev.succ (fun k => ?_) H
        rw [sort_partition_func.l9, if_pos (by omega), less_val D (by omega) (by omega), Option.bind_some, if_neg (by simp [hl])]
      · rw [if_pos (by simp [hl, h])] at H
        refine Ev.succ (fun k => ?_) (ih (by omega) H)
        rw [sort_partition_func.l9, if_pos (by omega), less_val D (by omega) (by omega), Option.bind_some, if_pos (by simpa using hl), wd (by omega)]
    · rw [if_neg (by simp; omega)] at H
      refine Ev.succ (fun k => ?_) H
      rw [sort_partition_func.l9, if_neg (by omega)]
theorem pt_loop (hx : x1.length = N) (hN : N ≤ 1000) (a : Nat) (ha : a < N) : ∀ (n i j : Nat) (D : Array Sy.Op), D.size = N → j + 1 - i ≤ n → a < i → i ≤ j + 1 → j < N →
    Ev (fun k => sort_partition_func.l5 k x1 a i j D.toList) (((Sort.partLoop ltO a i j D).1 : Int), false, (Sort.swp (Sort.partLoop ltO a i j D).2 (Sort.partLoop ltO a i j D).1 a).toList) := by
  intro n
  induction n using Nat.strongRecOn with
  | _ n ih =>
    intro i j D hD hn hai hij hj
    rw [Sort.partLoop_eq]
    obtain ⟨u1, u2, _, u4⟩ := Sort.scanUp_spec (fun x => ltO x D[a]!) D j _ i rfl
    have u2 := u2 hij
    obtain ⟨v1, v2, _, v4⟩ := Sort.scanDown_spec (fun x => !ltO x D[a]!) D (Sort.scanUp (fun x => ltO x D[a]!) D j i) j
    have v2 := v2 u2
    refine Ev.succ (h := fun k => sort_partition_func.l7 k x1 a j D.toList i) (fun k => by rw [sort_partition_func.l5]) (pt_up hx hN a j ha hj D hD _ (j + 1) i (by omega) (by omega) ?_)
    refine Ev.succ (h := fun k => sort_partition_func.l9 k x1 a D.toList (Sort.scanUp (fun x => ltO x D[a]!) D j i : Nat) j) (fun k => by rw [sort_partition_func.l6]) (pt_down hx hN a _ ha (by omega) D hD _ j hj ?_)
    generalize Sort.scanUp (fun x => ltO x D[a]!) D j i = i2 at *
    generalize Sort.scanDown (fun x => !ltO x D[a]!) D i2 j = j2 at *
    by_cases h : i2 > j2
    · rw [if_pos h]
      refine Ev.succ (h := fun k => sort_partition_func.l4 k x1 a j2 D.toList) (fun k => by rw [sort_partition_func.l8, if_pos (by omega)]) (Ev.succ (fun k => ?_) (Ev.ret _))
      rw [sort_partition_func.l4, if_pos (by omega), if_pos (by omega), sw_val D (by omega) (by omega)]
    · rw [if_neg h]
      have hne : i2 ≠ j2 := fun he => by
        subst he
        have w1 := u4 (by omega)
        have w2 := v4 (by omega) (by omega)
        first | (rw [w1] at w2; cases w2) | (rw [w2] at w1; cases w1)
      have e1 : IntKind.i64.wrap ((j2 : Int) - 1) = ((j2 - 1 : Nat) : Int) := by rw [wr (by omega) (by omega)]; omega
      refine Ev.succ (fun k => ?_) (ih (j2 - 1 + 1 - (i2 + 1)) (by omega) (i2 + 1) (j2 - 1) (Sort.swp D i2 j2) (by rw [sw_size]; exact hD) (Nat.le_refl _) (by omega) (by omega) (by omega))
      rw [sort_partition_func.l8, if_neg (by omega), if_pos (by omega), if_pos (by omega), if_pos (by omega), if_pos (by omega), wi (by omega), e1, sw_val D (by omega) (by omega)]
theorem pt_up0 (d : Array Sy.Op) (hN : d.size ≤ 1000) (a b p : Nat) (ha : a < d.size) (hp : p < d.size) (hb : 1 ≤ b) (hb2 : b ≤ d.size) (R : Int × Bool × List Sy.Op) : ∀ (m i : Nat), b - i ≤ m → i ≤ d.size →
    Ev (fun k => sort_partition_func.l0 k d.toList a b p (Sort.scanUp (fun x => ltO x (Sort.swp d a p)[a]!) (Sort.swp d a p) (b - 1) i)) R → Ev (fun k => sort_partition_func.l1 k d.toList a b p i) R := by
  have e1 : IntKind.i64.wrap ((b : Int) - 1) = ((b - 1 : Nat) : Int) := by rw [wr (by omega) (by omega)]; omega
  have hs := sw_size d a p
  intro m
  induction m with
  | zero =>
    intro i hm hi H
    rw [Sort.scanUp, if_neg (by simp; omega)] at H
    refine Ev.succ (fun k => ?_) H
    rw [sort_partition_func.l1, e1, if_neg (by omega)]
  | succ m ih =>
    intro i hm hi H
    rw [Sort.scanUp] at H
    by_cases h : i ≤ b - 1
    · by_cases hl : ltO (Sort.swp d a p)[i]! (Sort.swp d a p)[a]! = true
      · rw [if_pos (by simp [h, hl])] at H
        refine Ev.succ (fun k => ?_) (ih (i + 1) (by omega) (by omega) H)
        rw [sort_partition_func.l1, e1, if_pos (by omega), sw_val d ha hp, less_val _ (by omega) (by omega), Option.bind_some, if_pos hl, wi (by omega)]
      · rw [if_neg (by simp [hl])] at H
        refine Ev.succ (fun k => ?_) H
        rw [sort_partition_func.l1, e1, if_pos (by omega), sw_val d ha hp, less_val _ (by omega) (by omega), Option.bind_some, if_neg hl]
    · rw [if_neg (by simp; omega)] at H
      refine Ev.succ (fun k => ?_) H
      rw [sort_partition_func.l1, e1, if_neg (by omega)]
theorem pt_down0 (d : Array Sy.Op) (hN : d.size ≤ 1000) (a p i : Nat) (ha : a < d.size) (hp : p < d.size) (hi : 1 ≤ i) (R : Int × Bool × List Sy.Op) : ∀ (j : Nat), j < d.size →
    Ev (fun k => sort_partition_func.l2 k d.toList a p i (Sort.scanDown (fun x => !ltO x (Sort.swp d a p)[a]!) (Sort.swp d a p) i j)) R → Ev (fun k => sort_partition_func.l3 k d.toList a p i j) R := by
  have hs := sw_size d a p
  intro j
  induction j with
  | zero =>
    intro hj H
    rw [Sort.scanDown] at H
    refine Ev.succ (fun k => ?_) H
    rw [sort_partition_func.l3, if_neg (by omega)]
  | succ j ih =>
    intro hj H
    rw [Sort.scanDown] at H
    by_cases h : i ≤ j + 1
    · by_cases hl : ltO (Sort.swp d a p)[j + 1]! (Sort.swp d a p)[a]! = true
      · rw [if_neg (by simp [hl])] at H
        refine Ev.succ (fun k => ?_) H
        rw [sort_partition_func.l3, if_pos (by omega), sw_val d ha hp, less_val _ (by omega) (by omega), Option.bind_some, if_neg (by simp [hl])]
      · rw [if_pos (by simp [hl, h])] at H
        refine Ev.succ (fun k => ?_) (ih (by omega) H)
        rw [sort_partition_func.l3, if_pos (by omega), sw_val d ha hp, less_val _ (by omega) (by omega), Option.bind_some, if_pos (by simpa using hl), wd (by omega)]
    · rw [if_neg (by simp; omega)] at H
      refine Ev.succ (fun k => ?_) H
      rw [sort_partition_func.l3, if_neg (by omega)]
theorem part_f (d : Array Sy.Op) (hN : d.size ≤ 1000) (a b p : Nat) (hap : a ≤ p) (hpb : p < b) (hb : b ≤ d.size) :
    Ev (fun k => sort_partition_func.f k d.toList a b p) (((Sort.partition ltO d a b p).1 : Int), (Sort.partition ltO d a b p).2.1, (Sort.partition ltO d a b p).2.2.toList) := by
  have e1 : IntKind.i64.wrap ((b : Int) - 1) = ((b - 1 : Nat) : Int) := by rw [wr (by omega) (by omega)]; omega
  have hs := sw_size d a p
  unfold Sort.partition
  simp only []
  obtain ⟨u1, u2, _, u4⟩ := Sort.scanUp_spec (fun x => ltO x (Sort.swp d a p)[a]!) (Sort.swp d a p) (b - 1) _ (a + 1) rfl
  have u2 := u2 (by omega)
  obtain ⟨v1, v2, _, v4⟩ := Sort.scanDown_spec (fun x => !ltO x (Sort.swp d a p)[a]!) (Sort.swp d a p) (Sort.scanUp (fun x => ltO x (Sort.swp d a p)[a]!) (Sort.swp d a p) (b - 1) (a + 1)) (b - 1)
  have v2 := v2 u2
  refine Ev.of (g := fun k => sort_partition_func.f k d.toList a b p) (h := fun k => sort_partition_func.l1 k d.toList a b p ((a + 1 : Nat) : Int)) (fun k => ?_) (pt_up0 d hN a b p (by omega) (by omega) (by omega) hb _ (b + 1) (a + 1) (by omega) (by omega) ?_)
  · rw [sort_partition_func.f, if_pos (by omega), if_pos (by simp; omega), if_pos (by omega), if_pos (by simp; omega), wi (by omega)]
  refine Ev.succ (h := fun k => sort_partition_func.l3 k d.toList a p (Sort.scanUp (fun x => ltO x (Sort.swp d a p)[a]!) (Sort.swp d a p) (b - 1) (a + 1) : Nat) ((b - 1 : Nat) : Int)) (fun k => by rw [sort_partition_func.l0, e1]) (pt_down0 d hN a p _ (by omega) (by omega) (by omega) _ (b - 1) (by omega) ?_)
  generalize Sort.scanUp (fun x => ltO x (Sort.swp d a p)[a]!) (Sort.swp d a p) (b - 1) (a + 1) = i at *
  generalize Sort.scanDown (fun x => !ltO x (Sort.swp d a p)[a]!) (Sort.swp d a p) i (b - 1) = j at *
  by_cases h : i > j
  · rw [if_pos h]
    refine Ev.succ (fun k => ?_) (Ev.ret _)
    rw [sort_partition_func.l2, if_pos (by omega), if_pos (by omega), if_pos (by simp; omega), sw_val d (by omega) (by omega), sw_val _ (by omega) (by omega)]
  · rw [if_neg h]
    have hne : i ≠ j := fun he => by
      subst he
      have w1 := u4 (by omega)
      have w2 := v4 (by omega) (by omega)
      first | (rw [w1] at w2; cases w2) | (rw [w2] at w1; cases w1)
    have e2 : IntKind.i64.wrap ((j : Int) - 1) = ((j - 1 : Nat) : Int) := by rw [wr (by omega) (by omega)]; omega
    refine Ev.succ (fun k => ?_) (pt_loop (x1 := d.toList) (N := d.size) (by simp) hN a (by omega) (j + 1) (i + 1) (j - 1) (Sort.swp (Sort.swp d a p) i j) (by rw [sw_size, sw_size]) (by omega) (by omega) (by omega) (by omega))
    rw [sort_partition_func.l2, if_neg (by omega), if_pos (by omega), if_pos (by simp; omega), if_pos (by omega), if_pos (by simp; omega), wi (by omega), e2, sw_val d (by omega) (by omega), sw_val _ (by omega) (by omega)]
/-! ### partitionEqual -/
theorem pe_up (hx : x1.length = N) (hN : N ≤ 1000) (a j : Nat) (ha : a < N) (hj : j < N) (D : Array Sy.Op) (hD : D.size = N) (R : Int × List Sy.Op) : ∀ (m i : Nat), j + 1 - i ≤ m → i ≤ N →
    Ev (fun k => sort_partitionEqual_func.l1 k x1 a j D.toList (Sort.scanUp (fun x => !ltO D[a]! x) D j i)) R → Ev (fun k => sort_partitionEqual_func.l2 k x1 a j D.toList i) R := by
  intro m
  induction m with
  | zero =>
    intro i hm hi H
    rw [Sort.scanUp, if_neg (by simp; omega)] at H
    refine Ev.succ (fun k => ?_) H
    rw [sort_partitionEqual_func.l2, if_neg (by omega)]
  | succ m ih =>
    intro i hm hi H
    rw [Sort.scanUp] at H
    by_cases h : i ≤ j
    · by_cases hl : ltO D[a]! D[i]! = true
      · rw [if_neg (by simp [hl])] at H
        refine Ev.succ (fun k => ?_) H
        rw [sort_partitionEqual_func.l2, if_pos (by omega), less_val D (by omega) (by omega), Option.bind_some, if_neg (by simp [hl])]
      · rw [if_pos (by simp [h, hl])] at H
        refine Ev.succ (fun k => ?_) (ih (i + 1) (by omega) (by omega) H)
        rw [sort_partitionEqual_func.l2, if_pos (by omega), less_val D (by omega) (by omega), Option.bind_some, if_pos (by simpa using hl), wi (by omega)]
    · rw [if_neg (by simp; omega)] at H
      refine Ev.succ (fun k => ?_) H
      rw [sort_partitionEqual_func.l2, if_neg (by omega)]
theorem pe_down (hx : x1.length = N) (hN : N ≤ 1000) (a i : Nat) (ha : a < N) (hi : 1 ≤ i) (D : Array Sy.Op) (hD : D.size = N) (R : Int × List Sy.Op) : ∀ (j : Nat), j < N →
    Ev (fun k => sort_partitionEqual_func.l3 k x1 a D.toList i (Sort.scanDown (fun x => ltO D[a]! x) D i j)) R → Ev (fun k => sort_partitionEqual_func.l4 k x1 a D.toList i j) R := by
  intro j
  induction j with
  | zero =>
    intro hj H
    rw [Sort.scanDown] at H
    refine Ev.succ (fun k => ?_) H
    rw [sort_partitionEqual_func.l4, if_neg (by omega)]
  | succ j ih =>
    intro hj H
    rw [Sort.scanDown] at H
    by_cases h : i ≤ j + 1
    · by_cases hl : ltO D[a]! D[j + 1]! = true
      · rw [if_pos (by simp [hl, h])] at H
        refine Ev.succ (fun k => ?_) (ih (by omega) H)
        rw [sort_partitionEqual_func.l4, if_pos (by omega), less_val D (by omega) (by omega), Option.bind_some, if_pos hl, wd (by omega)]
      · rw [if_neg (by simp [hl])] at H
        refine Ev.succ (fun k => ?_) H
        rw [sort_partitionEqual_func.l4, if_pos (by omega), less_val D (by omega) (by omega), Option.bind_some, if_neg hl]
    · rw [if_neg (by simp; omega)] at H
      refine Ev.succ (fun k => ?_) H
      rw [sort_partitionEqual_func.l4, if_neg (by omega)]
theorem pe_loop (hx : x1.length = N) (hN : N ≤ 1000) (a : Nat) (ha : a < N) : ∀ (n i j : Nat) (D : Array Sy.Op), D.size = N → j + 1 - i ≤ n → a < i → i ≤ j + 1 → j < N →
    Ev (fun k => sort_partitionEqual_func.l0 k x1 a i j D.toList) (((Sort.partEqLoop ltO a i j D).1 : Int), (Sort.partEqLoop ltO a i j D).2.toList) := by
  intro n
  induction n using Nat.strongRecOn with
  | _ n ih =>
    intro i j D hD hn hai hij hj
    rw [Sort.partEqLoop_eq]
    obtain ⟨u1, u2, _, u4⟩ := Sort.scanUp_spec (fun x => !ltO D[a]! x) D j _ i rfl
    have u2 := u2 hij
    obtain ⟨v1, v2, _, v4⟩ := Sort.scanDown_spec (fun x => ltO D[a]! x) D (Sort.scanUp (fun x => !ltO D[a]! x) D j i) j
    have v2 := v2 u2
    refine Ev.succ (h := fun k => sort_partitionEqual_func.l2 k x1 a j D.toList i) (fun k => by rw [sort_partitionEqual_func.l0]) (pe_up hx hN a j ha hj D hD _ (j + 1) i (by omega) (by omega) ?_)
    refine Ev.succ (h := fun k => sort_partitionEqual_func.l4 k x1 a D.toList (Sort.scanUp (fun x => !ltO D[a]! x) D j i : Nat) j) (fun k => by rw [sort_partitionEqual_func.l1]) (pe_down hx hN a _ ha (by omega) D hD _ j hj ?_)
    generalize Sort.scanUp (fun x => !ltO D[a]! x) D j i = i2 at *
    generalize Sort.scanDown (fun x => ltO D[a]! x) D i2 j = j2 at *
    by_cases h : i2 > j2
    · rw [if_pos h]
      refine Ev.succ (fun k => ?_) (Ev.ret _)
      rw [sort_partitionEqual_func.l3, if_pos (by omega)]
    · rw [if_neg h]
      have hne : i2 ≠ j2 := fun he => by
        subst he
        have w1 := u4 (by omega)
        have w2 := v4 (by omega) (by omega)
        first | (rw [w1] at w2; cases w2) | (rw [w2] at w1; cases w1)
      have e1 : IntKind.i64.wrap ((j2 : Int) - 1) = ((j2 - 1 : Nat) : Int) := by rw [wr (by omega) (by omega)]; omega
      refine Ev.succ (fun k => ?_) (ih (j2 - 1 + 1 - (i2 + 1)) (by omega) (i2 + 1) (j2 - 1) (Sort.swp D i2 j2) (by rw [sw_size]; exact hD) (Nat.le_refl _) (by omega) (by omega) (by omega))
      rw [sort_partitionEqual_func.l3, if_neg (by omega), if_pos (by omega), if_pos (by omega), if_pos (by omega), if_pos (by omega), wi (by omega), e1, sw_val D (by omega) (by omega)]
theorem partEq_f (d : Array Sy.Op) (hN : d.size ≤ 1000) (a b p : Nat) (hap : a ≤ p) (hpb : p < b) (hb : b ≤ d.size) :
    Ev (fun k => sort_partitionEqual_func.f k d.toList a b p) (((Sort.partitionEqual ltO d a b p).1 : Int), (Sort.partitionEqual ltO d a b p).2.toList) := by
  have e1 : IntKind.i64.wrap ((b : Int) - 1) = ((b - 1 : Nat) : Int) := by rw [wr (by omega) (by omega)]; omega
  refine Ev.of (fun k => ?_) (pe_loop (x1 := d.toList) (N := d.size) (by simp) hN a (by omega) (b + 1) (a + 1) (b - 1) (Sort.swp d a p) (by rw [sw_size]) (by omega) (by omega) (by omega) (by omega))
  rw [sort_partitionEqual_func.f, if_pos (by omega), if_pos (by simp; omega), if_pos (by omega), if_pos (by simp; omega), wi (by omega), e1, sw_val d (by omega) (by omega)]
/-! ### breakPatterns -/
theorem and_le (r : Int) (c : Nat) (hc : c < 4611686018427387904) : ∃ q : Nat, bits .and .u64 r (c : Int) = (q : Int) ∧ q ≤ c := by
  have h1 : bits .and .u64 r (c : Int) = IntKind.u64.wrap (((BitVec.ofInt 64 r) &&& (BitVec.ofInt 64 (c : Int))).toNat : Int) := rfl
  have h2 : (BitVec.ofInt 64 (c : Int)).toNat = c := by simp; omega
  have h3 : ((BitVec.ofInt 64 r) &&& (BitVec.ofInt 64 (c : Int))).toNat ≤ c := by
    rw [BitVec.toNat_and, h2]; exact Nat.and_le_right
  refine ⟨_, ?_, h3⟩
  rw [h1]
  generalize ((BitVec.ofInt 64 r) &&& (BitVec.ofInt 64 (c : Int))).toNat = v at *
  simp [IntKind.wrap, IntKind.signed, IntKind.bits]
  omega
theorem npt_val : ∀ n : Fin 1001, 8 ≤ n.1 → (match sort_nextPowerOfTwo.f (n.1 : Int) with | some m => decide (1 ≤ m ∧ m ≤ 2 * (n.1 : Int)) | none => false) = true := by decide +kernel
theorem npt (n : Nat) (h8 : 8 ≤ n) (hn : n ≤ 1000) : ∃ m : Nat, sort_nextPowerOfTwo.f (n : Int) = some (m : Int) ∧ 1 ≤ m ∧ m ≤ 2 * n := by
  have := npt_val ⟨n, by omega⟩ h8
  simp only at this
  cases h : sort_nextPowerOfTwo.f (n : Int) with
  | none => rw [h] at this; cases this
  | some m =>
    rw [h] at this
    have := of_decide_eq_true this
    exact ⟨m.toNat, by rw [Int.toNat_of_nonneg (by omega)], by omega, by omega⟩
theorem bp_loop (hx : x1.length = N) (hN : N ≤ 1000) (a b M : Nat) (hab : a + 8 ≤ b) (hb : b ≤ N) (hM1 : 1 ≤ M) (hM : M ≤ 2 * (b - a)) : ∀ (m i : Nat) (D : Array Sy.Op) (r : Int), D.size = N → a + (b - a) / 4 * 2 + 2 - i ≤ m → a ≤ i →
    ∃ D', Ev (fun k => sort_breakPatterns_func.l0 k x1 a b M i D.toList r) D'.toList ∧ Sort.PermIn a b D D' := by
  have e0 : IntKind.i64.wrap ((b : Int) - (a : Int)) = ((b - a : Nat) : Int) := ws2 (by omega) (by omega)
  have e4 : Int.tdiv ((b - a : Nat) : Int) 4 = (((b - a) / 4 : Nat) : Int) := by rw [Int.tdiv_eq_ediv_of_nonneg (by omega)]; omega
  have e5 : IntKind.i64.wrap (((b - a) / 4 : Nat) : Int) = (((b - a) / 4 : Nat) : Int) := wr (by omega) (by omega)
  have q2 : IntKind.i64.wrap ((((b - a) / 4 : Nat) : Int) * 2) = (((b - a) / 4 * 2 : Nat) : Int) := by rw [wr (by omega) (by omega)]; omega
  have p2 : IntKind.i64.wrap ((a : Int) + (((b - a) / 4 * 2 : Nat) : Int)) = ((a + (b - a) / 4 * 2 : Nat) : Int) := wa2 (by omega)
  have p3 : IntKind.i64.wrap (((a + (b - a) / 4 * 2 : Nat) : Int) + 1) = ((a + (b - a) / 4 * 2 + 1 : Nat) : Int) := wi (by omega)
  intro m
  induction m with
  | zero =>
    intro i D r hD hm hi
    refine ⟨D, Ev.succ (fun k => ?_) (Ev.ret _), Sort.permIn_refl _ _ _⟩
    rw [sort_breakPatterns_func.l0, e0, e4, e5, q2, p2, p3, if_neg (by omega)]
  | succ m ih =>
    intro i D r hD hm hi
    by_cases h : i ≤ a + (b - a) / 4 * 2 + 1
    · obtain ⟨r1, hr1⟩ : ∃ r1, sort_xorshift_Next_2.f r = some r1 := ⟨_, rfl⟩
      have m1 : IntKind.u64.wrap ((M : Int) - 1) = ((M - 1 : Nat) : Int) := by simp [IntKind.wrap, IntKind.signed, IntKind.bits]; omega
      obtain ⟨q, hq, hq2⟩ := and_le r1.1 (M - 1) (by omega)
      have m2 : IntKind.i64.wrap (q : Int) = (q : Int) := wr (by omega) (by omega)
      -- the other place
      obtain ⟨o, ho, hs⟩ : ∃ o : Nat, o < b - a ∧ ∀ k, sort_breakPatterns_func.l0 (k + 1) x1 a b M i D.toList r = sort_breakPatterns_func.l0 k x1 a b M ((i + 1 : Nat) : Int) (Sort.swp D i (a + o)).toList r1.2 := by
        by_cases hl : q ≥ b - a
        · have s1 : IntKind.i64.wrap ((q : Int) - ((b - a : Nat) : Int)) = ((q - (b - a) : Nat) : Int) := ws2 (by omega) hl
          refine ⟨q - (b - a), by omega, fun k => ?_⟩
          rw [sort_breakPatterns_func.l0, e0, e4, e5, q2, p2, p3, if_pos (by omega), hr1, Option.bind_some, m1, hq, m2, if_pos (by omega), s1, wa2 (by omega), if_pos (by omega), if_pos (by omega), if_pos (by omega), if_pos (by omega), wi (by omega), sw_val D (by omega) (by omega)]
        · refine ⟨q, by omega, fun k => ?_⟩
          rw [sort_breakPatterns_func.l0, e0, e4, e5, q2, p2, p3, if_pos (by omega), hr1, Option.bind_some, m1, hq, m2, if_neg (by omega), wa2 (by omega), if_pos (by omega), if_pos (by omega), if_pos (by omega), if_pos (by omega), wi (by omega), sw_val D (by omega) (by omega)]
      obtain ⟨D', hE, hP⟩ := ih (i + 1) (Sort.swp D i (a + o)) r1.2 (by rw [sw_size]; exact hD) (by omega) (by omega)
      refine ⟨D', Ev.succ (fun k => hs k) hE, Sort.permIn_trans _ _ _ _ _ (Sort.swp_permIn D a b i (a + o) hi (by omega) (by omega) (by omega) (by omega)) hP⟩
    · refine ⟨D, Ev.succ (fun k => ?_) (Ev.ret _), Sort.permIn_refl _ _ _⟩
      rw [sort_breakPatterns_func.l0, e0, e4, e5, q2, p2, p3, if_neg (by omega)]
theorem break_f (d : Array Sy.Op) (hN : d.size ≤ 1000) (a b : Nat) (hab : a + 12 < b) (hb : b ≤ d.size) : ∃ D', Ev (fun k => sort_breakPatterns_func.f k d.toList a b) D'.toList ∧ Sort.PermIn a b d D' := by
  have e0 : IntKind.i64.wrap ((b : Int) - (a : Int)) = ((b - a : Nat) : Int) := ws2 (by omega) (by omega)
  have e4 : Int.tdiv ((b - a : Nat) : Int) 4 = (((b - a) / 4 : Nat) : Int) := by rw [Int.tdiv_eq_ediv_of_nonneg (by omega)]; omega
  have e5 : IntKind.i64.wrap (((b - a) / 4 : Nat) : Int) = (((b - a) / 4 : Nat) : Int) := wr (by omega) (by omega)
  have q2 : IntKind.i64.wrap ((((b - a) / 4 : Nat) : Int) * 2) = (((b - a) / 4 * 2 : Nat) : Int) := by rw [wr (by omega) (by omega)]; omega
  have p2 : IntKind.i64.wrap ((a : Int) + (((b - a) / 4 * 2 : Nat) : Int)) = ((a + (b - a) / 4 * 2 : Nat) : Int) := wa2 (by omega)
  have p3 : IntKind.i64.wrap (((a + (b - a) / 4 * 2 : Nat) : Int) - 1) = ((a + (b - a) / 4 * 2 - 1 : Nat) : Int) := by rw [wr (by omega) (by omega)]; omega
  obtain ⟨M, hM0, hM1, hM2⟩ := npt (b - a) (by omega) (by omega)
  obtain ⟨D', hE, hP⟩ := bp_loop (x1 := d.toList) (N := d.size) (by simp) hN a b M (by omega) hb hM1 hM2 (b + 10) (a + (b - a) / 4 * 2 - 1) d (IntKind.u64.wrap ((b - a : Nat) : Int)) rfl (by omega) (by omega)
  refine ⟨D', Ev.of (fun k => ?_) hE, hP⟩
  rw [sort_breakPatterns_func.f, e0, if_pos (by omega), hM0, Option.bind_some, e4, e5, q2, p2, p3]
end
end Go.Proofs.Ytminnekeekhjcaa
