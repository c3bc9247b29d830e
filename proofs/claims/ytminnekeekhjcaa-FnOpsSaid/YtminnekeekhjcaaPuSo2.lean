import Derived.Test.YtminnekeekhjcaaPuSo1
namespace Go.Proofs.Ytminnekeekhjcaa
open Go.Sx Go.Sy
set_option linter.unusedVariables false
set_option linter.unusedSimpArgs false
set_option linter.unusedSectionVars false
set_option maxRecDepth 8000
/-! ### choosePivot -/
section
variable {x1 : List Sy.Op} {N : Nat}
theorem order2_val (k : Nat) (d : Array Sy.Op) {a b s : Nat} (ha : a < d.size) (hb : b < d.size) (hs : s ≤ 100) :
    sort_order2_func_2.f k d.toList a b s = some (((Sort.order2 ltO d a b s).1 : Int), ((Sort.order2 ltO d a b s).2.1 : Int), ((Sort.order2 ltO d a b s).2.2 : Int)) := by
  rw [sort_order2_func_2.f, less_val d hb ha, Option.bind_some]
  unfold Sort.order2
  by_cases h : ltO d[b]! d[a]! = true
  · rw [if_pos h, if_pos h, wi (by omega)]
  · rw [if_neg h, if_neg h]
theorem order2_s (d : Array Sy.Op) (a b s : Nat) : (Sort.order2 ltO d a b s).2.2 ≤ s + 1 := by
  unfold Sort.order2; split <;> simp
theorem order2_lt (d : Array Sy.Op) {a b s : Nat} (ha : a < d.size) (hb : b < d.size) : (Sort.order2 ltO d a b s).1 < d.size ∧ (Sort.order2 ltO d a b s).2.1 < d.size := by
  rcases Sort.order2_mem ltO d a b s with ⟨h1, h2⟩ | ⟨h1, h2⟩ <;> rw [h1, h2] <;> exact ⟨by assumption, by assumption⟩
theorem median_val (k : Nat) (d : Array Sy.Op) {a b c s : Nat} (ha : a < d.size) (hb : b < d.size) (hc : c < d.size) (hs : s ≤ 50) :
    sort_median_func_2.f k d.toList a b c s = some (((Sort.median ltO d a b c s).1 : Int), ((Sort.median ltO d a b c s).2 : Int)) ∧ (Sort.median ltO d a b c s).2 ≤ s + 3 := by
  have o1 := order2_lt d (s := s) ha hb
  have s1 := order2_s d a b s
  have o2 := order2_lt d (s := (Sort.order2 ltO d a b s).2.2) o1.2 hc
  have s2 := order2_s d (Sort.order2 ltO d a b s).2.1 c (Sort.order2 ltO d a b s).2.2
  have s3 := order2_s d (Sort.order2 ltO d a b s).1 (Sort.order2 ltO d (Sort.order2 ltO d a b s).2.1 c (Sort.order2 ltO d a b s).2.2).1 (Sort.order2 ltO d (Sort.order2 ltO d a b s).2.1 c (Sort.order2 ltO d a b s).2.2).2.2
  constructor
  · rw [sort_median_func_2.f, order2_val k d ha hb (by omega), Option.bind_some, order2_val k d o1.2 hc (by omega), Option.bind_some, order2_val k d o1.1 o2.1 (by omega), Option.bind_some]
    rfl
  · show (Sort.order2 ltO d _ _ _).2.2 ≤ _
    omega
theorem median_lt (d : Array Sy.Op) {a b c s : Nat} (ha : a < d.size) (hb : b < d.size) (hc : c < d.size) : (Sort.median ltO d a b c s).1 < d.size := by
  rcases Sort.median_mem ltO d a b c s with h | h | h <;> rw [h] <;> assumption
theorem medadj_val (k : Nat) (d : Array Sy.Op) {a s : Nat} (h0 : 1 ≤ a) (ha : a + 1 < d.size) (hN : d.size ≤ 1000) (hs : s ≤ 50) :
    sort_medianAdjacent_func_2.f k d.toList a s = some (((Sort.medianAdjacent ltO d a s).1 : Int), ((Sort.medianAdjacent ltO d a s).2 : Int)) ∧ (Sort.medianAdjacent ltO d a s).2 ≤ s + 3 ∧ (Sort.medianAdjacent ltO d a s).1 < d.size := by
  obtain ⟨m1, m2⟩ := median_val k d (a := a - 1) (b := a) (c := a + 1) (s := s) (by omega) (by omega) ha hs
  have e1 : IntKind.i64.wrap ((a : Int) - 1) = ((a - 1 : Nat) : Int) := by rw [wr (by omega) (by omega)]; omega
  refine ⟨?_, m2, median_lt d (by omega) (by omega) ha⟩
  rw [sort_medianAdjacent_func_2.f, e1, wi (by omega), m1, Option.bind_some]
  rfl
def hintI : Sort.Hint → Int
  | .unknown => 0
  | .increasing => 1
  | .decreasing => 2
theorem pivot_val (k : Nat) (d : Array Sy.Op) (hN : d.size ≤ 1000) (a b : Nat) (hab : a + 12 < b) (hb : b ≤ d.size) :
    sort_choosePivot_func.f k d.toList a b = some (((Sort.choosePivot ltO d a b).1 : Int), hintI (Sort.choosePivot ltO d a b).2) := by
  have e0 : IntKind.i64.wrap ((b : Int) - (a : Int)) = ((b - a : Nat) : Int) := ws2 (by omega) (by omega)
  have e4 : Int.tdiv ((b - a : Nat) : Int) 4 = (((b - a) / 4 : Nat) : Int) := by rw [Int.tdiv_eq_ediv_of_nonneg (by omega)]; omega
  have e5 : IntKind.i64.wrap (((b - a) / 4 : Nat) : Int) = (((b - a) / 4 : Nat) : Int) := wr (by omega) (by omega)
  have q1 : IntKind.i64.wrap ((((b - a) / 4 : Nat) : Int) * 1) = (((b - a) / 4 * 1 : Nat) : Int) := by rw [wr (by omega) (by omega)]; omega
  have q2 : IntKind.i64.wrap ((((b - a) / 4 : Nat) : Int) * 2) = (((b - a) / 4 * 2 : Nat) : Int) := by rw [wr (by omega) (by omega)]; omega
  have q3 : IntKind.i64.wrap ((((b - a) / 4 : Nat) : Int) * 3) = (((b - a) / 4 * 3 : Nat) : Int) := by rw [wr (by omega) (by omega)]; omega
  have p1 : IntKind.i64.wrap ((a : Int) + (((b - a) / 4 * 1 : Nat) : Int)) = ((a + (b - a) / 4 * 1 : Nat) : Int) := wa2 (by omega)
  have p2 : IntKind.i64.wrap ((a : Int) + (((b - a) / 4 * 2 : Nat) : Int)) = ((a + (b - a) / 4 * 2 : Nat) : Int) := wa2 (by omega)
  have p3 : IntKind.i64.wrap ((a : Int) + (((b - a) / 4 * 3 : Nat) : Int)) = ((a + (b - a) / 4 * 3 : Nat) : Int) := wa2 (by omega)
  have fin : ∀ (i j l s : Nat), i < d.size → j < d.size → l < d.size → s ≤ 50 → sort_choosePivot_func.l0 k d.toList i j l s = some (((Sort.median ltO d i j l s).1 : Int), hintI (if (Sort.median ltO d i j l s).2 = 0 then .increasing else if (Sort.median ltO d i j l s).2 = 12 then .decreasing else .unknown)) := by
    intro i j l s hi hj hl hs
    obtain ⟨m1, m2⟩ := median_val k d hi hj hl hs
    rw [sort_choosePivot_func.l0, m1, Option.bind_some]
    generalize Sort.median ltO d i j l s = r at *
    by_cases h1 : r.2 = 0
    · rw [if_pos (by simp [h1]), if_pos h1]; rfl
    · rw [if_neg (by simp; omega), if_neg h1]
      by_cases h2 : r.2 = 12
      · rw [if_pos (by simp [h2]), if_pos h2]; rfl
      · rw [if_neg (by simp; omega), if_neg h2]; rfl
  rw [sort_choosePivot_func.f, e0, if_pos (by omega)]
  unfold Sort.choosePivot
  simp only [if_pos (show b - a ≥ 8 by omega)]
  by_cases h : b - a ≥ 50
  · simp only [if_pos h]
    obtain ⟨i1, i2, i3⟩ := medadj_val k d (a := a + (b - a) / 4 * 1) (s := 0) (by omega) (by omega) hN (by omega)
    obtain ⟨j1, j2, j3⟩ := medadj_val k d (a := a + (b - a) / 4 * 2) (s := (Sort.medianAdjacent ltO d (a + (b - a) / 4 * 1) 0).2) (by omega) (by omega) hN (by omega)
    obtain ⟨k1, k2, k3⟩ := medadj_val k d (a := a + (b - a) / 4 * 3) (s := (Sort.medianAdjacent ltO d (a + (b - a) / 4 * 2) (Sort.medianAdjacent ltO d (a + (b - a) / 4 * 1) 0).2).2) (by omega) (by omega) hN (by omega)
    rw [if_pos (by omega), e4, e5, q1, q2, q3, p1, p2, p3]
    have i1' : sort_medianAdjacent_func_2.f k d.toList ((a + (b - a) / 4 * 1 : Nat) : Int) 0 = _ := i1
    rw [i1', Option.bind_some, j1, Option.bind_some, k1, Option.bind_some]
    exact fin _ _ _ _ i3 j3 k3 (by omega)
  · simp only [if_neg h]
    rw [if_neg (by omega), e4, e5, q1, q2, q3, p1, p2, p3]
    exact fin _ _ _ 0 (by omega) (by omega) (by omega) (by omega)
/-! ### partialInsertionSort -/
theorem par_up (hx : x1.length = N) (hN : N ≤ 1000) (a b i j : Nat) (hb : b ≤ N) (R : Bool × List Sy.Op) : ∀ (m q : Nat) (d : Array Sy.Op), d.size = N → b - q ≤ m → 1 ≤ q → q ≤ N + 1 →
    Ev (fun k => sort_partialInsertionSort_func.l1 k x1 a b j i (Sort.shiftUp ltO b q d).toList) R → Ev (fun k => sort_partialInsertionSort_func.l6 k x1 a b j i q d.toList) R := by
  intro m
  induction m with
  | zero =>
    intro q d hd hm hq hq2 H
    rw [Sort.shiftUp, if_neg (by omega)] at H
    refine Ev.succ (fun k => ?_) H
    rw [sort_partialInsertionSort_func.l6, if_neg (by omega)]
  | succ m ih =>
    intro q d hd hm hq hq2 H
    rw [Sort.shiftUp] at H
    have e1 : IntKind.i64.wrap ((q : Int) - 1) = ((q - 1 : Nat) : Int) := by rw [wr (by omega) (by omega)]; omega
    by_cases h : q < b
    · rw [if_pos h] at H
      by_cases hl : ltO d[q]! d[q - 1]! = true
      · rw [if_neg (by simp [hl])] at H
        refine Ev.succ (fun k => ?_) (ih (q + 1) _ (by rw [sw_size]; exact hd) (by omega) (by omega) (by omega) H)
        rw [sort_partialInsertionSort_func.l6, if_pos (by omega), e1, less_val d (by omega) (by omega), Option.bind_some, if_neg (by simp [hl]), if_pos (by omega), if_pos (by omega), if_pos (by omega), if_pos (by omega), wi (by omega), sw_val d (by omega) (by omega)]
      · rw [if_pos (by simp [hl])] at H
        refine Ev.succ (fun k => ?_) H
        rw [sort_partialInsertionSort_func.l6, if_pos (by omega), e1, less_val d (by omega) (by omega), Option.bind_some, if_pos (by simpa using hl)]
    · rw [if_neg h] at H
      refine Ev.succ (fun k => ?_) H
      rw [sort_partialInsertionSort_func.l6, if_neg (by omega)]
theorem par_down (hx : x1.length = N) (hN : N ≤ 1000) (a b i j : Nat) (R : Bool × List Sy.Op) : ∀ (q : Nat) (d : Array Sy.Op), d.size = N → q < N →
    Ev (fun k => sort_partialInsertionSort_func.l4 k x1 a b j i (Sort.shiftDown ltO q d).toList) R → Ev (fun k => sort_partialInsertionSort_func.l5 k x1 a b j i q d.toList) R := by
  intro q
  induction q with
  | zero =>
    intro d hd hq H
    rw [Sort.shiftDown] at H
    refine Ev.succ (fun k => ?_) H
    rw [sort_partialInsertionSort_func.l5, if_neg (by omega)]
  | succ q ih =>
    intro d hd hq H
    rw [Sort.shiftDown] at H
    by_cases hl : ltO d[q + 1]! d[q]! = true
    · rw [if_neg (by simp [hl])] at H
      refine Ev.succ (fun k => ?_) (ih _ (by rw [sw_size]; exact hd) (by omega) H)
      rw [sort_partialInsertionSort_func.l5, if_pos (by omega), wd (by omega), less_val d (by omega) (by omega), Option.bind_some, if_neg (by simp [hl]), if_pos (by omega), if_pos (by omega), if_pos (by omega), if_pos (by omega), sw_val d (by omega) (by omega)]
    · rw [if_pos (by simp [hl])] at H
      refine Ev.succ (fun k => ?_) H
      rw [sort_partialInsertionSort_func.l5, if_pos (by omega), wd (by omega), less_val d (by omega) (by omega), Option.bind_some, if_pos (by simpa using hl)]
theorem down_size : ∀ (q : Nat) (d : Array Sy.Op), (Sort.shiftDown ltO q d).size = d.size := by
  intro q
  induction q with
  | zero => intro d; rfl
  | succ q ih =>
    intro d
    rw [Sort.shiftDown]
    split
    · rfl
    · rw [ih, sw_size]
theorem up_size (b : Nat) : ∀ (m q : Nat) (d : Array Sy.Op), b - q ≤ m → (Sort.shiftUp ltO b q d).size = d.size := by
  intro m
  induction m with
  | zero => intro q d h; rw [Sort.shiftUp, if_neg (by omega)]
  | succ m ih =>
    intro q d h
    rw [Sort.shiftUp]
    split
    · split
      · rfl
      · rw [ih _ _ (by omega), sw_size]
    · rfl
theorem par_scan (hx : x1.length = N) (hN : N ≤ 1000) (a b j : Nat) (hb : b ≤ N) (d : Array Sy.Op) (hd : d.size = N) (R : Bool × List Sy.Op) : ∀ (m i : Nat), b - i ≤ m → 1 ≤ i → i ≤ b →
    (∀ i', i ≤ i' → i' ≤ b → i' = Sort.scanSorted ltO d b i → Ev (fun k => sort_partialInsertionSort_func.l2 k x1 a b j d.toList i') R) → Ev (fun k => sort_partialInsertionSort_func.l3 k x1 a b j d.toList i) R := by
  intro m
  induction m with
  | zero =>
    intro i hm hi hi2 H
    have e : Sort.scanSorted ltO d b i = i := by rw [Sort.scanSorted, if_neg (by simp; omega)]
    refine Ev.succ (fun k => ?_) (H i (by omega) (by omega) e.symm)
    rw [sort_partialInsertionSort_func.l3, if_neg (by omega)]
  | succ m ih =>
    intro i hm hi hi2 H
    by_cases h : i < b
    · have e1 : IntKind.i64.wrap ((i : Int) - 1) = ((i - 1 : Nat) : Int) := by rw [wr (by omega) (by omega)]; omega
      by_cases hl : ltO d[i]! d[i - 1]! = true
      · have e : Sort.scanSorted ltO d b i = i := by rw [Sort.scanSorted, if_neg (by simp [hl])]
        refine Ev.succ (fun k => ?_) (H i (by omega) (by omega) e.symm)
        rw [sort_partialInsertionSort_func.l3, if_pos (by omega), e1, less_val d (by omega) (by omega), Option.bind_some, if_neg (by simp [hl])]
      · have e : Sort.scanSorted ltO d b i = Sort.scanSorted ltO d b (i + 1) := by rw [Sort.scanSorted, if_pos (by simp [hl, h])]
        refine Ev.succ (fun k => ?_) (ih (i + 1) (by omega) (by omega) (by omega) (fun i' h1 h2 h3 => H i' (by omega) h2 (h3.trans e.symm)))
        rw [sort_partialInsertionSort_func.l3, if_pos (by omega), e1, less_val d (by omega) (by omega), Option.bind_some, if_pos (by simpa using hl), wi (by omega)]
    · have e : Sort.scanSorted ltO d b i = i := by rw [Sort.scanSorted, if_neg (by simp; omega)]
      refine Ev.succ (fun k => ?_) (H i (by omega) (by omega) e.symm)
      rw [sort_partialInsertionSort_func.l3, if_neg (by omega)]
theorem par_val (hx : x1.length = N) (hN : N ≤ 1000) (a b : Nat) (hab : a < b) (hb : b ≤ N) : ∀ (s j i : Nat) (d : Array Sy.Op), j + s = 5 → d.size = N → a + 1 ≤ i → i ≤ b →
    Ev (fun k => sort_partialInsertionSort_func.l0 k x1 a b i j d.toList) ((Sort.partialIns ltO a b s i d).2, (Sort.partialIns ltO a b s i d).1.toList) := by
  intro s
  induction s with
  | zero =>
    intro j i d hj hd hi hi2
    rw [Sort.partialIns]
    refine Ev.succ (fun k => ?_) (Ev.ret _)
    rw [sort_partialInsertionSort_func.l0, if_neg (by omega)]
  | succ s ih =>
    intro j i d hj hd hi hi2
    rw [Sort.partialIns_succ]
    refine Ev.succ (h := fun k => sort_partialInsertionSort_func.l3 k x1 a b j d.toList i) (fun k => ?_) (par_scan hx hN a b j hb d hd _ (b + 1) i (by omega) (by omega) hi2 ?_)
    · rw [sort_partialInsertionSort_func.l0, if_pos (by omega)]
    intro i' h1 h2 h3
    rw [← h3]
    clear h3 hi2
    have e0 : IntKind.i64.wrap ((b : Int) - (a : Int)) = ((b - a : Nat) : Int) := ws2 (by omega) (by omega)
    by_cases hb1 : i' = b
    · rw [if_pos hb1]
      refine Ev.succ (fun k => ?_) (Ev.ret _)
      rw [sort_partialInsertionSort_func.l2, if_pos (by omega)]
    rw [if_neg hb1]
    by_cases hb2 : b - a < 50
    · rw [if_pos hb2]
      refine Ev.succ (fun k => ?_) (Ev.ret _)
      rw [sort_partialInsertionSort_func.l2, if_neg (by omega), e0, if_pos (by omega)]
    rw [if_neg hb2]
    have e1 : IntKind.i64.wrap ((i' : Int) - 1) = ((i' - 1 : Nat) : Int) := by rw [wr (by omega) (by omega)]; omega
    have e2 : IntKind.i64.wrap ((i' : Int) - (a : Int)) = ((i' - a : Nat) : Int) := ws2 (by omega) (by omega)
    have e3 : IntKind.i64.wrap ((b : Int) - (i' : Int)) = ((b - i' : Nat) : Int) := ws2 (by omega) (by omega)
    -- behind the shifts
    have up : ∀ d2 : Array Sy.Op, d2.size = N → Ev (fun k => sort_partialInsertionSort_func.l4 k x1 a b j i' d2.toList) ((Sort.partialIns ltO a b s i' (Sort.fixUp ltO b i' d2)).2, (Sort.partialIns ltO a b s i' (Sort.fixUp ltO b i' d2)).1.toList) := by
      intro d2 hd2
      have last : ∀ d3 : Array Sy.Op, d3.size = N → Ev (fun k => sort_partialInsertionSort_func.l1 k x1 a b j i' d3.toList) ((Sort.partialIns ltO a b s i' d3).2, (Sort.partialIns ltO a b s i' d3).1.toList) := by
        intro d3 hd3
        refine Ev.succ (fun k => ?_) (ih (j + 1) i' d3 (by omega) hd3 (by omega) (by omega))
        rw [sort_partialInsertionSort_func.l1, wi (by omega)]
      unfold Sort.fixUp
      by_cases h : b - i' ≥ 2
      · rw [if_pos h]
        refine Ev.succ (fun k => ?_) (par_up hx hN a b i' j hb _ (b + 1) (i' + 1) d2 hd2 (by omega) (by omega) (by omega) (last _ (by rw [up_size b (b + 1) _ _ (by omega)]; exact hd2)))
        rw [sort_partialInsertionSort_func.l4, e3, if_pos (by omega), wi (by omega)]
      · rw [if_neg h]
        refine Ev.succ (fun k => ?_) (last d2 hd2)
        rw [sort_partialInsertionSort_func.l4, e3, if_neg (by omega)]
    unfold Sort.fixDown
    by_cases h : i' - a ≥ 2
    · rw [if_pos h]
      refine Ev.succ (fun k => ?_) (par_down hx hN a b i' j _ (i' - 1) (Sort.swp d i' (i' - 1)) (by rw [sw_size]; exact hd) (by omega) (up _ (by rw [down_size, sw_size]; exact hd)))
      rw [sort_partialInsertionSort_func.l2, if_neg (by omega), e0, if_neg (by omega), if_pos (by omega), if_pos (by omega), e1, if_pos (by omega), if_pos (by omega), e2, if_pos (by omega), sw_val d (by omega) (by omega)]
    · rw [if_neg h]
      refine Ev.succ (fun k => ?_) (up _ (by rw [sw_size]; exact hd))
      rw [sort_partialInsertionSort_func.l2, if_neg (by omega), e0, if_neg (by omega), if_pos (by omega), if_pos (by omega), e1, if_pos (by omega), if_pos (by omega), e2, if_neg (by omega), sw_val d (by omega) (by omega)]
theorem par_f (d : Array Sy.Op) (hN : d.size ≤ 1000) (a b : Nat) (hab : a < b) (hb : b ≤ d.size) : Ev (fun k => sort_partialInsertionSort_func.f k d.toList a b) ((Sort.partialInsertionSort ltO d a b).2, (Sort.partialInsertionSort ltO d a b).1.toList) := by
  refine Ev.of (fun k => ?_) (par_val (x1 := d.toList) (N := d.size) (by simp) hN a b hab hb 5 0 (a + 1) d rfl rfl (by omega) (by omega))
  rw [sort_partialInsertionSort_func.f, wi (by omega)]
  rfl
end
end Go.Proofs.Ytminnekeekhjcaa
