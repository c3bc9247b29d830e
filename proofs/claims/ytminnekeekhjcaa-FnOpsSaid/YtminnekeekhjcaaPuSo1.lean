import Derived.Test.YtminnekeekhjcaaWkSo2
import Derived.Test.YtminnekeekhjcaaZ2
import Derived.Sort.AssemblyPlain
namespace Go.Proofs.Ytminnekeekhjcaa
open Go.Sx Go.Sy
set_option linter.unusedVariables false
set_option linter.unusedSimpArgs false
set_option linter.unusedSectionVars false
set_option maxRecDepth 8000
/-! ### what holds from some fuel on -/
def Ev {β : Type} (g : Nat → Option β) (r : β) : Prop := ∃ K, ∀ k, K ≤ k → g k = some r
section
variable {α β : Type}
theorem Ev.ret (r : β) : Ev (fun _ => some r) r := ⟨0, fun _ _ => rfl⟩
theorem Ev.succ {g h : Nat → Option β} {r : β} (e : ∀ k, g (k + 1) = h k) (H : Ev h r) : Ev g r := by
  obtain ⟨K, hK⟩ := H
  refine ⟨K + 1, fun k hk => ?_⟩
  obtain ⟨q, rfl⟩ : ∃ q, k = q + 1 := ⟨k - 1, by omega⟩
  rw [e q]; exact hK q (by omega)
theorem Ev.of {g h : Nat → Option β} {r : β} (e : ∀ k, g k = h k) (H : Ev h r) : Ev g r := by
  obtain ⟨K, hK⟩ := H
  exact ⟨K, fun k hk => (e k).trans (hK k hk)⟩
theorem Ev.bind {f : Nat → Option α} {h : Nat → α → Option β} {a : α} {r : β} (Hf : Ev f a) (Hh : Ev (fun k => h k a) r) : Ev (fun k => (f k).bind (h k)) r := by
  obtain ⟨K, hK⟩ := Hf
  obtain ⟨L, hL⟩ := Hh
  refine ⟨K + L, fun k hk => ?_⟩
  show (f k).bind (h k) = _
  rw [hK k (by omega)]; exact hL k (by omega)
end
/-! ### numbers -/
theorem wr {n : Int} (h1 : -1000000 ≤ n) (h2 : n ≤ 1000000) : IntKind.i64.wrap n = n := wrap_id (by omega) (by omega)
theorem wi {i : Nat} (h : i ≤ 900000) : IntKind.i64.wrap ((i : Int) + 1) = ((i + 1 : Nat) : Int) := by rw [wr (by omega) (by omega)]; omega
theorem wd {i : Nat} (h : i ≤ 900000) : IntKind.i64.wrap (((i + 1 : Nat) : Int) - 1) = (i : Int) := by rw [wr (by omega) (by omega)]; omega
theorem wa2 {i j : Nat} (h : i + j ≤ 900000) : IntKind.i64.wrap ((i : Int) + (j : Int)) = ((i + j : Nat) : Int) := by rw [wr (by omega) (by omega)]; omega
theorem ws2 {i j : Nat} (h : i ≤ 900000) (h2 : j ≤ i) : IntKind.i64.wrap ((i : Int) - (j : Int)) = ((i - j : Nat) : Int) := by rw [wr (by omega) (by omega)]; omega
/-! ### the order -/
def preO (a : Sy.Op) : Bool := decide (a.typ = 3) || decide (a.typ = 4)
def ltO (a b : Sy.Op) : Bool := if a.name ≠ b.name then Go.Op.bytesLess a.name b.name else preO a && !preO b
theorem pre_val (a : Sy.Op) : impl_Op_prefix.f a = some (preO a) := by
  unfold impl_Op_prefix.f preO
  by_cases h : a.typ = 3 <;> simp [h]
theorem getB (d : Array Sy.Op) {i : Nat} (hi : i < d.size) : d.toList.getD i z45 = d[i]! := by
  simp [List.getD_eq_getElem?_getD, hi]
theorem less_val (d : Array Sy.Op) {i j : Nat} (hi : i < d.size) (hj : j < d.size) : impl_sortOps_c1.f (i : Int) (j : Int) d.toList = some (ltO d[i]! d[j]!) := by
  rw [impl_sortOps_c1.f, if_pos (by omega), if_pos (by simp; omega), if_pos (by omega), if_pos (by simp; omega), Int.toNat_natCast, Int.toNat_natCast, getB d hi, getB d hj, impl_sortOps_c1.l0]
  unfold ltO
  by_cases h : d[i]!.name ≠ d[j]!.name
  · rw [if_pos h, if_pos h]
  · rw [if_neg h, if_neg h, pre_val, pre_val, Option.bind_some, Option.bind_some]
    show (if preO d[i]! = true then some (decide (¬ preO d[j]! = true)) else some false) = some (preO d[i]! && !preO d[j]!)
    cases preO d[i]! <;> cases preO d[j]! <;> rfl
theorem sw_val (d : Array Sy.Op) {i j : Nat} (hi : i < d.size) (hj : j < d.size) : swL d.toList ((i : Int)).toNat ((j : Int)).toNat = (Sort.swp d i j).toList := by
  rw [Int.toNat_natCast, Int.toNat_natCast, swL_eq (x := d[i]!) (y := d[j]!) (by simp [hi]) (by simp [hj])]
  unfold Sort.swp
  simp
theorem sw_size (d : Array Sy.Op) (i j : Nat) : (Sort.swp d i j).size = d.size := Sort.swp_size d i j
/-! ### insertionSort -/
section
variable {x1 : List Sy.Op} {N : Nat}
theorem ins_inner (hx : x1.length = N) (hN : N ≤ 1000) (a b i : Nat) (hi : i < N) (R : List Sy.Op) : ∀ (j : Nat) (d : Array Sy.Op), d.size = N → j ≤ i →
    Ev (fun k => sort_insertionSort_func.l0 k x1 a b ((i + 1 : Nat) : Int) (Sort.insInner ltO a j d).toList) R → Ev (fun k => sort_insertionSort_func.l1 k x1 a b i j d.toList) R
  | 0, d, hd, hj, H => by
    refine Ev.succ (fun k => ?_) H
    show sort_insertionSort_func.l1 (k + 1) x1 a b i ((0 : Nat) : Int) d.toList = _
    rw [sort_insertionSort_func.l1, if_neg (by omega), wi (by omega), Sort.insInner]
  | j + 1, d, hd, hj, H => by
    rw [Sort.insInner] at H
    by_cases hc : j + 1 > a
    · by_cases hl : ltO d[j + 1]! d[j]! = true
      · rw [if_pos (by simp [hc, hl])] at H
        refine Ev.succ (fun k => ?_) (ins_inner hx hN a b i hi R j _ (by rw [sw_size]; exact hd) (by omega) H)
        rw [sort_insertionSort_func.l1, if_pos (by omega), wd (by omega), less_val d (by omega) (by omega), Option.bind_some, if_pos hl, if_pos (by omega), if_pos (by omega), if_pos (by omega), if_pos (by omega), sw_val d (by omega) (by omega)]
      · rw [if_neg (by simp [hl])] at H
        refine Ev.succ (fun k => ?_) H
        rw [sort_insertionSort_func.l1, if_pos (by omega), wd (by omega), less_val d (by omega) (by omega), Option.bind_some, if_neg hl, wi (by omega)]
    · rw [if_neg (by simp; omega)] at H
      refine Ev.succ (fun k => ?_) H
      rw [sort_insertionSort_func.l1, if_neg (by omega), wi (by omega)]
theorem ins_outer (hx : x1.length = N) (hN : N ≤ 1000) (a b : Nat) (hb : b ≤ N) : ∀ (m i : Nat) (d : Array Sy.Op), d.size = N → b - i ≤ m → i ≤ N + 1 → Ev (fun k => sort_insertionSort_func.l0 k x1 a b i d.toList) (Sort.insOuter ltO a b i d).toList := by
  intro m
  induction m with
  | zero =>
    intro i d hd hm hi
    rw [Sort.insOuter, if_neg (by omega)]
    refine Ev.succ (fun k => ?_) (Ev.ret _)
    rw [sort_insertionSort_func.l0, if_neg (by omega)]
  | succ m ih =>
    intro i d hd hm hi
    rw [Sort.insOuter]
    by_cases h : i < b
    · rw [if_pos h]
      refine Ev.succ (fun k => ?_) (ins_inner hx hN a b i (by omega) _ i d hd (by omega) (ih (i + 1) _ ?_ (by omega) (by omega)))
      · rw [sort_insertionSort_func.l0, if_pos (by omega)]
      · clear ih
        have : ∀ (j : Nat) (d : Array Sy.Op), (Sort.insInner ltO a j d).size = d.size := by
          intro j
          induction j with
          | zero => intro d; rfl
          | succ j ih =>
            intro d
            rw [Sort.insInner]
            split
            · rw [ih, sw_size]
            · rfl
        rw [this]; exact hd
    · rw [if_neg h]
      refine Ev.succ (fun k => ?_) (Ev.ret _)
      rw [sort_insertionSort_func.l0, if_neg (by omega)]
theorem ins_val (d : Array Sy.Op) (hN : d.size ≤ 1000) (a b : Nat) (hab : a ≤ b) (hb : b ≤ d.size) : Ev (fun k => sort_insertionSort_func.f k d.toList a b) (Sort.insertionSort ltO d a b).toList := by
  refine Ev.of (fun k => ?_) (ins_outer (x1 := d.toList) (N := d.size) (by simp) hN a b hb (b + 1) (a + 1) d rfl (by omega) (by omega))
  rw [sort_insertionSort_func.f, wi (by omega)]
/-! ### heapSort -/
theorem sift_size (lt : Sy.Op → Sy.Op → Bool) (hi first : Nat) : ∀ (m root : Nat) (d : Array Sy.Op), hi - root ≤ m → (Sort.siftDown lt hi first root d).size = d.size := by
  intro m
  induction m with
  | zero => intro root d h; rw [Sort.siftDown, dif_pos (by omega)]
  | succ m ih =>
    intro root d h
    rw [Sort.siftDown]
    (repeat' split) <;> first | rfl | (rw [ih _ _ (by omega), sw_size])
theorem sift_val (hx : x1.length = N) (hN : N ≤ 1000) (hi first : Nat) (hf : first + hi ≤ N) : ∀ (m root : Nat) (d : Array Sy.Op), d.size = N → hi - root ≤ m → root ≤ N → Ev (fun k => sort_siftDown_func.l0 k x1 hi first root d.toList) (Sort.siftDown ltO hi first root d).toList := by
  intro m
  induction m with
  | zero =>
    intro root d hd hm hr
    have e1 : IntKind.i64.wrap (2 * (root : Int)) = ((2 * root : Nat) : Int) := by rw [wr (by omega) (by omega)]; omega
    rw [Sort.siftDown, dif_pos (by omega)]
    refine Ev.succ (fun k => ?_) (Ev.ret _)
    rw [sort_siftDown_func.l0, e1, wi (by omega), if_pos (by omega)]
  | succ m ih =>
    intro root d hd hm hr
    have e1 : IntKind.i64.wrap (2 * (root : Int)) = ((2 * root : Nat) : Int) := by rw [wr (by omega) (by omega)]; omega
    rw [Sort.siftDown]
    by_cases h0 : 2 * root + 1 ≥ hi
    · rw [dif_pos h0]
      refine Ev.succ (fun k => ?_) (Ev.ret _)
      rw [sort_siftDown_func.l0, e1, wi (by omega), if_pos (by omega)]
    rw [dif_neg h0]
    have step : ∀ c : Nat, c < hi → c ≤ 2 * root + 2 → root < c → Ev (fun k => sort_siftDown_func.l1 k x1 hi first root d.toList (c : Int)) (if (!ltO d[first + root]! d[first + c]!) = true then d else Sort.siftDown ltO hi first c (Sort.swp d (first + root) (first + c))).toList := by
      intro c hc hc2 hc3
      by_cases hl : ltO d[first + root]! d[first + c]! = true
      · rw [if_neg (by simp [hl])]
        refine Ev.succ (fun k => ?_) (ih c _ (by rw [sw_size]; exact hd) (by omega) (by omega))
        rw [sort_siftDown_func.l1, wa2 (by omega), wa2 (by omega), less_val d (by omega) (by omega), Option.bind_some, if_neg (by simp [hl]), if_pos (by omega), if_pos (by omega), if_pos (by omega), if_pos (by omega), sw_val d (by omega) (by omega)]
      · rw [if_pos (by simp [hl])]
        refine Ev.succ (fun k => ?_) (Ev.ret _)
        rw [sort_siftDown_func.l1, wa2 (by omega), wa2 (by omega), less_val d (by omega) (by omega), Option.bind_some, if_pos (by simpa using hl)]
    have e2 : IntKind.i64.wrap (((first + (2 * root + 1) : Nat) : Int) + 1) = ((first + (2 * root + 1) + 1 : Nat) : Int) := wi (by omega)
    by_cases h1 : 2 * root + 1 + 1 < hi
    · by_cases h2 : ltO d[first + (2 * root + 1)]! d[first + (2 * root + 1) + 1]! = true
      · rw [if_pos (by simp [h1, h2])]
        have := step (2 * root + 2) h1 (by omega) (by omega)
        have e3 : (if (!ltO d[first + root]! d[first + (2 * root + 2)]!) = true then d else if _h2 : 2 * root + 2 < hi then Sort.siftDown ltO hi first (2 * root + 2) (Sort.swp d (first + root) (first + (2 * root + 2))) else d) = (if (!ltO d[first + root]! d[first + (2 * root + 2)]!) = true then d else Sort.siftDown ltO hi first (2 * root + 2) (Sort.swp d (first + root) (first + (2 * root + 2)))) := by
          rw [dif_pos h1]
        rw [e3]
        refine Ev.succ (fun k => ?_) this
        rw [sort_siftDown_func.l0, e1, wi (by omega), if_neg (by omega), wi (by omega), if_pos (by omega), wa2 (by omega), e2, less_val d (by omega) (by omega), Option.bind_some, if_pos h2]
      · rw [if_neg (by simp [h2])]
        refine Ev.succ (fun k => ?_) (step (2 * root + 1) (by omega) (by omega) (by omega))
        rw [sort_siftDown_func.l0, e1, wi (by omega), if_neg (by omega), wi (by omega), if_pos (by omega), wa2 (by omega), e2, less_val d (by omega) (by omega), Option.bind_some, if_neg h2]
    · rw [if_neg (by simp [h1])]
      refine Ev.succ (fun k => ?_) (step (2 * root + 1) (by omega) (by omega) (by omega))
      rw [sort_siftDown_func.l0, e1, wi (by omega), if_neg (by omega), wi (by omega), if_neg (by omega)]
theorem sift_f (d : Array Sy.Op) (hN : d.size ≤ 1000) (hi first root : Nat) (hf : first + hi ≤ d.size) (hr : root ≤ d.size) : Ev (fun k => sort_siftDown_func.f k d.toList root hi first) (Sort.siftDown ltO hi first root d).toList := by
  refine Ev.of (fun k => ?_) (sift_val (x1 := d.toList) (N := d.size) (by simp) hN hi first hf (hi + 1) root d rfl (by omega) hr)
  rw [sort_siftDown_func.f]
theorem heap_pop (hx : x1.length = N) (hN : N ≤ 1000) (a : Nat) : ∀ (m : Nat) (d : Array Sy.Op), d.size = N → a + m ≤ N → Ev (fun k => sort_heapSort_func.l1 k x1 a ((m : Int) - 1) d.toList) (Sort.heapPop ltO a m d).toList := by
  intro m
  induction m with
  | zero =>
    intro d hd hm
    rw [Sort.heapPop]
    refine Ev.succ (fun k => ?_) (Ev.ret _)
    rw [sort_heapSort_func.l1, if_neg (by omega)]
  | succ m ih =>
    intro d hd hm
    rw [Sort.heapPop]
    have e1 : (((m + 1 : Nat) : Int) - 1) = (m : Int) := by omega
    refine Ev.succ (fun k => ?_) (Ev.bind (sift_f (Sort.swp d a (a + m)) (by rw [sw_size]; omega) m a 0 (by rw [sw_size]; omega) (by omega)) (ih _ ?_ (by omega)))
    · rw [sort_heapSort_func.l1, e1, if_pos (by omega), if_pos (by omega), if_pos (by omega), wa2 (by omega), if_pos (by omega), if_pos (by omega), sw_val d (by omega) (by omega), wr (n := (m : Int) - 1) (by omega) (by omega)]
      rfl
    · rw [sift_size ltO m a (m + 1) 0 _ (by omega), sw_size]; exact hd
theorem pop_size (a : Nat) : ∀ (m : Nat) (d : Array Sy.Op), (Sort.heapBuild ltO m a 0 d).size = d.size := fun _ _ => rfl
theorem heap_build (hx : x1.length = N) (hN : N ≤ 1000) (a b : Nat) (hab : a ≤ b) (hb : b ≤ N) : ∀ (m : Nat) (d : Array Sy.Op), d.size = N → m ≤ N + 1 → Ev (fun k => sort_heapSort_func.l0 k x1 a b ((m : Int) - 1) d.toList) (Sort.heapPop ltO a (b - a) (Sort.heapBuild ltO (b - a) a m d)).toList := by
  intro m
  have e2 : IntKind.i64.wrap ((b : Int) - (a : Int)) = ((b - a : Nat) : Int) := ws2 (by omega) hab
  induction m with
  | zero =>
    intro d hd hm
    rw [Sort.heapBuild]
    refine Ev.succ (fun k => ?_) (heap_pop hx hN a (b - a) d hd (by omega))
    rw [sort_heapSort_func.l0, if_neg (by omega), e2, wr (n := ((b - a : Nat) : Int) - 1) (by omega) (by omega)]
  | succ m ih =>
    intro d hd hm
    rw [Sort.heapBuild]
    have e1 : (((m + 1 : Nat) : Int) - 1) = (m : Int) := by omega
    refine Ev.succ (fun k => ?_) (Ev.bind (sift_f d (by omega) (b - a) a m (by omega) (by omega)) (ih _ ?_ (by omega)))
    · rw [sort_heapSort_func.l0, e1, if_pos (by omega), e2, wr (n := (m : Int) - 1) (by omega) (by omega)]
    · rw [sift_size ltO (b - a) a (b - a + 1) m _ (by omega)]; exact hd
theorem heap_val (d : Array Sy.Op) (hN : d.size ≤ 1000) (a b : Nat) (hab : a < b) (hb : b ≤ d.size) : Ev (fun k => sort_heapSort_func.f k d.toList a b) (Sort.heapSort ltO d a b).toList := by
  have e2 : IntKind.i64.wrap ((b : Int) - (a : Int)) = ((b - a : Nat) : Int) := ws2 (by omega) (by omega)
  refine Ev.of (fun k => ?_) (heap_build (x1 := d.toList) (N := d.size) (by simp) hN a b (by omega) hb ((b - a - 1) / 2 + 1) d rfl (by omega))
  rw [sort_heapSort_func.f, e2, wr (n := ((b - a : Nat) : Int) - 1) (by omega) (by omega)]
  have e3 : Int.tdiv (((b - a : Nat) : Int) - 1) 2 = ((((b - a - 1) / 2 + 1 : Nat) : Int) - 1) := by
    rw [Int.tdiv_eq_ediv_of_nonneg (by omega)]; omega
  rw [e3, wr (by omega) (by omega)]
/-! ### reverseRange -/
theorem rev_val (hx : x1.length = N) (hN : N ≤ 1000) : ∀ (m i j : Nat) (d : Array Sy.Op), d.size = N → j - i ≤ m → i ≤ N → j < N → Ev (fun k => sort_reverseRange_func.l0 k x1 i j d.toList) (Sort.reverseLoop i j d).toList := by
  intro m
  induction m with
  | zero =>
    intro i j d hd hm hi hj
    rw [Sort.reverseLoop, if_neg (by omega)]
    refine Ev.succ (fun k => ?_) (Ev.ret _)
    rw [sort_reverseRange_func.l0, if_neg (by omega)]
  | succ m ih =>
    intro i j d hd hm hi hj
    rw [Sort.reverseLoop]
    by_cases h : i < j
    · rw [if_pos h]
      have e1 : IntKind.i64.wrap ((j : Int) - 1) = ((j - 1 : Nat) : Int) := by rw [wr (by omega) (by omega)]; omega
      refine Ev.succ (fun k => ?_) (ih (i + 1) (j - 1) _ (by rw [sw_size]; exact hd) (by omega) (by omega) (by omega))
      rw [sort_reverseRange_func.l0, if_pos (by omega), if_pos (by omega), if_pos (by omega), if_pos (by omega), if_pos (by omega), wi (by omega), e1, sw_val d (by omega) (by omega)]
    · rw [if_neg h]
      refine Ev.succ (fun k => ?_) (Ev.ret _)
      rw [sort_reverseRange_func.l0, if_neg (by omega)]
theorem rev_f (d : Array Sy.Op) (hN : d.size ≤ 1000) (a b : Nat) (hab : a < b) (hb : b ≤ d.size) : Ev (fun k => sort_reverseRange_func.f k d.toList a b) (Sort.reverseRange d a b).toList := by
  have e1 : IntKind.i64.wrap ((b : Int) - 1) = ((b - 1 : Nat) : Int) := by rw [wr (by omega) (by omega)]; omega
  refine Ev.of (fun k => ?_) (rev_val (x1 := d.toList) (N := d.size) (by simp) hN (b + 1) a (b - 1) d rfl (by omega) (by omega) (by omega))
  rw [sort_reverseRange_func.f, e1]
end
end Go.Proofs.Ytminnekeekhjcaa
