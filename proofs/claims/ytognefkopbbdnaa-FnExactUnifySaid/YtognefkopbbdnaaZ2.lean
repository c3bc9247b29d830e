import Derived.Test.YtognefkopbbdnaaZ1
namespace Go.Sy
open Go.Sx
set_option linter.unusedVariables false
set_option linter.unusedSimpArgs false
/-! ### trees and their cells -/
mutual
def flat : Tm → List Cell
  | .mk k n s us => ⟨k, n, s⟩ :: flats us
def flats : List Tm → List Cell
  | [] => []
  | t :: ts => flat t ++ flats ts
end
/-- a cell that may stand in a term -/
def Okc (c : Cell) : Prop := (c.kind = 0 ∧ 0 ≤ c.n ∧ c.n ≤ 1000000 ∧ c.text = []) ∨ (c.kind = 1 ∧ -1000000000000000 ≤ c.n ∧ c.n ≤ 1000000000000000 ∧ c.text = []) ∨ (c.kind = 2 ∧ c.n = 0 ∧ c.text.length ≤ 100) ∨ (c.kind = 3 ∧ 1 ≤ c.n ∧ c.n ≤ 20 ∧ c.text.length ≤ 100)
mutual
def Wf : Tm → Prop
  | .mk k n s us => Okc ⟨k, n, s⟩ ∧ (k = 3 → (us.length : Int) = n) ∧ (k ≠ 3 → us = []) ∧ Wfs us
def Wfs : List Tm → Prop
  | [] => True
  | t :: ts => Wf t ∧ Wfs ts
end
theorem Wfs_append : ∀ (a b : List Tm), Wfs (a ++ b) ↔ Wfs a ∧ Wfs b
  | [], b => by simp [Wfs]
  | t :: a, b => by simp [Wfs, Wfs_append a b, and_assoc]
theorem flats_append : ∀ (a b : List Tm), flats (a ++ b) = flats a ++ flats b
  | [], b => by simp [flats]
  | t :: a, b => by simp [flats, flats_append a b, List.append_assoc]
theorem flat_pos : ∀ t : Tm, 1 ≤ (flat t).length
  | .mk k n s us => by simp [flat]
theorem drop1 (c : Cell) (l : List Cell) : (c :: l).drop (1 : Int).toNat = l := rfl
theorem Okc.text {c : Cell} (h : Okc c) : c.text.length ≤ 100 := by
  rcases h with ⟨_, _, _, h⟩ | ⟨_, _, _, h⟩ | ⟨_, _, h⟩ | ⟨_, _, _, h⟩ <;> first | exact h | (rw [h]; simp)
theorem Okc.n3 {c : Cell} (h : Okc c) (h3 : c.kind = 3) : 1 ≤ c.n ∧ c.n ≤ 20 := by
  rcases h with ⟨h, _⟩ | ⟨h, _⟩ | ⟨h, _⟩ | ⟨_, h, h', _⟩ <;> first | omega | exact ⟨h, h'⟩
theorem flats_len : ∀ us : List Tm, us.length ≤ (flats us).length
  | [] => by simp
  | t :: us => by
    have := flats_len us
    have := flat_pos t
    simp [flats]; omega
mutual
theorem flat_ok : ∀ t : Tm, Wf t → ∀ c, c ∈ flat t → Okc c
  | .mk k n s us, hw, c, hc => by
    simp only [Wf] at hw
    simp only [flat] at hc
    rcases List.mem_cons.1 hc with rfl | hc
    · exact hw.1
    · exact flats_ok us hw.2.2.2 c hc
theorem flats_ok : ∀ us : List Tm, Wfs us → ∀ c, c ∈ flats us → Okc c
  | [], _, c, hc => by simp [flats] at hc
  | t :: us, hw, c, hc => by
    simp only [Wfs] at hw
    simp only [flats] at hc
    rcases List.mem_append.1 hc with hc | hc
    · exact flat_ok t hw.1 c hc
    · exact flats_ok us hw.2 c hc
end
def wCells (xs : List Cell) : Nat := xs.length + wts (fun x => x.text.length) xs
def wCellss (xs : List (List Cell)) : Nat := xs.length + wts wCells xs
theorem wts_app {α : Type} (w : α → Nat) (xs ys : List α) : wts w (xs ++ ys) = wts w xs + wts w ys := by simp [wts]
theorem wts_bound {α : Type} (w : α → Nat) {xs : List α} {n : Nat} (h : ∀ x, x ∈ xs → w x ≤ n) : wts w xs ≤ xs.length * n := by
  induction xs with
  | nil => simp [wts]
  | cons x xs ih =>
    rw [wts_cons]
    have := ih fun y hy => h y (.tail _ hy)
    have := h x (.head _)
    rw [List.length_cons, Nat.add_mul]; omega
theorem wCells_app (xs ys : List Cell) : wCells (xs ++ ys) = wCells xs + wCells ys := by unfold wCells; rw [wts_app, List.length_append]; omega
theorem wCells_ok {xs : List Cell} (h : ∀ c, c ∈ xs → Okc c) : wCells xs ≤ 101 * xs.length := by
  have := wts_bound (fun x : Cell => x.text.length) (n := 100) (xs := xs) fun c hc => (h c hc).text
  unfold wCells; omega
theorem wts2 (xs : List Cell) : wts (fun x : Cell => 2 + x.text.length) xs ≤ 2 * wCells xs := by
  induction xs with
  | nil => simp [wts]
  | cons x xs ih => unfold wCells at *; rw [wts_cons, wts_cons, List.length_cons]; omega
theorem mget_mset {κ α : Type} [DecidableEq κ] (m : List (κ × α)) (k j : κ) (x : α) : mget (mset m k x) j = if j = k then some x else mget m j := by
  induction m with
  | nil =>
    by_cases h : j = k
    · subst h; simp [mset, mget]
    · have : ¬ k = j := fun e => h e.symm
      simp [mset, mget, h, this]
  | cons p m ih =>
    unfold mset
    by_cases h : p.1 = k
    · rw [if_pos h]
      unfold mget
      by_cases h2 : j = k
      · subst h2; simp
      · have : ¬ k = j := fun e => h2 e.symm
        have h3 : ¬ p.1 = j := fun e => h2 (e ▸ h)
        simp [h2, this, h3]
    · rw [if_neg h]
      unfold mget
      by_cases h2 : p.1 = j
      · have : ¬ j = k := fun e => h (h2.trans e)
        simp [h2, this]
      · rw [if_neg h2, if_neg h2, ih]
/-! ### marks and what is held -/
inductive HL {α : Type} (P : Int → Int → α → Prop) : Int → Int → List α → Prop
  | nil (n : Int) : HL P n n []
  | cons {n m l : Int} {x : α} {xs : List α} : P n m x → HL P m l xs → HL P n l (x :: xs)
theorem HL.append {α : Type} {P : Int → Int → α → Prop} {n m : Int} {xs : List α} (h : HL P n m xs) {l : Int} {ys : List α} (h2 : HL P m l ys) : HL P n l (xs ++ ys) := by
  induction h with
  | nil => exact h2
  | cons p _ ih => exact .cons p (ih h2)
theorem HL.le {α : Type} {P : Int → Int → α → Prop} (hp : ∀ n m x, P n m x → n ≤ m) {n m : Int} {xs : List α} (h : HL P n m xs) : n ≤ m := by
  induction h with
  | nil => exact Int.le_refl _
  | cons p _ ih => exact Int.le_trans (hp _ _ _ p) ih
section
variable {α : Type} {xs : List α} {B : Nat} {z : α} {w : α → Nat} {P : Int → Int → α → Prop}
theorem markL {U : Int} (l0 : Nat → Int → Int → List α → Option (Int × List α)) (step : Nat → α → Int → Option (Int × α))
    (h : ∀ k n (i : Nat) ys, i < ys.length → ys.length = xs.length → l0 (k + 1) n (i : Int) ys = (step k (ys.getD i z) n).bind fun t => l0 k t.1 (IntKind.i64.wrap ((i : Int) + 1)) (ys.set i t.2))
    (he : ∀ k n ys, l0 (k + 1) n (xs.length : Int) ys = some (n, ys)) (hl : xs.length < 9223372036854775807)
    (hel : ∀ x, x ∈ xs → ∀ k, B ≤ k → ∀ n, 0 ≤ n → n + (w x : Int) ≤ U → ∃ y, step k x n = some (n + (w x : Int), y) ∧ P n (n + (w x : Int)) y)
    (k : Nat) (hk : B + xs.length < k) (n : Int) (h0 : 0 ≤ n) (hn : n + (wts w xs : Int) ≤ U) :
    ∃ ys, l0 k n 0 xs = some (n + (wts w xs : Int), ys) ∧ ys.length = xs.length ∧ HL P n (n + (wts w xs : Int)) ys := by
  have key : ∀ (m k i : Nat) (n a : Int) (ys : List α), xs.length - i = m → i ≤ xs.length → B + m < k → 0 ≤ n → n + (wts w (xs.drop i) : Int) ≤ U → ys.length = i → HL P a n ys →
      ∃ zs, l0 k n (i : Int) (ys ++ xs.drop i) = some (n + (wts w (xs.drop i) : Int), zs) ∧ zs.length = xs.length ∧ HL P a (n + (wts w (xs.drop i) : Int)) zs := by
    intro m
    induction m with
    | zero =>
      intro k i n a ys h1 h2 h3 h4 h5 h6 h7
      obtain ⟨k, rfl⟩ : ∃ q, k = q + 1 := ⟨k - 1, by omega⟩
      have hi : i = xs.length := by omega
      rw [hi] at h6 h5 ⊢
      rw [he, List.drop_length, List.append_nil]
      refine ⟨ys, by simp [wts], h6, by simpa [wts] using h7⟩
    | succ m ih =>
      intro k i n a ys h1 h2 h3 h4 h5 h6 h7
      obtain ⟨k, rfl⟩ : ∃ q, k = q + 1 := ⟨k - 1, by omega⟩
      have hi : i < xs.length := by omega
      rw [List.drop_eq_getElem_cons hi, wts_cons] at h5 ⊢
      have hg : (ys ++ xs[i] :: xs.drop (i + 1)).getD i z = xs[i] := by
        rw [List.getD_eq_getElem?_getD, List.getElem?_append_right (by omega), h6, Nat.sub_self]; rfl
      obtain ⟨y, e1, e2⟩ := hel xs[i] (List.getElem_mem hi) k (by omega) n h4 (by push_cast at h5; omega)
      rw [h _ _ _ _ (by simp; omega) (by simp; omega), hg, e1, Option.bind_some, wrap_nat (by omega)]
      have hs : (ys ++ xs[i] :: xs.drop (i + 1)).set i y = (ys ++ [y]) ++ xs.drop (i + 1) := by
        rw [List.set_append_right _ _ (by omega), h6, Nat.sub_self, List.set_cons_zero, List.append_assoc]; rfl
      rw [hs]
      obtain ⟨zs, f1, f2, f3⟩ := ih k (i + 1) (n + (w xs[i] : Int)) a (ys ++ [y]) (by omega) (by omega) (by omega) (by omega) (by push_cast at h5; omega) (by simp [h6]) (h7.append (.cons e2 (.nil _)))
      have e : n + ((w xs[i] + wts w (xs.drop (i + 1)) : Nat) : Int) = n + (w xs[i] : Int) + (wts w (xs.drop (i + 1)) : Int) := by push_cast; omega
      rw [e]
      exact ⟨zs, f1, f2, f3⟩
  have := key xs.length k 0 n n [] rfl (by omega) hk h0 hn rfl (.nil _)
  simpa using this
theorem heldL {m : Int} (l0 : Nat → Int → Int → Option Int) (el : Nat → α → Int → Option Int)
    (h : ∀ k n i, l0 (k + 1) n i = (if i < (xs.length : Int) then (if 0 ≤ i then ((el k (xs.getD i.toNat z) n).bind fun t => (if t < 0 then some (-1) else l0 k t (IntKind.i64.wrap (i + 1)))) else none) else some n))
    (hl : xs.length < 9223372036854775807) (hel : ∀ n m x, x ∈ xs → P n m x → 0 ≤ n → ∀ k, B ≤ k → el k x n = some m ∧ n ≤ m) (k : Nat) (hk : B + xs.length < k) (n : Int) (h0 : 0 ≤ n) (hh : HL P n m xs) : l0 k n 0 = some m ∧ n ≤ m := by
  have key : ∀ (q k i : Nat) (n : Int), xs.length - i = q → i ≤ xs.length → B + q < k → 0 ≤ n → HL P n m (xs.drop i) → l0 k n (i : Int) = some m ∧ n ≤ m := by
    intro q
    induction q with
    | zero =>
      intro k i n h1 h2 h3 h4 h5
      obtain ⟨k, rfl⟩ : ∃ q, k = q + 1 := ⟨k - 1, by omega⟩
      rw [List.drop_of_length_le (by omega)] at h5
      cases h5
      rw [h, if_neg (by omega)]
      exact ⟨rfl, Int.le_refl _⟩
    | succ q ih =>
      intro k i n h1 h2 h3 h4 h5
      obtain ⟨k, rfl⟩ : ∃ q, k = q + 1 := ⟨k - 1, by omega⟩
      have hi : i < xs.length := by omega
      rw [List.drop_eq_getElem_cons hi] at h5
      cases h5 with
      | cons p hr =>
        rename_i l
        obtain ⟨e1, e2⟩ := hel _ _ _ (List.getElem_mem hi) p h4 k (by omega)
        rw [h, if_pos (by omega), if_pos (by omega), Int.toNat_natCast, getD_at hi, e1, Option.bind_some, if_neg (by omega), wrap_nat (by omega)]
        obtain ⟨f1, f2⟩ := ih k (i + 1) l (by omega) (by omega) (by omega) (by omega) hr
        exact ⟨f1, by omega⟩
  exact key xs.length k 0 n rfl (by omega) hk h0 hh
end
end Go.Sy
