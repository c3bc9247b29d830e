import Derived.Test.YtdkbfcmekppnmaaDoorZ2
namespace Go.Sy
open Go.Sx
set_option linter.unusedVariables false
set_option linter.unusedSimpArgs false
/-! ### what leads where: heights -/
/-- no way out of a is longer than n -/
inductive Hb (S : Nat → List Nat) : Nat → Nat → Prop
  | mk {n a : Nat} : (∀ b, b ∈ S a → Hb S n b) → Hb S (n + 1) a
theorem Hb.mono {S : Nat → List Nat} {n a : Nat} (h : Hb S n a) : ∀ {m : Nat}, n ≤ m → Hb S m a := by
  induction h with
  | mk _ ih =>
    intro m hm
    obtain ⟨m, rfl⟩ : ∃ q, m = q + 1 := ⟨m - 1, by omega⟩
    exact .mk fun b hb => ih b hb (by omega)
theorem Hb.next {S : Nat → List Nat} {n a b : Nat} (h : Hb S n a) (hb : b ∈ S a) : ∃ m, n = m + 1 ∧ Hb S m b := by
  cases h with
  | mk h => exact ⟨_, rfl, h b hb⟩
theorem Hb.down {S : Nat → List Nat} {n a b : Nat} (h : Hb S (n + 1) a) (hb : b ∈ S a) : Hb S n b := by
  obtain ⟨m, e, h⟩ := h.next hb
  rw [show n = m by omega]; exact h
/-- no way out of a is endless -/
inductive Ac (S : Nat → List Nat) : Nat → Prop
  | mk {a : Nat} : (∀ b, b ∈ S a → Ac S b) → Ac S a
theorem hb_all {S : Nat → List Nat} : ∀ (l : List Nat), (∀ b, b ∈ l → ∃ n, Hb S n b) → ∃ n, ∀ b, b ∈ l → Hb S n b
  | [], _ => ⟨0, fun b hb => by cases hb⟩
  | x :: l, h => by
    obtain ⟨n, hn⟩ := hb_all l fun b hb => h b (.tail _ hb)
    obtain ⟨m, hm⟩ := h x (.head _)
    refine ⟨n + m, fun b hb => ?_⟩
    rcases List.mem_cons.1 hb with rfl | hb
    · exact hm.mono (by omega)
    · exact (hn b hb).mono (by omega)
theorem Ac.hb {S : Nat → List Nat} {a : Nat} (h : Ac S a) : ∃ n, Hb S n a := by
  induction h with
  | mk _ ih =>
    obtain ⟨n, hn⟩ := hb_all _ ih
    exact ⟨n + 1, .mk hn⟩
theorem Hb.ac {S : Nat → List Nat} {n a : Nat} (h : Hb S n a) : Ac S a := by
  induction h with
  | mk _ ih => exact .mk ih
theorem Ac.least {S : Nat → List Nat} {a : Nat} (h : Ac S a) : ∃ n, Hb S n a ∧ ∀ m, Hb S m a → n ≤ m := by
  obtain ⟨n, hn⟩ := h.hb
  induction n using Nat.strongRecOn with
  | _ n ih =>
    by_cases hm : ∃ m, m < n ∧ Hb S m a
    · obtain ⟨m, h1, h2⟩ := hm
      exact ih m h1 h2
    · exact ⟨n, hn, fun m h2 => Nat.le_of_not_lt fun h1 => hm ⟨m, h1, h2⟩⟩
open Classical in
noncomputable def rk (S : Nat → List Nat) (a : Nat) : Nat := if h : Ac S a then h.least.choose else 0
theorem rk_spec {S : Nat → List Nat} {a : Nat} (h : Ac S a) : Hb S (rk S a) a ∧ ∀ m, Hb S m a → rk S a ≤ m := by
  unfold rk
  rw [dif_pos h]
  exact h.least.choose_spec
theorem rk_lt {S : Nat → List Nat} {a b : Nat} (h : Ac S a) (hb : b ∈ S a) : rk S b < rk S a := by
  obtain ⟨m, e, h2⟩ := (rk_spec h).1.next hb
  have := (rk_spec h2.ac).2 m h2
  omega
/-! ### colours -/
section
variable {α : Type} [DecidableEq α] {z : α}
/-- how many are white -/
def white (z : α) (ms : List α) : Nat := ms.countP (fun x => decide (x = z))
theorem white_set {ms : List α} {i : Nat} (h : i < ms.length) (h0 : ms[i] = z) {x : α} (hx : x ≠ z) : white z (ms.set i x) + 1 = white z ms := by
  induction ms generalizing i with
  | nil => cases h
  | cons y ms ih =>
    cases i with
    | zero =>
      simp only [List.getElem_cons_zero] at h0
      simp [white, hx, h0]
    | succ i =>
      simp only [List.getElem_cons_succ] at h0
      have := ih (by simpa using h) h0
      simp only [white, List.set_cons_succ, List.countP_cons] at this ⊢
      omega
theorem white_set2 {ms : List α} {i : Nat} (h : i < ms.length) (h0 : ms[i] ≠ z) {x : α} (hx : x ≠ z) : white z (ms.set i x) = white z ms := by
  induction ms generalizing i with
  | nil => cases h
  | cons y ms ih =>
    cases i with
    | zero =>
      simp only [List.getElem_cons_zero] at h0
      simp [white, hx, h0]
    | succ i =>
      simp only [List.getElem_cons_succ] at h0
      have := ih (by simpa using h) h0
      simp only [white, List.set_cons_succ, List.countP_cons] at this ⊢
      omega
theorem white_le (ms : List α) : white z ms ≤ ms.length := List.countP_le_length
end
/-! ### stores -/
def c0 : Cell := ⟨0, 0, []⟩
def kd (cs : List Cell) (i : Nat) : Int := (cs.getD i c0).kind
def nn (cs : List Cell) (i : Nat) : Int := (cs.getD i c0).n
def Okw (cs : List Cell) (c : Cell) : Prop := (c.kind = 2 ∧ c.n = 0 ∧ c.text.length ≤ 100) ∨ (c.kind = 1 ∧ -1000000000000000 ≤ c.n ∧ c.n ≤ 1000000000000000 ∧ c.text.length = 0) ∨ (c.kind = 0 ∧ c.text.length = 0 ∧ 0 ≤ c.n ∧ c.n < (cs.length : Int) ∧ kd cs c.n.toNat ≠ 3) ∨ (c.kind = 4 ∧ c.text.length = 0 ∧ 0 ≤ c.n ∧ c.n < (cs.length : Int) ∧ kd cs c.n.toNat = 3)
instance (cs : List Cell) (c : Cell) : Decidable (Okw cs c) := by unfold Okw; infer_instance
def Okf (c : Cell) : Prop := 1 ≤ c.n ∧ c.n ≤ 20 ∧ c.text.length ≤ 100
instance (c : Cell) : Decidable (Okf c) := by unfold Okf; infer_instance
def shp (cs : List Cell) : List Cell → Nat → Bool
  | [], b => decide (b = 0)
  | c :: r, b => if c.kind = 3 then decide (b = 0) && decide (Okf c) && shp cs r c.n.toNat else decide (Okw cs c) && shp cs r (b - 1)
theorem shp_len (cs : List Cell) : ∀ (r : List Cell) (b : Nat), shp cs r b = true → b ≤ r.length
  | [], b, h => by simp [shp] at h; omega
  | c :: r, b, h => by
    rw [shp] at h
    split at h
    · simp only [Bool.and_eq_true, decide_eq_true_eq] at h; omega
    · simp only [Bool.and_eq_true] at h
      have := shp_len cs r (b - 1) h.2
      rw [List.length_cons]; omega
/-- what the shape says of a part that begins at i -/
theorem shp_at (cs : List Cell) : ∀ (r : List Cell) (b i : Nat), cs.drop i = r → shp cs r b = true → (∀ j, j < b → kd cs (i + j) ≠ 3) ∧ ∀ j, j < r.length → (kd cs (i + j) ≠ 3 → Okw cs (cs.getD (i + j) c0)) ∧ (kd cs (i + j) = 3 → Okf (cs.getD (i + j) c0) ∧ (i + j : Int) + nn cs (i + j) < (cs.length : Int) ∧ ∀ l : Nat, 1 ≤ l → (l : Int) ≤ nn cs (i + j) → kd cs (i + j + l) ≠ 3)
  | [], b, i, _, h => by
    simp [shp] at h
    exact ⟨fun j hj => by omega, fun j hj => by simp at hj⟩
  | c :: r, b, i, hd, h => by
    have hi : i < cs.length := by
      rcases Nat.lt_or_ge i cs.length with q | q
      · exact q
      · rw [List.drop_of_length_le q] at hd; cases hd
    have hd2 := hd
    rw [List.drop_eq_getElem_cons hi] at hd2
    obtain ⟨e1, e2⟩ := List.cons.inj hd2
    have hc : cs.getD i c0 = c := by rw [getD_at hi, e1]
    have hlen : r.length + 1 + i = cs.length := by have := congrArg List.length hd; rw [List.length_drop, List.length_cons] at this; omega
    rw [shp] at h
    by_cases h3 : c.kind = 3
    · rw [if_pos h3] at h
      simp only [Bool.and_eq_true, decide_eq_true_eq] at h
      obtain ⟨⟨hb, hf⟩, hs⟩ := h
      obtain ⟨p1, p2⟩ := shp_at cs r c.n.toNat (i + 1) e2 hs
      have hl := shp_len cs r c.n.toNat hs
      refine ⟨fun j hj => by omega, fun j hj => ?_⟩
      cases j with
      | zero =>
        have hk : kd cs (i + 0) = 3 := by unfold kd; rw [Nat.add_zero, hc, h3]
        refine ⟨fun q => absurd hk q, fun _ => ⟨by rw [Nat.add_zero, hc]; exact hf, ?_, fun l l1 l2 => ?_⟩⟩
        · unfold nn; rw [Nat.add_zero, hc]; have := hf.1; simp; omega
        · have : nn cs (i + 0) = c.n := by unfold nn; rw [Nat.add_zero, hc]
          rw [this] at l2
          have := p1 (l - 1) (by omega)
          rw [show i + 0 + l = i + 1 + (l - 1) by omega]; exact this
      | succ j =>
        have := p2 j (by simpa using hj)
        rw [show i + (j + 1) = i + 1 + j by omega]
        refine ⟨this.1, fun q => ?_⟩
        have := this.2 q
        exact ⟨this.1, by omega, this.2.2⟩
    · rw [if_neg h3] at h
      simp only [Bool.and_eq_true, decide_eq_true_eq] at h
      obtain ⟨hw, hs⟩ := h
      obtain ⟨p1, p2⟩ := shp_at cs r (b - 1) (i + 1) e2 hs
      have hk : kd cs i ≠ 3 := by unfold kd; rw [hc]; exact h3
      refine ⟨fun j hj => ?_, fun j hj => ?_⟩
      · cases j with
        | zero => exact hk
        | succ j =>
          have := p1 j (by omega)
          rw [show i + (j + 1) = i + 1 + j by omega]; exact this
      · cases j with
        | zero => exact ⟨fun _ => by rw [Nat.add_zero, hc]; exact hw, fun q => absurd q hk⟩
        | succ j =>
          have := p2 j (by simpa using hj)
          rw [show i + (j + 1) = i + 1 + j by omega]
          refine ⟨this.1, fun q => ?_⟩
          have := this.2 q
          exact ⟨this.1, by omega, this.2.2⟩
structure Goodc (cs : List Cell) : Prop where
  w : ∀ i, i < cs.length → kd cs i ≠ 3 → Okw cs (cs.getD i c0)
  f : ∀ i, i < cs.length → kd cs i = 3 → Okf (cs.getD i c0) ∧ (i : Int) + nn cs i < (cs.length : Int) ∧ ∀ l : Nat, 1 ≤ l → (l : Int) ≤ nn cs i → kd cs (i + l) ≠ 3
theorem good_of {cs : List Cell} (h : shp cs cs 0 = true) : Goodc cs := by
  have p := (shp_at cs cs 0 0 rfl h).2
  refine ⟨fun i hi hk => ?_, fun i hi hk => ?_⟩
  · have := (p i hi).1
    rw [Nat.zero_add] at this
    exact this hk
  · have := (p i hi).2
    rw [Nat.zero_add] at this
    have := this hk
    exact ⟨this.1, by omega, this.2.2⟩
/-- the words to which a word leads -/
def sI (cs : List Cell) (a : Nat) : List Nat := if kd cs a = 0 ∧ nn cs a ≠ (a : Int) then [(nn cs a).toNat] else if kd cs a = 4 then (List.range (nn cs (nn cs a).toNat).toNat).map (fun k => (nn cs a).toNat + 1 + k) else []
def tgs (cs : List Cell) (w : Cell) : List Nat := if w.kind = 0 then (if kd cs w.n.toNat = 0 ∧ nn cs w.n.toNat = w.n then [] else [w.n.toNat]) else if w.kind = 4 then [w.n.toNat] else []
def wds (cs : List Cell) (t : Nat) : List Cell := if kd cs t = 3 then (List.range (nn cs t).toNat).map (fun j => cs.getD (t + 1 + j) c0) else [cs.getD t c0]
def sS (cs : List Cell) (t : Nat) : List Nat := (wds cs t).flatMap (tgs cs)
theorem Goodc.next {cs : List Cell} (g : Goodc cs) {a b : Nat} (ha : a < cs.length) (hk : kd cs a ≠ 3) (hb : b ∈ sI cs a) : b < cs.length ∧ kd cs b ≠ 3 := by
  have hw := g.w a ha hk
  have e1 : (cs.getD a c0).kind = kd cs a := rfl
  have e2 : (cs.getD a c0).n = nn cs a := rfl
  unfold Okw at hw
  rw [e1, e2] at hw
  unfold sI at hb
  split at hb
  · rename_i h
    rw [List.mem_singleton] at hb
    subst hb
    rcases hw with q | q | q | q
    · omega
    · omega
    · exact ⟨by omega, q.2.2.2.2⟩
    · omega
  · split at hb
    · rename_i h
      obtain ⟨k, hk1, rfl⟩ := List.mem_map.1 hb
      rw [List.mem_range] at hk1
      rcases hw with q | q | q | q
      · omega
      · omega
      · omega
      · obtain ⟨_, f2, f3⟩ := g.f (nn cs a).toNat (by omega) q.2.2.2.2
        have := f3 (1 + k) (by omega) (by omega)
        rw [← Nat.add_assoc] at this
        exact ⟨by omega, this⟩
    · cases hb
theorem Goodc.len {cs : List Cell} (g : Goodc cs) {a : Nat} (ha : a < cs.length) (hk : kd cs a ≠ 3) : (sI cs a).length ≤ 20 := by
  have hw := g.w a ha hk
  have e1 : (cs.getD a c0).kind = kd cs a := rfl
  have e2 : (cs.getD a c0).n = nn cs a := rfl
  unfold Okw at hw
  rw [e1, e2] at hw
  unfold sI
  split
  · simp
  · split
    · rename_i h
      rcases hw with q | q | q | q
      · omega
      · omega
      · omega
      · obtain ⟨f1, _, _⟩ := g.f (nn cs a).toNat (by omega) q.2.2.2.2
        have : nn cs (nn cs a).toNat ≤ 20 := f1.2.1
        simp; omega
    · simp
theorem mem_wds {cs : List Cell} {t : Nat} {b : Nat} (h : kd cs t = 3) (h1 : t < b) (h2 : (b : Int) ≤ t + nn cs t) : cs.getD b c0 ∈ wds cs t := by
  unfold wds
  rw [if_pos h]
  exact List.mem_map.2 ⟨b - t - 1, by rw [List.mem_range]; omega, by rw [show t + 1 + (b - t - 1) = b by omega]⟩
/-- what leads to nothing -/
theorem ac_base {cs : List Cell} (g : Goodc cs) {a : Nat} (ha : a < cs.length) (hk : kd cs a ≠ 3) (h : tgs cs (cs.getD a c0) = []) : Ac (sI cs) a := by
  have hw := g.w a ha hk
  have e1 : (cs.getD a c0).kind = kd cs a := rfl
  have e2 : (cs.getD a c0).n = nn cs a := rfl
  unfold tgs at h
  unfold Okw at hw
  rw [e1, e2] at hw h
  refine .mk fun b hb => ?_
  unfold sI at hb
  split at hb
  · rename_i q
    rw [List.mem_singleton] at hb
    subst hb
    rw [if_pos q.1] at h
    split at h
    · rename_i q2
      refine .mk fun c hc => ?_
      unfold sI at hc
      rw [if_neg (by omega), if_neg (by omega)] at hc
      cases hc
    · cases h
  · split at hb
    · rename_i q
      rw [if_neg (by omega), if_pos q] at h
      cases h
    · cases hb
theorem ac_S_I {cs : List Cell} (g : Goodc cs) {t : Nat} (h : Ac (sS cs) t) : ∀ a, a < cs.length → kd cs a ≠ 3 → t ∈ tgs cs (cs.getD a c0) → Ac (sI cs) a := by
  induction h with
  | @mk t h ih =>
    intro a ha hk hm
    have hw := g.w a ha hk
    have e1 : (cs.getD a c0).kind = kd cs a := rfl
    have e2 : (cs.getD a c0).n = nn cs a := rfl
    unfold tgs at hm
    unfold Okw at hw
    rw [e1, e2] at hw hm
    have step : ∀ b, b < cs.length → kd cs b ≠ 3 → cs.getD b c0 ∈ wds cs t → Ac (sI cs) b := fun b hb hbk hbw => by
      cases hq : tgs cs (cs.getD b c0) with
      | nil => exact ac_base g hb hbk hq
      | cons x l =>
        have hx : x ∈ tgs cs (cs.getD b c0) := by rw [hq]; exact .head _
        exact ih x (List.mem_flatMap.2 ⟨_, hbw, hx⟩) b hb hbk hx
    refine .mk fun b hb => ?_
    obtain ⟨b1, b2⟩ := g.next ha hk hb
    refine step b b1 b2 ?_
    unfold sI at hb
    split at hb
    · rename_i q
      rw [List.mem_singleton] at hb
      rw [if_pos q.1] at hm
      split at hm
      · cases hm
      · rw [List.mem_singleton] at hm
        rw [hb, ← hm]
        have : kd cs t ≠ 3 := by rw [hm, ← hb]; exact b2
        unfold wds
        rw [if_neg this]
        exact .head _
    · split at hb
      · rename_i q
        rw [if_neg (by omega), if_pos q, List.mem_singleton] at hm
        obtain ⟨k, hk1, rfl⟩ := List.mem_map.1 hb
        rw [List.mem_range] at hk1
        have h3 : kd cs t = 3 := by
          rcases hw with q | q | q | q
          · omega
          · omega
          · omega
          · rw [hm]; exact q.2.2.2.2
        rw [← hm] at hk1 ⊢
        exact mem_wds h3 (by omega) (by omega)
      · cases hb
theorem ac_I_S {cs : List Cell} (g : Goodc cs) {a : Nat} (h : Ac (sI cs) a) : a < cs.length → kd cs a ≠ 3 → ∀ t, t ∈ tgs cs (cs.getD a c0) → Ac (sS cs) t := by
  induction h with
  | @mk a h ih =>
    intro ha hk t hm
    have hw := g.w a ha hk
    have e1 : (cs.getD a c0).kind = kd cs a := rfl
    have e2 : (cs.getD a c0).n = nn cs a := rfl
    unfold tgs at hm
    unfold Okw at hw
    rw [e1, e2] at hw hm
    refine .mk fun u hu => ?_
    obtain ⟨w, hw1, hw2⟩ := List.mem_flatMap.1 hu
    -- w is the cell of a word to which a leads
    have : ∃ b, b ∈ sI cs a ∧ w = cs.getD b c0 := by
      split at hm
      · rename_i q
        split at hm
        · cases hm
        · rename_i q2
          rw [List.mem_singleton] at hm
          have hne : nn cs a ≠ (a : Int) := fun e => q2 (by rw [e]; simp only [Int.toNat_natCast]; exact ⟨q, e⟩)
          have h3 : kd cs t ≠ 3 := by
            rcases hw with q | q | q | q
            · omega
            · omega
            · rw [hm]; exact q.2.2.2.2
            · omega
          unfold wds at hw1
          rw [if_neg h3, List.mem_singleton] at hw1
          exact ⟨t, by unfold sI; rw [if_pos ⟨q, hne⟩, hm]; exact .head _, hw1⟩
      · split at hm
        · rename_i q
          rw [List.mem_singleton] at hm
          have h3 : kd cs t = 3 := by
            rcases hw with q | q | q | q
            · omega
            · omega
            · omega
            · rw [hm]; exact q.2.2.2.2
          unfold wds at hw1
          rw [if_pos h3] at hw1
          obtain ⟨j, hj, rfl⟩ := List.mem_map.1 hw1
          refine ⟨t + 1 + j, ?_, rfl⟩
          unfold sI
          rw [if_neg (by omega), if_pos q, ← hm]
          exact List.mem_map.2 ⟨j, hj, rfl⟩
        · cases hm
    obtain ⟨b, hb, rfl⟩ := this
    obtain ⟨b1, b2⟩ := g.next ha hk hb
    exact ih b hb b1 b2 u hw2
end Go.Sy
