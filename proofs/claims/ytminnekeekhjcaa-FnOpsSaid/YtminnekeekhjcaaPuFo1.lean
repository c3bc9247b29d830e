import Derived.Test.YtminnekeekhjcaaWkFo3
import Derived.Test.YtminnekeekhjcaaPuSo4
namespace Go.Proofs.Ytminnekeekhjcaa
open Go.Sx Go.Sy
set_option linter.unusedVariables false
set_option linter.unusedSimpArgs false
set_option linter.unusedSectionVars false
set_option maxRecDepth 4000
def goodOp (o : Sy.Op) : Bool := decide (o.name ≠ [] ∧ o.name.length ≤ 100 ∧ o.name ≠ [91, 93] ∧ o.name ≠ [123, 125] ∧ o.name ≠ [124] ∧ 1 ≤ o.pri ∧ o.pri ≤ 1200 ∧ 0 ≤ o.typ ∧ o.typ ≤ 6 ∧ (o.name = [44] → o.pri = 1000 ∧ o.typ = 1))
theorem special_val (x : List UInt8) : spec_l3special.f x = some (decide (x = [91, 93] ∨ x = [123, 125] ∨ x = [124])) := by
  rw [spec_l3special.f]
  by_cases h1 : x = [91, 93]
  · simp [h1]
  · by_cases h2 : x = [123, 125]
    · simp [h2]
    · simp [h1, h2]
theorem spec_step (xs : List Sy.Op) (k i : Nat) (n : Int) (hi : i < xs.length) : spec_ValidOps.l0 (k + 1) xs n (i : Int) =
    if goodOp xs[i] then (if xs[i].name = [44] then spec_ValidOps.l1 k xs (i : Int) (IntKind.i64.wrap (n + 1)) else spec_ValidOps.l1 k xs (i : Int) n) else some false := by
  rw [spec_ValidOps.l0, if_pos (by omega), if_pos (by omega), Int.toNat_natCast, getD_at hi]
  generalize xs[i] = o
  rw [special_val, Option.bind_some]
  by_cases h1 : ((o.name.length : Int) < 1)
  · rw [if_pos h1]
    have : o.name = [] := by cases hh : o.name with
      | nil => rfl
      | cons a b => rw [hh] at h1; simp at h1; omega
    simp [goodOp, this]
  have h1' : o.name ≠ [] := by rintro hh; rw [hh] at h1; simp at h1
  rw [if_neg h1]
  by_cases h2 : ((o.name.length : Int) > 100)
  · rw [if_pos h2]; have : ¬ o.name.length ≤ 100 := by omega
    simp [goodOp, this]
  have h2' : o.name.length ≤ 100 := by omega
  rw [if_neg h2]
  by_cases h3 : o.name = [91, 93] ∨ o.name = [123, 125] ∨ o.name = [124]
  · rw [if_pos (by simpa using h3)]
    rcases h3 with h3 | h3 | h3 <;> simp [goodOp, h3]
  rw [if_neg (by simpa using h3)]
  by_cases h4 : o.pri < 1
  · rw [if_pos h4]; have : ¬ 1 ≤ o.pri := by omega
    simp [goodOp, this]
  rw [if_neg h4]
  by_cases h5 : o.pri > 1200
  · rw [if_pos h5]; have : ¬ o.pri ≤ 1200 := by omega
    simp [goodOp, this]
  rw [if_neg h5]
  by_cases h6 : o.typ < 0
  · rw [if_pos h6]; have : ¬ 0 ≤ o.typ := by omega
    simp [goodOp, this]
  rw [if_neg h6]
  by_cases h7 : o.typ > 6
  · rw [if_pos h7]; have : ¬ o.typ ≤ 6 := by omega
    simp [goodOp, this]
  rw [if_neg h7]
  simp only [not_or] at h3
  by_cases h8 : o.name = [44]
  · rw [if_pos h8]
    by_cases h9 : o.pri ≠ 1000
    · rw [if_pos h9]; simp [goodOp, h8, h9]
    rw [if_neg h9]
    by_cases h10 : o.typ ≠ 1
    · rw [if_pos h10]; simp [goodOp, h8, h10]
    rw [if_neg h10]
    have hg : goodOp o = true := by
      simp only [goodOp, decide_eq_true_eq]
      exact ⟨h1', h2', h3.1, h3.2.1, h3.2.2, by omega, by omega, by omega, by omega, fun _ => ⟨by omega, by omega⟩⟩
    rw [if_pos hg, if_pos h8]
  · rw [if_neg h8]
    have hg : goodOp o = true := by
      simp only [goodOp, decide_eq_true_eq]
      exact ⟨h1', h2', h3.1, h3.2.1, h3.2.2, by omega, by omega, by omega, by omega, fun h => absurd h h8⟩
    rw [if_pos hg, if_neg h8]
theorem impl_step (xs : List Sy.Op) (k i : Nat) (c : Bool) (hi : i < xs.length) : impl_ValidOps.l0 (k + 1) xs c (i : Int) =
    if goodOp xs[i] then (if xs[i].name = [44] then (if c then some false else impl_ValidOps.l1 k xs (i : Int) true) else impl_ValidOps.l1 k xs (i : Int) c) else some false := by
  rw [impl_ValidOps.l0, if_pos (by omega), if_pos (by omega), Int.toNat_natCast, getD_at hi]
  generalize xs[i] = o
  by_cases h1 : o.name = []
  · rw [if_pos h1]; simp [goodOp, h1]
  rw [if_neg h1]
  by_cases h2 : ((o.name.length : Int) > 100)
  · rw [if_pos h2]; have : ¬ o.name.length ≤ 100 := by omega
    simp [goodOp, this]
  have h2' : o.name.length ≤ 100 := by omega
  rw [if_neg h2]
  by_cases h31 : o.name = [91, 93]
  · rw [if_pos h31]; simp [goodOp, h31]
  rw [if_neg h31]
  by_cases h32 : o.name = [123, 125]
  · rw [if_pos h32]; simp [goodOp, h32]
  rw [if_neg h32]
  by_cases h33 : o.name = [124]
  · rw [if_pos h33]; simp [goodOp, h33]
  rw [if_neg h33]
  by_cases h4 : o.pri < 1
  · rw [if_pos h4]; have : ¬ 1 ≤ o.pri := by omega
    simp [goodOp, this]
  rw [if_neg h4]
  by_cases h5 : o.pri > 1200
  · rw [if_pos h5]; have : ¬ o.pri ≤ 1200 := by omega
    simp [goodOp, this]
  rw [if_neg h5]
  by_cases h6 : o.typ < 0
  · rw [if_pos h6]; have : ¬ 0 ≤ o.typ := by omega
    simp [goodOp, this]
  rw [if_neg h6]
  by_cases h7 : o.typ > 6
  · rw [if_pos h7]; have : ¬ o.typ ≤ 6 := by omega
    simp [goodOp, this]
  rw [if_neg h7]
  by_cases h8 : o.name = [44]
  · rw [if_pos h8]
    by_cases h9 : o.pri ≠ 1000
    · rw [if_pos h9]; simp [goodOp, h8, h9]
    by_cases h10 : o.typ ≠ 1
    · rw [if_neg h9, if_pos h10]; simp [goodOp, h8, h10]
    have hg : goodOp o = true := by
      simp only [goodOp, decide_eq_true_eq]
      exact ⟨h1, h2', h31, h32, h33, by omega, by omega, by omega, by omega, fun _ => ⟨by omega, by omega⟩⟩
    rw [if_neg h9, if_neg h10, if_pos hg, if_pos h8]
  · rw [if_neg h8]
    have hg : goodOp o = true := by
      simp only [goodOp, decide_eq_true_eq]
      exact ⟨h1, h2', h31, h32, h33, by omega, by omega, by omega, by omega, fun h => absurd h h8⟩
    rw [if_pos hg, if_neg h8]
def clash (p q : Sy.Op) : Bool := (!(Op.bytesLess p.name q.name || p.name == q.name)) || (decide (p.name = q.name) && !((p.typ = 3 || p.typ = 4) && !(q.typ = 3 || q.typ = 4)))
theorem spec_l1_step (xs : List Sy.Op) (k i : Nat) (n : Int) (hi : i < xs.length) (hm : xs.length ≤ 1048576) : spec_ValidOps.l1 (k + 1) xs (i : Int) n =
    if i = 0 ∨ clash (xs.getD (i - 1) z45) (xs.getD i z45) = false then spec_ValidOps.l0 k xs n ((i + 1 : Nat) : Int) else some false := by
  rw [spec_ValidOps.l1]
  by_cases h0 : i = 0
  · subst h0; rw [if_pos (show ((0 : Nat) : Int) = 0 from rfl), if_pos (.inl rfl), wrap_nat (by omega)]
  have hw : IntKind.i64.wrap ((i : Int) - 1) = ((i - 1 : Nat) : Int) := by rw [wrap_id (by omega) (by omega)]; omega
  rw [if_neg (by omega), hw, if_pos (by omega), if_pos (by omega), Int.toNat_natCast, Int.toNat_natCast, wrap_nat (by omega)]
  generalize xs.getD (i - 1) z45 = p
  generalize xs.getD i z45 = q
  simp only [spec_l3prefix.f, h0, false_or]
  by_cases h1 : (!(Op.bytesLess p.name q.name || p.name == q.name)) = true
  · rw [if_pos h1, if_neg (by simp only [clash, h1]; simp)]
  rw [if_neg h1]
  have h1' : (!(Op.bytesLess p.name q.name || p.name == q.name)) = false := by simpa using h1
  by_cases h2 : p.name = q.name
  · rw [if_pos h2]
    by_cases p3 : p.typ = 3 <;> by_cases p4 : p.typ = 4 <;> by_cases q3 : q.typ = 3 <;> by_cases q4 : q.typ = 4 <;> simp [clash, h1', h2, p3, p4, q3, q4]
  · rw [if_neg h2, if_pos (by simp only [clash, h1']; simp [h2])]
theorem impl_l1_step (xs : List Sy.Op) (k i : Nat) (c : Bool) (hi : i < xs.length) (hm : xs.length ≤ 1048576) : impl_ValidOps.l1 (k + 1) xs (i : Int) c =
    if i = 0 ∨ clash (xs.getD (i - 1) z45) (xs.getD i z45) = false then impl_ValidOps.l0 k xs c ((i + 1 : Nat) : Int) else some false := by
  rw [impl_ValidOps.l1]
  by_cases h0 : i = 0
  · subst h0; rw [if_neg (by omega), if_pos (.inl rfl), wrap_nat (by omega)]
  have hw : IntKind.i64.wrap ((i : Int) - 1) = ((i - 1 : Nat) : Int) := by rw [wrap_id (by omega) (by omega)]; omega
  rw [if_pos (by omega), hw, if_pos (by omega), if_pos (by omega), Int.toNat_natCast, Int.toNat_natCast, wrap_nat (by omega)]
  generalize xs.getD (i - 1) z45 = p
  generalize xs.getD i z45 = q
  simp only [impl_Op_prefix.f, h0, false_or]
  by_cases h1 : (!(Op.bytesLess p.name q.name || p.name == q.name)) = true
  · rw [if_pos h1, if_neg (by simp only [clash, h1]; simp)]
  rw [if_neg h1]
  have h1' : (!(Op.bytesLess p.name q.name || p.name == q.name)) = false := by simpa using h1
  by_cases h2 : p.name = q.name
  · rw [if_pos h2]
    by_cases p3 : p.typ = 3 <;> by_cases p4 : p.typ = 4 <;> by_cases q3 : q.typ = 3 <;> by_cases q4 : q.typ = 4 <;> simp [clash, h1', h2, p3, p4, q3, q4]
  · rw [if_neg h2, if_pos (by simp only [clash, h1']; simp [h2])]
theorem spec_false (xs : List Sy.Op) (hm : xs.length ≤ 1048576) : ∀ (m k i : Nat) (n : Int), xs.length - i = m → i ≤ xs.length → 2 * m < k → 2 ≤ n → n ≤ 2 + (i : Int) → spec_ValidOps.l0 k xs n (i : Int) = some false := by
  intro m
  induction m with
  | zero =>
    intro k i n h1 h2 h3 h4 h5
    obtain ⟨k, rfl⟩ : ∃ q, k = q + 1 := ⟨k - 1, by omega⟩
    rw [spec_ValidOps.l0, if_neg (by omega)]
    simp; omega
  | succ m ih =>
    intro k i n h1 h2 h3 h4 h5
    obtain ⟨k, rfl⟩ : ∃ q, k = q + 2 := ⟨k - 2, by omega⟩
    have hi : i < xs.length := by omega
    rw [spec_step _ _ _ _ hi]
    split
    · split
      · rw [wrap_id (by omega) (by omega), spec_l1_step _ _ _ _ hi hm]
        split
        · exact ih k (i + 1) _ (by omega) (by omega) (by omega) (by omega) (by omega)
        · rfl
      · rw [spec_l1_step _ _ _ _ hi hm]
        split
        · exact ih k (i + 1) _ (by omega) (by omega) (by omega) (by omega) (by omega)
        · rfl
    · rfl
theorem ops_loop (xs : List Sy.Op) (hm : xs.length ≤ 1048576) : ∀ (m k i : Nat) (c : Bool), xs.length - i = m → i ≤ xs.length → 2 * m < k →
    impl_ValidOps.l0 k xs c (i : Int) = spec_ValidOps.l0 k xs (if c then 1 else 0) (i : Int) ∧ ∃ b, spec_ValidOps.l0 k xs (if c then 1 else 0) (i : Int) = some b := by
  intro m
  induction m with
  | zero =>
    intro k i c h1 h2 h3
    obtain ⟨k, rfl⟩ : ∃ q, k = q + 1 := ⟨k - 1, by omega⟩
    rw [spec_ValidOps.l0, if_neg (by omega), impl_ValidOps.l0, if_neg (by omega)]
    cases c <;> exact ⟨rfl, _, rfl⟩
  | succ m ih =>
    intro k i c h1 h2 h3
    obtain ⟨k, rfl⟩ : ∃ q, k = q + 2 := ⟨k - 2, by omega⟩
    have hi : i < xs.length := by omega
    rw [spec_step _ _ _ _ hi, impl_step _ _ _ _ hi]
    split
    · split
      · cases c with
        | true =>
          simp only [if_true]
          rw [show IntKind.i64.wrap (1 + 1) = 2 from rfl, spec_l1_step _ _ _ _ hi hm]
          split
          · rw [spec_false xs hm m k (i + 1) 2 (by omega) (by omega) (by omega) (by omega) (by omega)]; exact ⟨rfl, _, rfl⟩
          · exact ⟨rfl, _, rfl⟩
        | false =>
          simp only [Bool.false_eq_true, if_false]
          rw [show IntKind.i64.wrap (0 + 1) = 1 from rfl, spec_l1_step _ _ _ _ hi hm, impl_l1_step _ _ _ _ hi hm]
          split
          · exact ih k (i + 1) true (by omega) (by omega) (by omega)
          · exact ⟨rfl, _, rfl⟩
      · rw [spec_l1_step _ _ _ _ hi hm, impl_l1_step _ _ _ _ hi hm]
        split
        · exact ih k (i + 1) c (by omega) (by omega) (by omega)
        · exact ⟨rfl, _, rfl⟩
    · exact ⟨rfl, _, rfl⟩
/-! ### valid tables are ascending -/
def vbm (xs : List Sy.Op) : Nat → Nat → Int → Bool
  | 0, _, n => decide (n = 1)
  | m + 1, i, n => goodOp (xs.getD i z45) && (decide (i = 0) || !clash (xs.getD (i - 1) z45) (xs.getD i z45)) && vbm xs m (i + 1) (if (xs.getD i z45).name = [44] then n + 1 else n)
theorem vbm_val (xs : List Sy.Op) (hm : xs.length ≤ 1048576) : ∀ (m k i : Nat) (n : Int), xs.length - i = m → i ≤ xs.length → 2 * m < k → 0 ≤ n → n ≤ (i : Int) → spec_ValidOps.l0 k xs n (i : Int) = some (vbm xs m i n) := by
  intro m
  induction m with
  | zero =>
    intro k i n h1 h2 h3 h4 h5
    obtain ⟨k, rfl⟩ : ∃ q, k = q + 1 := ⟨k - 1, by omega⟩
    rw [spec_ValidOps.l0, if_neg (by omega), vbm]
  | succ m ih =>
    intro k i n h1 h2 h3 h4 h5
    obtain ⟨k, rfl⟩ : ∃ q, k = q + 2 := ⟨k - 2, by omega⟩
    have hi : i < xs.length := by omega
    rw [spec_step _ _ _ _ hi, vbm, getD_at hi]
    by_cases hg : goodOp xs[i] = true
    · rw [if_pos hg, hg]
      have key : ∀ n' : Int, 0 ≤ n' → n' ≤ ((i + 1 : Nat) : Int) → spec_ValidOps.l1 (k + 1) xs (i : Int) n' = some ((decide (i = 0) || !clash (xs.getD (i - 1) z45) xs[i]) && vbm xs m (i + 1) n') := by
        intro n' q0 q1
        rw [spec_l1_step _ _ _ _ hi hm, getD_at hi]
        by_cases hc : i = 0 ∨ clash (xs.getD (i - 1) z45) xs[i] = false
        · rw [if_pos hc, ih k (i + 1) n' (by omega) (by omega) (by omega) q0 q1]
          have : (decide (i = 0) || !clash (xs.getD (i - 1) z45) xs[i]) = true := by
            rcases hc with h | h
            · simp [h]
            · rw [h]; simp
          rw [this]; rfl
        · rw [if_neg hc]
          have : (decide (i = 0) || !clash (xs.getD (i - 1) z45) xs[i]) = false := by
            have h1 : ¬ i = 0 := fun h => hc (.inl h)
            have h2 : clash (xs.getD (i - 1) z45) xs[i] = true := by
              cases h : clash (xs.getD (i - 1) z45) xs[i]
              · exact absurd (.inr h) hc
              · rfl
            rw [h2]; simp [h1]
          rw [this]; rfl
      by_cases hn : xs[i].name = [44]
      · rw [if_pos hn, if_pos hn, wrap_id (by omega) (by omega), key _ (by omega) (by omega)]; rfl
      · rw [if_neg hn, if_neg hn, key _ (by omega) (by omega)]; rfl
    · rw [if_neg hg]
      have : goodOp xs[i] = false := by simpa using hg
      rw [this]; rfl
theorem vbm_true (xs : List Sy.Op) : ∀ (m i : Nat) (n : Int), xs.length - i = m → vbm xs m i n = true → ∀ j, i ≤ j → (hj : j < xs.length) → goodOp xs[j] = true ∧ (j = 0 ∨ clash (xs.getD (j - 1) z45) xs[j] = false) := by
  intro m
  induction m with
  | zero => intro i n h1 h2 j h3 h4; omega
  | succ m ih =>
    intro i n h1 h2 j h3 h4
    rw [vbm, Bool.and_eq_true, Bool.and_eq_true] at h2
    obtain ⟨⟨a1, a2⟩, a3⟩ := h2
    by_cases hj : j = i
    · subst hj
      rw [getD_at h4] at a1 a2
      refine ⟨a1, ?_⟩
      simpa using a2
    · exact ih (i + 1) _ (by omega) a3 j (by omega) h4
theorem clash_lt {p q : Sy.Op} (h : clash p q = false) : ltO p q = true := by
  unfold clash at h
  unfold ltO preO
  rw [Bool.or_eq_false_iff] at h
  obtain ⟨h1, h2⟩ := h
  by_cases hn : p.name = q.name
  · rw [if_neg (by simp [hn])]
    simp only [hn, decide_true, Bool.true_and, Bool.not_eq_false'] at h2
    exact h2
  · rw [if_pos hn]
    simpa [hn] using h1
/-- what a valid table is -/
def TOK (xs : List Sy.Op) : Prop := xs.length ≤ 200 ∧ (∀ o, o ∈ xs → goodOp o = true) ∧ xs.Pairwise (fun p q => ltO p q = true)
theorem vops_val (xs : List Sy.Op) (hm : xs.length ≤ 1048576) : ∃ b : Bool, (∀ k, 2097153 < k → spec_ValidOps.f k xs = some b ∧ impl_ValidOps.f k xs = some b) ∧ (b = true → TOK xs) := by
  by_cases h : (xs.length : Int) > 200
  · refine ⟨false, fun k hk => ?_, fun h => by cases h⟩
    rw [spec_ValidOps.f, impl_ValidOps.f, if_pos h, if_pos h]
    exact ⟨rfl, rfl⟩
  · refine ⟨vbm xs xs.length 0 0, fun k hk => ?_, fun hv => ?_⟩
    · obtain ⟨e1, _⟩ := ops_loop xs hm xs.length k 0 false rfl (by omega) (by omega)
      have e2 := vbm_val xs hm xs.length k 0 0 rfl (by omega) (by omega) (by omega) (by omega)
      rw [spec_ValidOps.f, impl_ValidOps.f, if_neg h, if_neg h]
      exact ⟨e2, e1.trans e2⟩
    · have hj := vbm_true xs xs.length 0 0 rfl hv
      refine ⟨by omega, fun o ho => ?_, ?_⟩
      · obtain ⟨j, hj2, rfl⟩ := List.getElem_of_mem ho
        exact (hj j (by omega) hj2).1
      · have adj : ∀ j, (h2 : j + 1 < xs.length) → ltO xs[j] xs[j + 1] = true := fun j h2 => by
          have := (hj (j + 1) (by omega) h2).2
          rcases this with h3 | h3
          · omega
          · rw [Nat.add_sub_cancel, getD_at (by omega)] at h3
            exact clash_lt h3
        rw [List.pairwise_iff_getElem]
        intro i j h1 h2 h3
        obtain ⟨d, rfl⟩ : ∃ d, j = i + 1 + d := ⟨j - (i + 1), by omega⟩
        clear h3
        induction d with
        | zero => exact adj i h2
        | succ d ih => exact swoO.trans _ _ _ (ih (by omega)) (adj (i + 1 + d) h2)
section
variable (n : Sy.Op)
theorem pgo_true : ∀ xs, pgo n xs true = xs.filter (fun x => !sameO n x)
  | [] => rfl
  | x :: xs => by
    rw [pgo]
    by_cases h : sameO n x = true
    · rw [if_pos h, pgo_true xs, List.filter_cons_of_neg (by simp [h])]
    · rw [if_neg h, if_neg (by simp), pgo_true xs, List.filter_cons_of_pos (by simpa using h)]
theorem pgo_perm : ∀ xs, (pgo n xs false).Perm (xs.filter (fun x => !sameO n x) ++ [n])
  | [] => .refl _
  | x :: xs => by
    rw [pgo]
    by_cases h : sameO n x = true
    · rw [if_pos h, List.filter_cons_of_neg (by simp [h])]; exact pgo_perm xs
    · rw [if_neg h, List.filter_cons_of_pos (by simpa using h)]
      by_cases h2 : ltO n x = true
      · rw [if_pos (by simp [h2]), pgo_true]
        exact (List.perm_append_singleton n (x :: xs.filter (fun x => !sameO n x))).symm
      · rw [if_neg (by simp [h2])]
        exact .cons _ (pgo_perm xs)
theorem lt_tri {o : Sy.Op} (h : ¬ sameO n o = true) (h2 : ¬ ltO n o = true) : ltO o n = true := by
  unfold sameO at h
  unfold ltO at h2 ⊢
  by_cases hn : o.name = n.name
  · rw [if_neg (by simp [hn])] at h2
    rw [if_neg (by simp [hn])]
    revert h h2
    rw [decide_eq_true hn]
    cases preO o <;> cases preO n <;> simp
  · have hn' : n.name ≠ o.name := fun e => hn e.symm
    rw [if_pos hn'] at h2
    rw [if_pos hn]
    have h3 : Go.Op.bytesLess n.name o.name = false := by simpa using h2
    cases h4 : Go.Op.bytesLess o.name n.name
    · exact absurd (bl_eq h4 h3) hn
    · rfl
theorem mem_pgo {o : Sy.Op} {xs : List Sy.Op} (h : o ∈ pgo n xs false) : o ∈ xs ∨ o = n := by
  have := (pgo_perm n xs).mem_iff.1 h
  rcases List.mem_append.1 this with h | h
  · exact .inl (List.mem_filter.1 h).1
  · exact .inr (by simpa using h)
theorem pgo_sorted : ∀ xs : List Sy.Op, xs.Pairwise (fun p q => ltO p q = true) → (pgo n xs false).Pairwise (fun p q => ltO p q = true)
  | [], _ => by simp [pgo]
  | x :: xs, hp => by
    have hp' := List.pairwise_cons.1 hp
    rw [pgo]
    by_cases h : sameO n x = true
    · rw [if_pos h]; exact pgo_sorted xs hp'.2
    · rw [if_neg h]
      by_cases h2 : ltO n x = true
      · rw [if_pos (by simp [h2]), pgo_true]
        have hf : (xs.filter (fun x => !sameO n x)).Pairwise (fun p q => ltO p q = true) := hp'.2.filter _
        refine List.pairwise_cons.2 ⟨fun q hq => ?_, List.pairwise_cons.2 ⟨fun q hq => hp'.1 q (List.mem_filter.1 hq).1, hf⟩⟩
        rcases List.mem_cons.1 hq with rfl | hq
        · exact h2
        · exact swoO.trans _ _ _ h2 (hp'.1 q (List.mem_filter.1 hq).1)
      · rw [if_neg (by simp [h2])]
        refine List.pairwise_cons.2 ⟨fun q hq => ?_, pgo_sorted xs hp'.2⟩
        rcases mem_pgo n hq with hq | rfl
        · exact hp'.1 q hq
        · exact lt_tri _ h h2
end
/-- there is one ascending order -/
theorem sorted_one : ∀ (y z : List Sy.Op), y.Perm z → y.Pairwise (fun p q => ltO q p = false) → z.Pairwise (fun p q => ltO p q = true) → y = z
  | [], z, hp, _, _ => (List.nil_perm.1 hp).symm
  | b :: y, [], hp, _, _ => absurd hp.length_eq (by simp)
  | b :: y, a :: z, hp, h1, h2 => by
    have h1' := List.pairwise_cons.1 h1
    have h2' := List.pairwise_cons.1 h2
    have hab : a = b := by
      rcases List.mem_cons.1 (hp.mem_iff.2 (List.mem_cons_self (a := a) (l := z))) with h | h
      · exact h
      · rcases List.mem_cons.1 (hp.mem_iff.1 (List.mem_cons_self (a := b) (l := y))) with h3 | h3
        · exact h3.symm
        · have q1 := h1'.1 a h
          have q2 := h2'.1 b h3
          rw [q1] at q2; cases q2
    subst hab
    rw [sorted_one y z (List.perm_cons a |>.1 hp) h1'.2 h2'.2]
/-- the sort of sortOps -/
theorem sortOps_val (x : List Sy.Op) (hN : x.length ≤ 1000) : ∃ y, Ev (fun k => impl_sortOps.f k x) y ∧ y.Perm x ∧ y.Pairwise (fun p q => ltO q p = false) := by
  have hb : ∀ n : Fin 1001, (match bits_Len.f (n.1 : Int) with | some m => decide (0 ≤ m ∧ m ≤ 1000) | none => false) = true := by decide +kernel
  have := hb ⟨x.length, by omega⟩
  simp only at this
  cases h : bits_Len.f (x.length : Int) with
  | none => rw [h] at this; cases this
  | some m =>
    rw [h] at this
    have hm := of_decide_eq_true this
    obtain ⟨y, e, p1, p2⟩ := pdq_sorts x hN m.toNat (by omega)
    refine ⟨y, Ev.of (fun k => ?_) e, p1, p2⟩
    rw [impl_sortOps.f, if_pos hN, h, Option.bind_some, Int.toNat_of_nonneg hm.1]
/-! ### the program's AddOp -/
theorem copyOps_val (xs : List Sy.Op) (hl : xs.length ≤ 1000000) (hn : ∀ o, o ∈ xs → o.name.length ≤ 1000000) : ∀ (m i k : Nat) (acc : List Sy.Op), i + m = xs.length → acc.length ≤ i → m < k → impl_copyOps.l0 k xs acc (i : Int) = some (acc ++ xs.drop i) := by
  intro m
  induction m with
  | zero =>
    intro i k acc h1 h2 hk
    obtain ⟨k, rfl⟩ : ∃ q, k = q + 1 := ⟨k - 1, by omega⟩
    rw [impl_copyOps.l0, if_neg (by omega), List.drop_of_length_le (by omega), List.append_nil]
  | succ m ih =>
    intro i k acc h1 h2 hk
    obtain ⟨k, rfl⟩ : ∃ q, k = q + 1 := ⟨k - 1, by omega⟩
    have hi : i < xs.length := by omega
    have := hn xs[i] (List.getElem_mem _)
    rw [impl_copyOps.l0, if_pos (by omega), if_pos (by omega), Int.toNat_natCast, getD_at hi, if_pos (by omega), if_pos (by omega), wrap_nat (by omega), ih (i + 1) k _ (by omega) (by rw [List.length_append]; simp; omega) (by omega), List.drop_eq_getElem_cons hi, List.append_assoc]
    rfl
theorem l3copy_val (xs : List Sy.Op) (hl : xs.length ≤ 1000000) (hn : ∀ o, o ∈ xs → o.name.length ≤ 1000000) : ∀ (m i k : Nat) (acc : List Sy.Op), i + m = xs.length → acc.length ≤ i → m < k → spec_l3copy.l0 k xs acc (i : Int) = some (acc ++ xs.drop i) := by
  intro m
  induction m with
  | zero =>
    intro i k acc h1 h2 hk
    obtain ⟨k, rfl⟩ : ∃ q, k = q + 1 := ⟨k - 1, by omega⟩
    rw [spec_l3copy.l0, if_neg (by omega), List.drop_of_length_le (by omega), List.append_nil]
  | succ m ih =>
    intro i k acc h1 h2 hk
    obtain ⟨k, rfl⟩ : ∃ q, k = q + 1 := ⟨k - 1, by omega⟩
    have hi : i < xs.length := by omega
    have := hn xs[i] (List.getElem_mem _)
    rw [spec_l3copy.l0, if_pos (by omega), if_pos (by omega), Int.toNat_natCast, getD_at hi, spec_l1copy.f, if_pos (by omega), Option.bind_some, if_pos (by omega), wrap_nat (by omega), ih (i + 1) k _ (by omega) (by rw [List.length_append]; simp; omega) (by omega), List.drop_eq_getElem_cons hi, List.append_assoc]
    rfl
theorem infix_val (o : Sy.Op) : impl_Op_infix.f o = some (decide (o.typ ≤ 2)) := rfl
/-- the loop over the copy -/
theorem addop_loop (n : Sy.Op) (cs : List Sy.Op) (hl : cs.length ≤ 1000) (R : List Sy.Op × Int) : ∀ (m i : Nat) (out : List Sy.Op), i + m = cs.length → out.length ≤ i →
    (Ev (fun k => impl_AddOp.l0 k n.pri n.typ n.name cs (out ++ (cs.drop i).filter (fun x => !sameO n x)) (cs.length : Int)) R) →
    Ev (fun k => impl_AddOp.l0 k n.pri n.typ n.name cs out (i : Int)) (if (cs.drop i).any (badO n) then ([], 4) else R) := by
  intro m
  induction m with
  | zero =>
    intro i out h1 h2 H
    obtain rfl : i = cs.length := by omega
    rw [List.drop_of_length_le (Nat.le_refl _)] at H ⊢
    simpa using H
  | succ m ih =>
    intro i out h1 h2 H
    have hi : i < cs.length := by omega
    rw [List.drop_eq_getElem_cons hi] at H ⊢
    rw [List.any_cons]
    by_cases hs : sameO n cs[i] = true
    · rw [List.filter_cons_of_neg (by simp [hs])] at H
      have hs' := hs
      unfold sameO at hs'
      rw [Bool.and_eq_true, decide_eq_true_eq, decide_eq_true_eq] at hs'
      by_cases hb : decide (cs[i].typ ≤ 2) = decide (n.typ ≤ 2)
      · have hbad : badO n cs[i] = false := by unfold badO; simp [hb]
        rw [hbad, Bool.false_or]
        refine Ev.succ (fun k => ?_) (ih (i + 1) out (by omega) (by omega) H)
        rw [impl_AddOp.l0, if_pos (by omega), if_pos (by omega), Int.toNat_natCast, getD_at hi, if_pos hs'.1, pre_val, Option.bind_some, pre_val, Option.bind_some, infix_val, Option.bind_some, infix_val, Option.bind_some, wrap_nat (by omega)]
        show (if preO cs[i] = preO n then (if decide (cs[i].typ ≤ 2) ≠ decide (n.typ ≤ 2) then some ([], 4) else _) else _) = _
        rw [if_pos hs'.2, if_neg (by simp [hb])]
      · have hbad : badO n cs[i] = true := by unfold badO; rw [hs]; simpa using hb
        rw [hbad, Bool.true_or, if_pos rfl]
        refine Ev.succ (fun k => ?_) (Ev.ret _)
        rw [impl_AddOp.l0, if_pos (by omega), if_pos (by omega), Int.toNat_natCast, getD_at hi, if_pos hs'.1, pre_val, Option.bind_some, pre_val, Option.bind_some, infix_val, Option.bind_some, infix_val, Option.bind_some]
        show (if preO cs[i] = preO n then (if decide (cs[i].typ ≤ 2) ≠ decide (n.typ ≤ 2) then some ([], 4) else _) else _) = _
        rw [if_pos hs'.2, if_pos hb]
    · rw [List.filter_cons_of_pos (by simpa using hs)] at H
      have hbad : badO n cs[i] = false := by unfold badO; simp [hs]
      rw [hbad, Bool.false_or]
      have H' : Ev (fun k => impl_AddOp.l0 k n.pri n.typ n.name cs ((out ++ [cs[i]]) ++ (cs.drop (i + 1)).filter (fun x => !sameO n x)) (cs.length : Int)) R := by
        rw [List.append_assoc]; exact H
      refine Ev.succ (fun k => ?_) (ih (i + 1) (out ++ [cs[i]]) (by omega) (by rw [List.length_append]; simp; omega) H')
      rw [impl_AddOp.l0, if_pos (by omega), if_pos (by omega), Int.toNat_natCast, getD_at hi, pre_val, Option.bind_some, pre_val, Option.bind_some, wrap_nat (by omega), if_pos (show out.length + 1 ≤ 3518437208883 by omega)]
      unfold sameO at hs
      by_cases hn : cs[i].name = n.name
      · rw [if_pos hn]
        show (if preO cs[i] = preO n then _ else _) = _
        rw [if_neg (fun h => hs (by simp [hn, h]))]
      · rw [if_neg hn]
/-- what both answer behind the tests -/
def addR (n : Sy.Op) (ops : List Sy.Op) : List Sy.Op × Int :=
  if ops.any (badO n) then ([], 4) else if (pgo n ops (decide (n.pri = 0))).length > 200 then ([], 3) else (pgo n ops (decide (n.pri = 0)), 0)
theorem addop_i (n : Sy.Op) (ops : List Sy.Op) (hT : TOK ops) (hp : 0 ≤ n.pri) : Ev (fun k => impl_AddOp.l0 k n.pri n.typ n.name ops [] 0) (addR n ops) := by
  have hl := hT.1
  have hfl : (ops.filter (fun x => !sameO n x)).length ≤ ops.length := List.length_filter_le _ _
  have := addop_loop n ops (by omega) (if (pgo n ops (decide (n.pri = 0))).length > 200 then ([], 3) else (pgo n ops (decide (n.pri = 0)), 0)) ops.length 0 [] (by omega) (by simp) ?_
  · rw [List.drop_zero] at this
    exact this
  · rw [List.drop_zero, List.nil_append]
    by_cases h0 : n.pri = 0
    · rw [decide_eq_true h0, pgo_true]
      refine Ev.succ (fun k => ?_) (Ev.ret _)
      rw [impl_AddOp.l0, if_neg (by omega), if_neg (by omega)]
      by_cases h : (ops.filter (fun x => !sameO n x)).length > 200
      · rw [if_pos h, if_pos (by omega)]
      · rw [if_neg h, if_neg (by omega)]
    · rw [decide_eq_false h0]
      have hlen := (pgo_perm n ops).length_eq
      rw [List.length_append] at hlen
      simp only [List.length_cons, List.length_nil] at hlen
      obtain ⟨y, e, p1, p2⟩ := sortOps_val (ops.filter (fun x => !sameO n x) ++ [n]) (by rw [List.length_append]; simp; omega)
      have hy : y = pgo n ops false := sorted_one y _ (p1.trans (pgo_perm n ops).symm) p2 (pgo_sorted n ops hT.2.2)
      subst hy
      refine Ev.succ (h := fun k => (impl_sortOps.f k (ops.filter (fun x => !sameO n x) ++ [n])).bind fun t => if ((ops.filter (fun x => !sameO n x) ++ [n]).length : Int) > 200 then some ([], 3) else some (t, 0)) (fun k => ?_) ?_
      · rw [impl_AddOp.l0, if_neg (by omega), if_pos (by omega), if_pos (by omega)]
      · refine Ev.bind e ?_
        by_cases h : (pgo n ops false).length > 200
        · rw [if_pos h]
          exact Ev.of (fun k => if_pos (by rw [List.length_append]; simp; omega)) (Ev.ret _)
        · rw [if_neg h]
          exact Ev.of (fun k => if_neg (by rw [List.length_append]; simp; omega)) (Ev.ret _)
/-! ### the reference's AddOp -/
theorem lprefix_val (t : Int) : spec_l3prefix.f t = some (decide (t = 3) || decide (t = 4)) := by
  unfold spec_l3prefix.f
  by_cases h : t = 3 <;> simp [h]
/-- the index of an operator that is no prefix -/
theorem find_loop (xs : List Sy.Op) (name : List UInt8) (hl : xs.length ≤ 1000000) : ∀ (m i k : Nat), i + m = xs.length → m < k →
    ∃ r : Int, spec_l3find.l0 k xs name false (i : Int) = some r ∧ (r = -1 ∨ ∃ j : Nat, r = (j : Int) ∧ j < xs.length ∧ (xs.getD j z45).name = name ∧ preO (xs.getD j z45) = false) ∧ (r = -1 → ∀ o, o ∈ xs.drop i → ¬ (o.name = name ∧ preO o = false)) := by
  intro m
  induction m with
  | zero =>
    intro i k h1 hk
    obtain ⟨k, rfl⟩ : ∃ q, k = q + 1 := ⟨k - 1, by omega⟩
    refine ⟨-1, by rw [spec_l3find.l0, if_neg (by omega)], .inl rfl, fun _ o ho => ?_⟩
    rw [List.drop_of_length_le (by omega)] at ho; cases ho
  | succ m ih =>
    intro i k h1 hk
    obtain ⟨k, rfl⟩ : ∃ q, k = q + 1 := ⟨k - 1, by omega⟩
    have hi : i < xs.length := by omega
    obtain ⟨r, e1, e2, e3⟩ := ih (i + 1) k (by omega) (by omega)
    have hpre : (decide (xs[i].typ = 3) || decide (xs[i].typ = 4)) = preO xs[i] := rfl
    rw [spec_l3find.l0, if_pos (by omega), if_pos (by omega), Int.toNat_natCast, getD_at hi, lprefix_val, Option.bind_some, hpre, wrap_nat (by omega), e1, List.drop_eq_getElem_cons hi]
    by_cases hc : xs[i].name = name ∧ preO xs[i] = false
    · rw [if_pos hc.1, if_pos hc.2]
      exact ⟨(i : Int), rfl, .inr ⟨i, rfl, hi, by rw [getD_at hi]; exact hc⟩, fun h => by omega⟩
    · refine ⟨r, ?_, e2, fun h o ho => ?_⟩
      · by_cases hn : xs[i].name = name
        · rw [if_pos hn, if_neg (fun h => hc ⟨hn, h⟩)]
        · rw [if_neg hn]
      · rcases List.mem_cons.1 ho with rfl | ho
        · exact hc
        · exact e3 h o ho
/-- no two operators of one name and kind -/
theorem one_same {xs : List Sy.Op} (hp : xs.Pairwise (fun p q => ltO p q = true)) {a b : Sy.Op} (ha : a ∈ xs) (hb : b ∈ xs) (hn : a.name = b.name) (hq : preO a = preO b) : a = b := by
  obtain ⟨i, hi, rfl⟩ := List.getElem_of_mem ha
  obtain ⟨j, hj, rfl⟩ := List.getElem_of_mem hb
  have key : ∀ p q : Sy.Op, p.name = q.name → preO p = preO q → ltO p q = false := fun p q h1 h2 => by
    unfold ltO; rw [if_neg (by simp [h1]), h2]; cases preO q <;> rfl
  rw [List.pairwise_iff_getElem] at hp
  rcases Nat.lt_trichotomy i j with h | h | h
  · have := hp i j hi hj h
    rw [key _ _ hn hq] at this; cases this
  · subst h; rfl
  · have := hp j i hj hi h
    rw [key _ _ hn.symm hq.symm] at this; cases this
theorem addop_s (n : Sy.Op) (ops : List Sy.Op) (hT : TOK ops) (ht : 0 ≤ n.typ ∧ n.typ ≤ 6) (k : Nat) (hk : 5000 < k) (hnl : n.name.length ≤ 100)
    (h44 : n.name ≠ [44]) (hsp : ¬ (n.name = [91, 93] ∨ n.name = [123, 125] ∨ n.name = [124])) (h1 : 1 ≤ n.name.length) (hp : 0 ≤ n.pri ∧ n.pri ≤ 1200) (hv : spec_ValidOps.f k ops = some true) :
    spec_AddOp.f k ops n.pri n.typ n.name = some (addR n ops) := by
  have hl := hT.1
  have hnm : ∀ o, o ∈ ops → o.name.length ≤ 1000000 := fun o ho => by
    have := hT.2.1 o ho
    unfold goodOp at this
    have := of_decide_eq_true this
    omega
  have hc : spec_l3copy.f k ops = some ops := by
    have := l3copy_val ops (by omega) hnm ops.length 0 k [] (by omega) (by simp) (by omega)
    rw [spec_l3copy.f]; simpa using this
  have hput : spec_l3put.f k ops n = some (pgo n ops (decide (n.pri = 0))) := if_pos ⟨by omega, by omega⟩
  have hn2 : (⟨n.name, n.pri, n.typ⟩ : Sy.Op) = n := rfl
  obtain ⟨r, f1, f2, f3⟩ := find_loop ops n.name (by omega) ops.length 0 k (by omega) (by omega)
  have f1' : spec_l3find.f k ops n.name false = some r := f1
  rw [List.drop_zero] at f3
  have fin : (if ((pgo n ops (decide (n.pri = 0))).length : Int) > 200 then some (([], 3) : List Sy.Op × Int) else some (pgo n ops (decide (n.pri = 0)), 0)) = some (if (pgo n ops (decide (n.pri = 0))).length > 200 then ([], 3) else (pgo n ops (decide (n.pri = 0)), 0)) := by
    by_cases h : (pgo n ops (decide (n.pri = 0))).length > 200
    · rw [if_pos h, if_pos (by omega)]
    · rw [if_neg h, if_neg (by omega)]
  rw [spec_AddOp.f, hv, Option.bind_some, if_neg (by simp), if_neg (by omega), if_neg (by omega), if_neg (by omega), if_neg (by omega), if_neg (by omega), if_neg (by omega), if_neg h44, special_val, Option.bind_some, if_neg (by simpa using hsp), f1', Option.bind_some, lprefix_val, Option.bind_some]
  have hpn : (decide (n.typ = 3) || decide (n.typ = 4)) = preO n := rfl
  rw [hpn, hc]
  simp only [Option.bind_some, spec_l1copy.f, if_pos (show 0 + n.name.length ≤ 140737488355328 by omega), hn2, hput]
  rw [fin]
  unfold addR
  generalize (if (pgo n ops (decide (n.pri = 0))).length > 200 then (([], 3) : List Sy.Op × Int) else (pgo n ops (decide (n.pri = 0)), 0)) = W
  cases hpr : preO n with
  | true =>
    -- a prefix operator: none is bad
    rw [if_neg (by simp)]
    have : ops.any (badO n) = false := by
      rw [List.any_eq_false]
      intro o ho hbad
      unfold badO sameO at hbad
      simp only [Bool.and_eq_true, decide_eq_true_eq, Bool.not_eq_true', decide_eq_false_iff_not] at hbad
      obtain ⟨⟨_, b2⟩, b3⟩ := hbad
      rw [hpr] at b2
      have t1 : ¬ o.typ ≤ 2 := by unfold preO at b2; simp only [Bool.or_eq_true, decide_eq_true_eq] at b2; omega
      have t2 : ¬ n.typ ≤ 2 := by unfold preO at hpr; simp only [Bool.or_eq_true, decide_eq_true_eq] at hpr; omega
      exact b3 (by rw [decide_eq_false t1, decide_eq_false t2])
    rw [this]; rfl
  | false =>
    rw [if_pos (by simp)]
    rcases f2 with rfl | ⟨j, rfl, hj, j1, j2⟩
    · rw [if_neg (by omega)]
      have : ops.any (badO n) = false := by
        rw [List.any_eq_false]
        intro o ho hbad
        unfold badO sameO at hbad
        simp only [Bool.and_eq_true, decide_eq_true_eq] at hbad
        exact f3 rfl o ho ⟨hbad.1.1, hbad.1.2.trans hpr⟩
      rw [this]; rfl
    · rw [if_pos (by omega), if_pos (by omega), if_pos (by omega), Int.toNat_natCast]
      have hmem : ops.getD j z45 ∈ ops := by rw [getD_at hj]; exact List.getElem_mem _
      show (if decide ((ops.getD j z45).typ ≤ 2) ≠ decide (n.typ ≤ 2) then some ([], 4) else _) = _
      have hb : ops.any (badO n) = !decide (decide ((ops.getD j z45).typ ≤ 2) = decide (n.typ ≤ 2)) := by
        cases hq : decide (decide ((ops.getD j z45).typ ≤ 2) = decide (n.typ ≤ 2)) with
        | false =>
          refine List.any_eq_true.2 ⟨_, hmem, ?_⟩
          unfold badO sameO
          rw [j1, j2, hpr, hq, decide_eq_true (rfl : n.name = n.name), decide_eq_true (rfl : false = false)]; rfl
        | true =>
          show _ = false
          rw [List.any_eq_false]
          intro o ho hbad
          unfold badO sameO at hbad
          simp only [Bool.and_eq_true, decide_eq_true_eq, Bool.not_eq_true', decide_eq_false_iff_not] at hbad
          obtain ⟨⟨b1, b2⟩, b3⟩ := hbad
          have := one_same hT.2.2 ho hmem (b1.trans j1.symm) (b2.trans (hpr.trans j2.symm))
          rw [this] at b3
          exact b3 (of_decide_eq_true hq)
      rw [hb]
      by_cases hq : decide ((ops.getD j z45).typ ≤ 2) = decide (n.typ ≤ 2)
      · rw [if_neg (by simpa using hq), decide_eq_true hq]; rfl
      · rw [if_pos hq, decide_eq_false hq]; rfl
/-! ### valid tables, both ways -/
def cc (xs : List Sy.Op) : Nat := xs.countP (fun o => decide (o.name = [44]))
def VOK (xs : List Sy.Op) : Prop := TOK xs ∧ cc xs = 1
instance (xs : List Sy.Op) : Decidable (TOK xs) := by unfold TOK; infer_instance
instance (xs : List Sy.Op) : Decidable (VOK xs) := by unfold VOK; infer_instance
theorem cc_cons (x : Sy.Op) (xs : List Sy.Op) : cc (x :: xs) = cc xs + if x.name = [44] then 1 else 0 := by
  unfold cc; rw [List.countP_cons]
  by_cases h : x.name = [44] <;> simp [h]
theorem lt_clash {p q : Sy.Op} (h : ltO p q = true) : clash p q = false := by
  unfold ltO preO at h
  unfold clash
  by_cases hn : p.name = q.name
  · rw [if_neg (by simp [hn])] at h
    rw [h, hn]; simp
  · rw [if_pos hn] at h
    simp [h, hn]
theorem vbm_count (xs : List Sy.Op) : ∀ (m i : Nat) (n : Int), xs.length - i = m → vbm xs m i n = true → n + (cc (xs.drop i) : Int) = 1 := by
  intro m
  induction m with
  | zero =>
    intro i n h1 h2
    rw [vbm] at h2
    rw [List.drop_of_length_le (by omega)]
    have := of_decide_eq_true h2
    simp [cc]; omega
  | succ m ih =>
    intro i n h1 h2
    have hi : i < xs.length := by omega
    rw [vbm, Bool.and_eq_true] at h2
    have := ih (i + 1) _ (by omega) h2.2
    rw [List.drop_eq_getElem_cons hi, cc_cons]
    rw [getD_at hi] at this
    split at this <;> simp_all <;> omega
theorem vbm_mk (xs : List Sy.Op) : ∀ (m i : Nat) (n : Int), xs.length - i = m → (∀ j, i ≤ j → (hj : j < xs.length) → goodOp xs[j] = true ∧ (j = 0 ∨ clash (xs.getD (j - 1) z45) xs[j] = false)) → n + (cc (xs.drop i) : Int) = 1 → vbm xs m i n = true := by
  intro m
  induction m with
  | zero =>
    intro i n h1 h2 h3
    rw [List.drop_of_length_le (by omega)] at h3
    rw [vbm]
    simp [cc] at h3
    exact decide_eq_true h3
  | succ m ih =>
    intro i n h1 h2 h3
    have hi : i < xs.length := by omega
    obtain ⟨g1, g2⟩ := h2 i (by omega) hi
    rw [List.drop_eq_getElem_cons hi, cc_cons] at h3
    rw [vbm, getD_at hi, g1, ih (i + 1) _ (by omega) (fun j hj hj2 => h2 j (by omega) hj2) (by split <;> simp_all <;> omega)]
    rcases g2 with g2 | g2
    · simp [g2]
    · rw [g2]; simp
theorem vops_vok (xs : List Sy.Op) (hm : xs.length ≤ 1048576) : ∃ b : Bool, (∀ k, 2097153 < k → spec_ValidOps.f k xs = some b ∧ impl_ValidOps.f k xs = some b) ∧ (b = true ↔ VOK xs) := by
  by_cases h : (xs.length : Int) > 200
  · refine ⟨false, fun k hk => ?_, fun h => (by cases h), fun hv => ?_⟩
    · rw [spec_ValidOps.f, impl_ValidOps.f, if_pos h, if_pos h]
      exact ⟨rfl, rfl⟩
    · have := hv.1.1; omega
  · refine ⟨vbm xs xs.length 0 0, fun k hk => ?_, fun hv => ?_, fun hv => ?_⟩
    · obtain ⟨e1, _⟩ := ops_loop xs hm xs.length k 0 false rfl (by omega) (by omega)
      have e2 := vbm_val xs hm xs.length k 0 0 rfl (by omega) (by omega) (by omega) (by omega)
      rw [spec_ValidOps.f, impl_ValidOps.f, if_neg h, if_neg h]
      exact ⟨e2, e1.trans e2⟩
    · obtain ⟨b, hb, ht⟩ := vops_val xs hm
      have e2 := vbm_val xs hm xs.length 2097154 0 0 rfl (by omega) (by omega) (by omega) (by omega)
      have e3 := (hb 2097154 (by omega)).1
      rw [spec_ValidOps.f, if_neg h] at e3
      have e4 : some (vbm xs xs.length 0 0) = some b := e2.symm.trans e3
      injection e4 with e4
      refine ⟨ht (e4 ▸ hv), ?_⟩
      have := vbm_count xs xs.length 0 0 rfl hv
      rw [List.drop_zero] at this
      omega
    · refine vbm_mk xs xs.length 0 0 rfl (fun j _ hj => ⟨hv.1.2.1 _ (List.getElem_mem _), ?_⟩) (by rw [List.drop_zero, hv.2]; rfl)
      by_cases h0 : j = 0
      · exact .inl h0
      · right
        rw [getD_at (by omega)]
        exact lt_clash ((List.pairwise_iff_getElem.1 hv.1.2.2) (j - 1) j (by omega) hj (by omega))
theorem vok_val {xs : List Sy.Op} (hv : VOK xs) {k : Nat} (hk : 2097153 < k) : spec_ValidOps.f k xs = some true ∧ impl_ValidOps.f k xs = some true := by
  obtain ⟨b, hb, h⟩ := vops_vok xs (by have := hv.1.1; omega)
  rw [h.2 hv] at hb
  exact hb k hk
/-! ### a valid table stays one -/
theorem same_self (n : Sy.Op) : sameO n n = true := by simp [sameO]
theorem cc_filter {n : Sy.Op} (hn : n.name ≠ [44]) : ∀ xs : List Sy.Op, cc (xs.filter (fun x => !sameO n x)) = cc xs
  | [] => rfl
  | x :: xs => by
    by_cases h : sameO n x = true
    · rw [List.filter_cons_of_neg (by simp [h]), cc_filter hn xs, cc_cons]
      have : x.name = n.name := by
        unfold sameO at h; simp at h; exact h.1
      rw [if_neg (by rw [this]; exact hn)]; rfl
    · rw [List.filter_cons_of_pos (by simpa using h), cc_cons, cc_cons, cc_filter hn xs]
theorem pgo_vok {n : Sy.Op} {ops : List Sy.Op} (hv : VOK ops) (hn : n.name ≠ [44]) (hg : n.pri ≠ 0 → goodOp n = true) (hl : (pgo n ops (decide (n.pri = 0))).length ≤ 200) : VOK (pgo n ops (decide (n.pri = 0))) := by
  by_cases h0 : n.pri = 0
  · rw [decide_eq_true h0, pgo_true] at hl ⊢
    exact ⟨⟨hl, fun o ho => hv.1.2.1 o (List.mem_filter.1 ho).1, hv.1.2.2.filter _⟩, (cc_filter hn ops).trans hv.2⟩
  · rw [decide_eq_false h0] at hl ⊢
    refine ⟨⟨hl, fun o ho => ?_, pgo_sorted n ops hv.1.2.2⟩, ?_⟩
    · rcases mem_pgo n ho with h | rfl
      · exact hv.1.2.1 o h
      · exact hg h0
    · have hp := pgo_perm n ops
      unfold cc
      rw [hp.countP_eq, List.countP_append]
      have e1 : (ops.filter (fun x => !sameO n x)).countP (fun o => decide (o.name = [44])) = 1 := (cc_filter hn ops).trans hv.2
      rw [e1]
      simp [hn]
theorem filter_pgo (n : Sy.Op) : ∀ (xs : List Sy.Op) (d : Bool), (pgo n xs d).filter (fun x => !sameO n x) = xs.filter (fun x => !sameO n x)
  | [], d => by
    rw [pgo]; cases d
    · simp [same_self]
    · rfl
  | x :: xs, d => by
    rw [pgo]
    by_cases h : sameO n x = true
    · rw [if_pos h, filter_pgo n xs d, List.filter_cons_of_neg (by simp [h])]
    · rw [if_neg h]
      split
      · rw [List.filter_cons_of_neg (by simp [same_self]), List.filter_cons_of_pos (by simpa using h), List.filter_cons_of_pos (by simpa using h), filter_pgo n xs true]
      · rw [List.filter_cons_of_pos (by simpa using h), List.filter_cons_of_pos (by simpa using h), filter_pgo n xs d]
theorem strict_weak {xs : List Sy.Op} (h : xs.Pairwise (fun p q => ltO p q = true)) : xs.Pairwise (fun p q => ltO q p = false) :=
  h.imp (fun {a b} hab => by
    cases h2 : ltO b a
    · rfl
    · have := swoO.trans _ _ _ hab h2
      rw [swoO.irrefl] at this; cases this)
theorem pgo_pgo {n : Sy.Op} {ops : List Sy.Op} (hs : ops.Pairwise (fun p q => ltO p q = true)) (d : Bool) : pgo n (pgo n ops d) d = pgo n ops d := by
  cases d
  · refine sorted_one _ _ ?_ (strict_weak (pgo_sorted n _ (pgo_sorted n ops hs))) (pgo_sorted n ops hs)
    refine (pgo_perm n _).trans ?_
    rw [filter_pgo]
    exact (pgo_perm n ops).symm
  · rw [pgo_true, pgo_true, List.filter_filter]; simp
theorem nobad_pgo {n : Sy.Op} {ops : List Sy.Op} (hb : ops.any (badO n) = false) (d : Bool) : (pgo n ops d).any (badO n) = false := by
  rw [List.any_eq_false] at hb ⊢
  intro o ho h
  cases d
  · rcases mem_pgo n ho with h2 | rfl
    · exact hb o h2 h
    · unfold badO at h; simp at h
  · rw [pgo_true] at ho
    exact hb o (List.mem_filter.1 ho).1 h
/-! ### the program's AddOp and the reference's, on a valid table -/
structure Fine (pri typ : Int) (name : List UInt8) : Prop where
  n1 : 1 ≤ name.length
  n2 : name.length ≤ 100
  p1 : 0 ≤ pri
  p2 : pri ≤ 1200
  t1 : 0 ≤ typ
  t2 : typ ≤ 6
  nc : name ≠ [44]
  ns : ¬ (name = [91, 93] ∨ name = [123, 125] ∨ name = [124])
theorem Fine.good {pri typ : Int} {name : List UInt8} (h : Fine pri typ name) (h0 : pri ≠ 0) : goodOp ⟨name, pri, typ⟩ = true := by
  have h1 := h.n1; have h2 := h.p1
  refine decide_eq_true ⟨fun e => ?_, h.n2, fun e => h.ns (.inl e), fun e => h.ns (.inr (.inl e)), fun e => h.ns (.inr (.inr e)), ?_, h.p2, h.t1, h.t2, fun e => absurd e h.nc⟩
  · have e' : name = [] := e
    rw [e'] at h1; simp at h1
  · show 1 ≤ pri; omega
theorem implAdd {pri typ : Int} {name : List UInt8} (h : Fine pri typ name) {ops : List Sy.Op} (hv : VOK ops) : Ev (fun k => impl_AddOp.f k ops pri typ name) (addR ⟨name, pri, typ⟩ ops) := by
  obtain ⟨n1, n2, p1, p2, t1, t2, nc, ns⟩ := h
  obtain ⟨K, hK⟩ := addop_i ⟨name, pri, typ⟩ ops hv.1 p1
  refine ⟨K + 2097154, fun k hk => ?_⟩
  have hnm : ∀ o, o ∈ ops → o.name.length ≤ 100 := fun o ho => by
    have := hv.1.2.1 o ho
    unfold goodOp at this
    have := of_decide_eq_true this
    omega
  have hc : impl_copyOps.f k ops = some ops := by
    have := copyOps_val ops (by have := hv.1.1; omega) (fun o ho => by have := hnm o ho; omega) ops.length 0 k [] (by omega) (by simp) (by have := hv.1.1; omega)
    rw [impl_copyOps.f]; simpa using this
  show impl_AddOp.f k ops pri typ name = _
  rw [impl_AddOp.f, (vok_val hv (by omega)).2, Option.bind_some, if_neg (by simp), if_neg (by omega), if_neg (by omega), if_neg (by omega), if_neg (by omega), if_neg (by omega), if_neg (by omega), if_neg nc, if_neg (fun h => ns (.inl h)), if_neg (fun h => ns (.inr (.inl h))), if_neg (fun h => ns (.inr (.inr h))), if_pos (by omega), hc, Option.bind_some]
  exact hK k (by omega)
theorem specAdd {pri typ : Int} {name : List UInt8} (h : Fine pri typ name) {ops : List Sy.Op} (hv : VOK ops) : Ev (fun k => spec_AddOp.f k ops pri typ name) (addR ⟨name, pri, typ⟩ ops) :=
  ⟨2097154, fun k hk => addop_s ⟨name, pri, typ⟩ ops hv.1 ⟨h.t1, h.t2⟩ k (by omega) h.n2 h.nc h.ns h.n1 ⟨h.p1, h.p2⟩ (vok_val hv (by omega)).1⟩
theorem bothAdd {ops : List Sy.Op} (hm : ops.length ≤ 1048576) (pri typ : Int) (name : List UInt8) (hnl : name.length ≤ 1048576) :
    (VOK ops ∧ Fine pri typ name) ∨ ∃ c : Int, c ≠ 0 ∧ Ev (fun k => impl_AddOp.f k ops pri typ name) ([], c) ∧ Ev (fun k => spec_AddOp.f k ops pri typ name) ([], c) := by
  obtain ⟨b, hb, hT⟩ := vops_vok ops hm
  have out : ∀ c : Int, c ≠ 0 → (∀ k, 2097153 < k → impl_AddOp.f k ops pri typ name = some ([], c) ∧ spec_AddOp.f k ops pri typ name = some ([], c)) → (VOK ops ∧ Fine pri typ name) ∨ ∃ c : Int, c ≠ 0 ∧ Ev (fun k => impl_AddOp.f k ops pri typ name) ([], c) ∧ Ev (fun k => spec_AddOp.f k ops pri typ name) ([], c) :=
    fun c h0 h => .inr ⟨c, h0, ⟨2097154, fun k hk => (h k (by omega)).1⟩, ⟨2097154, fun k hk => (h k (by omega)).2⟩⟩
  cases b with
  | false =>
    exact out 1 (by decide) (fun k hk => ⟨by rw [impl_AddOp.f, (hb k hk).2]; rfl, by rw [spec_AddOp.f, (hb k hk).1]; rfl⟩)
  | true =>
    have hT := hT.1 rfl
    by_cases c1 : (name.length : Int) < 1
    · exact out 1 (by decide) (fun k hk => ⟨by rw [impl_AddOp.f, (hb k hk).2, Option.bind_some, if_neg (by simp), if_pos c1], by rw [spec_AddOp.f, (hb k hk).1, Option.bind_some, if_neg (by simp), if_pos c1]⟩)
    by_cases c2 : (name.length : Int) > 100
    · exact out 1 (by decide) (fun k hk => ⟨by rw [impl_AddOp.f, (hb k hk).2, Option.bind_some, if_neg (by simp), if_neg c1, if_pos c2], by rw [spec_AddOp.f, (hb k hk).1, Option.bind_some, if_neg (by simp), if_neg c1, if_pos c2]⟩)
    by_cases c3 : pri < 0
    · exact out 1 (by decide) (fun k hk => ⟨by rw [impl_AddOp.f, (hb k hk).2, Option.bind_some, if_neg (by simp), if_neg c1, if_neg c2, if_pos c3], by rw [spec_AddOp.f, (hb k hk).1, Option.bind_some, if_neg (by simp), if_neg c1, if_neg c2, if_pos c3]⟩)
    by_cases c4 : pri > 1200
    · exact out 1 (by decide) (fun k hk => ⟨by rw [impl_AddOp.f, (hb k hk).2, Option.bind_some, if_neg (by simp), if_neg c1, if_neg c2, if_neg c3, if_pos c4], by rw [spec_AddOp.f, (hb k hk).1, Option.bind_some, if_neg (by simp), if_neg c1, if_neg c2, if_neg c3, if_pos c4]⟩)
    by_cases c5 : typ < 0
    · exact out 1 (by decide) (fun k hk => ⟨by rw [impl_AddOp.f, (hb k hk).2, Option.bind_some, if_neg (by simp), if_neg c1, if_neg c2, if_neg c3, if_neg c4, if_pos c5], by rw [spec_AddOp.f, (hb k hk).1, Option.bind_some, if_neg (by simp), if_neg c1, if_neg c2, if_neg c3, if_neg c4, if_pos c5]⟩)
    by_cases c6 : typ > 6
    · exact out 1 (by decide) (fun k hk => ⟨by rw [impl_AddOp.f, (hb k hk).2, Option.bind_some, if_neg (by simp), if_neg c1, if_neg c2, if_neg c3, if_neg c4, if_neg c5, if_pos c6], by rw [spec_AddOp.f, (hb k hk).1, Option.bind_some, if_neg (by simp), if_neg c1, if_neg c2, if_neg c3, if_neg c4, if_neg c5, if_pos c6]⟩)
    by_cases c7 : name = [44]
    · exact out 4 (by decide) (fun k hk => ⟨by rw [impl_AddOp.f, (hb k hk).2, Option.bind_some, if_neg (by simp), if_neg c1, if_neg c2, if_neg c3, if_neg c4, if_neg c5, if_neg c6, if_pos c7], by rw [spec_AddOp.f, (hb k hk).1, Option.bind_some, if_neg (by simp), if_neg c1, if_neg c2, if_neg c3, if_neg c4, if_neg c5, if_neg c6, if_pos c7]⟩)
    by_cases c8 : name = [91, 93] ∨ name = [123, 125] ∨ name = [124]
    · refine out 4 (by decide) (fun k hk => ?_)
      constructor
      · rw [impl_AddOp.f, (hb k hk).2, Option.bind_some, if_neg (by simp), if_neg c1, if_neg c2, if_neg c3, if_neg c4, if_neg c5, if_neg c6, if_neg c7]
        by_cases d1 : name = [91, 93]
        · rw [if_pos d1]
        rw [if_neg d1]
        by_cases d2 : name = [123, 125]
        · rw [if_pos d2]
        rw [if_neg d2]
        by_cases d3 : name = [124]
        · rw [if_pos d3]
        · exact absurd c8 (by simp [d1, d2, d3])
      · rw [spec_AddOp.f, (hb k hk).1, Option.bind_some, if_neg (by simp), if_neg c1, if_neg c2, if_neg c3, if_neg c4, if_neg c5, if_neg c6, if_neg c7, special_val, Option.bind_some, if_pos (by simpa using c8)]
    exact .inl ⟨hT, by omega, by omega, by omega, by omega, by omega, by omega, c7, c8⟩
/-! ### both tables alike -/
theorem sameB_id (xs : List UInt8) (k : Nat) (hl : xs.length ≤ 1048576) (hk : xs.length < k) : laws_sameB.f k xs xs = some true := by
  rw [laws_sameB.f, if_neg (by simp)]
  have : ∀ (m i k : Nat), i + m = xs.length → m < k → laws_sameB.l0 k xs xs (i : Int) = some true := by
    intro m
    induction m with
    | zero =>
      intro i k h1 h2
      obtain ⟨k, rfl⟩ : ∃ q, k = q + 1 := ⟨k - 1, by omega⟩
      rw [laws_sameB.l0, if_neg (by omega)]
    | succ m ih =>
      intro i k h1 h2
      obtain ⟨k, rfl⟩ : ∃ q, k = q + 1 := ⟨k - 1, by omega⟩
      rw [laws_sameB.l0, if_pos (by omega), if_pos (by omega), if_pos (by omega), if_neg (by simp), wrap_nat (by omega), ih (i + 1) k (by omega) (by omega)]
  exact this xs.length 0 k (by omega) hk
theorem sameOps_id (xs : List Sy.Op) (k : Nat) (hl : xs.length ≤ 1048576) (hn : ∀ o, o ∈ xs → o.name.length ≤ 1000) (hk : xs.length + 1001 < k) : laws_sameOps.f k xs xs = some true := by
  rw [laws_sameOps.f, if_neg (by simp)]
  have : ∀ (m i k : Nat), i + m = xs.length → m + 1001 < k → laws_sameOps.l0 k xs xs (i : Int) = some true := by
    intro m
    induction m with
    | zero =>
      intro i k h1 h2
      obtain ⟨k, rfl⟩ : ∃ q, k = q + 1 := ⟨k - 1, by omega⟩
      rw [laws_sameOps.l0, if_neg (by omega)]
    | succ m ih =>
      intro i k h1 h2
      obtain ⟨k, rfl⟩ : ∃ q, k = q + 1 := ⟨k - 1, by omega⟩
      have hi : i < xs.length := by omega
      have hx := hn xs[i] (List.getElem_mem _)
      rw [laws_sameOps.l0, if_pos (by omega), if_pos (by omega), if_pos (by omega), Int.toNat_natCast, getD_at hi, if_neg (by simp), if_neg (by simp), sameB_id _ _ (by omega) (by omega), Option.bind_some, if_neg (by simp), wrap_nat (by omega), ih (i + 1) k (by omega) (by omega)]
  exact this xs.length 0 k (by omega) (by omega)
end Go.Proofs.Ytminnekeekhjcaa
