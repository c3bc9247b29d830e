import Derived.Test.YtdkbfcmekppnmaaPuLx2
namespace Go.Proofs.Ytdkbfcmekppnmaa
open Go.Sx Go.Sy
set_option linter.unusedVariables false
set_option linter.unusedSimpArgs false
set_option linter.unusedSectionVars false
set_option maxRecDepth 4000
set_option maxHeartbeats 4000000
section
variable {L : GLexer}
/-! ### numbers -/
/-- what stands behind a number's digits decides it -/
def numR (s : List UInt8) (p j : Nat) (v : Int) (big : Bool) : Int × Int × Int :=
  if p + j < s.length ∧ alnumB (s.getD (p + j) 0) = true then (0, 0, 2) else if big = true then (0, 0, 3) else (v, (j : Int), 0)
theorem num_loop (hl : L.s_.length ≤ 10000) (b : Nat) (hb : 2 ≤ b ∧ b ≤ 16) (p : Nat) (hp : p < L.s_.length) : ∀ (m i : Nat) (v v' : Int) (big : Bool) (k k' : Nat), L.s_.length - (p + i) ≤ m → p + i ≤ 10002 → 2 * m + 10 < k → m + 10 < k' →
    0 ≤ v' → (big = false → v' = v ∧ v ≤ 1000000000000000) → (big = true → 1000000000000000 < v' ∧ v' ≤ 20000000000000000) →
    ∃ (j : Nat) (w w' : Int) (big' : Bool), spec_l1number.l2 k L.s_ (p : Int) (b : Int) (i : Int) v big = some (numR L.s_ p j w big') ∧
      impl_lexer_number_c1.l0 k' (b : Int) L ((p + i : Nat) : Int) v' = some (((p + j : Nat) : Int), w') ∧ i ≤ j ∧ (p + i < L.s_.length → p + j ≤ L.s_.length) ∧ (p + i < L.s_.length → hexV (L.s_.getD (p + i) 0) < b → i < j) ∧
      (big' = false → w' = w ∧ w ≤ 1000000000000000) ∧ (big' = true → 1000000000000000 < w') := by
  intro m
  induction m with
  | zero =>
    intro i v v' big k k' h1 h2 hk hk' h0 h3 h4
    obtain ⟨k, rfl⟩ : ∃ q, k = q + 1 := ⟨k - 1, by omega⟩
    obtain ⟨k', rfl⟩ : ∃ q, k' = q + 1 := ⟨k' - 1, by omega⟩
    refine ⟨i, v, v', big, ?_, ?_, by omega, by omega, by omega, h3, fun h => (h4 h).1⟩
    · rw [spec_l1number.l2]
      simp (maxSteps := 5000000) (disch := omega) only [wa, if_neg]
      unfold numR
      rw [if_neg (c := _ ∧ _) (fun q => by omega)]
      cases big <;> rfl
    · rw [impl_lexer_number_c1.l0, if_neg (by omega)]
  | succ m ih =>
    intro i v v' big k k' h1 h2 hk hk' h0 h3 h4
    obtain ⟨k, rfl⟩ : ∃ q, k = q + 2 := ⟨k - 2, by omega⟩
    obtain ⟨k', rfl⟩ : ∃ q, k' = q + 1 := ⟨k' - 1, by omega⟩
    by_cases hi : p + i < L.s_.length
    · by_cases hx : hexV (L.s_.getD (p + i) 0) < b
      · have hx' : (hexV (L.s_.getD (p + i) 0) : Int) < (b : Int) := by omega
        have step : ∀ (v2 v2' : Int) (big2 : Bool), 0 ≤ v2' → (big2 = false → v2' = v2 ∧ v2 ≤ 1000000000000000) → (big2 = true → 1000000000000000 < v2' ∧ v2' ≤ 20000000000000000) →
            ∃ (j : Nat) (w w' : Int) (big' : Bool), spec_l1number.l3 (k + 1) L.s_ (p : Int) (b : Int) (i : Int) v2 big2 = some (numR L.s_ p j w big') ∧
              impl_lexer_number_c1.l0 k' (b : Int) L (IntKind.i64.wrap (((p + i : Nat) : Int) + 1)) v2' = some (((p + j : Nat) : Int), w') ∧ i ≤ j ∧ (p + i < L.s_.length → p + j ≤ L.s_.length) ∧ (p + i < L.s_.length → hexV (L.s_.getD (p + i) 0) < b → i < j) ∧
              (big' = false → w' = w ∧ w ≤ 1000000000000000) ∧ (big' = true → 1000000000000000 < w') := by
          intro v2 v2' big2 g0 g1 g2
          obtain ⟨j, w, w', big', e1, e2, o1, o2, o3, o4, o5⟩ := ih (i + 1) v2 v2' big2 k k' (by omega) (by omega) (by omega) (by omega) g0 g1 g2
          refine ⟨j, w, w', big', ?_, ?_, by omega, ?_, by omega, o4, o5⟩
          · rw [spec_l1number.l3, w1 (by omega)]; exact e1
          · rw [w1 (by omega)]; exact e2
          · intro _
            by_cases hj : p + (i + 1) < L.s_.length
            · exact o2 hj
            · -- the end of the text is reached at once
              have : impl_lexer_number_c1.l0 k' (b : Int) L ((p + (i + 1) : Nat) : Int) v2' = some (((p + (i + 1) : Nat) : Int), v2') := by
                obtain ⟨k', rfl⟩ : ∃ q, k' = q + 1 := ⟨k' - 1, by omega⟩
                rw [impl_lexer_number_c1.l0, if_neg (by omega)]
              rw [this] at e2
              injection e2 with e2
              injection e2 with e2 _
              omega
        rw [spec_l1number.l2, impl_lexer_number_c1.l0]
        have hm : 0 ≤ v' * (b : Int) := Int.mul_nonneg h0 (by omega)
        cases hbig : big with
        | false =>
          obtain ⟨rfl, hv⟩ := h3 hbig
          have hm2 : v' * (b : Int) ≤ 16000000000000000 := by
            have := Int.mul_le_mul hv (show (b : Int) ≤ 16 by omega) (by omega) (by omega)
            omega
          simp (maxSteps := 5000000) (disch := omega) only [wa, Int.toNat_natCast, hex_eq, (hexV_val _).1, Option.bind_some, if_pos, wrap_id (n := v' * (b : Int)), wrap_id (n := v' * (b : Int) + _)]
          by_cases hgt : v' * (b : Int) + (hexV (L.s_.getD (p + i) 0) : Int) > 1000000000000000
          · rw [if_pos hgt]
            exact step _ _ true (by omega) (by simp) (fun _ => by omega)
          · rw [if_neg hgt]
            exact step _ _ false (by omega) (fun _ => by omega) (by simp)
        | true =>
          have hv := h4 hbig
          subst hbig
          simp (maxSteps := 5000000) (disch := omega) only [wa, Int.toNat_natCast, hex_eq, (hexV_val _).1, Option.bind_some, if_pos, if_neg]
          split
          · exact step _ _ true (by omega) (by simp) (fun _ => by omega)
          · exact step _ _ true (by omega) (by simp) (fun _ => by omega)
      · refine ⟨i, v, v', big, ?_, ?_, by omega, by omega, by omega, h3, fun h => (h4 h).1⟩
        · rw [spec_l1number.l2]
          simp (maxSteps := 5000000) (disch := omega) only [wa, Int.toNat_natCast, (hexV_val _).1, Option.bind_some, if_pos, if_neg, alnumB_val]
          unfold numR
          by_cases ha : alnumB (L.s_.getD (p + i) 0) = true
          · rw [if_pos ha, if_pos ⟨hi, ha⟩]
          · rw [if_neg ha, if_neg (c := _ ∧ _) (fun q => ha q.2)]; cases big <;> rfl
        · rw [impl_lexer_number_c1.l0]
          simp (maxSteps := 5000000) (disch := omega) only [wa, Int.toNat_natCast, hex_eq, (hexV_val _).1, Option.bind_some, if_pos, if_neg]
    · refine ⟨i, v, v', big, ?_, ?_, by omega, by omega, by omega, h3, fun h => (h4 h).1⟩
      · rw [spec_l1number.l2]
        simp (maxSteps := 5000000) (disch := omega) only [wa, if_neg]
        unfold numR
        rw [if_neg (c := _ ∧ _) (fun q => by omega)]
        cases big <;> rfl
      · rw [impl_lexer_number_c1.l0, if_neg (by omega)]
/-- a token's outcome in the program's words -/
def tokR (L : GLexer) (tk : Token) (code : Int) : GLexer := if code ≠ 0 then ⟨L.s_, L.at_, L.tokens_, code, L.at_⟩ else ⟨L.s_, tk.place + tk.size, L.tokens_ ++ [tk], L.code_, L.place_⟩
def tokOk (s : List UInt8) (p : Nat) (tk : Token) (code : Int) : Prop := code = 0 → tk.place = p ∧ (∃ n : Nat, 0 < n ∧ tk.size = n ∧ p + n ≤ s.length) ∧ tk.text.length ≤ 100
/-- the end of a number -/
theorem number_end (hl : L.s_.length ≤ 10000) (p : Nat) (ha : L.at_ = (p : Int)) (ht : L.tokens_.length ≤ 10000) (j : Nat) (hj : p + j ≤ L.s_.length) (hj0 : 0 < j) (w w' : Int) (big : Bool) (h1 : big = false → w' = w ∧ w ≤ 1000000000000000) (h2 : big = true → 1000000000000000 < w') :
    ∃ (n sz code : Int), numR L.s_ p j w big = (n, sz, code) ∧ impl_lexer_number.l1 0 L L.s_ L.at_ L.tokens_ L.code_ L.place_ w' ((p + j : Nat) : Int) = some (tokR L ⟨3, (p : Int), sz, [], n⟩ code) ∧ tokOk L.s_ p ⟨3, (p : Int), sz, [], n⟩ code := by
  unfold numR
  have hput : ∀ v : Int, impl_lexer_put.f (⟨L.s_, L.at_, L.tokens_, L.code_, L.place_⟩ : GLexer) 3 ((p + j : Nat) : Int) [] v = some (tokR L ⟨3, (p : Int), (j : Int), [], v⟩ 0) := by
    intro v
    rw [put_val (L := ⟨L.s_, L.at_, L.tokens_, L.code_, L.place_⟩) p ha 3 j [] v ht (by simp) (by omega) (by simp)]
    simp [putR, tokR, ha]
  have hn : ∀ v : Int, tokOk L.s_ p ⟨3, (p : Int), (j : Int), [], v⟩ 0 := fun v _ => ⟨rfl, ⟨j, hj0, rfl, hj⟩, by simp⟩
  rw [impl_lexer_number.l1]
  simp only [bindSome, fault_val, Int.toNat_natCast, alnum_eq, Option.bind_some, hput]
  have tail : ∃ (n sz code : Int), (if big = true then (0, 0, 3) else (w, (j : Int), 0)) = (n, sz, code) ∧ (if w' > 1000000000000000 then some (⟨L.s_, L.at_, L.tokens_, 3, L.at_⟩ : GLexer) else some (tokR L ⟨3, (p : Int), (j : Int), [], w'⟩ 0)) = some (tokR L ⟨3, (p : Int), sz, [], n⟩ code) ∧ tokOk L.s_ p ⟨3, (p : Int), sz, [], n⟩ code := by
    cases big with
    | true =>
      have := h2 rfl
      rw [if_pos rfl, if_pos (show w' > 1000000000000000 by omega)]
      exact ⟨0, 0, 3, rfl, rfl, fun h => by cases h⟩
    | false =>
      obtain ⟨rfl, h⟩ := h1 rfl
      rw [if_neg (by simp), if_neg (show ¬ w' > 1000000000000000 by omega)]
      exact ⟨w', j, 0, rfl, rfl, hn _⟩
  have b2 : (0 : Int) ≤ ((p + j : Nat) : Int) := by omega
  by_cases c1 : p + j < L.s_.length
  · have b1 : ((p + j : Nat) : Int) < (L.s_.length : Int) := by omega
    by_cases c2 : alnumB (L.s_.getD (p + j) 0) = true
    · rw [if_pos (c := _ ∧ _) ⟨c1, c2⟩, if_pos b1, if_pos b2, if_pos c2]
      exact ⟨0, 0, 2, rfl, rfl, fun h => by cases h⟩
    · rw [if_neg (c := _ ∧ _) (fun q => c2 q.2), if_pos b1, if_pos b2, if_neg c2]
      exact tail
  · have b1 : ¬ ((p + j : Nat) : Int) < (L.s_.length : Int) := by omega
    rw [if_neg (c := _ ∧ _) (fun q => c1 q.1), if_neg b1]
    exact tail
end
end Go.Proofs.Ytdkbfcmekppnmaa
