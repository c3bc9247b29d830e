import Derived.Test.YtdkbfcmekppnmaaPuLx1
namespace Go.Proofs.Ytdkbfcmekppnmaa
open Go.Sx Go.Sy
set_option linter.unusedVariables false
set_option linter.unusedSimpArgs false
set_option linter.unusedSectionVars false
set_option maxRecDepth 4000
set_option maxHeartbeats 2000000
section
variable {L : GLexer}
theorem bindSome {α : Type} (x : Option α) : (x.bind fun t => some t) = x := by cases x <;> rfl
theorem fault_val (L : GLexer) (c q : Int) : impl_lexer_fault.f L c q = some ⟨L.s_, L.at_, L.tokens_, c, q⟩ := rfl
/-- a token put in, or a text too long -/
def putR (L : GLexer) (kind : Int) (n : Nat) (t : List UInt8) (v : Int) : GLexer := ⟨L.s_, L.at_ + n, L.tokens_ ++ [⟨kind, L.at_, n, t, v⟩], L.code_, L.place_⟩
theorem put_val (p : Nat) (ha : L.at_ = (p : Int)) (kind : Int) (n : Nat) (t : List UInt8) (v : Int) (ht : L.tokens_.length ≤ 10000) (hl : t.length ≤ 10000) (hp : p + n ≤ 10000) (h : t.length ≤ 100 ∨ kind = 1 ∨ kind = 2 ∨ kind = 4) :
    impl_lexer_put.f L kind ((p + n : Nat) : Int) t v = some (if 100 < t.length then ⟨L.s_, L.at_, L.tokens_, 3, L.at_⟩ else putR L kind n t v) := by
  have e : IntKind.i64.wrap (((p + n : Nat) : Int) - L.at_) = (n : Int) := by rw [ha, ws (by omega) (by omega)]; congr 1; omega
  have e2 : ((p + n : Nat) : Int) = L.at_ + n := by rw [ha]; omega
  rw [impl_lexer_put.f]
  simp only [fault_val, bindSome, e]
  by_cases h1 : 100 < t.length
  · rw [if_pos h1]
    by_cases k1 : kind = 1
    · simp (disch := omega) only [if_pos, if_neg]
    · by_cases k2 : kind = 2
      · simp (disch := omega) only [if_pos, if_neg]
      · simp (disch := omega) only [if_pos, if_neg]
  · rw [if_neg h1]
    have e3 : (if t.length ≤ 9223372036854775807 then (if L.tokens_.length + 1 ≤ 2513169434916 then some (⟨L.s_, ((p + n : Nat) : Int), L.tokens_ ++ [(⟨kind, L.at_, (n : Int), t, v⟩ : Token)], L.code_, L.place_⟩ : GLexer) else none) else none) = some (putR L kind n t v) := by
      rw [if_pos (by omega), if_pos (by omega), putR, e2]
    rw [e3]
    simp (disch := omega) only [if_pos, if_neg, ite_self]
/-! ### quoted texts -/
theorem text_loop (hl : L.s_.length ≤ 10000) (q : UInt8) (p : Nat) (hq : L.s_.getD p 0 = q) (hp : p < L.s_.length) (kind : Int) : ∀ (m i : Nat) (acc : List UInt8) (k k' : Nat), L.s_.length - i ≤ m → p < i → acc.length ≤ i → i ≤ 10002 → m + 10 < k → m + 10 < k' →
    ∃ (t : List UInt8) (n : Nat), spec_l1text.l0 k L.s_ (p : Int) acc (i : Int) = some (t, (n : Int)) ∧
      impl_lexer_quote.l1 k' L q kind acc (i : Int) = (if n = 0 then impl_lexer_fault.f L 2 L.at_ else impl_lexer_put.f L kind ((p + n : Nat) : Int) t 0) ∧ (0 < n → p + n ≤ L.s_.length) ∧ t.length ≤ 10000 := by
  intro m
  induction m with
  | zero =>
    intro i acc k k' h1 h2 h3 h4 hk hk'
    obtain ⟨k, rfl⟩ : ∃ q, k = q + 1 := ⟨k - 1, by omega⟩
    obtain ⟨k', rfl⟩ : ∃ q, k' = q + 1 := ⟨k' - 1, by omega⟩
    rw [spec_l1text.l0, impl_lexer_quote.l1, if_neg (by omega), if_neg (by omega), bindSome]
    exact ⟨[], 0, rfl, rfl, by omega, by simp⟩
  | succ m ih =>
    intro i acc k k' h1 h2 h3 h4 hk hk'
    obtain ⟨k, rfl⟩ : ∃ q, k = q + 1 := ⟨k - 1, by omega⟩
    obtain ⟨k', rfl⟩ : ∃ q, k' = q + 1 := ⟨k' - 1, by omega⟩
    rw [spec_l1text.l0, impl_lexer_quote.l1]
    by_cases hi : i < L.s_.length
    · have stop : ∃ (t : List UInt8) (n : Nat), some (acc, IntKind.i64.wrap (((i + 1 : Nat) : Int) - (p : Int))) = some (t, (n : Int)) ∧ impl_lexer_put.f L kind ((i + 1 : Nat) : Int) acc 0 = (if n = 0 then impl_lexer_fault.f L 2 L.at_ else impl_lexer_put.f L kind ((p + n : Nat) : Int) t 0) ∧ (0 < n → p + n ≤ L.s_.length) ∧ t.length ≤ 10000 := by
        refine ⟨acc, i + 1 - p, ?_, ?_, by omega, by omega⟩
        · rw [ws (by omega) (by omega)]
        · rw [if_neg (by omega), show p + (i + 1 - p) = i + 1 by omega]
      by_cases c1 : ((L.s_.getD i 0).toNat : Int) = (q.toNat : Int)
      · by_cases c2 : i + 1 < L.s_.length
        · by_cases c3 : ((L.s_.getD (i + 1) 0).toNat : Int) = (q.toNat : Int)
          · simp (maxSteps := 5000000) (disch := omega) only [w1, w2, Int.toNat_natCast, hq, bindSome, if_pos, if_neg]
            exact ih (i + 2) _ k k' (by omega) (by omega) (by simp; omega) (by omega) (by omega) (by omega)
          · simp (maxSteps := 5000000) (disch := omega) only [w1, w2, Int.toNat_natCast, hq, bindSome, if_pos, if_neg]
            exact stop
        · simp (maxSteps := 5000000) (disch := omega) only [w1, w2, Int.toNat_natCast, hq, bindSome, if_pos, if_neg]
          exact stop
      · by_cases c4 : ((L.s_.getD i 0).toNat : Int) = 92
        · obtain ⟨t, n, e1, e2, o1, o2, o3⟩ := escape_sim hl i (by omega) k k' (by omega) (by omega)
          simp (maxSteps := 5000000) (disch := omega) only [w1, w2, Int.toNat_natCast, hq, bindSome, if_pos, if_neg, e1, e2, Option.bind_some]
          by_cases hn : n = 0
          · unfold escR
            simp (maxSteps := 5000000) (disch := omega) only [if_pos, if_neg]
            rw [if_pos (by simp)]
            exact ⟨[], 0, rfl, rfl, by omega, by simp⟩
          · unfold escR
            simp (maxSteps := 5000000) (disch := omega) only [if_pos, if_neg, w1, wa]
            rw [if_neg (by simp)]
            have := ih (i + (n + 1)) (acc ++ t) k k' (by omega) (by omega) (by simp; omega) (by omega) (by omega) (by omega)
            rw [show i + 1 + n = i + (n + 1) by omega]
            exact this
        · by_cases c5 : rawB (L.s_.getD i 0) = true
          · simp (maxSteps := 5000000) (disch := omega) only [w1, w2, Int.toNat_natCast, hq, bindSome, if_pos, if_neg, print_eq, rawB_val, Option.bind_some, c5]
            exact ih (i + 1) _ k k' (by omega) (by omega) (by simp; omega) (by omega) (by omega) (by omega)
          · simp (maxSteps := 5000000) (disch := omega) only [w1, w2, Int.toNat_natCast, hq, bindSome, if_pos, if_neg, print_eq, rawB_val, Option.bind_some, c5]
            exact ⟨[], 0, rfl, rfl, by omega, by simp⟩
    · rw [if_neg (by omega), if_neg (by omega), bindSome]
      exact ⟨[], 0, rfl, rfl, by omega, by simp⟩
end
end Go.Proofs.Ytdkbfcmekppnmaa
