import Derived.Test.YtdkbfcmekppnmaaPuLx3
namespace Go.Proofs.Ytdkbfcmekppnmaa
open Go.Sx Go.Sy
set_option linter.unusedVariables false
set_option linter.unusedSimpArgs false
set_option linter.unusedSectionVars false
set_option maxRecDepth 4000
set_option maxHeartbeats 4000000
section
variable {L : GLexer}
theorem digit_hex (x : UInt8) (h : digitB x = true) : hexV x < 10 := by
  have hx : x.toNat < 256 := x.toNat_lt
  have hd : 48 ≤ x.toNat ∧ x.toNat ≤ 57 := by
    unfold digitB spec_l1digit.f at h
    split at h
    · simp at h; omega
    · simp at h
  unfold hexV spec_l1hex.f
  rw [digitB_val, Option.bind_some, if_pos h, b8_toNat (by omega) (by omega)]
  simp; omega
theorem hex_zero : hexV 0 = 99 := by decide
theorem peek_val (p : Nat) (ha : L.at_ = (p : Int)) (hp : p ≤ 10000) (i : Nat) (hi : i ≤ 10) : impl_lexer_peek.f L (i : Int) = some (if p + i < L.s_.length then L.s_.getD (p + i) 0 else 0) := by
  rw [impl_lexer_peek.f, ha, wa (by omega) (by omega)]
  by_cases h : p + i < L.s_.length
  · rw [if_pos (by omega), if_pos (by omega), if_pos h, Int.toNat_natCast]
  · rw [if_neg (by omega), if_neg h]
/-- the digits of a number in a base -/
theorem num_all (hl : L.s_.length ≤ 10000) (p : Nat) (ha : L.at_ = (p : Int)) (ht : L.tokens_.length ≤ 10000) (b : Nat) (hb : 2 ≤ b ∧ b ≤ 16) (i : Nat) (hi : p + i < L.s_.length) (hx : hexV (L.s_.getD (p + i) 0) < b) (k k' : Nat) (hk : 30000 < k) (hk' : 30000 < k') :
    ∃ (n sz code : Int), spec_l1number.l0 k L.s_ (p : Int) (b : Int) (i : Int) = some (n, sz, code) ∧
      ((impl_lexer_number_c1.f k' (b : Int) ((p + i : Nat) : Int) L 0).bind fun t => impl_lexer_number.l1 0 L L.s_ L.at_ L.tokens_ L.code_ L.place_ t.2 t.1) = some (tokR L ⟨3, (p : Int), sz, [], n⟩ code) ∧ tokOk L.s_ p ⟨3, (p : Int), sz, [], n⟩ code := by
  obtain ⟨j, w, w', big, e1, e2, o1, o2, o3, o4, o5⟩ := num_loop hl b hb p (by omega) (L.s_.length - (p + i)) i 0 0 false k k' (by omega) (by omega) (by omega) (by omega) (by omega) (fun _ => ⟨rfl, by omega⟩) (by simp)
  obtain ⟨n, sz, code, f1, f2, f3⟩ := number_end hl p ha ht j (o2 hi) (by have := o3 hi hx; omega) w w' big o4 o5
  refine ⟨n, sz, code, ?_, ?_, f3⟩
  · rw [spec_l1number.l0, e1, f1]
  · rw [impl_lexer_number_c1.f, e2, Option.bind_some]; exact f2
/-! ### the code of a character -/
theorem char_end (hl : L.s_.length ≤ 10000) (p j : Nat) (hj : 0 < j) (hp : p + j ≤ L.s_.length) (v : Int) : spec_l1char.l0 0 L.s_ (p : Int) (j : Int) v = some (numR L.s_ p j v false) := by
  rw [spec_l1char.l0, if_neg (by omega)]
  simp (maxSteps := 5000000) (disch := omega) only [wa, Int.toNat_natCast, alnumB_val, Option.bind_some]
  unfold numR
  by_cases h : p + j < L.s_.length
  · rw [if_pos (by omega), if_pos (by omega)]
    by_cases h2 : alnumB (L.s_.getD (p + j) 0) = true
    · rw [if_pos h2, if_pos ⟨h, h2⟩]
    · rw [if_neg h2, if_neg (c := _ ∧ _) (fun q => h2 q.2)]; rfl
  · rw [if_neg (by omega), if_neg (c := _ ∧ _) (fun q => h q.1)]; rfl
theorem char_bad (s : List UInt8) (p v : Int) : spec_l1char.l0 0 s p 0 v = some (0, 0, 2) := by rw [spec_l1char.l0, if_pos rfl]
theorem char_sim (hl : L.s_.length ≤ 10000) (p : Nat) (ha : L.at_ = (p : Int)) (hc0 : L.code_ = 0) (ht : L.tokens_.length ≤ 10000) (hp : p + 1 < L.s_.length) (c0 : ((L.s_.getD p 0).toNat : Int) = 48) (c1 : ((L.s_.getD (p + 1) 0).toNat : Int) = 39) (k k' : Nat) (hk : 30000 < k) (hk' : 30000 < k') :
    ∃ (n sz code : Int), spec_l1char.f k L.s_ (p : Int) = some (n, sz, code) ∧ impl_lexer_number.l0 k' L 10 = some (tokR L ⟨3, (p : Int), sz, [], n⟩ code) ∧ tokOk L.s_ p ⟨3, (p : Int), sz, [], n⟩ code := by
  have pk1 : impl_lexer_peek.f L 1 = _ := peek_val (L := L) p ha (by omega) 1 (by omega)
  rw [if_pos hp] at pk1
  have pk3 : impl_lexer_peek.f L 3 = _ := peek_val (L := L) p ha (by omega) 3 (by omega)
  have good : ∀ (j : Nat) (v : Int), 0 < j → p + j ≤ L.s_.length → v ≤ 255 → ∃ (n sz code : Int), some (numR L.s_ p j v false) = some (n, sz, code) ∧ impl_lexer_number.l1 0 L L.s_ L.at_ L.tokens_ L.code_ L.place_ v ((p + j : Nat) : Int) = some (tokR L ⟨3, (p : Int), sz, [], n⟩ code) ∧ tokOk L.s_ p ⟨3, (p : Int), sz, [], n⟩ code := by
    intro j v h1 h2 h3
    obtain ⟨n, sz, code, f1, f2, f3⟩ := number_end hl p ha ht j h2 h1 v v false (fun _ => ⟨rfl, by omega⟩) (by simp)
    exact ⟨n, sz, code, by rw [f1], f2, f3⟩
  have bad : ∃ (n sz code : Int), some ((0 : Int), (0 : Int), (2 : Int)) = some (n, sz, code) ∧ some (⟨L.s_, L.at_, L.tokens_, 2, L.at_⟩ : GLexer) = some (tokR L ⟨3, (p : Int), sz, [], n⟩ code) ∧ tokOk L.s_ p ⟨3, (p : Int), sz, [], n⟩ code :=
    ⟨0, 0, 2, rfl, rfl, fun h => by cases h⟩
  simp only [ha] at good bad
  rw [impl_lexer_number.l0, spec_l1char.f]
  by_cases h2 : p + 2 < L.s_.length
  · by_cases c2 : ((L.s_.getD (p + 2) 0).toNat : Int) = 39
    · by_cases h3 : p + 3 < L.s_.length
      · rw [if_pos h3] at pk3
        by_cases c3 : ((L.s_.getD (p + 3) 0).toNat : Int) = 39
        · simp (maxSteps := 5000000) (disch := omega) only [w1, w2, w3, w3', wa, Int.toNat_natCast, ha, if_pos, if_neg, pk1, pk3, Option.bind_some, print_eq, rawB_val, fault_val, bindSome, c1, char_bad]
          rw [show (4 : Int) = ((4 : Nat) : Int) from rfl, char_end hl p 4 (by omega) (by omega)]
          exact good 4 39 (by omega) (by omega) (by omega)
        · simp (maxSteps := 5000000) (disch := omega) only [w1, w2, w3, w3', wa, Int.toNat_natCast, ha, if_pos, if_neg, pk1, pk3, Option.bind_some, print_eq, rawB_val, fault_val, bindSome, c1, char_bad]
          exact bad
      · rw [if_neg h3] at pk3
        simp (maxSteps := 5000000) (disch := omega) only [w1, w2, w3, w3', wa, Int.toNat_natCast, ha, if_pos, if_neg, pk1, pk3, Option.bind_some, print_eq, rawB_val, fault_val, bindSome, c1, char_bad]
        rw [if_pos (by decide)]
        exact bad
    · by_cases c3 : ((L.s_.getD (p + 2) 0).toNat : Int) = 92
      · obtain ⟨t, n, e1, e2, o1, o2, o3⟩ := escape_sim hl (p + 2) (by omega) k k' (by omega) (by omega)
        have e1' : spec_l1escape.f k L.s_ ((p + 3 : Nat) : Int) = some (t, (n : Int)) := e1
        have sp : spec_l1char.f k L.s_ (p : Int) = (if (t.length : Int) = 1 then (if 0 < (t.length : Int) then (spec_l1char.l0 0 L.s_ (p : Int) ((3 + n : Nat) : Int) ((t.getD 0 (0 : UInt8)).toNat : Int)) else none) else some (0, 0, 2)) := by
          rw [spec_l1char.f]
          by_cases h3 : p + 3 < L.s_.length
          · simp (maxSteps := 5000000) (disch := omega) only [w1, w2, w3, w3', wa, Int.toNat_natCast, ha, if_pos, if_neg, pk1, pk3, Option.bind_some, print_eq, rawB_val, fault_val, bindSome, c1, char_bad, e1']
          · simp (maxSteps := 5000000) (disch := omega) only [w1, w2, w3, w3', wa, Int.toNat_natCast, ha, if_pos, if_neg, pk1, pk3, Option.bind_some, print_eq, rawB_val, fault_val, bindSome, c1, char_bad, e1']
        have im : impl_lexer_number.l0 k' L 10 = (if ¬ ((escR (p + 2) t n).2.2 = true) then some (⟨L.s_, (p : Int), L.tokens_, 2, (p : Int)⟩ : GLexer) else (if (escR (p + 2) t n).1 = ([] : List UInt8) then some (⟨L.s_, (p : Int), L.tokens_, 2, (p : Int)⟩ : GLexer) else (if 0 < ((escR (p + 2) t n).1.length : Int) then (impl_lexer_number.l1 0 L L.s_ (p : Int) L.tokens_ L.code_ L.place_ (((escR (p + 2) t n).1.getD (0 : Int).toNat (0 : UInt8)).toNat : Int) (escR (p + 2) t n).2.1) else none))) := by
          rw [impl_lexer_number.l0]
          simp (maxSteps := 5000000) (disch := omega) only [w1, w2, w3, w3', wa, Int.toNat_natCast, ha, if_pos, if_neg, pk1, pk3, Option.bind_some, print_eq, rawB_val, fault_val, bindSome, c1, char_bad, e2]
          rw [if_pos trivial]
        rw [← impl_lexer_number.l0, ← spec_l1char.f, sp, im]
        by_cases hn : n = 0
        · rw [o2 hn]
          unfold escR
          rw [if_pos hn, if_neg (by simp), if_pos (by simp)]
          exact bad
        · unfold escR
          rw [if_neg hn, if_neg (c := ¬ _) (by simp)]
          rcases t with _ | ⟨c, _ | ⟨d, t⟩⟩
          · rw [if_neg (by simp), if_pos rfl]
            exact bad
          · have hc : c.toNat < 256 := c.toNat_lt
            rw [if_pos (by simp), if_pos (by simp), if_neg (by simp), if_pos (by simp), char_end hl p (3 + n) (by omega) (by have := o3 (by omega); omega)]
            have := good (3 + n) (c.toNat : Int) (by omega) (by have := o3 (by omega); omega) (by omega)
            rw [show p + 2 + 1 + n = p + (3 + n) by omega]
            exact this
          · simp at o1
      · have hcc := (L.s_.getD (p + 2) 0).toNat_lt
        by_cases c4 : rawB (L.s_.getD (p + 2) 0) = true
        · have sp : spec_l1char.f k L.s_ (p : Int) = some (numR L.s_ p 3 ((L.s_.getD (p + 2) 0).toNat : Int) false) := by
            rw [spec_l1char.f, ← char_end hl p 3 (by omega) (by omega)]
            by_cases h3 : p + 3 < L.s_.length
            · simp (maxSteps := 5000000) (disch := omega) only [w1, w2, w3, w3', wa, Int.toNat_natCast, ha, if_pos, if_neg, pk1, pk3, Option.bind_some, print_eq, rawB_val, fault_val, bindSome, c1, char_bad, c4]
              rfl
            · simp (maxSteps := 5000000) (disch := omega) only [w1, w2, w3, w3', wa, Int.toNat_natCast, ha, if_pos, if_neg, pk1, pk3, Option.bind_some, print_eq, rawB_val, fault_val, bindSome, c1, char_bad, c4]
              rfl
          rw [← spec_l1char.f, sp]
          simp (maxSteps := 5000000) (disch := omega) only [w1, w2, w3, w3', wa, Int.toNat_natCast, ha, if_pos, if_neg, pk1, pk3, Option.bind_some, print_eq, rawB_val, fault_val, bindSome, c1, char_bad, c4]
          exact good 3 _ (by omega) (by omega) (by omega)
        · have sp : spec_l1char.f k L.s_ (p : Int) = some (0, 0, 2) := by
            rw [spec_l1char.f]
            by_cases h3 : p + 3 < L.s_.length
            · simp (maxSteps := 5000000) (disch := omega) only [w1, w2, w3, w3', wa, Int.toNat_natCast, ha, if_pos, if_neg, pk1, pk3, Option.bind_some, print_eq, rawB_val, fault_val, bindSome, c1, char_bad, c4]
              rfl
            · simp (maxSteps := 5000000) (disch := omega) only [w1, w2, w3, w3', wa, Int.toNat_natCast, ha, if_pos, if_neg, pk1, pk3, Option.bind_some, print_eq, rawB_val, fault_val, bindSome, c1, char_bad, c4]
              rfl
          rw [← spec_l1char.f, sp]
          simp (maxSteps := 5000000) (disch := omega) only [w1, w2, w3, w3', wa, Int.toNat_natCast, ha, if_pos, if_neg, pk1, pk3, Option.bind_some, print_eq, rawB_val, fault_val, bindSome, c1, char_bad, c4]
          exact bad
  · simp (maxSteps := 5000000) (disch := omega) only [w1, w2, w3, w3', wa, Int.toNat_natCast, ha, if_pos, if_neg, pk1, pk3, Option.bind_some, print_eq, rawB_val, fault_val, bindSome, c1, char_bad]
    exact bad
end
end Go.Proofs.Ytdkbfcmekppnmaa
