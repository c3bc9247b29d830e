import Derived.Test.YtdkbfcmekppnmaaPuLx5
namespace Go.Proofs.Ytdkbfcmekppnmaa
open Go.Sx Go.Sy
set_option linter.unusedVariables false
set_option linter.unusedSimpArgs false
set_option linter.unusedSectionVars false
set_option maxRecDepth 8000
set_option maxHeartbeats 8000000
section
variable {L : GLexer}
theorem ch_eq {c d : UInt8} (h : (c.toNat : Int) = (d.toNat : Int)) : c = d := UInt8.toNat_inj.1 (by omega)
theorem digit_letter (x : UInt8) (h : digitB x = true) : letterB x = false ∧ smallB x = false := by
  have hd : 48 ≤ x.toNat ∧ x.toNat ≤ 57 := by
    unfold digitB spec_l1digit.f at h
    split at h
    · simp at h; omega
    · simp at h
  have hs : smallB x = false := by
    unfold smallB spec_l1small.f
    rw [if_neg (by omega)]; rfl
  refine ⟨?_, hs⟩
  unfold letterB impl_isLetter.f
  rw [small_eq, smallB_val, Option.bind_some, hs, if_neg (by simp), if_neg (by omega)]
  simp; omega
/-- where the last token ends, if it is an atom -/
def lastEnd (toks : List Token) : Int := if toks.length = 0 then -1 else if (toks.getD (toks.length - 1) z37).kind = 1 then (toks.getD (toks.length - 1) z37).place + (toks.getD (toks.length - 1) z37).size else -1
theorem quote_sim (hl : L.s_.length ≤ 10000) (p : Nat) (ha : L.at_ = (p : Int)) (ht : L.tokens_.length ≤ 10000) (hp : p < L.s_.length) (c : UInt8) (hc : L.s_.getD p 0 = c) (kind : Int) (hk0 : kind = 1 ∨ kind = 4) (k k' : Nat) (hk : 30000 < k) (hk' : 30000 < k') :
    ∃ (tk : Token) (code : Int), ((spec_l1text.f k L.s_ (p : Int)).bind fun t => (if t.2 = 0 then some ((⟨0, 0, 0, [], 0⟩ : Token), (2 : Int)) else (if (t.1.length : Int) > 100 then some ((⟨0, 0, 0, [], 0⟩ : Token), 3) else some ((⟨kind, (p : Int), t.2, t.1, 0⟩ : Token), 0)))) = some (tk, code) ∧
      impl_lexer_quote.l1 k' L c kind [] ((p + 1 : Nat) : Int) = some (tokR L tk code) ∧ tokOk L.s_ p tk code := by
  obtain ⟨t, n, e1, e2, o1, o2⟩ := text_loop hl c p hc hp kind (L.s_.length - (p + 1)) (p + 1) [] k k' (by omega) (by omega) (by simp) (by omega) (by omega) (by omega)
  have e1' : spec_l1text.f k L.s_ (p : Int) = some (t, (n : Int)) := by
    rw [spec_l1text.f, if_pos (by omega), if_pos (by omega), w1 (by omega)]; exact e1
  rw [e1', Option.bind_some, e2]
  show ∃ (tk : Token) (code : Int), (if (n : Int) = 0 then some ((⟨0, 0, 0, [], 0⟩ : Token), (2 : Int)) else (if (t.length : Int) > 100 then some ((⟨0, 0, 0, [], 0⟩ : Token), 3) else some ((⟨kind, (p : Int), (n : Int), t, 0⟩ : Token), 0))) = _ ∧ _
  by_cases hn : n = 0
  · rw [if_pos (by omega), if_pos hn]
    exact ⟨_, 2, rfl, rfl, fun h => by cases h⟩
  · have hq := o1 (by omega)
    rw [if_neg (by omega), if_neg hn, put_val p ha kind n t 0 ht o2 (by omega) (by omega)]
    by_cases h : 100 < t.length
    · rw [if_pos (by omega), if_pos h]
      exact ⟨_, 3, rfl, rfl, fun h => by cases h⟩
    · rw [if_neg (by omega), if_neg h]
      refine ⟨_, 0, rfl, ?_, fun _ => ⟨rfl, ⟨n, by omega, rfl, hq⟩, by simp; omega⟩⟩
      simp [putR, tokR, ha]
theorem token_sim (hl : L.s_.length ≤ 10000) (p : Nat) (ha : L.at_ = (p : Int)) (hc0 : L.code_ = 0) (ht : L.tokens_.length ≤ 10000) (hp : p < L.s_.length) (hle : -10 ≤ lastEnd L.tokens_ ∧ lastEnd L.tokens_ ≤ 20000) (k k' : Nat) (hk : 30000 < k) (hk' : 30000 < k') :
    ∃ (tk : Token) (code : Int), spec_l1token.f k L.s_ (p : Int) (decide (lastEnd L.tokens_ = (p : Int))) = some (tk, code) ∧ impl_lexer_token.f k' L = some (tokR L tk code) ∧ tokOk L.s_ p tk code := by
  obtain ⟨c, hc⟩ : ∃ c, L.s_.getD p 0 = c := ⟨_, rfl⟩
  have hcc := c.toNat_lt
  have F0 : (0 : Int) ≤ (p : Int) := by omega
  have F1 : (p : Int) < (L.s_.length : Int) := by omega
  have w1p : IntKind.i64.wrap ((p : Int) + 1) = ((p + 1 : Nat) : Int) := w1 (by omega)
  have sye : ∀ x, spec_l1symbol.f k x = some (symB x) := fun x => symbol_val k (by omega) x
  rw [spec_l1token.f, impl_lexer_token.f]
  cases hd : digitB c with
  | true =>
    obtain ⟨n, sz, code, e1, e2, e3⟩ := number_sim hl p ha hc0 ht hp (by rw [hc]; exact hd) k k' hk hk'
    obtain ⟨l1, l2⟩ := digit_letter c hd
    refine ⟨⟨3, (p : Int), sz, [], n⟩, code, ?_, ?_, e3⟩
    · simp only [↓reduceIte, Int.toNat_natCast, hc, digitB_val, hd, Option.bind_some, e1, F0, F1, Bool.false_eq_true, not_true_eq_false, not_false_eq_true]
    · simp only [↓reduceIte, ha, Int.toNat_natCast, hc, digit_eq, digitB_val, hd, small_eq, smallB_val, l1, l2, letterB_val, Option.bind_some, bindSome, e2, F0, F1, Bool.false_eq_true, not_true_eq_false, not_false_eq_true]
  | false =>
    cases hal : alnumB c with
    | true =>
      have hlt : letterB c = true := by have := alnum_split c; rw [hal, hd] at this; simpa using this.symm
      have fin : ∀ kind : Int, kind = 1 ∨ kind = 2 → ∃ (tk : Token) (code : Int), ((spec_l1run.f k L.s_ (p : Int) false).bind fun t => spec_l1token.l0 0 L.s_ (p : Int) kind t) = some (tk, code) ∧ impl_lexer_run.f k' L kind = some (tokR L tk code) ∧ tokOk L.s_ p tk code := by
        intro kind hkd
        obtain ⟨j, e1, e2, o1, o2, o3⟩ := run_loop hl p ha kind (L.s_.length - p) 0 k k' (by omega) (by omega) (by omega) (by omega)
        have hj := o3 (by omega) (by rw [Nat.add_zero, hc]; exact hal)
        obtain ⟨tk, code, f1, f2, f3⟩ := tok_end hl p ha ht j hj o2 kind (by omega)
        refine ⟨tk, code, ?_, ?_, f3⟩
        · rw [spec_l1run.f]
          show ((spec_l1run.l0 k L.s_ (p : Int) false ((0 : Nat) : Int)).bind _) = _
          rw [e1, Option.bind_some]; exact f1
        · rw [impl_lexer_run.f, ha]
          show impl_lexer_run.l0 k' L kind ((p + 0 : Nat) : Int) = _
          rw [e2]; exact f2
      cases hs : smallB c with
      | true =>
        obtain ⟨tk, code, f1, f2, f3⟩ := fin 1 (.inl rfl)
        refine ⟨tk, code, ?_, ?_, f3⟩
        · simp only [↓reduceIte, Int.toNat_natCast, hc, digitB_val, hd, alnumB_val, hal, smallB_val, hs, Option.bind_some, F0, F1, Bool.false_eq_true, not_true_eq_false, not_false_eq_true]
          exact f1
        · simp only [↓reduceIte, ha, Int.toNat_natCast, hc, small_eq, smallB_val, hs, Option.bind_some, bindSome, F0, F1, Bool.false_eq_true, not_true_eq_false, not_false_eq_true]
          exact f2
      | false =>
        obtain ⟨tk, code, f1, f2, f3⟩ := fin 2 (.inr rfl)
        refine ⟨tk, code, ?_, ?_, f3⟩
        · simp only [↓reduceIte, Int.toNat_natCast, hc, digitB_val, hd, alnumB_val, hal, smallB_val, hs, Option.bind_some, F0, F1, Bool.false_eq_true, not_true_eq_false, not_false_eq_true]
          exact f1
        · simp only [↓reduceIte, ha, Int.toNat_natCast, hc, small_eq, smallB_val, hs, letterB_val, hlt, Option.bind_some, bindSome, F0, F1, Bool.false_eq_true, not_true_eq_false, not_false_eq_true]
          exact f2
    | false =>
      have hlt : letterB c = false := by have := alnum_split c; rw [hal, hd] at this; simpa using this.symm
      have hs := letter_small c hlt
      have run2 : symB c = true → ∃ (tk : Token) (code : Int), ((spec_l1run.f k L.s_ (p : Int) true).bind fun t => spec_l1token.l0 0 L.s_ (p : Int) 1 t) = some (tk, code) ∧ impl_lexer_run_2.f k' L 1 = some (tokR L tk code) ∧ tokOk L.s_ p tk code := by
        intro hsy
        obtain ⟨j, e1, e2, o1, o2, o3⟩ := run_loop2 hl p ha 1 (L.s_.length - p) 0 k k' (by omega) (by omega) (by omega) (by omega)
        have hj := o3 (by omega) (by rw [Nat.add_zero, hc]; exact hsy)
        obtain ⟨tk, code, f1, f2, f3⟩ := tok_end hl p ha ht j hj o2 1 (by omega)
        refine ⟨tk, code, ?_, ?_, f3⟩
        · rw [spec_l1run.f]
          show ((spec_l1run.l0 k L.s_ (p : Int) true ((0 : Nat) : Int)).bind _) = _
          rw [e1, Option.bind_some]; exact f1
        · rw [impl_lexer_run_2.f, ha]
          show impl_lexer_run_2.l0 k' L 1 ((p + 0 : Nat) : Int) = _
          rw [e2]; exact f2
      have one : ∀ (kind : Int), ∃ (tk : Token) (code : Int), spec_l1token.l0 0 L.s_ (p : Int) kind 1 = some (tk, code) ∧ impl_lexer_put.f L kind ((p + 1 : Nat) : Int) [c] 0 = some (tokR L tk code) ∧ tokOk L.s_ p tk code := by
        intro kind
        have e : (L.s_.drop p).take (p + 1 - p) = [c] := by
          rw [show p + 1 - p = 1 by omega, List.drop_eq_getElem_cons hp, List.take_succ_cons, List.take_zero, ← getD_at hp, hc]
        have := tok_end hl p ha ht 1 (by omega) (by omega) kind (by omega)
        rw [e] at this
        exact this
      by_cases c46 : (c.toNat : Int) = 46
      · have e46 : c = 46 := ch_eq (d := 46) c46
        have sy : symB c = true := by rw [e46]; decide
        have fin7 : ∃ (tk : Token) (code : Int), some ((⟨7, (p : Int), 1, [], 0⟩ : Token), (0 : Int)) = some (tk, code) ∧ impl_lexer_put.f L 7 ((p + 1 : Nat) : Int) [] 0 = some (tokR L tk code) ∧ tokOk L.s_ p tk code := by
          refine ⟨_, 0, rfl, ?_, fun _ => ⟨rfl, ⟨1, by omega, rfl, by omega⟩, by simp⟩⟩
          rw [put_val p ha 7 1 [] 0 ht (by simp) (by omega) (by simp)]
          simp [putR, tokR, ha]
        by_cases hp1 : p + 1 < L.s_.length
        · have g0 : (0 : Int) ≤ ((p + 1 : Nat) : Int) := by omega
          have g1 : ((p + 1 : Nat) : Int) < (L.s_.length : Int) := by omega
          have g2 : ¬ ((p + 1 : Nat) : Int) ≥ (L.s_.length : Int) := by omega
          have g3 : ¬ ((p + 1 : Nat) : Int) = (L.s_.length : Int) := by omega
          cases hb : blankB (L.s_.getD (p + 1) 0) with
          | true =>
            simp only [↓reduceIte, ha, w1p, Int.toNat_natCast, hc, digit_eq, digitB_val, hd, alnumB_val, hal, small_eq, smallB_val, hs, letterB_val, hlt, blank_eq, blankB_val, hb, Option.bind_some, bindSome, F0, F1, c46, g0, g1, g2, g3, Bool.false_eq_true, not_true_eq_false, not_false_eq_true]
            exact fin7
          | false =>
            by_cases c37 : ((L.s_.getD (p + 1) 0).toNat : Int) = 37
            · simp only [↓reduceIte, ha, w1p, Int.toNat_natCast, hc, digit_eq, digitB_val, hd, alnumB_val, hal, small_eq, smallB_val, hs, letterB_val, hlt, blank_eq, blankB_val, hb, Option.bind_some, bindSome, F0, F1, c46, c37, g0, g1, g2, g3, Bool.false_eq_true, not_true_eq_false, not_false_eq_true]
              exact fin7
            · simp only [↓reduceIte, ha, w1p, Int.toNat_natCast, hc, digit_eq, digitB_val, hd, alnumB_val, hal, small_eq, smallB_val, hs, letterB_val, hlt, blank_eq, blankB_val, hb, Option.bind_some, bindSome, symB_val, sye, sy, F0, F1, c46, c37, g0, g1, g2, g3, Bool.false_eq_true, not_true_eq_false, not_false_eq_true]
              exact run2 sy
        · have g2 : ((p + 1 : Nat) : Int) ≥ (L.s_.length : Int) := by omega
          have g3 : ((p + 1 : Nat) : Int) = (L.s_.length : Int) := by omega
          simp only [↓reduceIte, ha, w1p, Int.toNat_natCast, hc, digit_eq, digitB_val, hd, alnumB_val, hal, small_eq, smallB_val, hs, letterB_val, hlt, Option.bind_some, bindSome, F0, F1, c46, g2, eq_true g3, Bool.false_eq_true, not_true_eq_false, not_false_eq_true]
          exact fin7
      · cases sy : symB c with
        | true =>
          simp only [↓reduceIte, ha, w1p, Int.toNat_natCast, hc, digit_eq, digitB_val, hd, alnumB_val, hal, small_eq, smallB_val, hs, letterB_val, hlt, Option.bind_some, bindSome, symB_val, sye, sy, F0, F1, c46, Bool.false_eq_true, not_true_eq_false, not_false_eq_true]
          exact run2 sy
        | false =>
          have wr : ∀ d : UInt8, c = d → runeS (IntKind.i32.wrap (d.toNat : Int)) = [d] → runeS (IntKind.i32.wrap (c.toNat : Int)) = [c] := fun d h1 h2 => by rw [h1]; exact h2
          by_cases c33 : (c.toNat : Int) = 33
          · have rn := wr 33 (ch_eq (d := 33) c33) (by decide +kernel)
            simp only [↓reduceIte, ha, w1p, Int.toNat_natCast, hc, digit_eq, digitB_val, hd, alnumB_val, hal, small_eq, smallB_val, hs, letterB_val, hlt, Option.bind_some, bindSome, symB_val, sye, sy, F0, F1, c46, Bool.false_eq_true, not_true_eq_false, not_false_eq_true, fault_val, eq_true c33, rn]
            exact one 1
          by_cases c59 : (c.toNat : Int) = 59
          · have rn := wr 59 (ch_eq (d := 59) c59) (by decide +kernel)
            simp only [↓reduceIte, ha, w1p, Int.toNat_natCast, hc, digit_eq, digitB_val, hd, alnumB_val, hal, small_eq, smallB_val, hs, letterB_val, hlt, Option.bind_some, bindSome, symB_val, sye, sy, F0, F1, c46, Bool.false_eq_true, not_true_eq_false, not_false_eq_true, fault_val, c33, eq_true c59, rn]
            exact one 1
          by_cases c39 : (c.toNat : Int) = 39
          · have := quote_sim hl p ha ht hp c hc 1 (by omega) k k' hk hk'
            have c34 : ¬ (c.toNat : Int) = 34 := by omega
            simp only [↓reduceIte, ha, w1p, Int.toNat_natCast, hc, digit_eq, digitB_val, hd, alnumB_val, hal, small_eq, smallB_val, hs, letterB_val, hlt, Option.bind_some, bindSome, symB_val, sye, sy, F0, F1, c46, Bool.false_eq_true, not_true_eq_false, not_false_eq_true, fault_val, c33, c59, eq_true c39, spec_l1token.l2, impl_lexer_quote.f, impl_lexer_quote.l0, c34]
            exact this
          by_cases c34 : (c.toNat : Int) = 34
          · have := quote_sim hl p ha ht hp c hc 4 (by omega) k k' hk hk'
            simp only [↓reduceIte, ha, w1p, Int.toNat_natCast, hc, digit_eq, digitB_val, hd, alnumB_val, hal, small_eq, smallB_val, hs, letterB_val, hlt, Option.bind_some, bindSome, symB_val, sye, sy, F0, F1, c46, Bool.false_eq_true, not_true_eq_false, not_false_eq_true, fault_val, c33, c59, c39, eq_true c34, spec_l1token.l2, impl_lexer_quote.f, impl_lexer_quote.l0]
            exact this
          by_cases c40 : (c.toNat : Int) = 40
          · have e40 : c = 40 := ch_eq (d := 40) c40
            have o5 := one 5
            have o6 := one 6
            rw [e40] at o5 o6
            simp only [↓reduceIte, ha, w1p, Int.toNat_natCast, hc, digit_eq, digitB_val, hd, alnumB_val, hal, small_eq, smallB_val, hs, letterB_val, hlt, Option.bind_some, bindSome, symB_val, sye, sy, F0, F1, c46, Bool.false_eq_true, not_true_eq_false, not_false_eq_true, fault_val, c33, c59, c39, c34, eq_true c40]
            unfold lastEnd at hle ⊢
            by_cases t0 : L.tokens_.length = 0
            · rw [if_pos t0, if_neg (c := (L.tokens_.length : Int) > 0) (by omega), if_neg (by simp)]
              exact o5
            · rw [if_neg t0] at hle ⊢
              rw [if_pos (c := (L.tokens_.length : Int) > 0) (by omega), ws1 (by omega) (by omega), if_pos (c := (0 : Int) ≤ ((L.tokens_.length - 1 : Nat) : Int)) (by omega), if_pos (c := ((L.tokens_.length - 1 : Nat) : Int) < (L.tokens_.length : Int)) (by omega), Int.toNat_natCast]
              by_cases t1 : (L.tokens_.getD (L.tokens_.length - 1) z37).kind = 1
              · rw [if_pos t1] at hle ⊢
                rw [if_pos t1, wrap_id (by omega) (by omega)]
                by_cases t2 : (L.tokens_.getD (L.tokens_.length - 1) z37).place + (L.tokens_.getD (L.tokens_.length - 1) z37).size = (p : Int)
                · rw [if_pos (by simpa using t2), if_pos t2]
                  exact o6
                · rw [if_neg (by simpa using t2), if_neg t2]
                  exact o5
              · rw [if_neg t1, if_neg t1, if_neg (by simp)]
                exact o5
          by_cases c41 : (c.toNat : Int) = 41
          · have rn := wr 41 (ch_eq (d := 41) c41) (by decide +kernel)
            simp only [↓reduceIte, ha, w1p, Int.toNat_natCast, hc, digit_eq, digitB_val, hd, alnumB_val, hal, small_eq, smallB_val, hs, letterB_val, hlt, Option.bind_some, bindSome, symB_val, sye, sy, F0, F1, c46, Bool.false_eq_true, not_true_eq_false, not_false_eq_true, fault_val, c33, c59, c39, c34, c40, eq_true c41, rn]
            exact one 5
          by_cases c91 : (c.toNat : Int) = 91
          · have rn := wr 91 (ch_eq (d := 91) c91) (by decide +kernel)
            simp only [↓reduceIte, ha, w1p, Int.toNat_natCast, hc, digit_eq, digitB_val, hd, alnumB_val, hal, small_eq, smallB_val, hs, letterB_val, hlt, Option.bind_some, bindSome, symB_val, sye, sy, F0, F1, c46, Bool.false_eq_true, not_true_eq_false, not_false_eq_true, fault_val, c33, c59, c39, c34, c40, c41, eq_true c91, rn]
            exact one 5
          by_cases c93 : (c.toNat : Int) = 93
          · have rn := wr 93 (ch_eq (d := 93) c93) (by decide +kernel)
            simp only [↓reduceIte, ha, w1p, Int.toNat_natCast, hc, digit_eq, digitB_val, hd, alnumB_val, hal, small_eq, smallB_val, hs, letterB_val, hlt, Option.bind_some, bindSome, symB_val, sye, sy, F0, F1, c46, Bool.false_eq_true, not_true_eq_false, not_false_eq_true, fault_val, c33, c59, c39, c34, c40, c41, c91, eq_true c93, rn]
            exact one 5
          by_cases c123 : (c.toNat : Int) = 123
          · have rn := wr 123 (ch_eq (d := 123) c123) (by decide +kernel)
            simp only [↓reduceIte, ha, w1p, Int.toNat_natCast, hc, digit_eq, digitB_val, hd, alnumB_val, hal, small_eq, smallB_val, hs, letterB_val, hlt, Option.bind_some, bindSome, symB_val, sye, sy, F0, F1, c46, Bool.false_eq_true, not_true_eq_false, not_false_eq_true, fault_val, c33, c59, c39, c34, c40, c41, c91, c93, eq_true c123, rn]
            exact one 5
          by_cases c125 : (c.toNat : Int) = 125
          · have rn := wr 125 (ch_eq (d := 125) c125) (by decide +kernel)
            simp only [↓reduceIte, ha, w1p, Int.toNat_natCast, hc, digit_eq, digitB_val, hd, alnumB_val, hal, small_eq, smallB_val, hs, letterB_val, hlt, Option.bind_some, bindSome, symB_val, sye, sy, F0, F1, c46, Bool.false_eq_true, not_true_eq_false, not_false_eq_true, fault_val, c33, c59, c39, c34, c40, c41, c91, c93, c123, eq_true c125, rn]
            exact one 5
          by_cases c44 : (c.toNat : Int) = 44
          · have rn := wr 44 (ch_eq (d := 44) c44) (by decide +kernel)
            simp only [↓reduceIte, ha, w1p, Int.toNat_natCast, hc, digit_eq, digitB_val, hd, alnumB_val, hal, small_eq, smallB_val, hs, letterB_val, hlt, Option.bind_some, bindSome, symB_val, sye, sy, F0, F1, c46, Bool.false_eq_true, not_true_eq_false, not_false_eq_true, fault_val, c33, c59, c39, c34, c40, c41, c91, c93, c123, c125, eq_true c44, rn]
            exact one 5
          by_cases c124 : (c.toNat : Int) = 124
          · have rn := wr 124 (ch_eq (d := 124) c124) (by decide +kernel)
            simp only [↓reduceIte, ha, w1p, Int.toNat_natCast, hc, digit_eq, digitB_val, hd, alnumB_val, hal, small_eq, smallB_val, hs, letterB_val, hlt, Option.bind_some, bindSome, symB_val, sye, sy, F0, F1, c46, Bool.false_eq_true, not_true_eq_false, not_false_eq_true, fault_val, c33, c59, c39, c34, c40, c41, c91, c93, c123, c125, c44, eq_true c124, rn]
            exact one 5
          simp only [↓reduceIte, ha, w1p, Int.toNat_natCast, hc, digit_eq, digitB_val, hd, alnumB_val, hal, small_eq, smallB_val, hs, letterB_val, hlt, Option.bind_some, bindSome, symB_val, sye, sy, F0, F1, c46, Bool.false_eq_true, not_true_eq_false, not_false_eq_true, fault_val, c33, c59, c39, c34, c40, c41, c91, c93, c123, c125, c44, c124]
          exact ⟨_, 2, rfl, by simp [tokR, ha], fun h => by cases h⟩
end
end Go.Proofs.Ytdkbfcmekppnmaa
