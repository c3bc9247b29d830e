import Derived.Test.YtdkbfcmekppnmaaPuLx8
namespace Go.Proofs.Ytdkbfcmekppnmaa
open Go.Sx Go.Sy
set_option linter.unusedVariables false
set_option linter.unusedSimpArgs false
set_option linter.unusedSectionVars false
set_option maxRecDepth 8000
set_option maxHeartbeats 4000000
theorem lastEnd_append (toks : List Token) (tk : Token) : lastEnd (toks ++ [tk]) = if tk.kind = 1 then tk.place + tk.size else -1 := by
  unfold lastEnd
  rw [if_neg (by simp)]
  have e : (toks ++ [tk]).getD ((toks ++ [tk]).length - 1) z37 = tk := by
    rw [List.getD_eq_getElem?_getD]; simp
  rw [e]
theorem lex_loop (s : List UInt8) (hl : s.length ≤ 10000) : ∀ (m p : Nat) (toks : List Token) (pl : Int) (k k' : Nat), s.length - p ≤ m → p ≤ s.length → toks.length ≤ p → (∀ t, t ∈ toks → t.text.length ≤ 100) → (-10 ≤ lastEnd toks ∧ lastEnd toks ≤ 20000) → 50000 + (s.length - p) < k → 50000 + (s.length - p) < k' →
    ∃ (r : List Token) (c q : Int), spec_Lex.l0 k s toks (p : Int) (lastEnd toks) = some (r, c, q) ∧ impl_Lex.l1 k' s (p : Int) toks 0 pl = some (r, c, q) ∧ okToks r := by
  intro m
  induction m with
  | zero =>
    intro p toks pl k k' h1 h2 h3 h4 h5 hk hk'
    obtain ⟨k, rfl⟩ : ∃ q, k = q + 1 := ⟨k - 1, by omega⟩
    obtain ⟨k', rfl⟩ : ∃ q, k' = q + 1 := ⟨k' - 1, by omega⟩
    refine ⟨toks, 0, 0, ?_, ?_, ⟨by omega, h4⟩⟩
    · rw [spec_Lex.l0, if_neg (by omega)]
    · obtain ⟨k', rfl⟩ : ∃ q, k' = q + 1 := ⟨k' - 1, by omega⟩
      rw [impl_Lex.l1, impl_lexer_blanks.f, impl_lexer_blanks.l0]
      show ((if (p : Int) < (s.length : Int) then _ else some (⟨s, (p : Int), toks, 0, pl⟩ : GLexer)).bind _) = _
      rw [if_neg (by omega), Option.bind_some, if_neg (by simp), if_pos (by simp; omega), impl_Lex.l0, if_neg (by simp)]
  | succ m ih =>
    intro p toks pl k k' h1 h2 h3 h4 h5 hk hk'
    obtain ⟨k', rfl⟩ : ∃ q, k' = q + 1 := ⟨k' - 1, by omega⟩
    obtain ⟨p', bad, o1, o2, b1, b2, b3⟩ := blanks_sim (L := ⟨s, (p : Int), toks, 0, pl⟩) hl rfl toks (lastEnd toks) (s.length - p) p (Nat.le_refl _) h2
    have b1 := b1 k' (by show 3 * (s.length - p) + 3 < k'; omega)
    rw [impl_Lex.l1, impl_lexer_blanks.f]
    show ∃ (r : List Token) (c q : Int), _ ∧ ((impl_lexer_blanks.l0 k' (⟨s, (p : Int), toks, 0, pl⟩ : GLexer) (p : Int)).bind _) = _ ∧ _
    cases bad with
    | true =>
      have b1 : impl_lexer_blanks.l0 k' (⟨s, (p : Int), toks, 0, pl⟩ : GLexer) (p : Int) = some ⟨s, (p' : Int), toks, 2, (p' : Int)⟩ := b1
      rw [b1, Option.bind_some, if_pos (by simp), impl_Lex.l0, if_pos (by simp)]
      exact ⟨[], 2, (p' : Int), b2 rfl k (by show 30000 + (s.length - p) < k; omega), rfl, ⟨by simp, by simp⟩⟩
    | false =>
      obtain ⟨b4, b5⟩ := b3 rfl
      obtain ⟨kk, q1, q2⟩ := b4 k (by show 30000 + (s.length - p) < k; omega)
      have b1 : impl_lexer_blanks.l0 k' (⟨s, (p : Int), toks, 0, pl⟩ : GLexer) (p : Int) = some ⟨s, (p' : Int), toks, 0, pl⟩ := b1
      rw [b1, Option.bind_some, if_neg (by simp)]
      have o2 : p' ≤ s.length := o2
      have q2 : spec_Lex.l0 k s toks (p : Int) (lastEnd toks) = spec_Lex.l0 kk s toks (p' : Int) (lastEnd toks) := q2
      rw [q2]
      obtain ⟨kk, rfl⟩ : ∃ q, kk = q + 1 := ⟨kk - 1, by omega⟩
      by_cases hp : p' < s.length
      · have b5 := b5 hp kk (by omega)
        have b5 : spec_l1skip.f kk s (p' : Int) = some 0 := b5
        obtain ⟨tk, code, e1, e2, e3⟩ := token_sim (L := ⟨s, (p' : Int), toks, 0, pl⟩) hl p' rfl rfl (by show toks.length ≤ 10000; omega) hp h5 kk k' (by omega) (by omega)
        have e1 : spec_l1token.f kk s (p' : Int) (decide (lastEnd toks = (p' : Int))) = some (tk, code) := e1
        have e3 : tokOk s p' tk code := e3
        show ∃ (r : List Token) (c q : Int), _ ∧ (if (p' : Int) ≥ (s.length : Int) then _ else ((impl_lexer_token.f k' (⟨s, (p' : Int), toks, 0, pl⟩ : GLexer)).bind _)) = _ ∧ _
        rw [if_neg (by omega), e2, Option.bind_some, spec_Lex.l0, if_pos (by omega), b5, Option.bind_some, if_neg (by omega), if_neg (by omega), e1, Option.bind_some]
        by_cases hc : code = 0
        · subst hc
          obtain ⟨f1, ⟨n, f2, f3, f4⟩, f5⟩ := e3 rfl
          have sum : tk.place + tk.size = ((p' + n : Nat) : Int) := by rw [f1, f3]; omega
          have hle : lastEnd (toks ++ [tk]) = if tk.kind = 1 then ((p' + n : Nat) : Int) else -1 := by rw [lastEnd_append, sum]
          have IH := ih (p' + n) (toks ++ [tk]) pl kk k' (by omega) f4 (by simp; omega) (by
            intro t ht
            rcases List.mem_append.1 ht with h | h
            · exact h4 t h
            · rcases List.mem_singleton.1 h with rfl; exact f5) (by rw [hle]; split <;> omega) (by omega) (by omega)
          have tr : tokR (⟨s, (p' : Int), toks, 0, pl⟩ : GLexer) tk 0 = ⟨s, ((p' + n : Nat) : Int), toks ++ [tk], 0, pl⟩ := by
            unfold tokR; rw [if_neg (by simp), sum]
          rw [tr, if_neg (c := _ ≠ _) (by simp), if_neg (c := _ ≠ _) (by simp), if_pos (by omega)]
          show ∃ (r : List Token) (c q : Int), (if tk.kind = 1 then spec_Lex.l0 kk s (toks ++ [tk]) (IntKind.i64.wrap ((p' : Int) + tk.size)) (IntKind.i64.wrap ((p' : Int) + tk.size)) else spec_Lex.l0 kk s (toks ++ [tk]) (IntKind.i64.wrap ((p' : Int) + tk.size)) (-1)) = some (r, c, q) ∧ _
          rw [f3, wa (by omega) (by omega)]
          rw [hle] at IH
          by_cases hk1 : tk.kind = 1
          · rw [if_pos hk1] at IH ⊢; exact IH
          · rw [if_neg hk1] at IH ⊢; exact IH
        · have tr : tokR (⟨s, (p' : Int), toks, 0, pl⟩ : GLexer) tk code = ⟨s, (p' : Int), toks, code, (p' : Int)⟩ := by
            unfold tokR; rw [if_pos hc]
          rw [tr, if_pos hc, if_pos hc, impl_Lex.l0, if_pos hc]
          exact ⟨[], code, (p' : Int), rfl, rfl, ⟨by simp, by simp⟩⟩
      · show ∃ (r : List Token) (c q : Int), _ ∧ (if (p' : Int) ≥ (s.length : Int) then (impl_Lex.l0 0 s (p' : Int) toks 0 pl) else _) = _ ∧ _
        rw [if_pos (by omega), spec_Lex.l0, if_neg (by omega), impl_Lex.l0, if_neg (by simp)]
        exact ⟨toks, 0, 0, rfl, rfl, ⟨by omega, h4⟩⟩
theorem lex_sim (s : List UInt8) (k k' : Nat) (hk : 70000 < k) (hk' : 70000 < k') : ∃ (r : List Token) (c q : Int), spec_Lex.f k s = some (r, c, q) ∧ impl_Lex.f k' s = some (r, c, q) ∧ okToks r := by
  rw [spec_Lex.f, impl_Lex.f]
  by_cases h : (s.length : Int) > 10000
  · rw [if_pos h, if_pos h]
    exact ⟨[], 3, 10000, rfl, rfl, ⟨by simp, by simp⟩⟩
  · rw [if_neg h, if_neg h]
    exact lex_loop s (by omega) (s.length) 0 [] 0 k k' (by omega) (by omega) (by simp) (by simp) ⟨by decide, by decide⟩ (by omega) (by omega)
theorem FnExactLex_plain (s : List UInt8) : laws_FnExactLex.f 4000000 s = some true := by
  rw [laws_FnExactLex.f]
  by_cases h : (s.length : Int) > 1048576
  · rw [if_pos h]
  · rw [if_neg h]
    obtain ⟨r, c, q, e1, e2, ok⟩ := lex_sim s 4000000 4000000 (by omega) (by omega)
    have hw := wts_toks ok
    have hr := ok.1
    obtain ⟨ys, m1, m2, m3⟩ := markTokenS_val r 4000000 1 ok (by omega) (by omega) (by omega)
    obtain ⟨bs, n1, n2, n3⟩ := markByteS_val s 4000000 1 (by omega) (by omega) (by omega) (by omega)
    obtain ⟨g1, g2⟩ := heldTokenS_val ys 4000000 1 _ (by omega) (by omega) (by omega) m3
    simp only [toByteS_id s 4000000 (by omega) (by omega), e1, e2, Option.bind_some, eqTokenS_id r 4000000 ok (by omega), eqByteS_id s 4000000 (by omega) (by omega), n1, m1, g1]
    rw [if_neg (by simp), if_neg (by simp), if_neg (by simp), if_neg (by simp), if_neg (by omega), if_neg (by simp), if_neg (by omega), if_neg (by simp), if_neg (by simp), if_neg (by simp), if_neg (by simp), if_neg (by omega), if_neg (by simp)]
end Go.Proofs.Ytdkbfcmekppnmaa
