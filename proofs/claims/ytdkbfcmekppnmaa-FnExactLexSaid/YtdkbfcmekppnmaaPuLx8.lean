import Derived.Test.YtdkbfcmekppnmaaPuLx7
namespace Go.Proofs.Ytdkbfcmekppnmaa
open Go.Sx Go.Sy
set_option linter.unusedVariables false
set_option linter.unusedSimpArgs false
set_option linter.unusedSectionVars false
set_option maxRecDepth 8000
set_option maxHeartbeats 4000000
section
variable {L : GLexer}
/-! ### blanks and remarks -/
theorem pct (hl : L.s_.length ≤ 10000) (p : Nat) (hc0 : L.code_ = 0) : ∀ (m i : Nat), L.s_.length - (p + i) ≤ m → p + i ≤ L.s_.length →
    ∃ j : Nat, i ≤ j ∧ p + j ≤ L.s_.length ∧ (p + i < L.s_.length → ((L.s_.getD (p + i) 0).toNat : Int) ≠ 10 → i < j) ∧
      (∀ k, m < k → spec_l1skip.l0 k L.s_ (p : Int) (i : Int) = some (j : Int)) ∧
      (∀ k', m < k' → ∃ k'', k' ≤ k'' + (j - i) + 1 ∧ impl_lexer_blanks.l1 k' L ((p + i : Nat) : Int) = impl_lexer_blanks.l0 k'' L ((p + j : Nat) : Int)) := by
  intro m
  induction m with
  | zero =>
    intro i h1 h2
    refine ⟨i, by omega, h2, by omega, fun k hk => ?_, fun k' hk' => ?_⟩
    · obtain ⟨k, rfl⟩ : ∃ q, k = q + 1 := ⟨k - 1, by omega⟩
      rw [spec_l1skip.l0, wa (by omega) (by omega), if_neg (by omega)]
    · obtain ⟨k', rfl⟩ : ∃ q, k' = q + 1 := ⟨k' - 1, by omega⟩
      exact ⟨k', by omega, by rw [impl_lexer_blanks.l1, if_neg (by omega)]⟩
  | succ m ih =>
    intro i h1 h2
    by_cases hi : p + i < L.s_.length
    · by_cases hx : ((L.s_.getD (p + i) 0).toNat : Int) ≠ 10
      · obtain ⟨j, o1, o2, o3, e1, e2⟩ := ih (i + 1) (by omega) (by omega)
        refine ⟨j, by omega, o2, fun _ _ => by omega, fun k hk => ?_, fun k' hk' => ?_⟩
        · obtain ⟨k, rfl⟩ : ∃ q, k = q + 1 := ⟨k - 1, by omega⟩
          rw [spec_l1skip.l0, wa (by omega) (by omega), if_pos (by omega), if_pos (by omega), Int.toNat_natCast, if_pos hx, w1 (by omega)]
          exact e1 k (by omega)
        · obtain ⟨k', rfl⟩ : ∃ q, k' = q + 1 := ⟨k' - 1, by omega⟩
          obtain ⟨k'', q1, q2⟩ := e2 k' (by omega)
          refine ⟨k'', by omega, ?_⟩
          rw [impl_lexer_blanks.l1, if_pos (by omega), if_pos (by omega), Int.toNat_natCast, if_pos hx, w1 (by omega)]
          exact q2
      · refine ⟨i, by omega, h2, fun _ h => absurd h hx, fun k hk => ?_, fun k' hk' => ?_⟩
        · obtain ⟨k, rfl⟩ : ∃ q, k = q + 1 := ⟨k - 1, by omega⟩
          rw [spec_l1skip.l0, wa (by omega) (by omega), if_pos (by omega), if_pos (by omega), Int.toNat_natCast, if_neg hx]
        · obtain ⟨k', rfl⟩ : ∃ q, k' = q + 1 := ⟨k' - 1, by omega⟩
          exact ⟨k', by omega, by rw [impl_lexer_blanks.l1, if_pos (by omega), if_pos (by omega), Int.toNat_natCast, if_neg hx]⟩
    · refine ⟨i, by omega, h2, fun h => absurd h hi, fun k hk => ?_, fun k' hk' => ?_⟩
      · obtain ⟨k, rfl⟩ : ∃ q, k = q + 1 := ⟨k - 1, by omega⟩
        rw [spec_l1skip.l0, wa (by omega) (by omega), if_neg (by omega)]
      · obtain ⟨k', rfl⟩ : ∃ q, k' = q + 1 := ⟨k' - 1, by omega⟩
        exact ⟨k', by omega, by rw [impl_lexer_blanks.l1, if_neg (by omega)]⟩
theorem two_at {s : List UInt8} {x : Nat} (h : x + 1 < s.length) : (s.drop x).take (x + 2 - x) = [s.getD x 0, s.getD (x + 1) 0] := by
  rw [show x + 2 - x = 2 by omega, List.drop_eq_getElem_cons (by omega), List.take_succ_cons, List.drop_eq_getElem_cons h, List.take_succ_cons, List.take_zero, getD_at (by omega), getD_at h]
theorem cmt (hl : L.s_.length ≤ 10000) (p : Nat) (hc0 : L.code_ = 0) : ∀ (m i : Nat), L.s_.length - (p + i) ≤ m → p + i ≤ L.s_.length →
    ((∀ k, m < k → spec_l1skip.l1 k L.s_ (p : Int) (i : Int) = some (-1)) ∧ (∀ k', m < k' → impl_lexer_blanks.l2 k' L (p : Int) ((p + i : Nat) : Int) = some ⟨L.s_, (p : Int), L.tokens_, 2, (p : Int)⟩)) ∨
    ∃ j : Nat, i < j ∧ p + j ≤ L.s_.length ∧
      (∀ k, m < k → spec_l1skip.l1 k L.s_ (p : Int) (i : Int) = some (j : Int)) ∧
      (∀ k', m < k' → ∃ k'', k' ≤ k'' + (j - i) ∧ impl_lexer_blanks.l2 k' L (p : Int) ((p + i : Nat) : Int) = impl_lexer_blanks.l0 k'' L ((p + j : Nat) : Int)) := by
  intro m
  induction m with
  | zero =>
    intro i h1 h2
    refine .inl ⟨fun k hk => ?_, fun k' hk' => ?_⟩
    · obtain ⟨k, rfl⟩ : ∃ q, k = q + 1 := ⟨k - 1, by omega⟩
      rw [spec_l1skip.l1, wa (by omega) (by omega), w1 (by omega), if_neg (by omega)]
    · obtain ⟨k', rfl⟩ : ∃ q, k' = q + 1 := ⟨k' - 1, by omega⟩
      rw [impl_lexer_blanks.l2, w1 (by omega), if_neg (by omega), if_pos (by omega)]
      rfl
  | succ m ih =>
    intro i h1 h2
    by_cases hi : p + i + 1 < L.s_.length
    · have hsub := two_at (s := L.s_) (x := p + i) hi
      have no : ¬ (((L.s_.getD (p + i) 0).toNat : Int) = 42 ∧ ((L.s_.getD (p + i + 1) 0).toNat : Int) = 47) → ((L.s_.drop (p + i)).take (p + i + 2 - (p + i))) ≠ ([42, 47] : List UInt8) := by
        intro h q
        rw [hsub] at q
        injection q with q1 q2
        injection q2 with q2 _
        exact h ⟨by rw [q1]; rfl, by rw [q2]; rfl⟩
      have spec_step : ∀ k, ¬ (((L.s_.getD (p + i) 0).toNat : Int) = 42 ∧ ((L.s_.getD (p + i + 1) 0).toNat : Int) = 47) → spec_l1skip.l1 (k + 1) L.s_ (p : Int) (i : Int) = spec_l1skip.l1 k L.s_ (p : Int) ((i + 1 : Nat) : Int) := by
        intro k h
        rw [spec_l1skip.l1, wa (by omega) (by omega), w1 (by omega), if_pos (by omega), if_pos (by omega), if_pos (by omega), w1 (by omega)]
        simp only [Int.toNat_natCast]
        by_cases c1 : ((L.s_.getD (p + i) 0).toNat : Int) = 42
        · rw [if_pos c1, if_pos (by omega), if_neg (fun q => h ⟨c1, q⟩)]
        · rw [if_neg c1]
      have impl_step : ∀ k', ¬ (((L.s_.getD (p + i) 0).toNat : Int) = 42 ∧ ((L.s_.getD (p + i + 1) 0).toNat : Int) = 47) → impl_lexer_blanks.l2 (k' + 1) L (p : Int) ((p + i : Nat) : Int) = impl_lexer_blanks.l2 k' L (p : Int) ((p + (i + 1) : Nat) : Int) := by
        intro k' h
        rw [impl_lexer_blanks.l2, w1 (by omega), w2 (by omega), if_pos (by omega), if_pos (by omega), if_pos (by omega), if_pos (by omega)]
        simp only [Int.toNat_natCast]
        rw [if_pos (no h)]
        rfl
      by_cases hx : ((L.s_.getD (p + i) 0).toNat : Int) = 42 ∧ ((L.s_.getD (p + i + 1) 0).toNat : Int) = 47
      · refine .inr ⟨i + 2, by omega, by omega, fun k hk => ?_, fun k' hk' => ?_⟩
        · obtain ⟨k, rfl⟩ : ∃ q, k = q + 1 := ⟨k - 1, by omega⟩
          rw [spec_l1skip.l1, wa (by omega) (by omega), w1 (by omega), if_pos (by omega), if_pos (by omega), if_pos (by omega)]
          simp only [Int.toNat_natCast]
          rw [if_pos hx.1, if_pos (by omega), if_pos hx.2, w2 (by omega)]
        · obtain ⟨k', rfl⟩ : ∃ q, k' = q + 1 := ⟨k' - 1, by omega⟩
          refine ⟨k', by omega, ?_⟩
          have y : ((L.s_.drop (p + i)).take (p + i + 2 - (p + i))) = ([42, 47] : List UInt8) := by
            rw [hsub, ch_eq (c := L.s_.getD (p + i) 0) (d := 42) hx.1, ch_eq (c := L.s_.getD (p + i + 1) 0) (d := 47) hx.2]
          rw [impl_lexer_blanks.l2, w1 (by omega), w2 (by omega), if_pos (by omega), if_pos (by omega), if_pos (by omega), if_pos (by omega)]
          simp only [Int.toNat_natCast]
          rw [if_neg (fun q => q y), if_neg (by omega)]
          rfl
      · rcases ih (i + 1) (by omega) (by omega) with ⟨e1, e2⟩ | ⟨j, o1, o2, e1, e2⟩
        · refine .inl ⟨fun k hk => ?_, fun k' hk' => ?_⟩
          · obtain ⟨k, rfl⟩ : ∃ q, k = q + 1 := ⟨k - 1, by omega⟩
            rw [spec_step k hx]; exact e1 k (by omega)
          · obtain ⟨k', rfl⟩ : ∃ q, k' = q + 1 := ⟨k' - 1, by omega⟩
            rw [impl_step k' hx]; exact e2 k' (by omega)
        · refine .inr ⟨j, by omega, o2, fun k hk => ?_, fun k' hk' => ?_⟩
          · obtain ⟨k, rfl⟩ : ∃ q, k = q + 1 := ⟨k - 1, by omega⟩
            rw [spec_step k hx]; exact e1 k (by omega)
          · obtain ⟨k', rfl⟩ : ∃ q, k' = q + 1 := ⟨k' - 1, by omega⟩
            obtain ⟨k'', q1, q2⟩ := e2 k' (by omega)
            exact ⟨k'', by omega, by rw [impl_step k' hx]; exact q2⟩
    · refine .inl ⟨fun k hk => ?_, fun k' hk' => ?_⟩
      · obtain ⟨k, rfl⟩ : ∃ q, k = q + 1 := ⟨k - 1, by omega⟩
        rw [spec_l1skip.l1, wa (by omega) (by omega), w1 (by omega), if_neg (by omega)]
      · obtain ⟨k', rfl⟩ : ∃ q, k' = q + 1 := ⟨k' - 1, by omega⟩
        rw [impl_lexer_blanks.l2, w1 (by omega), if_neg (by omega), if_pos (by omega)]
        rfl
/-- what the skipping does, in both -/
def BS (L : GLexer) (T : List Token) (last : Int) (p : Nat) : Prop :=
    ∃ (p' : Nat) (bad : Bool), p ≤ p' ∧ p' ≤ L.s_.length ∧
      (∀ k', 3 * (L.s_.length - p) + 3 < k' → impl_lexer_blanks.l0 k' L (p : Int) = some (if bad = true then ⟨L.s_, (p' : Int), L.tokens_, 2, (p' : Int)⟩ else ⟨L.s_, (p' : Int), L.tokens_, L.code_, L.place_⟩)) ∧
      (bad = true → ∀ k, 30000 + (L.s_.length - p) < k → spec_Lex.l0 k L.s_ T (p : Int) last = some ([], 2, (p' : Int))) ∧
      (bad = false → (∀ k, 30000 + (L.s_.length - p) < k → ∃ kk, k ≤ kk + (p' - p) ∧ spec_Lex.l0 k L.s_ T (p : Int) last = spec_Lex.l0 kk L.s_ T (p' : Int) last) ∧ (p' < L.s_.length → ∀ q, 30000 < q → spec_l1skip.f q L.s_ (p' : Int) = some 0))
theorem blanks_sim (hl : L.s_.length ≤ 10000) (hc0 : L.code_ = 0) (T : List Token) (last : Int) : ∀ (m p : Nat), L.s_.length - p ≤ m → p ≤ L.s_.length → BS L T last p := by
  intro m
  induction m with
  | zero =>
    intro p h1 h2
    refine ⟨p, false, by omega, h2, fun k' hk' => ?_, by simp, fun _ => ⟨fun k hk => ⟨k, by omega, rfl⟩, by omega⟩⟩
    obtain ⟨k', rfl⟩ : ∃ q, k' = q + 1 := ⟨k' - 1, by omega⟩
    rw [impl_lexer_blanks.l0, if_neg (by omega)]
    rfl
  | succ m ih =>
    intro p h1 h2
    by_cases hp : p < L.s_.length
    · have F0 : (0 : Int) ≤ (p : Int) := by omega
      have F1 : (p : Int) < (L.s_.length : Int) := by omega
      have w1p : IntKind.i64.wrap ((p : Int) + 1) = ((p + 1 : Nat) : Int) := w1 (by omega)
      have w2p : IntKind.i64.wrap ((p : Int) + 2) = ((p + 2 : Nat) : Int) := w2 (by omega)
      obtain ⟨c, hc⟩ : ∃ c, L.s_.getD p 0 = c := ⟨_, rfl⟩
      have pk1 : impl_lexer_peek.f (⟨L.s_, (p : Int), L.tokens_, L.code_, L.place_⟩ : GLexer) 1 = _ := peek_val (L := ⟨L.s_, (p : Int), L.tokens_, L.code_, L.place_⟩) p rfl (by omega) 1 (by omega)
      -- on from a later place
      have on : ∀ (d : Nat), 0 < d → p + d ≤ L.s_.length → (∀ k, 30000 < k → spec_l1skip.f k L.s_ (p : Int) = some (d : Int)) →
          (∀ k', (L.s_.length - p) + 1 < k' → ∃ k'', k' ≤ k'' + d + 2 ∧ impl_lexer_blanks.l0 k' L (p : Int) = impl_lexer_blanks.l0 k'' L ((p + d : Nat) : Int)) → BS L T last p := by
        intro d d0 hd e1 e2
        obtain ⟨p', bad, o1, o2, b1, b2, b3⟩ := ih (p + d) (by omega) hd
        have step : ∀ k, 30000 + (L.s_.length - p) < k → spec_Lex.l0 k L.s_ T (p : Int) last = spec_Lex.l0 (k - 1) L.s_ T ((p + d : Nat) : Int) last := by
          intro k hk
          obtain ⟨k, rfl⟩ : ∃ q, k = q + 1 := ⟨k - 1, by omega⟩
          rw [spec_Lex.l0, if_pos F1, e1 k (by omega), Option.bind_some, if_pos (by omega), wa (by omega) (by omega)]
          rfl
        refine ⟨p', bad, by omega, o2, fun k' hk' => ?_, fun hb k hk => ?_, fun hb => ⟨fun k hk => ?_, (b3 hb).2⟩⟩
        · obtain ⟨k'', q1, q2⟩ := e2 k' (by omega)
          rw [q2]
          exact b1 k'' (by omega)
        · rw [step k hk]
          exact b2 hb (k - 1) (by omega)
        · obtain ⟨kk, q1, q2⟩ := (b3 hb).1 (k - 1) (by omega)
          exact ⟨kk, by omega, by rw [step k hk]; exact q2⟩
      have stay : (∀ k, 30000 < k → spec_l1skip.f k L.s_ (p : Int) = some 0) → (∀ k', 0 < k' → impl_lexer_blanks.l0 k' L (p : Int) = some ⟨L.s_, (p : Int), L.tokens_, L.code_, L.place_⟩) → BS L T last p := by
        intro e1 e2
        refine ⟨p, false, by omega, h2, fun k' hk' => ?_, by simp, fun _ => ⟨fun k hk => ⟨k, by omega, rfl⟩, fun _ => e1⟩⟩
        rw [e2 k' (by omega)]; rfl
      cases hb : blankB c with
      | true =>
        refine on 1 (by omega) (by omega) (fun k hk => ?_) (fun k' hk' => ?_)
        · rw [spec_l1skip.f]
          simp only [↓reduceIte, F0, F1, Int.toNat_natCast, hc, blankB_val, hb, Option.bind_some]
          rfl
        · obtain ⟨k', rfl⟩ : ∃ q, k' = q + 1 := ⟨k' - 1, by omega⟩
          refine ⟨k', by omega, ?_⟩
          rw [impl_lexer_blanks.l0]
          simp only [↓reduceIte, F0, F1, Int.toNat_natCast, hc, blank_eq, blankB_val, hb, Option.bind_some, hc0, w1p]
      | false =>
        by_cases c37 : (c.toNat : Int) = 37
        · obtain ⟨j, o1, o2, o3, e1, e2⟩ := pct hl p hc0 (L.s_.length - p) 0 (by omega) (by omega)
          have hj := o3 (by omega) (by rw [Nat.add_zero, hc]; omega)
          refine on j hj o2 (fun k hk => ?_) (fun k' hk' => ?_)
          · rw [spec_l1skip.f]
            simp only [↓reduceIte, F0, F1, Int.toNat_natCast, hc, blankB_val, hb, Option.bind_some, eq_true c37, Bool.false_eq_true]
            exact e1 k (by omega)
          · obtain ⟨k', rfl⟩ : ∃ q, k' = q + 1 := ⟨k' - 1, by omega⟩
            obtain ⟨k'', q1, q2⟩ := e2 k' (by omega)
            refine ⟨k'', by omega, ?_⟩
            rw [impl_lexer_blanks.l0]
            simp only [↓reduceIte, F0, F1, Int.toNat_natCast, hc, blank_eq, blankB_val, hb, Option.bind_some, hc0, eq_true c37, Bool.false_eq_true]
            exact q2
        · by_cases c47 : (c.toNat : Int) = 47
          · by_cases hp1 : p + 1 < L.s_.length
            · have g0 : (0 : Int) ≤ ((p + 1 : Nat) : Int) := by omega
              have g1 : ((p + 1 : Nat) : Int) < (L.s_.length : Int) := by omega
              have g2 : ¬ ((p + 1 : Nat) : Int) ≥ (L.s_.length : Int) := by omega
              rw [if_pos hp1] at pk1
              replace pk1 : impl_lexer_peek.f (⟨L.s_, (p : Int), L.tokens_, 0, L.place_⟩ : GLexer) 1 = some (L.s_.getD (p + 1) 0) := by rw [← hc0]; exact pk1
              by_cases c42 : ((L.s_.getD (p + 1) 0).toNat : Int) = 42
              · have sp : ∀ k, spec_l1skip.f k L.s_ (p : Int) = spec_l1skip.l1 k L.s_ (p : Int) 2 := by
                  intro k
                  rw [spec_l1skip.f]
                  simp only [↓reduceIte, F0, F1, Int.toNat_natCast, hc, blankB_val, hb, Option.bind_some, c37, eq_true c47, eq_true c42, w1p, g0, g1, g2, Bool.false_eq_true, ne_eq, not_true_eq_false]
                have im : ∀ k', impl_lexer_blanks.l0 (k' + 1) L (p : Int) = impl_lexer_blanks.l2 k' L (p : Int) ((p + 2 : Nat) : Int) := by
                  intro k'
                  rw [impl_lexer_blanks.l0]
                  simp only [↓reduceIte, F0, F1, Int.toNat_natCast, hc, blank_eq, blankB_val, hb, Option.bind_some, hc0, c37, eq_true c47, eq_true c42, pk1, w2p, Bool.false_eq_true]
                rcases cmt hl p hc0 (L.s_.length - p) 2 (by omega) (by omega) with ⟨e1, e2⟩ | ⟨j, o1, o2, e1, e2⟩
                · refine ⟨p, true, by omega, h2, fun k' hk' => ?_, fun _ k hk => ?_, by simp⟩
                  · obtain ⟨k', rfl⟩ : ∃ q, k' = q + 1 := ⟨k' - 1, by omega⟩
                    rw [im, e2 k' (by omega)]; rfl
                  · obtain ⟨k, rfl⟩ : ∃ q, k = q + 1 := ⟨k - 1, by omega⟩
                    have e1' : spec_l1skip.l1 k L.s_ (p : Int) 2 = some (-1) := e1 k (by omega)
                    rw [spec_Lex.l0, if_pos F1, sp, e1', Option.bind_some, if_neg (by omega), if_pos (by omega)]
                · refine on j (by omega) o2 (fun k hk => ?_) (fun k' hk' => ?_)
                  · rw [sp]; exact e1 k (by omega)
                  · obtain ⟨k', rfl⟩ : ∃ q, k' = q + 1 := ⟨k' - 1, by omega⟩
                    obtain ⟨k'', q1, q2⟩ := e2 k' (by omega)
                    exact ⟨k'', by omega, by rw [im]; exact q2⟩
              · refine stay (fun k hk => ?_) (fun k' hk' => ?_)
                · rw [spec_l1skip.f]
                  simp only [↓reduceIte, F0, F1, Int.toNat_natCast, hc, blankB_val, hb, Option.bind_some, c37, eq_true c47, c42, w1p, g0, g1, g2, Bool.false_eq_true, ne_eq, not_true_eq_false, not_false_eq_true]
                · obtain ⟨k', rfl⟩ : ∃ q, k' = q + 1 := ⟨k' - 1, by omega⟩
                  rw [impl_lexer_blanks.l0]
                  simp only [↓reduceIte, F0, F1, Int.toNat_natCast, hc, blank_eq, blankB_val, hb, Option.bind_some, hc0, c37, eq_true c47, c42, pk1, w2p, Bool.false_eq_true]
            · have g2 : ((p + 1 : Nat) : Int) ≥ (L.s_.length : Int) := by omega
              rw [if_neg hp1] at pk1
              replace pk1 : impl_lexer_peek.f (⟨L.s_, (p : Int), L.tokens_, 0, L.place_⟩ : GLexer) 1 = some 0 := by rw [← hc0]; exact pk1
              have z42 : ¬ (((0 : UInt8).toNat : Int) = 42) := by decide
              refine stay (fun k hk => ?_) (fun k' hk' => ?_)
              · rw [spec_l1skip.f]
                simp only [↓reduceIte, F0, F1, Int.toNat_natCast, hc, blankB_val, hb, Option.bind_some, c37, eq_true c47, w1p, g2, Bool.false_eq_true, ne_eq, not_true_eq_false]
              · obtain ⟨k', rfl⟩ : ∃ q, k' = q + 1 := ⟨k' - 1, by omega⟩
                rw [impl_lexer_blanks.l0]
                simp only [↓reduceIte, F0, F1, Int.toNat_natCast, hc, blank_eq, blankB_val, hb, Option.bind_some, hc0, c37, eq_true c47, pk1, z42, w2p, Bool.false_eq_true]
          · refine stay (fun k hk => ?_) (fun k' hk' => ?_)
            · rw [spec_l1skip.f]
              simp only [↓reduceIte, F0, F1, Int.toNat_natCast, hc, blankB_val, hb, Option.bind_some, c37, c47, Bool.false_eq_true, ne_eq, not_false_eq_true]
            · obtain ⟨k', rfl⟩ : ∃ q, k' = q + 1 := ⟨k' - 1, by omega⟩
              rw [impl_lexer_blanks.l0]
              simp only [↓reduceIte, F0, F1, Int.toNat_natCast, hc, blank_eq, blankB_val, hb, Option.bind_some, hc0, c37, c47, Bool.false_eq_true]
    · refine ⟨p, false, by omega, h2, fun k' hk' => ?_, by simp, fun _ => ⟨fun k hk => ⟨k, by omega, rfl⟩, by omega⟩⟩
      obtain ⟨k', rfl⟩ : ∃ q, k' = q + 1 := ⟨k' - 1, by omega⟩
      rw [impl_lexer_blanks.l0, if_neg (by omega)]
      rfl
end
end Go.Proofs.Ytdkbfcmekppnmaa
