import Derived.Test.YtdkbfcmekppnmaaPuLx4
namespace Go.Proofs.Ytdkbfcmekppnmaa
open Go.Sx Go.Sy
set_option linter.unusedVariables false
set_option linter.unusedSimpArgs false
set_option linter.unusedSectionVars false
set_option maxRecDepth 4000
set_option maxHeartbeats 4000000
section
variable {L : GLexer}
def baseOf (t : UInt8) : Int := if (t.toNat : Int) = 120 then 16 else if (t.toNat : Int) = 111 then 8 else if (t.toNat : Int) = 98 then 2 else 0
theorem base_val (t : UInt8) : ((mget (mset (mset (mset [] (120 : UInt8) 16) (111 : UInt8) 8) (98 : UInt8) 2) t).getD (0 : Int)) = baseOf t := by
  show ((mget [((120 : UInt8), (16 : Int)), (111, 8), (98, 2)] t).getD (0 : Int)) = _
  have h : ∀ c : UInt8, (c = t) ↔ ((t.toNat : Int) = (c.toNat : Int)) := fun c => ⟨fun h => by rw [h], fun h => (UInt8.toNat_inj.1 (by omega))⟩
  have h1 : (120 : UInt8) = t ↔ (t.toNat : Int) = 120 := h 120
  have h2 : (111 : UInt8) = t ↔ (t.toNat : Int) = 111 := h 111
  have h3 : (98 : UInt8) = t ↔ (t.toNat : Int) = 98 := h 98
  simp only [mget, baseOf]
  by_cases a1 : (120 : UInt8) = t
  · rw [if_pos a1, if_pos (h1.1 a1)]; rfl
  · rw [if_neg a1, if_neg (fun q => a1 (h1.2 q))]
    by_cases a2 : (111 : UInt8) = t
    · rw [if_pos a2, if_pos (h2.1 a2)]; rfl
    · rw [if_neg a2, if_neg (fun q => a2 (h2.2 q))]
      by_cases a3 : (98 : UInt8) = t
      · rw [if_pos a3, if_pos (h3.1 a3)]; rfl
      · rw [if_neg a3, if_neg (fun q => a3 (h3.2 q))]; rfl
theorem number_sim (hl : L.s_.length ≤ 10000) (p : Nat) (ha : L.at_ = (p : Int)) (hc0 : L.code_ = 0) (ht : L.tokens_.length ≤ 10000) (hp : p < L.s_.length) (hd : digitB (L.s_.getD p 0) = true) (k k' : Nat) (hk : 30000 < k) (hk' : 30000 < k') :
    ∃ (n sz code : Int), spec_l1number.f k L.s_ (p : Int) = some (n, sz, code) ∧ impl_lexer_number.f k' L = some (tokR L ⟨3, (p : Int), sz, [], n⟩ code) ∧ tokOk L.s_ p ⟨3, (p : Int), sz, [], n⟩ code := by
  have pk1 : impl_lexer_peek.f L 1 = _ := peek_val (L := L) p ha (by omega) 1 (by omega)
  have pk2 : impl_lexer_peek.f L 2 = _ := peek_val (L := L) p ha (by omega) 2 (by omega)
  have hx := digit_hex _ hd
  have ten : ∃ (n sz code : Int), spec_l1number.l0 k L.s_ (p : Int) 10 0 = some (n, sz, code) ∧
      ((impl_lexer_number_c1.f k' 10 (p : Int) L 0).bind fun t => impl_lexer_number.l1 0 L L.s_ (p : Int) L.tokens_ L.code_ L.place_ t.2 t.1) = some (tokR L ⟨3, (p : Int), sz, [], n⟩ code) ∧ tokOk L.s_ p ⟨3, (p : Int), sz, [], n⟩ code := by
    have := num_all hl p ha ht 10 (by omega) 0 (by omega) hx k k' hk hk'
    rw [ha] at this
    exact this
  have l0ten : ∀ c : UInt8, impl_lexer_peek.f L 1 = some c → (((L.s_.getD p 0).toNat : Int) = 48 → ¬ (c.toNat : Int) = 39) → impl_lexer_number.l0 k' L 10 = ((impl_lexer_number_c1.f k' 10 (p : Int) L 0).bind fun t => impl_lexer_number.l1 0 L L.s_ (p : Int) L.tokens_ L.code_ L.place_ t.2 t.1) := by
    intro c hc hn
    rw [impl_lexer_number.l0]
    by_cases c0 : ((L.s_.getD p 0).toNat : Int) = 48
    · have := hn c0
      simp (maxSteps := 5000000) (disch := omega) only [ha, Int.toNat_natCast, if_pos, if_neg, hc, Option.bind_some]
    · simp (maxSteps := 5000000) (disch := omega) only [ha, Int.toNat_natCast, if_pos, if_neg]
  by_cases c0 : ((L.s_.getD p 0).toNat : Int) = 48
  · by_cases hp1 : p + 1 < L.s_.length
    · rw [if_pos hp1] at pk1
      by_cases c1 : ((L.s_.getD (p + 1) 0).toNat : Int) = 39
      · obtain ⟨n, sz, code, e1, e2, e3⟩ := char_sim hl p ha hc0 ht hp1 c0 c1 k k' hk hk'
        have hb : baseOf (L.s_.getD (p + 1) 0) = 0 := by unfold baseOf; rw [if_neg (by omega), if_neg (by omega), if_neg (by omega)]
        refine ⟨n, sz, code, ?_, ?_, e3⟩
        · rw [spec_l1number.f]
          simp (maxSteps := 5000000) (disch := omega) only [w1, Int.toNat_natCast, if_pos, if_neg, e1, Option.bind_some]
        · rw [impl_lexer_number.f]
          simp (maxSteps := 5000000) (disch := omega) only [ha, Int.toNat_natCast, if_pos, if_neg, pk1, Option.bind_some, base_val, hb, e2]
          rw [if_pos trivial]
      · have l0t := l0ten _ pk1 (fun _ => c1)
        -- a base of its own, or none
        have sp : spec_l1number.f k L.s_ (p : Int) = spec_l1number.l1 k L.s_ (p : Int) (baseOf (L.s_.getD (p + 1) 0)) := by
          rw [spec_l1number.f]
          unfold baseOf
          by_cases a1 : ((L.s_.getD (p + 1) 0).toNat : Int) = 120
          · simp (maxSteps := 5000000) (disch := omega) only [w1, Int.toNat_natCast, if_pos, if_neg]
          · by_cases a2 : ((L.s_.getD (p + 1) 0).toNat : Int) = 111
            · simp (maxSteps := 5000000) (disch := omega) only [w1, Int.toNat_natCast, if_pos, if_neg]
            · by_cases a3 : ((L.s_.getD (p + 1) 0).toNat : Int) = 98
              · simp (maxSteps := 5000000) (disch := omega) only [w1, Int.toNat_natCast, if_pos, if_neg]
              · simp (maxSteps := 5000000) (disch := omega) only [w1, Int.toNat_natCast, if_pos, if_neg]
        have hbb : baseOf (L.s_.getD (p + 1) 0) = 0 ∨ ∃ b : Nat, baseOf (L.s_.getD (p + 1) 0) = (b : Int) ∧ 2 ≤ b ∧ b ≤ 16 ∧ b ≠ 10 := by
          unfold baseOf
          split
          · exact .inr ⟨16, rfl, by omega, by omega, by omega⟩
          · split
            · exact .inr ⟨8, rfl, by omega, by omega, by omega⟩
            · split
              · exact .inr ⟨2, rfl, by omega, by omega, by omega⟩
              · exact .inl rfl
        rw [sp, impl_lexer_number.f]
        simp (maxSteps := 5000000) (disch := omega) only [ha, w2, Int.toNat_natCast, if_pos, if_neg, pk1, pk2, Option.bind_some, base_val, l0t, hex_eq, (hexV_val _).1]
        rcases hbb with hb | ⟨b, hb, b1, b2, b3⟩
        · rw [hb, if_pos rfl, spec_l1number.l1, if_neg (by omega)]
          exact ten
        · rw [hb, if_neg (c := (b : Int) = 0) (by omega), spec_l1number.l1, if_pos (by omega)]
          simp (maxSteps := 5000000) (disch := omega) only [w2, Int.toNat_natCast, (hexV_val _).1, Option.bind_some]
          by_cases hp2 : p + 2 < L.s_.length
          · by_cases hx2 : hexV (L.s_.getD (p + 2) 0) < b
            · have bas := num_all hl p ha ht b ⟨b1, b2⟩ 2 hp2 hx2 k k' hk hk'
              have im : impl_lexer_number.l0 k' L (b : Int) = ((impl_lexer_number_c1.f k' (b : Int) ((p + 2 : Nat) : Int) L 0).bind fun t => impl_lexer_number.l1 0 L L.s_ L.at_ L.tokens_ L.code_ L.place_ t.2 t.1) := by
                rw [impl_lexer_number.l0]
                simp (maxSteps := 5000000) (disch := omega) only [ha, w2, Int.toNat_natCast, if_pos, if_neg, pk1, Option.bind_some]
              simp (maxSteps := 5000000) (disch := omega) only [if_pos, if_neg, im]
              exact bas
            · simp (maxSteps := 5000000) (disch := omega) only [if_pos, if_neg]
              exact ten
          · simp (maxSteps := 5000000) (disch := omega) only [if_neg]
            rw [hex_zero]
            simp (maxSteps := 5000000) (disch := omega) only [if_pos]
            exact ten
    · rw [if_neg hp1] at pk1
      have hb : baseOf 0 = 0 := by decide
      rw [spec_l1number.f, impl_lexer_number.f]
      simp (maxSteps := 5000000) (disch := omega) only [ha, w1, Int.toNat_natCast, if_pos, if_neg, pk1, Option.bind_some, base_val, hb, l0ten _ pk1 (fun _ => by decide)]
      exact ten
  · rw [spec_l1number.f, impl_lexer_number.f]
    simp (maxSteps := 5000000) (disch := omega) only [ha, Int.toNat_natCast, if_pos, if_neg, l0ten _ pk1 (fun q => absurd q c0)]
    exact ten
/-! ### runs -/
theorem tok_end (hl : L.s_.length ≤ 10000) (p : Nat) (ha : L.at_ = (p : Int)) (ht : L.tokens_.length ≤ 10000) (j : Nat) (hj : 0 < j) (hp : p + j ≤ L.s_.length) (kind : Int) (hkd : j ≤ 100 ∨ kind = 1 ∨ kind = 2 ∨ kind = 4) :
    ∃ (tk : Token) (code : Int), spec_l1token.l0 0 L.s_ (p : Int) kind (j : Int) = some (tk, code) ∧ impl_lexer_put.f L kind ((p + j : Nat) : Int) ((L.s_.drop p).take (p + j - p)) 0 = some (tokR L tk code) ∧ tokOk L.s_ p tk code := by
  have hlen : ((L.s_.drop p).take (p + j - p)).length = j := by simp; omega
  rw [put_val p ha kind j _ 0 ht (by omega) (by omega) (by omega), spec_l1token.l0, wa (by omega) (by omega), if_pos (by omega), if_pos (by omega)]
  simp only [Int.toNat_natCast]
  rw [spec_l1copy.f, if_pos (by omega), Option.bind_some, hlen]
  by_cases h : j > 100
  · rw [if_pos (by omega), if_pos h]
    exact ⟨_, 3, rfl, rfl, fun h => by cases h⟩
  · rw [if_neg (by omega), if_neg h]
    refine ⟨_, 0, rfl, ?_, fun _ => ⟨rfl, ⟨j, hj, rfl, hp⟩, by simp; omega⟩⟩
    simp [putR, tokR, ha]
theorem run_loop (hl : L.s_.length ≤ 10000) (p : Nat) (ha : L.at_ = (p : Int)) (kind : Int) : ∀ (m i k k' : Nat), L.s_.length - (p + i) ≤ m → p + i ≤ L.s_.length → m + 30 < k → m + 30 < k' →
    ∃ j : Nat, spec_l1run.l0 k L.s_ (p : Int) false (i : Int) = some (j : Int) ∧ impl_lexer_run.l0 k' L kind ((p + i : Nat) : Int) = impl_lexer_put.f L kind ((p + j : Nat) : Int) ((L.s_.drop p).take (p + j - p)) 0 ∧
      i ≤ j ∧ p + j ≤ L.s_.length ∧ (p + i < L.s_.length → alnumB (L.s_.getD (p + i) 0) = true → i < j) := by
  intro m
  induction m with
  | zero =>
    intro i k k' h1 h2 hk hk'
    obtain ⟨k, rfl⟩ : ∃ q, k = q + 1 := ⟨k - 1, by omega⟩
    obtain ⟨k', rfl⟩ : ∃ q, k' = q + 1 := ⟨k' - 1, by omega⟩
    refine ⟨i, ?_, ?_, by omega, by omega, by omega⟩
    · rw [spec_l1run.l0, wa (by omega) (by omega), if_neg (by omega)]
    · rw [impl_lexer_run.l0]
      simp (maxSteps := 5000000) (disch := omega) only [ha, Int.toNat_natCast, if_pos, if_neg, bindSome]
  | succ m ih =>
    intro i k k' h1 h2 hk hk'
    obtain ⟨k, rfl⟩ : ∃ q, k = q + 1 := ⟨k - 1, by omega⟩
    obtain ⟨k', rfl⟩ : ∃ q, k' = q + 1 := ⟨k' - 1, by omega⟩
    by_cases hi : p + i < L.s_.length
    · by_cases hx : alnumB (L.s_.getD (p + i) 0) = true
      · obtain ⟨j, e1, e2, o1, o2, o3⟩ := ih (i + 1) k k' (by omega) (by omega) (by omega) (by omega)
        refine ⟨j, ?_, ?_, by omega, o2, fun _ _ => by omega⟩
        · rw [spec_l1run.l0]
          simp (maxSteps := 5000000) (disch := omega) only [wa, w1, Int.toNat_natCast, if_pos, if_neg, alnumB_val, Option.bind_some, hx]
          rw [if_neg (by simp), if_pos (by simp)]
          exact e1
        · rw [impl_lexer_run.l0]
          simp (maxSteps := 5000000) (disch := omega) only [w1, Int.toNat_natCast, if_pos, if_neg, alnum_eq, Option.bind_some, hx]
          exact e2
      · refine ⟨i, ?_, ?_, by omega, by omega, fun _ h => absurd h hx⟩
        · rw [spec_l1run.l0]
          simp (maxSteps := 5000000) (disch := omega) only [wa, w1, Int.toNat_natCast, if_pos, if_neg, alnumB_val, Option.bind_some]
          rw [if_neg (by simp)]
        · rw [impl_lexer_run.l0]
          simp (maxSteps := 5000000) (disch := omega) only [ha, w1, Int.toNat_natCast, if_pos, if_neg, alnum_eq, Option.bind_some, bindSome]
    · refine ⟨i, ?_, ?_, by omega, by omega, by omega⟩
      · rw [spec_l1run.l0, wa (by omega) (by omega), if_neg (by omega)]
      · rw [impl_lexer_run.l0]
        simp (maxSteps := 5000000) (disch := omega) only [ha, Int.toNat_natCast, if_pos, if_neg, bindSome]
theorem run_loop2 (hl : L.s_.length ≤ 10000) (p : Nat) (ha : L.at_ = (p : Int)) (kind : Int) : ∀ (m i k k' : Nat), L.s_.length - (p + i) ≤ m → p + i ≤ L.s_.length → m + 30 < k → m + 30 < k' →
    ∃ j : Nat, spec_l1run.l0 k L.s_ (p : Int) true (i : Int) = some (j : Int) ∧ impl_lexer_run_2.l0 k' L kind ((p + i : Nat) : Int) = impl_lexer_put.f L kind ((p + j : Nat) : Int) ((L.s_.drop p).take (p + j - p)) 0 ∧
      i ≤ j ∧ p + j ≤ L.s_.length ∧ (p + i < L.s_.length → symB (L.s_.getD (p + i) 0) = true → i < j) := by
  intro m
  induction m with
  | zero =>
    intro i k k' h1 h2 hk hk'
    obtain ⟨k, rfl⟩ : ∃ q, k = q + 1 := ⟨k - 1, by omega⟩
    obtain ⟨k', rfl⟩ : ∃ q, k' = q + 1 := ⟨k' - 1, by omega⟩
    refine ⟨i, ?_, ?_, by omega, by omega, by omega⟩
    · rw [spec_l1run.l0, wa (by omega) (by omega), if_neg (by omega)]
    · rw [impl_lexer_run_2.l0]
      simp (maxSteps := 5000000) (disch := omega) only [ha, Int.toNat_natCast, if_pos, if_neg, bindSome]
  | succ m ih =>
    intro i k k' h1 h2 hk hk'
    obtain ⟨k, rfl⟩ : ∃ q, k = q + 1 := ⟨k - 1, by omega⟩
    obtain ⟨k', rfl⟩ : ∃ q, k' = q + 1 := ⟨k' - 1, by omega⟩
    by_cases hi : p + i < L.s_.length
    · by_cases hx : symB (L.s_.getD (p + i) 0) = true
      · obtain ⟨j, e1, e2, o1, o2, o3⟩ := ih (i + 1) k k' (by omega) (by omega) (by omega) (by omega)
        refine ⟨j, ?_, ?_, by omega, o2, fun _ _ => by omega⟩
        · rw [spec_l1run.l0]
          simp (maxSteps := 5000000) (disch := omega) only [wa, w1, Int.toNat_natCast, if_pos, if_neg, symbol_val, Option.bind_some, hx]
          rw [if_pos trivial]
          exact e1
        · rw [impl_lexer_run_2.l0]
          simp (maxSteps := 5000000) (disch := omega) only [w1, Int.toNat_natCast, if_pos, if_neg, symB_val, Option.bind_some, hx]
          exact e2
      · refine ⟨i, ?_, ?_, by omega, by omega, fun _ h => absurd h hx⟩
        · rw [spec_l1run.l0]
          simp (maxSteps := 5000000) (disch := omega) only [wa, w1, Int.toNat_natCast, if_pos, if_neg, symbol_val, Option.bind_some]
          rw [if_pos trivial, if_neg (by simp)]
        · rw [impl_lexer_run_2.l0]
          simp (maxSteps := 5000000) (disch := omega) only [ha, w1, Int.toNat_natCast, if_pos, if_neg, symB_val, Option.bind_some, bindSome]
    · refine ⟨i, ?_, ?_, by omega, by omega, by omega⟩
      · rw [spec_l1run.l0, wa (by omega) (by omega), if_neg (by omega)]
      · rw [impl_lexer_run_2.l0]
        simp (maxSteps := 5000000) (disch := omega) only [ha, Int.toNat_natCast, if_pos, if_neg, bindSome]
end
end Go.Proofs.Ytdkbfcmekppnmaa
