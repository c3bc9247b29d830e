import Derived.Test.YtdkbfcmekppnmaaWkLx6
import Derived.Test.YtdkbfcmekppnmaaZ3
namespace Go.Proofs.Ytdkbfcmekppnmaa
open Go.Sx Go.Sy
set_option linter.unusedVariables false
set_option linter.unusedSimpArgs false
set_option linter.unusedSectionVars false
set_option maxRecDepth 4000
set_option maxHeartbeats 1000000
/-! ### numbers -/
theorem w1 {p : Nat} (h : p ≤ 1000000) : IntKind.i64.wrap ((p : Int) + 1) = ((p + 1 : Nat) : Int) := by rw [wrap_id (by omega) (by omega)]; omega
theorem w2 {p : Nat} (h : p ≤ 1000000) : IntKind.i64.wrap ((p : Int) + 2) = ((p + 2 : Nat) : Int) := by rw [wrap_id (by omega) (by omega)]; omega
theorem w3 {p : Nat} (h : p ≤ 1000000) : IntKind.i64.wrap ((p : Int) + 3) = ((p + 3 : Nat) : Int) := by rw [wrap_id (by omega) (by omega)]; omega
theorem w4 {p : Nat} (h : p ≤ 1000000) : IntKind.i64.wrap ((p : Int) + 4) = ((p + 4 : Nat) : Int) := by rw [wrap_id (by omega) (by omega)]; omega
theorem w3' {p : Nat} (h : p ≤ 1000000) : IntKind.i64.wrap (3 + (p : Int)) = ((3 + p : Nat) : Int) := by rw [wrap_id (by omega) (by omega)]; omega
theorem wa {p i : Nat} (h : p ≤ 1000000) (h2 : i ≤ 1000000) : IntKind.i64.wrap ((p : Int) + (i : Int)) = ((p + i : Nat) : Int) := by rw [wrap_id (by omega) (by omega)]; omega
theorem ws {p i : Nat} (h : p ≤ 1000000) (h2 : i ≤ p) : IntKind.i64.wrap ((p : Int) - (i : Int)) = ((p - i : Nat) : Int) := by rw [wrap_id (by omega) (by omega)]; omega
theorem ws1 {p : Nat} (h : p ≤ 1000000) (h2 : 1 ≤ p) : IntKind.i64.wrap ((p : Int) - 1) = ((p - 1 : Nat) : Int) := by rw [wrap_id (by omega) (by omega)]; omega
/-! ### characters -/
theorem blank_eq (x : UInt8) : impl_isBlank.f x = spec_l1blank.f x := rfl
theorem digit_eq (x : UInt8) : impl_isDigit.f x = spec_l1digit.f x := rfl
theorem small_eq (x : UInt8) : impl_isSmall.f x = spec_l1small.f x := rfl
theorem print_eq (x : UInt8) : impl_isPrint.f x = spec_l1raw.f x := rfl
theorem hex_eq (x : UInt8) : impl_hexValue.f x = spec_l1hex.f x := rfl
def blankB (x : UInt8) : Bool := (spec_l1blank.f x).getD false
def digitB (x : UInt8) : Bool := (spec_l1digit.f x).getD false
def smallB (x : UInt8) : Bool := (spec_l1small.f x).getD false
def rawB (x : UInt8) : Bool := (spec_l1raw.f x).getD false
def alnumB (x : UInt8) : Bool := (spec_l1alnum.f x).getD false
def letterB (x : UInt8) : Bool := (impl_isLetter.f x).getD false
def symB (x : UInt8) : Bool := (impl_isSymbol.f x).getD false
def hexV (x : UInt8) : Nat := ((spec_l1hex.f x).getD 0).toNat
theorem blankB_val (x : UInt8) : spec_l1blank.f x = some (blankB x) := by
  unfold blankB spec_l1blank.f; (repeat' split) <;> rfl
theorem digitB_val (x : UInt8) : spec_l1digit.f x = some (digitB x) := by
  unfold digitB spec_l1digit.f; (repeat' split) <;> rfl
theorem smallB_val (x : UInt8) : spec_l1small.f x = some (smallB x) := by
  unfold smallB spec_l1small.f; (repeat' split) <;> rfl
theorem rawB_val (x : UInt8) : spec_l1raw.f x = some (rawB x) := by
  unfold rawB spec_l1raw.f; (repeat' split) <;> rfl
theorem alnumB_val (x : UInt8) : spec_l1alnum.f x = some (alnumB x) := by
  unfold alnumB spec_l1alnum.f; simp only [smallB_val, digitB_val, Option.bind_some]; (repeat' split) <;> rfl
theorem letterB_val (x : UInt8) : impl_isLetter.f x = some (letterB x) := by
  unfold letterB impl_isLetter.f; simp only [small_eq, smallB_val, Option.bind_some]; (repeat' split) <;> rfl
theorem ite_ex {c : Prop} [Decidable c] {a b : Option Bool} (h1 : ∃ x, a = some x) (h2 : ∃ x, b = some x) : ∃ x, (if c then a else b) = some x := by split <;> assumption
theorem symB_val (x : UInt8) : impl_isSymbol.f x = some (symB x) := by
  obtain ⟨b, hb⟩ : ∃ b, impl_isSymbol.f x = some b := by
    unfold impl_isSymbol.f
    iterate 17 (refine ite_ex ⟨_, rfl⟩ ?_)
    exact ⟨_, rfl⟩
  unfold symB; rw [hb]; rfl
theorem alnum_split (x : UInt8) : alnumB x = (letterB x || digitB x) := by
  unfold alnumB letterB spec_l1alnum.f impl_isLetter.f
  simp only [small_eq, smallB_val, digitB_val, Option.bind_some]
  by_cases h1 : smallB x = true
  · simp [h1]
  · by_cases h2 : (x.toNat : Int) ≥ 65 <;> by_cases h3 : (x.toNat : Int) ≤ 90 <;> by_cases h4 : (x.toNat : Int) = 95 <;> simp [h1, h2, h3, h4]
theorem alnum_eq (x : UInt8) : impl_isAlnum.f x = some (alnumB x) := by
  rw [impl_isAlnum.f, letterB_val, Option.bind_some, digit_eq, digitB_val, Option.bind_some, alnum_split]
  cases letterB x <;> simp
theorem letter_small (x : UInt8) (h : letterB x = false) : smallB x = false := by
  unfold letterB impl_isLetter.f at h
  simp only [small_eq, smallB_val, Option.bind_some] at h
  cases hs : smallB x
  · rfl
  · simp [hs] at h
theorem b8_toNat {n : Int} (h0 : 0 ≤ n) (h1 : n < 256) : (b8 n).toNat = n.toNat := by
  rw [b8, UInt8.toNat_ofNat']; simp; omega
theorem hexV_val (x : UInt8) : spec_l1hex.f x = some (hexV x : Int) ∧ hexV x ≤ 99 := by
  have hx : x.toNat < 256 := x.toNat_lt
  unfold hexV spec_l1hex.f
  rw [digitB_val, Option.bind_some]
  have hd : digitB x = true → 48 ≤ x.toNat ∧ x.toNat ≤ 57 := by
    unfold digitB spec_l1digit.f
    split
    · intro h; simp at h; omega
    · intro h; simp at h
  by_cases h1 : digitB x = true
  · have := hd h1
    rw [if_pos h1, b8_toNat (by omega) (by omega)]
    refine ⟨by simp, by simp; omega⟩
  · rw [if_neg h1]
    (repeat' split) <;> (first | (rw [b8_toNat (by omega) (by omega), wrap_id (by omega) (by omega)]; refine ⟨?_, ?_⟩ <;> simp <;> omega) | simp)
/-! ### symbol characters -/
theorem sym_step (k : Nat) (x c : UInt8) (i : Nat) (hi : i < 17) (hc : ([43, 45, 42, 47, 92, 94, 60, 62, 61, 126, 58, 46, 63, 64, 35, 38, 36] : List UInt8).getD i (0 : UInt8) = c) :
    spec_l1symbol.l0 (k + 1) x (i : Int) = if (x.toNat : Int) = (c.toNat : Int) then some true else spec_l1symbol.l0 k x ((i + 1 : Nat) : Int) := by
  rw [spec_l1symbol.l0, if_pos (by simp; omega), if_pos (by omega), Int.toNat_natCast, hc, w1 (by omega)]
  by_cases h : (x.toNat : Int) = (c.toNat : Int)
  · rw [if_pos h, if_pos h.symm]
  · rw [if_neg h, if_neg (fun q => h q.symm)]
theorem symbol_val (k : Nat) (hk : 18 ≤ k) (x : UInt8) : spec_l1symbol.f k x = some (symB x) := by
  obtain ⟨k, rfl⟩ : ∃ q, k = q + 18 := ⟨k - 18, by omega⟩
  rw [← symB_val, spec_l1symbol.f, impl_isSymbol.f]
  show spec_l1symbol.l0 (k + 18) x ((0 : Nat) : Int) = _
  rw [sym_step _ x 43 0 (by omega) rfl, sym_step _ x 45 1 (by omega) rfl, sym_step _ x 42 2 (by omega) rfl, sym_step _ x 47 3 (by omega) rfl, sym_step _ x 92 4 (by omega) rfl, sym_step _ x 94 5 (by omega) rfl, sym_step _ x 60 6 (by omega) rfl, sym_step _ x 62 7 (by omega) rfl, sym_step _ x 61 8 (by omega) rfl, sym_step _ x 126 9 (by omega) rfl, sym_step _ x 58 10 (by omega) rfl, sym_step _ x 46 11 (by omega) rfl, sym_step _ x 63 12 (by omega) rfl, sym_step _ x 64 13 (by omega) rfl, sym_step _ x 35 14 (by omega) rfl, sym_step _ x 38 15 (by omega) rfl, sym_step _ x 36 16 (by omega) rfl, spec_l1symbol.l0]
  rfl
/-! ### escapes -/
section
variable {L : GLexer}
/-- what an escape says in the program's words -/
def escR (p : Nat) (t : List UInt8) (n : Nat) : List UInt8 × Int × Bool := if n = 0 then ([], 0, false) else (t, ((p + 1 + n : Nat) : Int), true)
def escOk (s : List UInt8) (p : Nat) (t : List UInt8) (n : Nat) : Prop := t.length ≤ 1 ∧ (n = 0 → t = []) ∧ (0 < n → p + 1 + n ≤ s.length)
theorem hex_loop (hl : L.s_.length ≤ 10000) (p : Nat) (hp : p ≤ 10000) : ∀ (m i : Nat) (k k' : Nat) (v : Int), i + m = 2 → m < k → m < k' →
    ∃ (t : List UInt8) (n : Nat), spec_l1escape.l0 k L.s_ ((p + 1 : Nat) : Int) v (i : Int) = some (t, (n : Int)) ∧ impl_lexer_escape.l1 k' L (p : Int) v ((p + 2 + i : Nat) : Int) = some (escR p t n) ∧ escOk L.s_ p t n := by
  intro m
  induction m with
  | zero =>
    intro i k k' v hi hk hk'
    obtain ⟨k, rfl⟩ : ∃ q, k = q + 1 := ⟨k - 1, by omega⟩
    obtain ⟨k', rfl⟩ : ∃ q, k' = q + 1 := ⟨k' - 1, by omega⟩
    obtain rfl : i = 2 := by omega
    have e : p + 1 + 1 + 2 = p + 2 + 2 := by omega
    rw [spec_l1escape.l0, impl_lexer_escape.l1]
    by_cases h1 : p + 4 < L.s_.length
    · by_cases h2 : ((L.s_.getD (p + 2 + 2) 0).toNat : Int) ≠ 92
      · simp (maxSteps := 5000000) (disch := omega) only [w1, w2, w4, wa, Int.toNat_natCast, hex_eq, (hexV_val _).1, Option.bind_some, if_pos, if_neg]
        try rw [e]
        try simp (maxSteps := 5000000) (disch := omega) only [w1, w2, w4, wa, Int.toNat_natCast, hex_eq, (hexV_val _).1, Option.bind_some, if_pos, if_neg]
        exact ⟨[], 0, rfl, rfl, by simp [escOk]⟩
      · simp (maxSteps := 5000000) (disch := omega) only [w1, w2, w4, wa, Int.toNat_natCast, hex_eq, (hexV_val _).1, Option.bind_some, if_pos, if_neg]
        try rw [e]
        try simp (maxSteps := 5000000) (disch := omega) only [w1, w2, w4, wa, Int.toNat_natCast, hex_eq, (hexV_val _).1, Option.bind_some, if_pos, if_neg]
        exact ⟨[b8 v], 4, rfl, by unfold escR; rw [if_neg (by omega)], by simp [escOk]; omega⟩
    · simp (maxSteps := 5000000) (disch := omega) only [w1, w2, w4, wa, Int.toNat_natCast, hex_eq, (hexV_val _).1, Option.bind_some, if_pos, if_neg]
      exact ⟨[], 0, rfl, rfl, by simp [escOk]⟩
  | succ m ih =>
    intro i k k' v hi hk hk'
    obtain ⟨k, rfl⟩ : ∃ q, k = q + 1 := ⟨k - 1, by omega⟩
    obtain ⟨k', rfl⟩ : ∃ q, k' = q + 1 := ⟨k' - 1, by omega⟩
    rw [spec_l1escape.l0, impl_lexer_escape.l1]
    have e : p + 1 + 1 + i = p + 2 + i := by omega
    by_cases h1 : p + 2 + i < L.s_.length
    · by_cases h2 : (hexV (L.s_.getD (p + 2 + i) 0) : Int) < 16
      · simp (maxSteps := 5000000) (disch := omega) only [w1, w2, w4, wa, Int.toNat_natCast, hex_eq, (hexV_val _).1, Option.bind_some, if_pos, if_neg]
        try rw [e]
        try simp (maxSteps := 5000000) (disch := omega) only [w1, w2, w4, wa, Int.toNat_natCast, hex_eq, (hexV_val _).1, Option.bind_some, if_pos, if_neg]
        exact ih (i + 1) k k' _ (by omega) (by omega) (by omega)
      · by_cases h3 : i = 0
        · subst h3
          simp (maxSteps := 5000000) (disch := omega) only [w1, w2, w4, wa, Int.toNat_natCast, hex_eq, (hexV_val _).1, Option.bind_some, if_pos, if_neg]
          try rw [e]
          try simp (maxSteps := 5000000) (disch := omega) only [w1, w2, w4, wa, Int.toNat_natCast, hex_eq, (hexV_val _).1, Option.bind_some, if_pos, if_neg]
          exact ⟨[], 0, rfl, rfl, by simp [escOk]⟩
        · by_cases h4 : ((L.s_.getD (p + 2 + i) 0).toNat : Int) ≠ 92
          · simp (maxSteps := 5000000) (disch := omega) only [w1, w2, w4, wa, Int.toNat_natCast, hex_eq, (hexV_val _).1, Option.bind_some, if_pos, if_neg]
            try rw [e]
            try simp (maxSteps := 5000000) (disch := omega) only [w1, w2, w4, wa, Int.toNat_natCast, hex_eq, (hexV_val _).1, Option.bind_some, if_pos, if_neg]
            exact ⟨[], 0, rfl, rfl, by simp [escOk]⟩
          · simp (maxSteps := 5000000) (disch := omega) only [w1, w2, w4, wa, Int.toNat_natCast, hex_eq, (hexV_val _).1, Option.bind_some, if_pos, if_neg]
            try rw [e]
            try simp (maxSteps := 5000000) (disch := omega) only [w1, w2, w4, wa, Int.toNat_natCast, hex_eq, (hexV_val _).1, Option.bind_some, if_pos, if_neg]
            refine ⟨[b8 v], i + 2, rfl, ?_, ?_⟩
            · unfold escR; rw [if_neg (by omega)]; congr 3; omega
            · unfold escOk; refine ⟨by simp, by omega, by omega⟩
    · by_cases h3 : i = 0
      · simp (maxSteps := 5000000) (disch := omega) only [w1, w2, w4, wa, Int.toNat_natCast, hex_eq, (hexV_val _).1, Option.bind_some, if_pos, if_neg]
        exact ⟨[], 0, rfl, rfl, by simp [escOk]⟩
      · simp (maxSteps := 5000000) (disch := omega) only [w1, w2, w4, wa, Int.toNat_natCast, hex_eq, (hexV_val _).1, Option.bind_some, if_pos, if_neg]
        exact ⟨[], 0, rfl, rfl, by simp [escOk]⟩
theorem escape_sim (hl : L.s_.length ≤ 10000) (p : Nat) (hp : p ≤ 10000) (k k' : Nat) (hk : 3 < k) (hk' : 3 < k') :
    ∃ (t : List UInt8) (n : Nat), spec_l1escape.f k L.s_ ((p + 1 : Nat) : Int) = some (t, (n : Int)) ∧ impl_lexer_escape.f k' L (p : Int) = some (escR p t n) ∧ escOk L.s_ p t n := by
  rw [spec_l1escape.f, impl_lexer_escape.f]
  by_cases h1 : p + 1 < L.s_.length
  · have one : ∀ c : UInt8, L.s_.getD (p + 1) 0 = c → (L.s_.drop (p + 1)).take (p + 2 - (p + 1)) = [c] := by
      intro c hc
      rw [show p + 2 - (p + 1) = 1 by omega, List.drop_eq_getElem_cons h1, List.take_succ_cons, List.take_zero, ← getD_at h1, hc]
    obtain ⟨c, hc⟩ : ∃ c, L.s_.getD (p + 1) 0 = c := ⟨_, rfl⟩
    have ok1 : escOk L.s_ p [c] 1 := by simp [escOk]; omega
    have oka : ∀ t : List UInt8, t.length ≤ 1 → escOk L.s_ p t 1 := fun t ht => ⟨ht, by simp, by omega⟩
    have sh : impl_lexer_escape.l0 k' L (p : Int) true = some (escR p [c] 1) := by
      rw [impl_lexer_escape.l0, if_pos rfl]
      simp (maxSteps := 5000000) (disch := omega) only [w1, w2, Int.toNat_natCast, if_pos, if_neg]
      rw [one c hc]
      rfl
    have sf : ∀ a : Prop, [Decidable a] → ¬ a → impl_lexer_escape.l0 k' L (p : Int) (decide a) = impl_lexer_escape.l0 k' L (p : Int) false := fun a _ h => by rw [decide_eq_false h]
    have st : ∀ a : Prop, [Decidable a] → a → impl_lexer_escape.l0 k' L (p : Int) (decide a) = some (escR p [c] 1) := fun a _ h => by rw [decide_eq_true h, sh]
    by_cases a1 : (c.toNat : Int) = 92
    · simp (maxSteps := 5000000) (disch := omega) only [w1, w2, Int.toNat_natCast, if_pos, if_neg, hc]
      rw [st _ a1]
      exact ⟨[c], 1, rfl, rfl, ok1⟩
    by_cases a2 : (c.toNat : Int) = 39
    · simp (maxSteps := 5000000) (disch := omega) only [w1, w2, Int.toNat_natCast, if_pos, if_neg, hc]
      rw [st _ a2]
      exact ⟨[c], 1, rfl, rfl, ok1⟩
    by_cases a3 : (c.toNat : Int) = 34
    · simp (maxSteps := 5000000) (disch := omega) only [w1, w2, Int.toNat_natCast, if_pos, if_neg, hc]
      rw [st _ a3]
      exact ⟨[c], 1, rfl, rfl, ok1⟩
    by_cases a4 : (c.toNat : Int) = 110
    · simp (maxSteps := 5000000) (disch := omega) only [w1, w2, Int.toNat_natCast, if_pos, if_neg, hc]
      rw [sf _ a3, impl_lexer_escape.l0, if_neg (by simp)]
      simp (maxSteps := 5000000) (disch := omega) only [w1, w2, Int.toNat_natCast, if_pos, if_neg, hc]
      exact ⟨[10], 1, rfl, rfl, oka _ (by simp)⟩
    by_cases a5 : (c.toNat : Int) = 116
    · simp (maxSteps := 5000000) (disch := omega) only [w1, w2, Int.toNat_natCast, if_pos, if_neg, hc]
      rw [sf _ a3, impl_lexer_escape.l0, if_neg (by simp)]
      simp (maxSteps := 5000000) (disch := omega) only [w1, w2, Int.toNat_natCast, if_pos, if_neg, hc]
      exact ⟨[9], 1, rfl, rfl, oka _ (by simp)⟩
    by_cases a6 : (c.toNat : Int) = 114
    · simp (maxSteps := 5000000) (disch := omega) only [w1, w2, Int.toNat_natCast, if_pos, if_neg, hc]
      rw [sf _ a3, impl_lexer_escape.l0, if_neg (by simp)]
      simp (maxSteps := 5000000) (disch := omega) only [w1, w2, Int.toNat_natCast, if_pos, if_neg, hc]
      exact ⟨[13], 1, rfl, rfl, oka _ (by simp)⟩
    by_cases a7 : (c.toNat : Int) = 10
    · simp (maxSteps := 5000000) (disch := omega) only [w1, w2, Int.toNat_natCast, if_pos, if_neg, hc]
      rw [sf _ a3, impl_lexer_escape.l0, if_neg (by simp)]
      simp (maxSteps := 5000000) (disch := omega) only [w1, w2, Int.toNat_natCast, if_pos, if_neg, hc]
      exact ⟨[], 1, rfl, rfl, oka _ (by simp)⟩
    by_cases a8 : (c.toNat : Int) = 120
    · simp (maxSteps := 5000000) (disch := omega) only [w1, w2, Int.toNat_natCast, if_pos, if_neg, hc]
      rw [sf _ a3, impl_lexer_escape.l0, if_neg (by simp)]
      simp (maxSteps := 5000000) (disch := omega) only [w1, w2, Int.toNat_natCast, if_pos, if_neg, hc]
      exact hex_loop hl p hp 2 0 k k' 0 rfl (by omega) (by omega)
    · simp (maxSteps := 5000000) (disch := omega) only [w1, w2, Int.toNat_natCast, if_pos, if_neg, hc]
      rw [sf _ a3, impl_lexer_escape.l0, if_neg (by simp)]
      simp (maxSteps := 5000000) (disch := omega) only [w1, w2, Int.toNat_natCast, if_pos, if_neg, hc]
      exact ⟨[], 0, rfl, rfl, by simp [escOk]⟩
  · simp (maxSteps := 5000000) (disch := omega) only [w1, w2, Int.toNat_natCast, if_pos, if_neg]
    exact ⟨[], 0, rfl, rfl, by simp [escOk]⟩
end
end Go.Proofs.Ytdkbfcmekppnmaa
