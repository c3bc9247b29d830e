import Derived.Test.YtdkbfcmekppnmaaGreatDoorWkTk10
import Derived.Test.YtdkbfcmekppnmaaGreatDoorZ3
namespace Go.Proofs.YtdkbfcmekppnmaaGreatDoor
open Go.Sx Go.Sy
set_option linter.unusedVariables false
set_option linter.unusedSimpArgs false
set_option linter.unusedSectionVars false
set_option maxRecDepth 4000
set_option maxHeartbeats 1000000
theorem w1 {p : Nat} (h : p ≤ 1000000) : IntKind.i64.wrap ((p : Int) + 1) = ((p + 1 : Nat) : Int) := by rw [wrap_id (by omega) (by omega)]; omega
theorem w2 {p : Nat} (h : p ≤ 1000000) : IntKind.i64.wrap ((p : Int) + 2) = ((p + 2 : Nat) : Int) := by rw [wrap_id (by omega) (by omega)]; omega
theorem w3 {p : Nat} (h : p ≤ 1000000) : IntKind.i64.wrap ((p : Int) + 3) = ((p + 3 : Nat) : Int) := by rw [wrap_id (by omega) (by omega)]; omega
theorem w4 {p : Nat} (h : p ≤ 1000000) : IntKind.i64.wrap ((p : Int) + 4) = ((p + 4 : Nat) : Int) := by rw [wrap_id (by omega) (by omega)]; omega
theorem w3' {p : Nat} (h : p ≤ 1000000) : IntKind.i64.wrap (3 + (p : Int)) = ((3 + p : Nat) : Int) := by rw [wrap_id (by omega) (by omega)]; omega
theorem wa {p i : Nat} (h : p ≤ 1000000) (h2 : i ≤ 1000000) : IntKind.i64.wrap ((p : Int) + (i : Int)) = ((p + i : Nat) : Int) := by rw [wrap_id (by omega) (by omega)]; omega
theorem ws {p i : Nat} (h : p ≤ 1000000) (h2 : i ≤ p) : IntKind.i64.wrap ((p : Int) - (i : Int)) = ((p - i : Nat) : Int) := by rw [wrap_id (by omega) (by omega)]; omega
theorem ws1 {p : Nat} (h : p ≤ 1000000) (h2 : 1 ≤ p) : IntKind.i64.wrap ((p : Int) - 1) = ((p - 1 : Nat) : Int) := by rw [wrap_id (by omega) (by omega)]; omega
theorem blank_eq (x : UInt8) : impl_isBlank.f x = spec_l1blank.f x := rfl
theorem digit_eq (x : UInt8) : impl_isDigit.f x = spec_l1digit.f x := rfl
theorem small_eq (x : UInt8) : impl_isSmall.f x = spec_l1small.f x := rfl
theorem print_eq (x : UInt8) : impl_isPrint.f x = spec_l1raw.f x := rfl
theorem hex_eq (x : UInt8) : impl_hexValue.f x = spec_l1hex.f x := rfl
def blankB (x : UInt8) : Bool := (spec_l1blank.f x).getD false
def digitB (x : UInt8) : Bool := (spec_l1digit.f x).getD false
def smallB (x : UInt8) : Bool := (spec_l1small.f x).getD false
def rawB (x : UInt8) : Bool := (spec_l1raw.f x).getD false
def alnumB (x : UInt8) : Bool := (spec_l1alnum.f x).getD false
def letterB (x : UInt8) : Bool := (impl_isLetter.f x).getD false
def symB (x : UInt8) : Bool := (impl_isSymbol.f x).getD false
def hexV (x : UInt8) : Nat := ((spec_l1hex.f x).getD 0).toNat
theorem blankB_val (x : UInt8) : spec_l1blank.f x = some (blankB x) := by
 unfold blankB spec_l1blank.f; (repeat' split) <;> rfl
theorem digitB_val (x : UInt8) : spec_l1digit.f x = some (digitB x) := by
 unfold digitB spec_l1digit.f; (repeat' split) <;> rfl
theorem smallB_val (x : UInt8) : spec_l1small.f x = some (smallB x) := by
 unfold smallB spec_l1small.f; (repeat' split) <;> rfl
theorem rawB_val (x : UInt8) : spec_l1raw.f x = some (rawB x) := by
 unfold rawB spec_l1raw.f; (repeat' split) <;> rfl
theorem alnumB_val (x : UInt8) : spec_l1alnum.f x = some (alnumB x) := by
 unfold alnumB spec_l1alnum.f; simp only [smallB_val, digitB_val, Option.bind_some]; (repeat' split) <;> rfl
theorem letterB_val (x : UInt8) : impl_isLetter.f x = some (letterB x) := by
 unfold letterB impl_isLetter.f; simp only [small_eq, smallB_val, Option.bind_some]; (repeat' split) <;> rfl
theorem ite_ex {c : Prop} [Decidable c] {a b : Option Bool} (h1 : ∃ x, a = some x) (h2 : ∃ x, b = some x) : ∃ x, (if c then a else b) = some x := by split <;> assumption
theorem symB_val (x : UInt8) : impl_isSymbol.f x = some (symB x) := by
 obtain ⟨b, hb⟩ : ∃ b, impl_isSymbol.f x = some b := by
  unfold impl_isSymbol.f
  iterate 17 (refine ite_ex ⟨_, rfl⟩ ?_)
  exact ⟨_, rfl⟩
 unfold symB; rw [hb]; rfl
theorem alnum_split (x : UInt8) : alnumB x = (letterB x || digitB x) := by
 unfold alnumB letterB spec_l1alnum.f impl_isLetter.f
 simp only [small_eq, smallB_val, digitB_val, Option.bind_some]
 by_cases h1 : smallB x = true
 ·simp [h1]
 ·by_cases h2 : (x.toNat : Int) ≥ 65 <;> by_cases h3 : (x.toNat : Int) ≤ 90 <;> by_cases h4 : (x.toNat : Int) = 95 <;> simp [h1, h2, h3, h4]
theorem alnum_eq (x : UInt8) : impl_isAlnum.f x = some (alnumB x) := by
 rw [impl_isAlnum.f, letterB_val, Option.bind_some, digit_eq, digitB_val, Option.bind_some, alnum_split]
 cases letterB x <;> simp
theorem letter_small (x : UInt8) (h : letterB x = false) : smallB x = false := by
 unfold letterB impl_isLetter.f at h
 simp only [small_eq, smallB_val, Option.bind_some] at h
 cases hs : smallB x
 ·rfl
 ·simp [hs] at h
theorem b8_toNat {n : Int} (h0 : 0 ≤ n) (h1 : n < 256) : (b8 n).toNat = n.toNat := by
 rw [b8, UInt8.toNat_ofNat']; simp; omega
theorem hexV_val (x : UInt8) : spec_l1hex.f x = some (hexV x : Int) ∧ hexV x ≤ 99 := by
 have hx : x.toNat < 256 := x.toNat_lt
 unfold hexV spec_l1hex.f
 rw [digitB_val, Option.bind_some]
 have hd : digitB x = true → 48 ≤ x.toNat ∧ x.toNat ≤ 57 := by
  unfold digitB spec_l1digit.f
  split
  ·intro h; simp at h; omega
  ·intro h; simp at h
 by_cases h1 : digitB x = true
 ·have := hd h1
  rw [if_pos h1, b8_toNat (by omega) (by omega)]
  refine ⟨by simp, by simp; omega⟩
 ·rw [if_neg h1]
  (repeat' split) <;> (first | (rw [b8_toNat (by omega) (by omega), wrap_id (by omega) (by omega)]; refine ⟨?_, ?_⟩ <;> simp <;> omega) | simp)
theorem sym_step (k : Nat) (x c : UInt8) (i : Nat) (hi : i < 17) (hc : ([43, 45, 42, 47, 92, 94, 60, 62, 61, 126, 58, 46, 63, 64, 35, 38, 36] : List UInt8).getD i (0 : UInt8) = c) :
  spec_l1symbol.l0 (k + 1) x (i : Int) = if (x.toNat : Int) = (c.toNat : Int) then some true else spec_l1symbol.l0 k x ((i + 1 : Nat) : Int) := by
 rw [spec_l1symbol.l0, if_pos (by simp; omega), if_pos (by omega), Int.toNat_natCast, hc, w1 (by omega)]
 by_cases h : (x.toNat : Int) = (c.toNat : Int)
 ·rw [if_pos h, if_pos h.symm]
 ·rw [if_neg h, if_neg (fun q => h q.symm)]
theorem symbol_val (k : Nat) (hk : 18 ≤ k) (x : UInt8) : spec_l1symbol.f k x = some (symB x) := by
 obtain ⟨k, rfl⟩ : ∃ q, k = q + 18 := ⟨k - 18, by omega⟩
 rw [← symB_val, spec_l1symbol.f, impl_isSymbol.f]
 show spec_l1symbol.l0 (k + 18) x ((0 : Nat) : Int) = _
 rw [sym_step _ x 43 0 (by omega) rfl, sym_step _ x 45 1 (by omega) rfl, sym_step _ x 42 2 (by omega) rfl, sym_step _ x 47 3 (by omega) rfl, sym_step _ x 92 4 (by omega) rfl, sym_step _ x 94 5 (by omega) rfl, sym_step _ x 60 6 (by omega) rfl, sym_step _ x 62 7 (by omega) rfl, sym_step _ x 61 8 (by omega) rfl, sym_step _ x 126 9 (by omega) rfl, sym_step _ x 58 10 (by omega) rfl, sym_step _ x 46 11 (by omega) rfl, sym_step _ x 63 12 (by omega) rfl, sym_step _ x 64 13 (by omega) rfl, sym_step _ x 35 14 (by omega) rfl, sym_step _ x 38 15 (by omega) rfl, sym_step _ x 36 16 (by omega) rfl, spec_l1symbol.l0]
 rfl
section
variable {L : GLexer}
def escR (p : Nat) (t : List UInt8) (n : Nat) : List UInt8 × Int × Bool := if n = 0 then ([], 0, false) else (t, ((p + 1 + n : Nat) : Int), true)
def escOk (s : List UInt8) (p : Nat) (t : List UInt8) (n : Nat) : Prop := t.length ≤ 1 ∧ (n = 0 → t = []) ∧ (0 < n → p + 1 + n ≤ s.length)
theorem hex_loop (hl : L.s_.length ≤ 10000) (p : Nat) (hp : p ≤ 10000) : ∀ (m i : Nat) (k k' : Nat) (v : Int), i + m = 2 → m < k → m < k' →
  ∃ (t : List UInt8) (n : Nat), spec_l1escape.l0 k L.s_ ((p + 1 : Nat) : Int) v (i : Int) = some (t, (n : Int)) ∧ impl_lexer_escape.l1 k' L (p : Int) v ((p + 2 + i : Nat) : Int) = some (escR p t n) ∧ escOk L.s_ p t n := by
 intro m
 induction m with
 | zero =>
  intro i k k' v hi hk hk'
  obtain ⟨k, rfl⟩ : ∃ q, k = q + 1 := ⟨k - 1, by omega⟩
  obtain ⟨k', rfl⟩ : ∃ q, k' = q + 1 := ⟨k' - 1, by omega⟩
  obtain rfl : i = 2 := by omega
  have e : p + 1 + 1 + 2 = p + 2 + 2 := by omega
  rw [spec_l1escape.l0, impl_lexer_escape.l1]
  by_cases h1 : p + 4 < L.s_.length
  ·by_cases h2 : ((L.s_.getD (p + 2 + 2) 0).toNat : Int) ≠ 92
   ·simp (maxSteps := 5000000) (disch := omega) only [w1, w2, w4, wa, Int.toNat_natCast, hex_eq, (hexV_val _).1, Option.bind_some, if_pos, if_neg]
    try rw [e]
    try simp (maxSteps := 5000000) (disch := omega) only [w1, w2, w4, wa, Int.toNat_natCast, hex_eq, (hexV_val _).1, Option.bind_some, if_pos, if_neg]
    exact ⟨[], 0, rfl, rfl, by simp [escOk]⟩
   ·simp (maxSteps := 5000000) (disch := omega) only [w1, w2, w4, wa, Int.toNat_natCast, hex_eq, (hexV_val _).1, Option.bind_some, if_pos, if_neg]
    try rw [e]
    try simp (maxSteps := 5000000) (disch := omega) only [w1, w2, w4, wa, Int.toNat_natCast, hex_eq, (hexV_val _).1, Option.bind_some, if_pos, if_neg]
    exact ⟨[b8 v], 4, rfl, by unfold escR; rw [if_neg (by omega)], by simp [escOk]; omega⟩
  ·simp (maxSteps := 5000000) (disch := omega) only [w1, w2, w4, wa, Int.toNat_natCast, hex_eq, (hexV_val _).1, Option.bind_some, if_pos, if_neg]
   exact ⟨[], 0, rfl, rfl, by simp [escOk]⟩
 | succ m ih =>
  intro i k k' v hi hk hk'
  obtain ⟨k, rfl⟩ : ∃ q, k = q + 1 := ⟨k - 1, by omega⟩
  obtain ⟨k', rfl⟩ : ∃ q, k' = q + 1 := ⟨k' - 1, by omega⟩
  rw [spec_l1escape.l0, impl_lexer_escape.l1]
  have e : p + 1 + 1 + i = p + 2 + i := by omega
  by_cases h1 : p + 2 + i < L.s_.length
  ·by_cases h2 : (hexV (L.s_.getD (p + 2 + i) 0) : Int) < 16
   ·simp (maxSteps := 5000000) (disch := omega) only [w1, w2, w4, wa, Int.toNat_natCast, hex_eq, (hexV_val _).1, Option.bind_some, if_pos, if_neg]
    try rw [e]
    try simp (maxSteps := 5000000) (disch := omega) only [w1, w2, w4, wa, Int.toNat_natCast, hex_eq, (hexV_val _).1, Option.bind_some, if_pos, if_neg]
    exact ih (i + 1) k k' _ (by omega) (by omega) (by omega)
   ·by_cases h3 : i = 0
    ·subst h3
     simp (maxSteps := 5000000) (disch := omega) only [w1, w2, w4, wa, Int.toNat_natCast, hex_eq, (hexV_val _).1, Option.bind_some, if_pos, if_neg]
     try rw [e]
     try simp (maxSteps := 5000000) (disch := omega) only [w1, w2, w4, wa, Int.toNat_natCast, hex_eq, (hexV_val _).1, Option.bind_some, if_pos, if_neg]
     exact ⟨[], 0, rfl, rfl, by simp [escOk]⟩
    ·by_cases h4 : ((L.s_.getD (p + 2 + i) 0).toNat : Int) ≠ 92
     ·simp (maxSteps := 5000000) (disch := omega) only [w1, w2, w4, wa, Int.toNat_natCast, hex_eq, (hexV_val _).1, Option.bind_some, if_pos, if_neg]
      try rw [e]
      try simp (maxSteps := 5000000) (disch := omega) only [w1, w2, w4, wa, Int.toNat_natCast, hex_eq, (hexV_val _).1, Option.bind_some, if_pos, if_neg]
      exact ⟨[], 0, rfl, rfl, by simp [escOk]⟩
     ·simp (maxSteps := 5000000) (disch := omega) only [w1, w2, w4, wa, Int.toNat_natCast, hex_eq, (hexV_val _).1, Option.bind_some, if_pos, if_neg]
      try rw [e]
      try simp (maxSteps := 5000000) (disch := omega) only [w1, w2, w4, wa, Int.toNat_natCast, hex_eq, (hexV_val _).1, Option.bind_some, if_pos, if_neg]
      refine ⟨[b8 v], i + 2, rfl, ?_, ?_⟩
      ·unfold escR; rw [if_neg (by omega)]; congr 3; omega
      ·unfold escOk; refine ⟨by simp, by omega, by omega⟩
  ·by_cases h3 : i = 0
   ·simp (maxSteps := 5000000) (disch := omega) only [w1, w2, w4, wa, Int.toNat_natCast, hex_eq, (hexV_val _).1, Option.bind_some, if_pos, if_neg]
    exact ⟨[], 0, rfl, rfl, by simp [escOk]⟩
   ·simp (maxSteps := 5000000) (disch := omega) only [w1, w2, w4, wa, Int.toNat_natCast, hex_eq, (hexV_val _).1, Option.bind_some, if_pos, if_neg]
    exact ⟨[], 0, rfl, rfl, by simp [escOk]⟩
theorem escape_sim (hl : L.s_.length ≤ 10000) (p : Nat) (hp : p ≤ 10000) (k k' : Nat) (hk : 3 < k) (hk' : 3 < k') :
  ∃ (t : List UInt8) (n : Nat), spec_l1escape.f k L.s_ ((p + 1 : Nat) : Int) = some (t, (n : Int)) ∧ impl_lexer_escape.f k' L (p : Int) = some (escR p t n) ∧ escOk L.s_ p t n := by
 rw [spec_l1escape.f, impl_lexer_escape.f]
 by_cases h1 : p + 1 < L.s_.length
 ·have one : ∀ c : UInt8, L.s_.getD (p + 1) 0 = c → (L.s_.drop (p + 1)).take (p + 2 - (p + 1)) = [c] := by
   intro c hc
   rw [show p + 2 - (p + 1) = 1 by omega, List.drop_eq_getElem_cons h1, List.take_succ_cons, List.take_zero, ← getD_at h1, hc]
  obtain ⟨c, hc⟩ : ∃ c, L.s_.getD (p + 1) 0 = c := ⟨_, rfl⟩
  have ok1 : escOk L.s_ p [c] 1 := by simp [escOk]; omega
  have oka : ∀ t : List UInt8, t.length ≤ 1 → escOk L.s_ p t 1 := fun t ht => ⟨ht, by simp, by omega⟩
  have sh : impl_lexer_escape.l0 k' L (p : Int) true = some (escR p [c] 1) := by
   rw [impl_lexer_escape.l0, if_pos rfl]
   simp (maxSteps := 5000000) (disch := omega) only [w1, w2, Int.toNat_natCast, if_pos, if_neg]
   rw [one c hc]
   rfl
  have sf : ∀ a : Prop, [Decidable a] → ¬ a → impl_lexer_escape.l0 k' L (p : Int) (decide a) = impl_lexer_escape.l0 k' L (p : Int) false := fun a _ h => by rw [decide_eq_false h]
  have st : ∀ a : Prop, [Decidable a] → a → impl_lexer_escape.l0 k' L (p : Int) (decide a) = some (escR p [c] 1) := fun a _ h => by rw [decide_eq_true h, sh]
  by_cases a1 : (c.toNat : Int) = 92
  ·simp (maxSteps := 5000000) (disch := omega) only [w1, w2, Int.toNat_natCast, if_pos, if_neg, hc]
   rw [st _ a1]
   exact ⟨[c], 1, rfl, rfl, ok1⟩
  by_cases a2 : (c.toNat : Int) = 39
  ·simp (maxSteps := 5000000) (disch := omega) only [w1, w2, Int.toNat_natCast, if_pos, if_neg, hc]
   rw [st _ a2]
   exact ⟨[c], 1, rfl, rfl, ok1⟩
  by_cases a3 : (c.toNat : Int) = 34
  ·simp (maxSteps := 5000000) (disch := omega) only [w1, w2, Int.toNat_natCast, if_pos, if_neg, hc]
   rw [st _ a3]
   exact ⟨[c], 1, rfl, rfl, ok1⟩
  by_cases a4 : (c.toNat : Int) = 110
  ·simp (maxSteps := 5000000) (disch := omega) only [w1, w2, Int.toNat_natCast, if_pos, if_neg, hc]
   rw [sf _ a3, impl_lexer_escape.l0, if_neg (by simp)]
   simp (maxSteps := 5000000) (disch := omega) only [w1, w2, Int.toNat_natCast, if_pos, if_neg, hc]
   exact ⟨[10], 1, rfl, rfl, oka _ (by simp)⟩
  by_cases a5 : (c.toNat : Int) = 116
  ·simp (maxSteps := 5000000) (disch := omega) only [w1, w2, Int.toNat_natCast, if_pos, if_neg, hc]
   rw [sf _ a3, impl_lexer_escape.l0, if_neg (by simp)]
   simp (maxSteps := 5000000) (disch := omega) only [w1, w2, Int.toNat_natCast, if_pos, if_neg, hc]
   exact ⟨[9], 1, rfl, rfl, oka _ (by simp)⟩
  by_cases a6 : (c.toNat : Int) = 114
  ·simp (maxSteps := 5000000) (disch := omega) only [w1, w2, Int.toNat_natCast, if_pos, if_neg, hc]
   rw [sf _ a3, impl_lexer_escape.l0, if_neg (by simp)]
   simp (maxSteps := 5000000) (disch := omega) only [w1, w2, Int.toNat_natCast, if_pos, if_neg, hc]
   exact ⟨[13], 1, rfl, rfl, oka _ (by simp)⟩
  by_cases a7 : (c.toNat : Int) = 10
  ·simp (maxSteps := 5000000) (disch := omega) only [w1, w2, Int.toNat_natCast, if_pos, if_neg, hc]
   rw [sf _ a3, impl_lexer_escape.l0, if_neg (by simp)]
   simp (maxSteps := 5000000) (disch := omega) only [w1, w2, Int.toNat_natCast, if_pos, if_neg, hc]
   exact ⟨[], 1, rfl, rfl, oka _ (by simp)⟩
  by_cases a8 : (c.toNat : Int) = 120
  ·simp (maxSteps := 5000000) (disch := omega) only [w1, w2, Int.toNat_natCast, if_pos, if_neg, hc]
   rw [sf _ a3, impl_lexer_escape.l0, if_neg (by simp)]
   simp (maxSteps := 5000000) (disch := omega) only [w1, w2, Int.toNat_natCast, if_pos, if_neg, hc]
   exact hex_loop hl p hp 2 0 k k' 0 rfl (by omega) (by omega)
  ·simp (maxSteps := 5000000) (disch := omega) only [w1, w2, Int.toNat_natCast, if_pos, if_neg, hc]
   rw [sf _ a3, impl_lexer_escape.l0, if_neg (by simp)]
   simp (maxSteps := 5000000) (disch := omega) only [w1, w2, Int.toNat_natCast, if_pos, if_neg, hc]
   exact ⟨[], 0, rfl, rfl, by simp [escOk]⟩
 ·simp (maxSteps := 5000000) (disch := omega) only [w1, w2, Int.toNat_natCast, if_pos, if_neg]
  exact ⟨[], 0, rfl, rfl, by simp [escOk]⟩
end
set_option maxHeartbeats 2000000
section
variable {L : GLexer}
theorem bindSome {α : Type} (x : Option α) : (x.bind fun t => some t) = x := by cases x <;> rfl
theorem fault_val (L : GLexer) (c q : Int) : impl_lexer_fault.f L c q = some ⟨L.s_, L.at_, L.tokens_, c, q⟩ := rfl
def putR (L : GLexer) (kind : Int) (n : Nat) (t : List UInt8) (v : Int) : GLexer := ⟨L.s_, L.at_ + n, L.tokens_ ++ [⟨kind, L.at_, n, t, v⟩], L.code_, L.place_⟩
theorem put_val (p : Nat) (ha : L.at_ = (p : Int)) (kind : Int) (n : Nat) (t : List UInt8) (v : Int) (ht : L.tokens_.length ≤ 10000) (hl : t.length ≤ 10000) (hp : p + n ≤ 10000) (h : t.length ≤ 100 ∨ kind = 1 ∨ kind = 2 ∨ kind = 4) :
  impl_lexer_put.f L kind ((p + n : Nat) : Int) t v = some (if 100 < t.length then ⟨L.s_, L.at_, L.tokens_, 3, L.at_⟩ else putR L kind n t v) := by
 have e : IntKind.i64.wrap (((p + n : Nat) : Int) - L.at_) = (n : Int) := by rw [ha, ws (by omega) (by omega)]; congr 1; omega
 have e2 : ((p + n : Nat) : Int) = L.at_ + n := by rw [ha]; omega
 rw [impl_lexer_put.f]
 simp only [fault_val, bindSome, e]
 by_cases h1 : 100 < t.length
 ·rw [if_pos h1]
  by_cases k1 : kind = 1
  ·simp (disch := omega) only [if_pos, if_neg]
  ·by_cases k2 : kind = 2
   ·simp (disch := omega) only [if_pos, if_neg]
   ·simp (disch := omega) only [if_pos, if_neg]
 ·rw [if_neg h1]
  have e3 : (if t.length ≤ 9223372036854775807 then (if L.tokens_.length + 1 ≤ 2513169434916 then some (⟨L.s_, ((p + n : Nat) : Int), L.tokens_ ++ [(⟨kind, L.at_, (n : Int), t, v⟩ : Token)], L.code_, L.place_⟩ : GLexer) else none) else none) = some (putR L kind n t v) := by
   rw [if_pos (by omega), if_pos (by omega), putR, e2]
  rw [e3]
  simp (disch := omega) only [if_pos, if_neg, ite_self]
theorem text_loop (hl : L.s_.length ≤ 10000) (q : UInt8) (p : Nat) (hq : L.s_.getD p 0 = q) (hp : p < L.s_.length) (kind : Int) : ∀ (m i : Nat) (acc : List UInt8) (k k' : Nat), L.s_.length - i ≤ m → p < i → acc.length ≤ i → i ≤ 10002 → m + 10 < k → m + 10 < k' →
  ∃ (t : List UInt8) (n : Nat), spec_l1text.l0 k L.s_ (p : Int) acc (i : Int) = some (t, (n : Int)) ∧
   impl_lexer_quote.l1 k' L q kind acc (i : Int) = (if n = 0 then impl_lexer_fault.f L 2 L.at_ else impl_lexer_put.f L kind ((p + n : Nat) : Int) t 0) ∧ (0 < n → p + n ≤ L.s_.length) ∧ t.length ≤ 10000 := by
 intro m
 induction m with
 | zero =>
  intro i acc k k' h1 h2 h3 h4 hk hk'
  obtain ⟨k, rfl⟩ : ∃ q, k = q + 1 := ⟨k - 1, by omega⟩
  obtain ⟨k', rfl⟩ : ∃ q, k' = q + 1 := ⟨k' - 1, by omega⟩
  rw [spec_l1text.l0, impl_lexer_quote.l1, if_neg (by omega), if_neg (by omega), bindSome]
  exact ⟨[], 0, rfl, rfl, by omega, by simp⟩
 | succ m ih =>
  intro i acc k k' h1 h2 h3 h4 hk hk'
  obtain ⟨k, rfl⟩ : ∃ q, k = q + 1 := ⟨k - 1, by omega⟩
  obtain ⟨k', rfl⟩ : ∃ q, k' = q + 1 := ⟨k' - 1, by omega⟩
  rw [spec_l1text.l0, impl_lexer_quote.l1]
  by_cases hi : i < L.s_.length
  ·have stop : ∃ (t : List UInt8) (n : Nat), some (acc, IntKind.i64.wrap (((i + 1 : Nat) : Int) - (p : Int))) = some (t, (n : Int)) ∧ impl_lexer_put.f L kind ((i + 1 : Nat) : Int) acc 0 = (if n = 0 then impl_lexer_fault.f L 2 L.at_ else impl_lexer_put.f L kind ((p + n : Nat) : Int) t 0) ∧ (0 < n → p + n ≤ L.s_.length) ∧ t.length ≤ 10000 := by
    refine ⟨acc, i + 1 - p, ?_, ?_, by omega, by omega⟩
    ·rw [ws (by omega) (by omega)]
    ·rw [if_neg (by omega), show p + (i + 1 - p) = i + 1 by omega]
   by_cases c1 : ((L.s_.getD i 0).toNat : Int) = (q.toNat : Int)
   ·by_cases c2 : i + 1 < L.s_.length
    ·by_cases c3 : ((L.s_.getD (i + 1) 0).toNat : Int) = (q.toNat : Int)
     ·simp (maxSteps := 5000000) (disch := omega) only [w1, w2, Int.toNat_natCast, hq, bindSome, if_pos, if_neg]
      exact ih (i + 2) _ k k' (by omega) (by omega) (by simp; omega) (by omega) (by omega) (by omega)
     ·simp (maxSteps := 5000000) (disch := omega) only [w1, w2, Int.toNat_natCast, hq, bindSome, if_pos, if_neg]
      exact stop
    ·simp (maxSteps := 5000000) (disch := omega) only [w1, w2, Int.toNat_natCast, hq, bindSome, if_pos, if_neg]
     exact stop
   ·by_cases c4 : ((L.s_.getD i 0).toNat : Int) = 92
    ·obtain ⟨t, n, e1, e2, o1, o2, o3⟩ := escape_sim hl i (by omega) k k' (by omega) (by omega)
     simp (maxSteps := 5000000) (disch := omega) only [w1, w2, Int.toNat_natCast, hq, bindSome, if_pos, if_neg, e1, e2, Option.bind_some]
     by_cases hn : n = 0
     ·unfold escR
      simp (maxSteps := 5000000) (disch := omega) only [if_pos, if_neg]
      rw [if_pos (by simp)]
      exact ⟨[], 0, rfl, rfl, by omega, by simp⟩
     ·unfold escR
      simp (maxSteps := 5000000) (disch := omega) only [if_pos, if_neg, w1, wa]
      rw [if_neg (by simp)]
      have := ih (i + (n + 1)) (acc ++ t) k k' (by omega) (by omega) (by simp; omega) (by omega) (by omega) (by omega)
      rw [show i + 1 + n = i + (n + 1) by omega]
      exact this
    ·by_cases c5 : rawB (L.s_.getD i 0) = true
     ·simp (maxSteps := 5000000) (disch := omega) only [w1, w2, Int.toNat_natCast, hq, bindSome, if_pos, if_neg, print_eq, rawB_val, Option.bind_some, c5]
      exact ih (i + 1) _ k k' (by omega) (by omega) (by simp; omega) (by omega) (by omega) (by omega)
     ·simp (maxSteps := 5000000) (disch := omega) only [w1, w2, Int.toNat_natCast, hq, bindSome, if_pos, if_neg, print_eq, rawB_val, Option.bind_some, c5]
      exact ⟨[], 0, rfl, rfl, by omega, by simp⟩
  ·rw [if_neg (by omega), if_neg (by omega), bindSome]
   exact ⟨[], 0, rfl, rfl, by omega, by simp⟩
end
set_option maxHeartbeats 4000000
section
variable {L : GLexer}
def numR (s : List UInt8) (p j : Nat) (v : Int) (big : Bool) : Int × Int × Int :=
 if p + j < s.length ∧ alnumB (s.getD (p + j) 0) = true then (0, 0, 2) else if big = true then (0, 0, 3) else (v, (j : Int), 0)
theorem num_loop (hl : L.s_.length ≤ 10000) (b : Nat) (hb : 2 ≤ b ∧ b ≤ 16) (p : Nat) (hp : p < L.s_.length) : ∀ (m i : Nat) (v v' : Int) (big : Bool) (k k' : Nat), L.s_.length - (p + i) ≤ m → p + i ≤ 10002 → 2 * m + 10 < k → m + 10 < k' →
  0 ≤ v' → (big = false → v' = v ∧ v ≤ 1000000000000000) → (big = true → 1000000000000000 < v' ∧ v' ≤ 20000000000000000) →
  ∃ (j : Nat) (w w' : Int) (big' : Bool), spec_l1number.l2 k L.s_ (p : Int) (b : Int) (i : Int) v big = some (numR L.s_ p j w big') ∧
   impl_lexer_number_c1.l0 k' (b : Int) L ((p + i : Nat) : Int) v' = some (((p + j : Nat) : Int), w') ∧ i ≤ j ∧ (p + i < L.s_.length → p + j ≤ L.s_.length) ∧ (p + i < L.s_.length → hexV (L.s_.getD (p + i) 0) < b → i < j) ∧
   (big' = false → w' = w ∧ w ≤ 1000000000000000) ∧ (big' = true → 1000000000000000 < w') := by
 intro m
 induction m with
 | zero =>
  intro i v v' big k k' h1 h2 hk hk' h0 h3 h4
  obtain ⟨k, rfl⟩ : ∃ q, k = q + 1 := ⟨k - 1, by omega⟩
  obtain ⟨k', rfl⟩ : ∃ q, k' = q + 1 := ⟨k' - 1, by omega⟩
  refine ⟨i, v, v', big, ?_, ?_, by omega, by omega, by omega, h3, fun h => (h4 h).1⟩
  ·rw [spec_l1number.l2]
   simp (maxSteps := 5000000) (disch := omega) only [wa, if_neg]
   unfold numR
   rw [if_neg (c := _ ∧ _) (fun q => by omega)]
   cases big <;> rfl
  ·rw [impl_lexer_number_c1.l0, if_neg (by omega)]
 | succ m ih =>
  intro i v v' big k k' h1 h2 hk hk' h0 h3 h4
  obtain ⟨k, rfl⟩ : ∃ q, k = q + 2 := ⟨k - 2, by omega⟩
  obtain ⟨k', rfl⟩ : ∃ q, k' = q + 1 := ⟨k' - 1, by omega⟩
  by_cases hi : p + i < L.s_.length
  ·by_cases hx : hexV (L.s_.getD (p + i) 0) < b
   ·have hx' : (hexV (L.s_.getD (p + i) 0) : Int) < (b : Int) := by omega
    have step : ∀ (v2 v2' : Int) (big2 : Bool), 0 ≤ v2' → (big2 = false → v2' = v2 ∧ v2 ≤ 1000000000000000) → (big2 = true → 1000000000000000 < v2' ∧ v2' ≤ 20000000000000000) →
      ∃ (j : Nat) (w w' : Int) (big' : Bool), spec_l1number.l3 (k + 1) L.s_ (p : Int) (b : Int) (i : Int) v2 big2 = some (numR L.s_ p j w big') ∧
       impl_lexer_number_c1.l0 k' (b : Int) L (IntKind.i64.wrap (((p + i : Nat) : Int) + 1)) v2' = some (((p + j : Nat) : Int), w') ∧ i ≤ j ∧ (p + i < L.s_.length → p + j ≤ L.s_.length) ∧ (p + i < L.s_.length → hexV (L.s_.getD (p + i) 0) < b → i < j) ∧
       (big' = false → w' = w ∧ w ≤ 1000000000000000) ∧ (big' = true → 1000000000000000 < w') := by
     intro v2 v2' big2 g0 g1 g2
     obtain ⟨j, w, w', big', e1, e2, o1, o2, o3, o4, o5⟩ := ih (i + 1) v2 v2' big2 k k' (by omega) (by omega) (by omega) (by omega) g0 g1 g2
     refine ⟨j, w, w', big', ?_, ?_, by omega, ?_, by omega, o4, o5⟩
     ·rw [spec_l1number.l3, w1 (by omega)]; exact e1
     ·rw [w1 (by omega)]; exact e2
     ·intro _
      by_cases hj : p + (i + 1) < L.s_.length
      ·exact o2 hj
      ·-- the end of the text is reached at once
       have : impl_lexer_number_c1.l0 k' (b : Int) L ((p + (i + 1) : Nat) : Int) v2' = some (((p + (i + 1) : Nat) : Int), v2') := by
        obtain ⟨k', rfl⟩ : ∃ q, k' = q + 1 := ⟨k' - 1, by omega⟩
        rw [impl_lexer_number_c1.l0, if_neg (by omega)]
       rw [this] at e2
       injection e2 with e2
       injection e2 with e2 _
       omega
    rw [spec_l1number.l2, impl_lexer_number_c1.l0]
    have hm : 0 ≤ v' * (b : Int) := Int.mul_nonneg h0 (by omega)
    cases hbig : big with
    | false =>
     obtain ⟨rfl, hv⟩ := h3 hbig
     have hm2 : v' * (b : Int) ≤ 16000000000000000 := by
      have := Int.mul_le_mul hv (show (b : Int) ≤ 16 by omega) (by omega) (by omega)
      omega
     simp (maxSteps := 5000000) (disch := omega) only [wa, Int.toNat_natCast, hex_eq, (hexV_val _).1, Option.bind_some, if_pos, wrap_id (n := v' * (b : Int)), wrap_id (n := v' * (b : Int) + _)]
     by_cases hgt : v' * (b : Int) + (hexV (L.s_.getD (p + i) 0) : Int) > 1000000000000000
     ·rw [if_pos hgt]
      exact step _ _ true (by omega) (by simp) (fun _ => by omega)
     ·rw [if_neg hgt]
      exact step _ _ false (by omega) (fun _ => by omega) (by simp)
    | true =>
     have hv := h4 hbig
     subst hbig
     simp (maxSteps := 5000000) (disch := omega) only [wa, Int.toNat_natCast, hex_eq, (hexV_val _).1, Option.bind_some, if_pos, if_neg]
     split
     ·exact step _ _ true (by omega) (by simp) (fun _ => by omega)
     ·exact step _ _ true (by omega) (by simp) (fun _ => by omega)
   ·refine ⟨i, v, v', big, ?_, ?_, by omega, by omega, by omega, h3, fun h => (h4 h).1⟩
    ·rw [spec_l1number.l2]
     simp (maxSteps := 5000000) (disch := omega) only [wa, Int.toNat_natCast, (hexV_val _).1, Option.bind_some, if_pos, if_neg, alnumB_val]
     unfold numR
     by_cases ha : alnumB (L.s_.getD (p + i) 0) = true
     ·rw [if_pos ha, if_pos ⟨hi, ha⟩]
     ·rw [if_neg ha, if_neg (c := _ ∧ _) (fun q => ha q.2)]; cases big <;> rfl
    ·rw [impl_lexer_number_c1.l0]
     simp (maxSteps := 5000000) (disch := omega) only [wa, Int.toNat_natCast, hex_eq, (hexV_val _).1, Option.bind_some, if_pos, if_neg]
  ·refine ⟨i, v, v', big, ?_, ?_, by omega, by omega, by omega, h3, fun h => (h4 h).1⟩
   ·rw [spec_l1number.l2]
    simp (maxSteps := 5000000) (disch := omega) only [wa, if_neg]
    unfold numR
    rw [if_neg (c := _ ∧ _) (fun q => by omega)]
    cases big <;> rfl
   ·rw [impl_lexer_number_c1.l0, if_neg (by omega)]
def tokR (L : GLexer) (tk : Token) (code : Int) : GLexer := if code ≠ 0 then ⟨L.s_, L.at_, L.tokens_, code, L.at_⟩ else ⟨L.s_, tk.place + tk.size, L.tokens_ ++ [tk], L.code_, L.place_⟩
def tokOk (s : List UInt8) (p : Nat) (tk : Token) (code : Int) : Prop := code = 0 → tk.place = p ∧ (∃ n : Nat, 0 < n ∧ tk.size = n ∧ p + n ≤ s.length) ∧ tk.text.length ≤ 100
theorem number_end (hl : L.s_.length ≤ 10000) (p : Nat) (ha : L.at_ = (p : Int)) (ht : L.tokens_.length ≤ 10000) (j : Nat) (hj : p + j ≤ L.s_.length) (hj0 : 0 < j) (w w' : Int) (big : Bool) (h1 : big = false → w' = w ∧ w ≤ 1000000000000000) (h2 : big = true → 1000000000000000 < w') :
  ∃ (n sz code : Int), numR L.s_ p j w big = (n, sz, code) ∧ impl_lexer_number.l1 0 L L.s_ L.at_ L.tokens_ L.code_ L.place_ w' ((p + j : Nat) : Int) = some (tokR L ⟨3, (p : Int), sz, [], n⟩ code) ∧ tokOk L.s_ p ⟨3, (p : Int), sz, [], n⟩ code := by
 unfold numR
 have hput : ∀ v : Int, impl_lexer_put.f (⟨L.s_, L.at_, L.tokens_, L.code_, L.place_⟩ : GLexer) 3 ((p + j : Nat) : Int) [] v = some (tokR L ⟨3, (p : Int), (j : Int), [], v⟩ 0) := by
  intro v
  rw [put_val (L := ⟨L.s_, L.at_, L.tokens_, L.code_, L.place_⟩) p ha 3 j [] v ht (by simp) (by omega) (by simp)]
  simp [putR, tokR, ha]
 have hn : ∀ v : Int, tokOk L.s_ p ⟨3, (p : Int), (j : Int), [], v⟩ 0 := fun v _ => ⟨rfl, ⟨j, hj0, rfl, hj⟩, by simp⟩
 rw [impl_lexer_number.l1]
 simp only [bindSome, fault_val, Int.toNat_natCast, alnum_eq, Option.bind_some, hput]
 have tail : ∃ (n sz code : Int), (if big = true then (0, 0, 3) else (w, (j : Int), 0)) = (n, sz, code) ∧ (if w' > 1000000000000000 then some (⟨L.s_, L.at_, L.tokens_, 3, L.at_⟩ : GLexer) else some (tokR L ⟨3, (p : Int), (j : Int), [], w'⟩ 0)) = some (tokR L ⟨3, (p : Int), sz, [], n⟩ code) ∧ tokOk L.s_ p ⟨3, (p : Int), sz, [], n⟩ code := by
  cases big with
  | true =>
   have := h2 rfl
   rw [if_pos rfl, if_pos (show w' > 1000000000000000 by omega)]
   exact ⟨0, 0, 3, rfl, rfl, fun h => by cases h⟩
  | false =>
   obtain ⟨rfl, h⟩ := h1 rfl
   rw [if_neg (by simp), if_neg (show ¬ w' > 1000000000000000 by omega)]
   exact ⟨w', j, 0, rfl, rfl, hn _⟩
 have b2 : (0 : Int) ≤ ((p + j : Nat) : Int) := by omega
 by_cases c1 : p + j < L.s_.length
 ·have b1 : ((p + j : Nat) : Int) < (L.s_.length : Int) := by omega
  by_cases c2 : alnumB (L.s_.getD (p + j) 0) = true
  ·rw [if_pos (c := _ ∧ _) ⟨c1, c2⟩, if_pos b1, if_pos b2, if_pos c2]
   exact ⟨0, 0, 2, rfl, rfl, fun h => by cases h⟩
  ·rw [if_neg (c := _ ∧ _) (fun q => c2 q.2), if_pos b1, if_pos b2, if_neg c2]
   exact tail
 ·have b1 : ¬ ((p + j : Nat) : Int) < (L.s_.length : Int) := by omega
  rw [if_neg (c := _ ∧ _) (fun q => c1 q.1), if_neg b1]
  exact tail
end
section
variable {L : GLexer}
theorem digit_hex (x : UInt8) (h : digitB x = true) : hexV x < 10 := by
 have hx : x.toNat < 256 := x.toNat_lt
 have hd : 48 ≤ x.toNat ∧ x.toNat ≤ 57 := by
  unfold digitB spec_l1digit.f at h
  split at h
  ·simp at h; omega
  ·simp at h
 unfold hexV spec_l1hex.f
 rw [digitB_val, Option.bind_some, if_pos h, b8_toNat (by omega) (by omega)]
 simp; omega
theorem hex_zero : hexV 0 = 99 := by decide
theorem peek_val (p : Nat) (ha : L.at_ = (p : Int)) (hp : p ≤ 10000) (i : Nat) (hi : i ≤ 10) : impl_lexer_peek.f L (i : Int) = some (if p + i < L.s_.length then L.s_.getD (p + i) 0 else 0) := by
 rw [impl_lexer_peek.f, ha, wa (by omega) (by omega)]
 by_cases h : p + i < L.s_.length
 ·rw [if_pos (by omega), if_pos (by omega), if_pos h, Int.toNat_natCast]
 ·rw [if_neg (by omega), if_neg h]
theorem num_all (hl : L.s_.length ≤ 10000) (p : Nat) (ha : L.at_ = (p : Int)) (ht : L.tokens_.length ≤ 10000) (b : Nat) (hb : 2 ≤ b ∧ b ≤ 16) (i : Nat) (hi : p + i < L.s_.length) (hx : hexV (L.s_.getD (p + i) 0) < b) (k k' : Nat) (hk : 30000 < k) (hk' : 30000 < k') :
  ∃ (n sz code : Int), spec_l1number.l0 k L.s_ (p : Int) (b : Int) (i : Int) = some (n, sz, code) ∧
   ((impl_lexer_number_c1.f k' (b : Int) ((p + i : Nat) : Int) L 0).bind fun t => impl_lexer_number.l1 0 L L.s_ L.at_ L.tokens_ L.code_ L.place_ t.2 t.1) = some (tokR L ⟨3, (p : Int), sz, [], n⟩ code) ∧ tokOk L.s_ p ⟨3, (p : Int), sz, [], n⟩ code := by
 obtain ⟨j, w, w', big, e1, e2, o1, o2, o3, o4, o5⟩ := num_loop hl b hb p (by omega) (L.s_.length - (p + i)) i 0 0 false k k' (by omega) (by omega) (by omega) (by omega) (by omega) (fun _ => ⟨rfl, by omega⟩) (by simp)
 obtain ⟨n, sz, code, f1, f2, f3⟩ := number_end hl p ha ht j (o2 hi) (by have := o3 hi hx; omega) w w' big o4 o5
 refine ⟨n, sz, code, ?_, ?_, f3⟩
 ·rw [spec_l1number.l0, e1, f1]
 ·rw [impl_lexer_number_c1.f, e2, Option.bind_some]; exact f2
theorem char_end (hl : L.s_.length ≤ 10000) (p j : Nat) (hj : 0 < j) (hp : p + j ≤ L.s_.length) (v : Int) : spec_l1char.l0 0 L.s_ (p : Int) (j : Int) v = some (numR L.s_ p j v false) := by
 rw [spec_l1char.l0, if_neg (by omega)]
 simp (maxSteps := 5000000) (disch := omega) only [wa, Int.toNat_natCast, alnumB_val, Option.bind_some]
 unfold numR
 by_cases h : p + j < L.s_.length
 ·rw [if_pos (by omega), if_pos (by omega)]
  by_cases h2 : alnumB (L.s_.getD (p + j) 0) = true
  ·rw [if_pos h2, if_pos ⟨h, h2⟩]
  ·rw [if_neg h2, if_neg (c := _ ∧ _) (fun q => h2 q.2)]; rfl
 ·rw [if_neg (by omega), if_neg (c := _ ∧ _) (fun q => h q.1)]; rfl
theorem char_bad (s : List UInt8) (p v : Int) : spec_l1char.l0 0 s p 0 v = some (0, 0, 2) := by rw [spec_l1char.l0, if_pos rfl]
theorem char_sim (hl : L.s_.length ≤ 10000) (p : Nat) (ha : L.at_ = (p : Int)) (hc0 : L.code_ = 0) (ht : L.tokens_.length ≤ 10000) (hp : p + 1 < L.s_.length) (c0 : ((L.s_.getD p 0).toNat : Int) = 48) (c1 : ((L.s_.getD (p + 1) 0).toNat : Int) = 39) (k k' : Nat) (hk : 30000 < k) (hk' : 30000 < k') :
  ∃ (n sz code : Int), spec_l1char.f k L.s_ (p : Int) = some (n, sz, code) ∧ impl_lexer_number.l0 k' L 10 = some (tokR L ⟨3, (p : Int), sz, [], n⟩ code) ∧ tokOk L.s_ p ⟨3, (p : Int), sz, [], n⟩ code := by
 have pk1 : impl_lexer_peek.f L 1 = _ := peek_val (L := L) p ha (by omega) 1 (by omega)
 rw [if_pos hp] at pk1
 have pk3 : impl_lexer_peek.f L 3 = _ := peek_val (L := L) p ha (by omega) 3 (by omega)
 have good : ∀ (j : Nat) (v : Int), 0 < j → p + j ≤ L.s_.length → v ≤ 255 → ∃ (n sz code : Int), some (numR L.s_ p j v false) = some (n, sz, code) ∧ impl_lexer_number.l1 0 L L.s_ L.at_ L.tokens_ L.code_ L.place_ v ((p + j : Nat) : Int) = some (tokR L ⟨3, (p : Int), sz, [], n⟩ code) ∧ tokOk L.s_ p ⟨3, (p : Int), sz, [], n⟩ code := by
  intro j v h1 h2 h3
  obtain ⟨n, sz, code, f1, f2, f3⟩ := number_end hl p ha ht j h2 h1 v v false (fun _ => ⟨rfl, by omega⟩) (by simp)
  exact ⟨n, sz, code, by rw [f1], f2, f3⟩
 have bad : ∃ (n sz code : Int), some ((0 : Int), (0 : Int), (2 : Int)) = some (n, sz, code) ∧ some (⟨L.s_, L.at_, L.tokens_, 2, L.at_⟩ : GLexer) = some (tokR L ⟨3, (p : Int), sz, [], n⟩ code) ∧ tokOk L.s_ p ⟨3, (p : Int), sz, [], n⟩ code :=
  ⟨0, 0, 2, rfl, rfl, fun h => by cases h⟩
 simp only [ha] at good bad
 rw [impl_lexer_number.l0, spec_l1char.f]
 by_cases h2 : p + 2 < L.s_.length
 ·by_cases c2 : ((L.s_.getD (p + 2) 0).toNat : Int) = 39
  ·by_cases h3 : p + 3 < L.s_.length
   ·rw [if_pos h3] at pk3
    by_cases c3 : ((L.s_.getD (p + 3) 0).toNat : Int) = 39
    ·simp (maxSteps := 5000000) (disch := omega) only [w1, w2, w3, w3', wa, Int.toNat_natCast, ha, if_pos, if_neg, pk1, pk3, Option.bind_some, print_eq, rawB_val, fault_val, bindSome, c1, char_bad]
     rw [show (4 : Int) = ((4 : Nat) : Int) from rfl, char_end hl p 4 (by omega) (by omega)]
     exact good 4 39 (by omega) (by omega) (by omega)
    ·simp (maxSteps := 5000000) (disch := omega) only [w1, w2, w3, w3', wa, Int.toNat_natCast, ha, if_pos, if_neg, pk1, pk3, Option.bind_some, print_eq, rawB_val, fault_val, bindSome, c1, char_bad]
     exact bad
   ·rw [if_neg h3] at pk3
    simp (maxSteps := 5000000) (disch := omega) only [w1, w2, w3, w3', wa, Int.toNat_natCast, ha, if_pos, if_neg, pk1, pk3, Option.bind_some, print_eq, rawB_val, fault_val, bindSome, c1, char_bad]
    rw [if_pos (by decide)]
    exact bad
  ·by_cases c3 : ((L.s_.getD (p + 2) 0).toNat : Int) = 92
   ·obtain ⟨t, n, e1, e2, o1, o2, o3⟩ := escape_sim hl (p + 2) (by omega) k k' (by omega) (by omega)
    have e1' : spec_l1escape.f k L.s_ ((p + 3 : Nat) : Int) = some (t, (n : Int)) := e1
    have sp : spec_l1char.f k L.s_ (p : Int) = (if (t.length : Int) = 1 then (if 0 < (t.length : Int) then (spec_l1char.l0 0 L.s_ (p : Int) ((3 + n : Nat) : Int) ((t.getD 0 (0 : UInt8)).toNat : Int)) else none) else some (0, 0, 2)) := by
     rw [spec_l1char.f]
     by_cases h3 : p + 3 < L.s_.length
     ·simp (maxSteps := 5000000) (disch := omega) only [w1, w2, w3, w3', wa, Int.toNat_natCast, ha, if_pos, if_neg, pk1, pk3, Option.bind_some, print_eq, rawB_val, fault_val, bindSome, c1, char_bad, e1']
     ·simp (maxSteps := 5000000) (disch := omega) only [w1, w2, w3, w3', wa, Int.toNat_natCast, ha, if_pos, if_neg, pk1, pk3, Option.bind_some, print_eq, rawB_val, fault_val, bindSome, c1, char_bad, e1']
    have im : impl_lexer_number.l0 k' L 10 = (if ¬ ((escR (p + 2) t n).2.2 = true) then some (⟨L.s_, (p : Int), L.tokens_, 2, (p : Int)⟩ : GLexer) else (if (escR (p + 2) t n).1 = ([] : List UInt8) then some (⟨L.s_, (p : Int), L.tokens_, 2, (p : Int)⟩ : GLexer) else (if 0 < ((escR (p + 2) t n).1.length : Int) then (impl_lexer_number.l1 0 L L.s_ (p : Int) L.tokens_ L.code_ L.place_ (((escR (p + 2) t n).1.getD (0 : Int).toNat (0 : UInt8)).toNat : Int) (escR (p + 2) t n).2.1) else none))) := by
     rw [impl_lexer_number.l0]
     simp (maxSteps := 5000000) (disch := omega) only [w1, w2, w3, w3', wa, Int.toNat_natCast, ha, if_pos, if_neg, pk1, pk3, Option.bind_some, print_eq, rawB_val, fault_val, bindSome, c1, char_bad, e2]
     rw [if_pos trivial]
    rw [← impl_lexer_number.l0, ← spec_l1char.f, sp, im]
    by_cases hn : n = 0
    ·rw [o2 hn]
     unfold escR
     rw [if_pos hn, if_neg (by simp), if_pos (by simp)]
     exact bad
    ·unfold escR
     rw [if_neg hn, if_neg (c := ¬ _) (by simp)]
     rcases t with _ | ⟨c, _ | ⟨d, t⟩⟩
     ·rw [if_neg (by simp), if_pos rfl]
      exact bad
     ·have hc : c.toNat < 256 := c.toNat_lt
      rw [if_pos (by simp), if_pos (by simp), if_neg (by simp), if_pos (by simp), char_end hl p (3 + n) (by omega) (by have := o3 (by omega); omega)]
      have := good (3 + n) (c.toNat : Int) (by omega) (by have := o3 (by omega); omega) (by omega)
      rw [show p + 2 + 1 + n = p + (3 + n) by omega]
      exact this
     ·simp at o1
   ·have hcc := (L.s_.getD (p + 2) 0).toNat_lt
    by_cases c4 : rawB (L.s_.getD (p + 2) 0) = true
    ·have sp : spec_l1char.f k L.s_ (p : Int) = some (numR L.s_ p 3 ((L.s_.getD (p + 2) 0).toNat : Int) false) := by
      rw [spec_l1char.f, ← char_end hl p 3 (by omega) (by omega)]
      by_cases h3 : p + 3 < L.s_.length
      ·simp (maxSteps := 5000000) (disch := omega) only [w1, w2, w3, w3', wa, Int.toNat_natCast, ha, if_pos, if_neg, pk1, pk3, Option.bind_some, print_eq, rawB_val, fault_val, bindSome, c1, char_bad, c4]
       rfl
      ·simp (maxSteps := 5000000) (disch := omega) only [w1, w2, w3, w3', wa, Int.toNat_natCast, ha, if_pos, if_neg, pk1, pk3, Option.bind_some, print_eq, rawB_val, fault_val, bindSome, c1, char_bad, c4]
       rfl
     rw [← spec_l1char.f, sp]
     simp (maxSteps := 5000000) (disch := omega) only [w1, w2, w3, w3', wa, Int.toNat_natCast, ha, if_pos, if_neg, pk1, pk3, Option.bind_some, print_eq, rawB_val, fault_val, bindSome, c1, char_bad, c4]
     exact good 3 _ (by omega) (by omega) (by omega)
    ·have sp : spec_l1char.f k L.s_ (p : Int) = some (0, 0, 2) := by
      rw [spec_l1char.f]
      by_cases h3 : p + 3 < L.s_.length
      ·simp (maxSteps := 5000000) (disch := omega) only [w1, w2, w3, w3', wa, Int.toNat_natCast, ha, if_pos, if_neg, pk1, pk3, Option.bind_some, print_eq, rawB_val, fault_val, bindSome, c1, char_bad, c4]
       rfl
      ·simp (maxSteps := 5000000) (disch := omega) only [w1, w2, w3, w3', wa, Int.toNat_natCast, ha, if_pos, if_neg, pk1, pk3, Option.bind_some, print_eq, rawB_val, fault_val, bindSome, c1, char_bad, c4]
       rfl
     rw [← spec_l1char.f, sp]
     simp (maxSteps := 5000000) (disch := omega) only [w1, w2, w3, w3', wa, Int.toNat_natCast, ha, if_pos, if_neg, pk1, pk3, Option.bind_some, print_eq, rawB_val, fault_val, bindSome, c1, char_bad, c4]
     exact bad
 ·simp (maxSteps := 5000000) (disch := omega) only [w1, w2, w3, w3', wa, Int.toNat_natCast, ha, if_pos, if_neg, pk1, pk3, Option.bind_some, print_eq, rawB_val, fault_val, bindSome, c1, char_bad]
  exact bad
end
section
variable {L : GLexer}
def baseOf (t : UInt8) : Int := if (t.toNat : Int) = 120 then 16 else if (t.toNat : Int) = 111 then 8 else if (t.toNat : Int) = 98 then 2 else 0
theorem base_val (t : UInt8) : ((mget (mset (mset (mset [] (120 : UInt8) 16) (111 : UInt8) 8) (98 : UInt8) 2) t).getD (0 : Int)) = baseOf t := by
 show ((mget [((120 : UInt8), (16 : Int)), (111, 8), (98, 2)] t).getD (0 : Int)) = _
 have h : ∀ c : UInt8, (c = t) ↔ ((t.toNat : Int) = (c.toNat : Int)) := fun c => ⟨fun h => by rw [h], fun h => (UInt8.toNat_inj.1 (by omega))⟩
 have h1 : (120 : UInt8) = t ↔ (t.toNat : Int) = 120 := h 120
 have h2 : (111 : UInt8) = t ↔ (t.toNat : Int) = 111 := h 111
 have h3 : (98 : UInt8) = t ↔ (t.toNat : Int) = 98 := h 98
 simp only [mget, baseOf]
 by_cases a1 : (120 : UInt8) = t
 ·rw [if_pos a1, if_pos (h1.1 a1)]; rfl
 ·rw [if_neg a1, if_neg (fun q => a1 (h1.2 q))]
  by_cases a2 : (111 : UInt8) = t
  ·rw [if_pos a2, if_pos (h2.1 a2)]; rfl
  ·rw [if_neg a2, if_neg (fun q => a2 (h2.2 q))]
   by_cases a3 : (98 : UInt8) = t
   ·rw [if_pos a3, if_pos (h3.1 a3)]; rfl
   ·rw [if_neg a3, if_neg (fun q => a3 (h3.2 q))]; rfl
theorem number_sim (hl : L.s_.length ≤ 10000) (p : Nat) (ha : L.at_ = (p : Int)) (hc0 : L.code_ = 0) (ht : L.tokens_.length ≤ 10000) (hp : p < L.s_.length) (hd : digitB (L.s_.getD p 0) = true) (k k' : Nat) (hk : 30000 < k) (hk' : 30000 < k') :
  ∃ (n sz code : Int), spec_l1number.f k L.s_ (p : Int) = some (n, sz, code) ∧ impl_lexer_number.f k' L = some (tokR L ⟨3, (p : Int), sz, [], n⟩ code) ∧ tokOk L.s_ p ⟨3, (p : Int), sz, [], n⟩ code := by
 have pk1 : impl_lexer_peek.f L 1 = _ := peek_val (L := L) p ha (by omega) 1 (by omega)
 have pk2 : impl_lexer_peek.f L 2 = _ := peek_val (L := L) p ha (by omega) 2 (by omega)
 have hx := digit_hex _ hd
 have ten : ∃ (n sz code : Int), spec_l1number.l0 k L.s_ (p : Int) 10 0 = some (n, sz, code) ∧
   ((impl_lexer_number_c1.f k' 10 (p : Int) L 0).bind fun t => impl_lexer_number.l1 0 L L.s_ (p : Int) L.tokens_ L.code_ L.place_ t.2 t.1) = some (tokR L ⟨3, (p : Int), sz, [], n⟩ code) ∧ tokOk L.s_ p ⟨3, (p : Int), sz, [], n⟩ code := by
  have := num_all hl p ha ht 10 (by omega) 0 (by omega) hx k k' hk hk'
  rw [ha] at this
  exact this
 have l0ten : ∀ c : UInt8, impl_lexer_peek.f L 1 = some c → (((L.s_.getD p 0).toNat : Int) = 48 → ¬ (c.toNat : Int) = 39) → impl_lexer_number.l0 k' L 10 = ((impl_lexer_number_c1.f k' 10 (p : Int) L 0).bind fun t => impl_lexer_number.l1 0 L L.s_ (p : Int) L.tokens_ L.code_ L.place_ t.2 t.1) := by
  intro c hc hn
  rw [impl_lexer_number.l0]
  by_cases c0 : ((L.s_.getD p 0).toNat : Int) = 48
  ·have := hn c0
   simp (maxSteps := 5000000) (disch := omega) only [ha, Int.toNat_natCast, if_pos, if_neg, hc, Option.bind_some]
  ·simp (maxSteps := 5000000) (disch := omega) only [ha, Int.toNat_natCast, if_pos, if_neg]
 by_cases c0 : ((L.s_.getD p 0).toNat : Int) = 48
 ·by_cases hp1 : p + 1 < L.s_.length
  ·rw [if_pos hp1] at pk1
   by_cases c1 : ((L.s_.getD (p + 1) 0).toNat : Int) = 39
   ·obtain ⟨n, sz, code, e1, e2, e3⟩ := char_sim hl p ha hc0 ht hp1 c0 c1 k k' hk hk'
    have hb : baseOf (L.s_.getD (p + 1) 0) = 0 := by unfold baseOf; rw [if_neg (by omega), if_neg (by omega), if_neg (by omega)]
    refine ⟨n, sz, code, ?_, ?_, e3⟩
    ·rw [spec_l1number.f]
     simp (maxSteps := 5000000) (disch := omega) only [w1, Int.toNat_natCast, if_pos, if_neg, e1, Option.bind_some]
    ·rw [impl_lexer_number.f]
     simp (maxSteps := 5000000) (disch := omega) only [ha, Int.toNat_natCast, if_pos, if_neg, pk1, Option.bind_some, base_val, hb, e2]
     rw [if_pos trivial]
   ·have l0t := l0ten _ pk1 (fun _ => c1)
    -- a base of its own, or none
    have sp : spec_l1number.f k L.s_ (p : Int) = spec_l1number.l1 k L.s_ (p : Int) (baseOf (L.s_.getD (p + 1) 0)) := by
     rw [spec_l1number.f]
     unfold baseOf
     by_cases a1 : ((L.s_.getD (p + 1) 0).toNat : Int) = 120
     ·simp (maxSteps := 5000000) (disch := omega) only [w1, Int.toNat_natCast, if_pos, if_neg]
     ·by_cases a2 : ((L.s_.getD (p + 1) 0).toNat : Int) = 111
      ·simp (maxSteps := 5000000) (disch := omega) only [w1, Int.toNat_natCast, if_pos, if_neg]
      ·by_cases a3 : ((L.s_.getD (p + 1) 0).toNat : Int) = 98
       ·simp (maxSteps := 5000000) (disch := omega) only [w1, Int.toNat_natCast, if_pos, if_neg]
       ·simp (maxSteps := 5000000) (disch := omega) only [w1, Int.toNat_natCast, if_pos, if_neg]
    have hbb : baseOf (L.s_.getD (p + 1) 0) = 0 ∨ ∃ b : Nat, baseOf (L.s_.getD (p + 1) 0) = (b : Int) ∧ 2 ≤ b ∧ b ≤ 16 ∧ b ≠ 10 := by
     unfold baseOf
     split
     ·exact .inr ⟨16, rfl, by omega, by omega, by omega⟩
     ·split
      ·exact .inr ⟨8, rfl, by omega, by omega, by omega⟩
      ·split
       ·exact .inr ⟨2, rfl, by omega, by omega, by omega⟩
       ·exact .inl rfl
    rw [sp, impl_lexer_number.f]
    simp (maxSteps := 5000000) (disch := omega) only [ha, w2, Int.toNat_natCast, if_pos, if_neg, pk1, pk2, Option.bind_some, base_val, l0t, hex_eq, (hexV_val _).1]
    rcases hbb with hb | ⟨b, hb, b1, b2, b3⟩
    ·rw [hb, if_pos rfl, spec_l1number.l1, if_neg (by omega)]
     exact ten
    ·rw [hb, if_neg (c := (b : Int) = 0) (by omega), spec_l1number.l1, if_pos (by omega)]
     simp (maxSteps := 5000000) (disch := omega) only [w2, Int.toNat_natCast, (hexV_val _).1, Option.bind_some]
     by_cases hp2 : p + 2 < L.s_.length
     ·by_cases hx2 : hexV (L.s_.getD (p + 2) 0) < b
      ·have bas := num_all hl p ha ht b ⟨b1, b2⟩ 2 hp2 hx2 k k' hk hk'
       have im : impl_lexer_number.l0 k' L (b : Int) = ((impl_lexer_number_c1.f k' (b : Int) ((p + 2 : Nat) : Int) L 0).bind fun t => impl_lexer_number.l1 0 L L.s_ L.at_ L.tokens_ L.code_ L.place_ t.2 t.1) := by
        rw [impl_lexer_number.l0]
        simp (maxSteps := 5000000) (disch := omega) only [ha, w2, Int.toNat_natCast, if_pos, if_neg, pk1, Option.bind_some]
       simp (maxSteps := 5000000) (disch := omega) only [if_pos, if_neg, im]
       exact bas
      ·simp (maxSteps := 5000000) (disch := omega) only [if_pos, if_neg]
       exact ten
     ·simp (maxSteps := 5000000) (disch := omega) only [if_neg]
      rw [hex_zero]
      simp (maxSteps := 5000000) (disch := omega) only [if_pos]
      exact ten
  ·rw [if_neg hp1] at pk1
   have hb : baseOf 0 = 0 := by decide
   rw [spec_l1number.f, impl_lexer_number.f]
   simp (maxSteps := 5000000) (disch := omega) only [ha, w1, Int.toNat_natCast, if_pos, if_neg, pk1, Option.bind_some, base_val, hb, l0ten _ pk1 (fun _ => by decide)]
   exact ten
 ·rw [spec_l1number.f, impl_lexer_number.f]
  simp (maxSteps := 5000000) (disch := omega) only [ha, Int.toNat_natCast, if_pos, if_neg, l0ten _ pk1 (fun q => absurd q c0)]
  exact ten
theorem tok_end (hl : L.s_.length ≤ 10000) (p : Nat) (ha : L.at_ = (p : Int)) (ht : L.tokens_.length ≤ 10000) (j : Nat) (hj : 0 < j) (hp : p + j ≤ L.s_.length) (kind : Int) (hkd : j ≤ 100 ∨ kind = 1 ∨ kind = 2 ∨ kind = 4) :
  ∃ (tk : Token) (code : Int), spec_l1token.l0 0 L.s_ (p : Int) kind (j : Int) = some (tk, code) ∧ impl_lexer_put.f L kind ((p + j : Nat) : Int) ((L.s_.drop p).take (p + j - p)) 0 = some (tokR L tk code) ∧ tokOk L.s_ p tk code := by
 have hlen : ((L.s_.drop p).take (p + j - p)).length = j := by simp; omega
 rw [put_val p ha kind j _ 0 ht (by omega) (by omega) (by omega), spec_l1token.l0, wa (by omega) (by omega), if_pos (by omega), if_pos (by omega)]
 simp only [Int.toNat_natCast]
 rw [spec_l1copy.f, if_pos (by omega), Option.bind_some, hlen]
 by_cases h : j > 100
 ·rw [if_pos (by omega), if_pos h]
  exact ⟨_, 3, rfl, rfl, fun h => by cases h⟩
 ·rw [if_neg (by omega), if_neg h]
  refine ⟨_, 0, rfl, ?_, fun _ => ⟨rfl, ⟨j, hj, rfl, hp⟩, by simp; omega⟩⟩
  simp [putR, tokR, ha]
theorem run_loop (hl : L.s_.length ≤ 10000) (p : Nat) (ha : L.at_ = (p : Int)) (kind : Int) : ∀ (m i k k' : Nat), L.s_.length - (p + i) ≤ m → p + i ≤ L.s_.length → m + 30 < k → m + 30 < k' →
  ∃ j : Nat, spec_l1run.l0 k L.s_ (p : Int) false (i : Int) = some (j : Int) ∧ impl_lexer_run.l0 k' L kind ((p + i : Nat) : Int) = impl_lexer_put.f L kind ((p + j : Nat) : Int) ((L.s_.drop p).take (p + j - p)) 0 ∧
   i ≤ j ∧ p + j ≤ L.s_.length ∧ (p + i < L.s_.length → alnumB (L.s_.getD (p + i) 0) = true → i < j) := by
 intro m
 induction m with
 | zero =>
  intro i k k' h1 h2 hk hk'
  obtain ⟨k, rfl⟩ : ∃ q, k = q + 1 := ⟨k - 1, by omega⟩
  obtain ⟨k', rfl⟩ : ∃ q, k' = q + 1 := ⟨k' - 1, by omega⟩
  refine ⟨i, ?_, ?_, by omega, by omega, by omega⟩
  ·rw [spec_l1run.l0, wa (by omega) (by omega), if_neg (by omega)]
  ·rw [impl_lexer_run.l0]
   simp (maxSteps := 5000000) (disch := omega) only [ha, Int.toNat_natCast, if_pos, if_neg, bindSome]
 | succ m ih =>
  intro i k k' h1 h2 hk hk'
  obtain ⟨k, rfl⟩ : ∃ q, k = q + 1 := ⟨k - 1, by omega⟩
  obtain ⟨k', rfl⟩ : ∃ q, k' = q + 1 := ⟨k' - 1, by omega⟩
  by_cases hi : p + i < L.s_.length
  ·by_cases hx : alnumB (L.s_.getD (p + i) 0) = true
   ·obtain ⟨j, e1, e2, o1, o2, o3⟩ := ih (i + 1) k k' (by omega) (by omega) (by omega) (by omega)
    refine ⟨j, ?_, ?_, by omega, o2, fun _ _ => by omega⟩
    ·rw [spec_l1run.l0]
     simp (maxSteps := 5000000) (disch := omega) only [wa, w1, Int.toNat_natCast, if_pos, if_neg, alnumB_val, Option.bind_some, hx]
     rw [if_neg (by simp), if_pos (by simp)]
     exact e1
    ·rw [impl_lexer_run.l0]
     simp (maxSteps := 5000000) (disch := omega) only [w1, Int.toNat_natCast, if_pos, if_neg, alnum_eq, Option.bind_some, hx]
     exact e2
   ·refine ⟨i, ?_, ?_, by omega, by omega, fun _ h => absurd h hx⟩
    ·rw [spec_l1run.l0]
     simp (maxSteps := 5000000) (disch := omega) only [wa, w1, Int.toNat_natCast, if_pos, if_neg, alnumB_val, Option.bind_some]
     rw [if_neg (by simp)]
    ·rw [impl_lexer_run.l0]
     simp (maxSteps := 5000000) (disch := omega) only [ha, w1, Int.toNat_natCast, if_pos, if_neg, alnum_eq, Option.bind_some, bindSome]
  ·refine ⟨i, ?_, ?_, by omega, by omega, by omega⟩
   ·rw [spec_l1run.l0, wa (by omega) (by omega), if_neg (by omega)]
   ·rw [impl_lexer_run.l0]
    simp (maxSteps := 5000000) (disch := omega) only [ha, Int.toNat_natCast, if_pos, if_neg, bindSome]
theorem run_loop2 (hl : L.s_.length ≤ 10000) (p : Nat) (ha : L.at_ = (p : Int)) (kind : Int) : ∀ (m i k k' : Nat), L.s_.length - (p + i) ≤ m → p + i ≤ L.s_.length → m + 30 < k → m + 30 < k' →
  ∃ j : Nat, spec_l1run.l0 k L.s_ (p : Int) true (i : Int) = some (j : Int) ∧ impl_lexer_run_2.l0 k' L kind ((p + i : Nat) : Int) = impl_lexer_put.f L kind ((p + j : Nat) : Int) ((L.s_.drop p).take (p + j - p)) 0 ∧
   i ≤ j ∧ p + j ≤ L.s_.length ∧ (p + i < L.s_.length → symB (L.s_.getD (p + i) 0) = true → i < j) := by
 intro m
 induction m with
 | zero =>
  intro i k k' h1 h2 hk hk'
  obtain ⟨k, rfl⟩ : ∃ q, k = q + 1 := ⟨k - 1, by omega⟩
  obtain ⟨k', rfl⟩ : ∃ q, k' = q + 1 := ⟨k' - 1, by omega⟩
  refine ⟨i, ?_, ?_, by omega, by omega, by omega⟩
  ·rw [spec_l1run.l0, wa (by omega) (by omega), if_neg (by omega)]
  ·rw [impl_lexer_run_2.l0]
   simp (maxSteps := 5000000) (disch := omega) only [ha, Int.toNat_natCast, if_pos, if_neg, bindSome]
 | succ m ih =>
  intro i k k' h1 h2 hk hk'
  obtain ⟨k, rfl⟩ : ∃ q, k = q + 1 := ⟨k - 1, by omega⟩
  obtain ⟨k', rfl⟩ : ∃ q, k' = q + 1 := ⟨k' - 1, by omega⟩
  by_cases hi : p + i < L.s_.length
  ·by_cases hx : symB (L.s_.getD (p + i) 0) = true
   ·obtain ⟨j, e1, e2, o1, o2, o3⟩ := ih (i + 1) k k' (by omega) (by omega) (by omega) (by omega)
    refine ⟨j, ?_, ?_, by omega, o2, fun _ _ => by omega⟩
    ·rw [spec_l1run.l0]
     simp (maxSteps := 5000000) (disch := omega) only [wa, w1, Int.toNat_natCast, if_pos, if_neg, symbol_val, Option.bind_some, hx]
     rw [if_pos trivial]
     exact e1
    ·rw [impl_lexer_run_2.l0]
     simp (maxSteps := 5000000) (disch := omega) only [w1, Int.toNat_natCast, if_pos, if_neg, symB_val, Option.bind_some, hx]
     exact e2
   ·refine ⟨i, ?_, ?_, by omega, by omega, fun _ h => absurd h hx⟩
    ·rw [spec_l1run.l0]
     simp (maxSteps := 5000000) (disch := omega) only [wa, w1, Int.toNat_natCast, if_pos, if_neg, symbol_val, Option.bind_some]
     rw [if_pos trivial, if_neg (by simp)]
    ·rw [impl_lexer_run_2.l0]
     simp (maxSteps := 5000000) (disch := omega) only [ha, w1, Int.toNat_natCast, if_pos, if_neg, symB_val, Option.bind_some, bindSome]
  ·refine ⟨i, ?_, ?_, by omega, by omega, by omega⟩
   ·rw [spec_l1run.l0, wa (by omega) (by omega), if_neg (by omega)]
   ·rw [impl_lexer_run_2.l0]
    simp (maxSteps := 5000000) (disch := omega) only [ha, Int.toNat_natCast, if_pos, if_neg, bindSome]
end
set_option maxRecDepth 8000
set_option maxHeartbeats 8000000
section
variable {L : GLexer}
theorem ch_eq {c d : UInt8} (h : (c.toNat : Int) = (d.toNat : Int)) : c = d := UInt8.toNat_inj.1 (by omega)
theorem digit_letter (x : UInt8) (h : digitB x = true) : letterB x = false ∧ smallB x = false := by
 have hd : 48 ≤ x.toNat ∧ x.toNat ≤ 57 := by
  unfold digitB spec_l1digit.f at h
  split at h
  ·simp at h; omega
  ·simp at h
 have hs : smallB x = false := by
  unfold smallB spec_l1small.f
  rw [if_neg (by omega)]; rfl
 refine ⟨?_, hs⟩
 unfold letterB impl_isLetter.f
 rw [small_eq, smallB_val, Option.bind_some, hs, if_neg (by simp), if_neg (by omega)]
 simp; omega
def lastEnd (toks : List Token) : Int := if toks.length = 0 then -1 else if (toks.getD (toks.length - 1) z28).kind = 1 then (toks.getD (toks.length - 1) z28).place + (toks.getD (toks.length - 1) z28).size else -1
theorem quote_sim (hl : L.s_.length ≤ 10000) (p : Nat) (ha : L.at_ = (p : Int)) (ht : L.tokens_.length ≤ 10000) (hp : p < L.s_.length) (c : UInt8) (hc : L.s_.getD p 0 = c) (kind : Int) (hk0 : kind = 1 ∨ kind = 4) (k k' : Nat) (hk : 30000 < k) (hk' : 30000 < k') :
  ∃ (tk : Token) (code : Int), ((spec_l1text.f k L.s_ (p : Int)).bind fun t => (if t.2 = 0 then some ((⟨0, 0, 0, [], 0⟩ : Token), (2 : Int)) else (if (t.1.length : Int) > 100 then some ((⟨0, 0, 0, [], 0⟩ : Token), 3) else some ((⟨kind, (p : Int), t.2, t.1, 0⟩ : Token), 0)))) = some (tk, code) ∧
   impl_lexer_quote.l1 k' L c kind [] ((p + 1 : Nat) : Int) = some (tokR L tk code) ∧ tokOk L.s_ p tk code := by
 obtain ⟨t, n, e1, e2, o1, o2⟩ := text_loop hl c p hc hp kind (L.s_.length - (p + 1)) (p + 1) [] k k' (by omega) (by omega) (by simp) (by omega) (by omega) (by omega)
 have e1' : spec_l1text.f k L.s_ (p : Int) = some (t, (n : Int)) := by
  rw [spec_l1text.f, if_pos (by omega), if_pos (by omega), w1 (by omega)]; exact e1
 rw [e1', Option.bind_some, e2]
 show ∃ (tk : Token) (code : Int), (if (n : Int) = 0 then some ((⟨0, 0, 0, [], 0⟩ : Token), (2 : Int)) else (if (t.length : Int) > 100 then some ((⟨0, 0, 0, [], 0⟩ : Token), 3) else some ((⟨kind, (p : Int), (n : Int), t, 0⟩ : Token), 0))) = _ ∧ _
 by_cases hn : n = 0
 ·rw [if_pos (by omega), if_pos hn]
  exact ⟨_, 2, rfl, rfl, fun h => by cases h⟩
 ·have hq := o1 (by omega)
  rw [if_neg (by omega), if_neg hn, put_val p ha kind n t 0 ht o2 (by omega) (by omega)]
  by_cases h : 100 < t.length
  ·rw [if_pos (by omega), if_pos h]
   exact ⟨_, 3, rfl, rfl, fun h => by cases h⟩
  ·rw [if_neg (by omega), if_neg h]
   refine ⟨_, 0, rfl, ?_, fun _ => ⟨rfl, ⟨n, by omega, rfl, hq⟩, by simp; omega⟩⟩
   simp [putR, tokR, ha]
theorem token_sim (hl : L.s_.length ≤ 10000) (p : Nat) (ha : L.at_ = (p : Int)) (hc0 : L.code_ = 0) (ht : L.tokens_.length ≤ 10000) (hp : p < L.s_.length) (hle : -10 ≤ lastEnd L.tokens_ ∧ lastEnd L.tokens_ ≤ 20000) (k k' : Nat) (hk : 30000 < k) (hk' : 30000 < k') :
  ∃ (tk : Token) (code : Int), spec_l1token.f k L.s_ (p : Int) (decide (lastEnd L.tokens_ = (p : Int))) = some (tk, code) ∧ impl_lexer_token.f k' L = some (tokR L tk code) ∧ tokOk L.s_ p tk code := by
 obtain ⟨c, hc⟩ : ∃ c, L.s_.getD p 0 = c := ⟨_, rfl⟩
 have hcc := c.toNat_lt
 have F0 : (0 : Int) ≤ (p : Int) := by omega
 have F1 : (p : Int) < (L.s_.length : Int) := by omega
 have w1p : IntKind.i64.wrap ((p : Int) + 1) = ((p + 1 : Nat) : Int) := w1 (by omega)
 have sye : ∀ x, spec_l1symbol.f k x = some (symB x) := fun x => symbol_val k (by omega) x
 rw [spec_l1token.f, impl_lexer_token.f]
 cases hd : digitB c with
 | true =>
  obtain ⟨n, sz, code, e1, e2, e3⟩ := number_sim hl p ha hc0 ht hp (by rw [hc]; exact hd) k k' hk hk'
  obtain ⟨l1, l2⟩ := digit_letter c hd
  refine ⟨⟨3, (p : Int), sz, [], n⟩, code, ?_, ?_, e3⟩
  ·simp only [↓reduceIte, Int.toNat_natCast, hc, digitB_val, hd, Option.bind_some, e1, F0, F1, Bool.false_eq_true, not_true_eq_false, not_false_eq_true]
  ·simp only [↓reduceIte, ha, Int.toNat_natCast, hc, digit_eq, digitB_val, hd, small_eq, smallB_val, l1, l2, letterB_val, Option.bind_some, bindSome, e2, F0, F1, Bool.false_eq_true, not_true_eq_false, not_false_eq_true]
 | false =>
  cases hal : alnumB c with
  | true =>
   have hlt : letterB c = true := by have := alnum_split c; rw [hal, hd] at this; simpa using this.symm
   have fin : ∀ kind : Int, kind = 1 ∨ kind = 2 → ∃ (tk : Token) (code : Int), ((spec_l1run.f k L.s_ (p : Int) false).bind fun t => spec_l1token.l0 0 L.s_ (p : Int) kind t) = some (tk, code) ∧ impl_lexer_run.f k' L kind = some (tokR L tk code) ∧ tokOk L.s_ p tk code := by
    intro kind hkd
    obtain ⟨j, e1, e2, o1, o2, o3⟩ := run_loop hl p ha kind (L.s_.length - p) 0 k k' (by omega) (by omega) (by omega) (by omega)
    have hj := o3 (by omega) (by rw [Nat.add_zero, hc]; exact hal)
    obtain ⟨tk, code, f1, f2, f3⟩ := tok_end hl p ha ht j hj o2 kind (by omega)
    refine ⟨tk, code, ?_, ?_, f3⟩
    ·rw [spec_l1run.f]
     show ((spec_l1run.l0 k L.s_ (p : Int) false ((0 : Nat) : Int)).bind _) = _
     rw [e1, Option.bind_some]; exact f1
    ·rw [impl_lexer_run.f, ha]
     show impl_lexer_run.l0 k' L kind ((p + 0 : Nat) : Int) = _
     rw [e2]; exact f2
   cases hs : smallB c with
   | true =>
    obtain ⟨tk, code, f1, f2, f3⟩ := fin 1 (.inl rfl)
    refine ⟨tk, code, ?_, ?_, f3⟩
    ·simp only [↓reduceIte, Int.toNat_natCast, hc, digitB_val, hd, alnumB_val, hal, smallB_val, hs, Option.bind_some, F0, F1, Bool.false_eq_true, not_true_eq_false, not_false_eq_true]
     exact f1
    ·simp only [↓reduceIte, ha, Int.toNat_natCast, hc, small_eq, smallB_val, hs, Option.bind_some, bindSome, F0, F1, Bool.false_eq_true, not_true_eq_false, not_false_eq_true]
     exact f2
   | false =>
    obtain ⟨tk, code, f1, f2, f3⟩ := fin 2 (.inr rfl)
    refine ⟨tk, code, ?_, ?_, f3⟩
    ·simp only [↓reduceIte, Int.toNat_natCast, hc, digitB_val, hd, alnumB_val, hal, smallB_val, hs, Option.bind_some, F0, F1, Bool.false_eq_true, not_true_eq_false, not_false_eq_true]
     exact f1
    ·simp only [↓reduceIte, ha, Int.toNat_natCast, hc, small_eq, smallB_val, hs, letterB_val, hlt, Option.bind_some, bindSome, F0, F1, Bool.false_eq_true, not_true_eq_false, not_false_eq_true]
     exact f2
  | false =>
   have hlt : letterB c = false := by have := alnum_split c; rw [hal, hd] at this; simpa using this.symm
   have hs := letter_small c hlt
   have run2 : symB c = true → ∃ (tk : Token) (code : Int), ((spec_l1run.f k L.s_ (p : Int) true).bind fun t => spec_l1token.l0 0 L.s_ (p : Int) 1 t) = some (tk, code) ∧ impl_lexer_run_2.f k' L 1 = some (tokR L tk code) ∧ tokOk L.s_ p tk code := by
    intro hsy
    obtain ⟨j, e1, e2, o1, o2, o3⟩ := run_loop2 hl p ha 1 (L.s_.length - p) 0 k k' (by omega) (by omega) (by omega) (by omega)
    have hj := o3 (by omega) (by rw [Nat.add_zero, hc]; exact hsy)
    obtain ⟨tk, code, f1, f2, f3⟩ := tok_end hl p ha ht j hj o2 1 (by omega)
    refine ⟨tk, code, ?_, ?_, f3⟩
    ·rw [spec_l1run.f]
     show ((spec_l1run.l0 k L.s_ (p : Int) true ((0 : Nat) : Int)).bind _) = _
     rw [e1, Option.bind_some]; exact f1
    ·rw [impl_lexer_run_2.f, ha]
     show impl_lexer_run_2.l0 k' L 1 ((p + 0 : Nat) : Int) = _
     rw [e2]; exact f2
   have one : ∀ (kind : Int), ∃ (tk : Token) (code : Int), spec_l1token.l0 0 L.s_ (p : Int) kind 1 = some (tk, code) ∧ impl_lexer_put.f L kind ((p + 1 : Nat) : Int) [c] 0 = some (tokR L tk code) ∧ tokOk L.s_ p tk code := by
    intro kind
    have e : (L.s_.drop p).take (p + 1 - p) = [c] := by
     rw [show p + 1 - p = 1 by omega, List.drop_eq_getElem_cons hp, List.take_succ_cons, List.take_zero, ← getD_at hp, hc]
    have := tok_end hl p ha ht 1 (by omega) (by omega) kind (by omega)
    rw [e] at this
    exact this
   by_cases c46 : (c.toNat : Int) = 46
   ·have e46 : c = 46 := ch_eq (d := 46) c46
    have sy : symB c = true := by rw [e46]; decide
    have fin7 : ∃ (tk : Token) (code : Int), some ((⟨7, (p : Int), 1, [], 0⟩ : Token), (0 : Int)) = some (tk, code) ∧ impl_lexer_put.f L 7 ((p + 1 : Nat) : Int) [] 0 = some (tokR L tk code) ∧ tokOk L.s_ p tk code := by
     refine ⟨_, 0, rfl, ?_, fun _ => ⟨rfl, ⟨1, by omega, rfl, by omega⟩, by simp⟩⟩
     rw [put_val p ha 7 1 [] 0 ht (by simp) (by omega) (by simp)]
     simp [putR, tokR, ha]
    by_cases hp1 : p + 1 < L.s_.length
    ·have g0 : (0 : Int) ≤ ((p + 1 : Nat) : Int) := by omega
     have g1 : ((p + 1 : Nat) : Int) < (L.s_.length : Int) := by omega
     have g2 : ¬ ((p + 1 : Nat) : Int) ≥ (L.s_.length : Int) := by omega
     have g3 : ¬ ((p + 1 : Nat) : Int) = (L.s_.length : Int) := by omega
     cases hb : blankB (L.s_.getD (p + 1) 0) with
     | true =>
      simp only [↓reduceIte, ha, w1p, Int.toNat_natCast, hc, digit_eq, digitB_val, hd, alnumB_val, hal, small_eq, smallB_val, hs, letterB_val, hlt, blank_eq, blankB_val, hb, Option.bind_some, bindSome, F0, F1, c46, g0, g1, g2, g3, Bool.false_eq_true, not_true_eq_false, not_false_eq_true]
      exact fin7
     | false =>
      by_cases c37 : ((L.s_.getD (p + 1) 0).toNat : Int) = 37
      ·simp only [↓reduceIte, ha, w1p, Int.toNat_natCast, hc, digit_eq, digitB_val, hd, alnumB_val, hal, small_eq, smallB_val, hs, letterB_val, hlt, blank_eq, blankB_val, hb, Option.bind_some, bindSome, F0, F1, c46, c37, g0, g1, g2, g3, Bool.false_eq_true, not_true_eq_false, not_false_eq_true]
       exact fin7
      ·simp only [↓reduceIte, ha, w1p, Int.toNat_natCast, hc, digit_eq, digitB_val, hd, alnumB_val, hal, small_eq, smallB_val, hs, letterB_val, hlt, blank_eq, blankB_val, hb, Option.bind_some, bindSome, symB_val, sye, sy, F0, F1, c46, c37, g0, g1, g2, g3, Bool.false_eq_true, not_true_eq_false, not_false_eq_true]
       exact run2 sy
    ·have g2 : ((p + 1 : Nat) : Int) ≥ (L.s_.length : Int) := by omega
     have g3 : ((p + 1 : Nat) : Int) = (L.s_.length : Int) := by omega
     simp only [↓reduceIte, ha, w1p, Int.toNat_natCast, hc, digit_eq, digitB_val, hd, alnumB_val, hal, small_eq, smallB_val, hs, letterB_val, hlt, Option.bind_some, bindSome, F0, F1, c46, g2, eq_true g3, Bool.false_eq_true, not_true_eq_false, not_false_eq_true]
     exact fin7
   ·cases sy : symB c with
    | true =>
     simp only [↓reduceIte, ha, w1p, Int.toNat_natCast, hc, digit_eq, digitB_val, hd, alnumB_val, hal, small_eq, smallB_val, hs, letterB_val, hlt, Option.bind_some, bindSome, symB_val, sye, sy, F0, F1, c46, Bool.false_eq_true, not_true_eq_false, not_false_eq_true]
     exact run2 sy
    | false =>
     have wr : ∀ d : UInt8, c = d → runeS (IntKind.i32.wrap (d.toNat : Int)) = [d] → runeS (IntKind.i32.wrap (c.toNat : Int)) = [c] := fun d h1 h2 => by rw [h1]; exact h2
     by_cases c33 : (c.toNat : Int) = 33
     ·have rn := wr 33 (ch_eq (d := 33) c33) (by decide +kernel)
      simp only [↓reduceIte, ha, w1p, Int.toNat_natCast, hc, digit_eq, digitB_val, hd, alnumB_val, hal, small_eq, smallB_val, hs, letterB_val, hlt, Option.bind_some, bindSome, symB_val, sye, sy, F0, F1, c46, Bool.false_eq_true, not_true_eq_false, not_false_eq_true, fault_val, eq_true c33, rn]
      exact one 1
     by_cases c59 : (c.toNat : Int) = 59
     ·have rn := wr 59 (ch_eq (d := 59) c59) (by decide +kernel)
      simp only [↓reduceIte, ha, w1p, Int.toNat_natCast, hc, digit_eq, digitB_val, hd, alnumB_val, hal, small_eq, smallB_val, hs, letterB_val, hlt, Option.bind_some, bindSome, symB_val, sye, sy, F0, F1, c46, Bool.false_eq_true, not_true_eq_false, not_false_eq_true, fault_val, c33, eq_true c59, rn]
      exact one 1
     by_cases c39 : (c.toNat : Int) = 39
     ·have := quote_sim hl p ha ht hp c hc 1 (by omega) k k' hk hk'
      have c34 : ¬ (c.toNat : Int) = 34 := by omega
      simp only [↓reduceIte, ha, w1p, Int.toNat_natCast, hc, digit_eq, digitB_val, hd, alnumB_val, hal, small_eq, smallB_val, hs, letterB_val, hlt, Option.bind_some, bindSome, symB_val, sye, sy, F0, F1, c46, Bool.false_eq_true, not_true_eq_false, not_false_eq_true, fault_val, c33, c59, eq_true c39, spec_l1token.l2, impl_lexer_quote.f, impl_lexer_quote.l0, c34]
      exact this
     by_cases c34 : (c.toNat : Int) = 34
     ·have := quote_sim hl p ha ht hp c hc 4 (by omega) k k' hk hk'
      simp only [↓reduceIte, ha, w1p, Int.toNat_natCast, hc, digit_eq, digitB_val, hd, alnumB_val, hal, small_eq, smallB_val, hs, letterB_val, hlt, Option.bind_some, bindSome, symB_val, sye, sy, F0, F1, c46, Bool.false_eq_true, not_true_eq_false, not_false_eq_true, fault_val, c33, c59, c39, eq_true c34, spec_l1token.l2, impl_lexer_quote.f, impl_lexer_quote.l0]
      exact this
     by_cases c40 : (c.toNat : Int) = 40
     ·have e40 : c = 40 := ch_eq (d := 40) c40
      have o5 := one 5
      have o6 := one 6
      rw [e40] at o5 o6
      simp only [↓reduceIte, ha, w1p, Int.toNat_natCast, hc, digit_eq, digitB_val, hd, alnumB_val, hal, small_eq, smallB_val, hs, letterB_val, hlt, Option.bind_some, bindSome, symB_val, sye, sy, F0, F1, c46, Bool.false_eq_true, not_true_eq_false, not_false_eq_true, fault_val, c33, c59, c39, c34, eq_true c40]
      unfold lastEnd at hle ⊢
      by_cases t0 : L.tokens_.length = 0
      ·rw [if_pos t0, if_neg (c := (L.tokens_.length : Int) > 0) (by omega), if_neg (by simp)]
       exact o5
      ·rw [if_neg t0] at hle ⊢
       rw [if_pos (c := (L.tokens_.length : Int) > 0) (by omega), ws1 (by omega) (by omega), if_pos (c := (0 : Int) ≤ ((L.tokens_.length - 1 : Nat) : Int)) (by omega), if_pos (c := ((L.tokens_.length - 1 : Nat) : Int) < (L.tokens_.length : Int)) (by omega), Int.toNat_natCast]
       by_cases t1 : (L.tokens_.getD (L.tokens_.length - 1) z28).kind = 1
       ·rw [if_pos t1] at hle ⊢
        rw [if_pos t1, wrap_id (by omega) (by omega)]
        by_cases t2 : (L.tokens_.getD (L.tokens_.length - 1) z28).place + (L.tokens_.getD (L.tokens_.length - 1) z28).size = (p : Int)
        ·rw [if_pos (by simpa using t2), if_pos t2]
         exact o6
        ·rw [if_neg (by simpa using t2), if_neg t2]
         exact o5
       ·rw [if_neg t1, if_neg t1, if_neg (by simp)]
        exact o5
     by_cases c41 : (c.toNat : Int) = 41
     ·have rn := wr 41 (ch_eq (d := 41) c41) (by decide +kernel)
      simp only [↓reduceIte, ha, w1p, Int.toNat_natCast, hc, digit_eq, digitB_val, hd, alnumB_val, hal, small_eq, smallB_val, hs, letterB_val, hlt, Option.bind_some, bindSome, symB_val, sye, sy, F0, F1, c46, Bool.false_eq_true, not_true_eq_false, not_false_eq_true, fault_val, c33, c59, c39, c34, c40, eq_true c41, rn]
      exact one 5
     by_cases c91 : (c.toNat : Int) = 91
     ·have rn := wr 91 (ch_eq (d := 91) c91) (by decide +kernel)
      simp only [↓reduceIte, ha, w1p, Int.toNat_natCast, hc, digit_eq, digitB_val, hd, alnumB_val, hal, small_eq, smallB_val, hs, letterB_val, hlt, Option.bind_some, bindSome, symB_val, sye, sy, F0, F1, c46, Bool.false_eq_true, not_true_eq_false, not_false_eq_true, fault_val, c33, c59, c39, c34, c40, c41, eq_true c91, rn]
      exact one 5
     by_cases c93 : (c.toNat : Int) = 93
     ·have rn := wr 93 (ch_eq (d := 93) c93) (by decide +kernel)
      simp only [↓reduceIte, ha, w1p, Int.toNat_natCast, hc, digit_eq, digitB_val, hd, alnumB_val, hal, small_eq, smallB_val, hs, letterB_val, hlt, Option.bind_some, bindSome, symB_val, sye, sy, F0, F1, c46, Bool.false_eq_true, not_true_eq_false, not_false_eq_true, fault_val, c33, c59, c39, c34, c40, c41, c91, eq_true c93, rn]
      exact one 5
     by_cases c123 : (c.toNat : Int) = 123
     ·have rn := wr 123 (ch_eq (d := 123) c123) (by decide +kernel)
      simp only [↓reduceIte, ha, w1p, Int.toNat_natCast, hc, digit_eq, digitB_val, hd, alnumB_val, hal, small_eq, smallB_val, hs, letterB_val, hlt, Option.bind_some, bindSome, symB_val, sye, sy, F0, F1, c46, Bool.false_eq_true, not_true_eq_false, not_false_eq_true, fault_val, c33, c59, c39, c34, c40, c41, c91, c93, eq_true c123, rn]
      exact one 5
     by_cases c125 : (c.toNat : Int) = 125
     ·have rn := wr 125 (ch_eq (d := 125) c125) (by decide +kernel)
      simp only [↓reduceIte, ha, w1p, Int.toNat_natCast, hc, digit_eq, digitB_val, hd, alnumB_val, hal, small_eq, smallB_val, hs, letterB_val, hlt, Option.bind_some, bindSome, symB_val, sye, sy, F0, F1, c46, Bool.false_eq_true, not_true_eq_false, not_false_eq_true, fault_val, c33, c59, c39, c34, c40, c41, c91, c93, c123, eq_true c125, rn]
      exact one 5
     by_cases c44 : (c.toNat : Int) = 44
     ·have rn := wr 44 (ch_eq (d := 44) c44) (by decide +kernel)
      simp only [↓reduceIte, ha, w1p, Int.toNat_natCast, hc, digit_eq, digitB_val, hd, alnumB_val, hal, small_eq, smallB_val, hs, letterB_val, hlt, Option.bind_some, bindSome, symB_val, sye, sy, F0, F1, c46, Bool.false_eq_true, not_true_eq_false, not_false_eq_true, fault_val, c33, c59, c39, c34, c40, c41, c91, c93, c123, c125, eq_true c44, rn]
      exact one 5
     by_cases c124 : (c.toNat : Int) = 124
     ·have rn := wr 124 (ch_eq (d := 124) c124) (by decide +kernel)
      simp only [↓reduceIte, ha, w1p, Int.toNat_natCast, hc, digit_eq, digitB_val, hd, alnumB_val, hal, small_eq, smallB_val, hs, letterB_val, hlt, Option.bind_some, bindSome, symB_val, sye, sy, F0, F1, c46, Bool.false_eq_true, not_true_eq_false, not_false_eq_true, fault_val, c33, c59, c39, c34, c40, c41, c91, c93, c123, c125, c44, eq_true c124, rn]
      exact one 5
     simp only [↓reduceIte, ha, w1p, Int.toNat_natCast, hc, digit_eq, digitB_val, hd, alnumB_val, hal, small_eq, smallB_val, hs, letterB_val, hlt, Option.bind_some, bindSome, symB_val, sye, sy, F0, F1, c46, Bool.false_eq_true, not_true_eq_false, not_false_eq_true, fault_val, c33, c59, c39, c34, c40, c41, c91, c93, c123, c125, c44, c124]
     exact ⟨_, 2, rfl, by simp [tokR, ha], fun h => by cases h⟩
end
set_option maxHeartbeats 4000000
section
variable {L : GLexer}
theorem pct (hl : L.s_.length ≤ 10000) (p : Nat) (hc0 : L.code_ = 0) : ∀ (m i : Nat), L.s_.length - (p + i) ≤ m → p + i ≤ L.s_.length →
  ∃ j : Nat, i ≤ j ∧ p + j ≤ L.s_.length ∧ (p + i < L.s_.length → ((L.s_.getD (p + i) 0).toNat : Int) ≠ 10 → i < j) ∧
   (∀ k, m < k → spec_l1skip.l0 k L.s_ (p : Int) (i : Int) = some (j : Int)) ∧
   (∀ k', m < k' → ∃ k'', k' ≤ k'' + (j - i) + 1 ∧ impl_lexer_blanks.l1 k' L ((p + i : Nat) : Int) = impl_lexer_blanks.l0 k'' L ((p + j : Nat) : Int)) := by
 intro m
 induction m with
 | zero =>
  intro i h1 h2
  refine ⟨i, by omega, h2, by omega, fun k hk => ?_, fun k' hk' => ?_⟩
  ·obtain ⟨k, rfl⟩ : ∃ q, k = q + 1 := ⟨k - 1, by omega⟩
   rw [spec_l1skip.l0, wa (by omega) (by omega), if_neg (by omega)]
  ·obtain ⟨k', rfl⟩ : ∃ q, k' = q + 1 := ⟨k' - 1, by omega⟩
   exact ⟨k', by omega, by rw [impl_lexer_blanks.l1, if_neg (by omega)]⟩
 | succ m ih =>
  intro i h1 h2
  by_cases hi : p + i < L.s_.length
  ·by_cases hx : ((L.s_.getD (p + i) 0).toNat : Int) ≠ 10
   ·obtain ⟨j, o1, o2, o3, e1, e2⟩ := ih (i + 1) (by omega) (by omega)
    refine ⟨j, by omega, o2, fun _ _ => by omega, fun k hk => ?_, fun k' hk' => ?_⟩
    ·obtain ⟨k, rfl⟩ : ∃ q, k = q + 1 := ⟨k - 1, by omega⟩
     rw [spec_l1skip.l0, wa (by omega) (by omega), if_pos (by omega), if_pos (by omega), Int.toNat_natCast, if_pos hx, w1 (by omega)]
     exact e1 k (by omega)
    ·obtain ⟨k', rfl⟩ : ∃ q, k' = q + 1 := ⟨k' - 1, by omega⟩
     obtain ⟨k'', q1, q2⟩ := e2 k' (by omega)
     refine ⟨k'', by omega, ?_⟩
     rw [impl_lexer_blanks.l1, if_pos (by omega), if_pos (by omega), Int.toNat_natCast, if_pos hx, w1 (by omega)]
     exact q2
   ·refine ⟨i, by omega, h2, fun _ h => absurd h hx, fun k hk => ?_, fun k' hk' => ?_⟩
    ·obtain ⟨k, rfl⟩ : ∃ q, k = q + 1 := ⟨k - 1, by omega⟩
     rw [spec_l1skip.l0, wa (by omega) (by omega), if_pos (by omega), if_pos (by omega), Int.toNat_natCast, if_neg hx]
    ·obtain ⟨k', rfl⟩ : ∃ q, k' = q + 1 := ⟨k' - 1, by omega⟩
     exact ⟨k', by omega, by rw [impl_lexer_blanks.l1, if_pos (by omega), if_pos (by omega), Int.toNat_natCast, if_neg hx]⟩
  ·refine ⟨i, by omega, h2, fun h => absurd h hi, fun k hk => ?_, fun k' hk' => ?_⟩
   ·obtain ⟨k, rfl⟩ : ∃ q, k = q + 1 := ⟨k - 1, by omega⟩
    rw [spec_l1skip.l0, wa (by omega) (by omega), if_neg (by omega)]
   ·obtain ⟨k', rfl⟩ : ∃ q, k' = q + 1 := ⟨k' - 1, by omega⟩
    exact ⟨k', by omega, by rw [impl_lexer_blanks.l1, if_neg (by omega)]⟩
theorem two_at {s : List UInt8} {x : Nat} (h : x + 1 < s.length) : (s.drop x).take (x + 2 - x) = [s.getD x 0, s.getD (x + 1) 0] := by
 rw [show x + 2 - x = 2 by omega, List.drop_eq_getElem_cons (by omega), List.take_succ_cons, List.drop_eq_getElem_cons h, List.take_succ_cons, List.take_zero, getD_at (by omega), getD_at h]
theorem cmt (hl : L.s_.length ≤ 10000) (p : Nat) (hc0 : L.code_ = 0) : ∀ (m i : Nat), L.s_.length - (p + i) ≤ m → p + i ≤ L.s_.length →
  ((∀ k, m < k → spec_l1skip.l1 k L.s_ (p : Int) (i : Int) = some (-1)) ∧ (∀ k', m < k' → impl_lexer_blanks.l2 k' L (p : Int) ((p + i : Nat) : Int) = some ⟨L.s_, (p : Int), L.tokens_, 2, (p : Int)⟩)) ∨
  ∃ j : Nat, i < j ∧ p + j ≤ L.s_.length ∧
   (∀ k, m < k → spec_l1skip.l1 k L.s_ (p : Int) (i : Int) = some (j : Int)) ∧
   (∀ k', m < k' → ∃ k'', k' ≤ k'' + (j - i) ∧ impl_lexer_blanks.l2 k' L (p : Int) ((p + i : Nat) : Int) = impl_lexer_blanks.l0 k'' L ((p + j : Nat) : Int)) := by
 intro m
 induction m with
 | zero =>
  intro i h1 h2
  refine .inl ⟨fun k hk => ?_, fun k' hk' => ?_⟩
  ·obtain ⟨k, rfl⟩ : ∃ q, k = q + 1 := ⟨k - 1, by omega⟩
   rw [spec_l1skip.l1, wa (by omega) (by omega), w1 (by omega), if_neg (by omega)]
  ·obtain ⟨k', rfl⟩ : ∃ q, k' = q + 1 := ⟨k' - 1, by omega⟩
   rw [impl_lexer_blanks.l2, w1 (by omega), if_neg (by omega), if_pos (by omega)]
   rfl
 | succ m ih =>
  intro i h1 h2
  by_cases hi : p + i + 1 < L.s_.length
  ·have hsub := two_at (s := L.s_) (x := p + i) hi
   have no : ¬ (((L.s_.getD (p + i) 0).toNat : Int) = 42 ∧ ((L.s_.getD (p + i + 1) 0).toNat : Int) = 47) → ((L.s_.drop (p + i)).take (p + i + 2 - (p + i))) ≠ ([42, 47] : List UInt8) := by
    intro h q
    rw [hsub] at q
    injection q with q1 q2
    injection q2 with q2 _
    exact h ⟨by rw [q1]; rfl, by rw [q2]; rfl⟩
   have spec_step : ∀ k, ¬ (((L.s_.getD (p + i) 0).toNat : Int) = 42 ∧ ((L.s_.getD (p + i + 1) 0).toNat : Int) = 47) → spec_l1skip.l1 (k + 1) L.s_ (p : Int) (i : Int) = spec_l1skip.l1 k L.s_ (p : Int) ((i + 1 : Nat) : Int) := by
    intro k h
    rw [spec_l1skip.l1, wa (by omega) (by omega), w1 (by omega), if_pos (by omega), if_pos (by omega), if_pos (by omega), w1 (by omega)]
    simp only [Int.toNat_natCast]
    by_cases c1 : ((L.s_.getD (p + i) 0).toNat : Int) = 42
    ·rw [if_pos c1, if_pos (by omega), if_neg (fun q => h ⟨c1, q⟩)]
    ·rw [if_neg c1]
   have impl_step : ∀ k', ¬ (((L.s_.getD (p + i) 0).toNat : Int) = 42 ∧ ((L.s_.getD (p + i + 1) 0).toNat : Int) = 47) → impl_lexer_blanks.l2 (k' + 1) L (p : Int) ((p + i : Nat) : Int) = impl_lexer_blanks.l2 k' L (p : Int) ((p + (i + 1) : Nat) : Int) := by
    intro k' h
    rw [impl_lexer_blanks.l2, w1 (by omega), w2 (by omega), if_pos (by omega), if_pos (by omega), if_pos (by omega), if_pos (by omega)]
    simp only [Int.toNat_natCast]
    rw [if_pos (no h)]
    rfl
   by_cases hx : ((L.s_.getD (p + i) 0).toNat : Int) = 42 ∧ ((L.s_.getD (p + i + 1) 0).toNat : Int) = 47
   ·refine .inr ⟨i + 2, by omega, by omega, fun k hk => ?_, fun k' hk' => ?_⟩
    ·obtain ⟨k, rfl⟩ : ∃ q, k = q + 1 := ⟨k - 1, by omega⟩
     rw [spec_l1skip.l1, wa (by omega) (by omega), w1 (by omega), if_pos (by omega), if_pos (by omega), if_pos (by omega)]
     simp only [Int.toNat_natCast]
     rw [if_pos hx.1, if_pos (by omega), if_pos hx.2, w2 (by omega)]
    ·obtain ⟨k', rfl⟩ : ∃ q, k' = q + 1 := ⟨k' - 1, by omega⟩
     refine ⟨k', by omega, ?_⟩
     have y : ((L.s_.drop (p + i)).take (p + i + 2 - (p + i))) = ([42, 47] : List UInt8) := by
      rw [hsub, ch_eq (c := L.s_.getD (p + i) 0) (d := 42) hx.1, ch_eq (c := L.s_.getD (p + i + 1) 0) (d := 47) hx.2]
     rw [impl_lexer_blanks.l2, w1 (by omega), w2 (by omega), if_pos (by omega), if_pos (by omega), if_pos (by omega), if_pos (by omega)]
     simp only [Int.toNat_natCast]
     rw [if_neg (fun q => q y), if_neg (by omega)]
     rfl
   ·rcases ih (i + 1) (by omega) (by omega) with ⟨e1, e2⟩ | ⟨j, o1, o2, e1, e2⟩
    ·refine .inl ⟨fun k hk => ?_, fun k' hk' => ?_⟩
     ·obtain ⟨k, rfl⟩ : ∃ q, k = q + 1 := ⟨k - 1, by omega⟩
      rw [spec_step k hx]; exact e1 k (by omega)
     ·obtain ⟨k', rfl⟩ : ∃ q, k' = q + 1 := ⟨k' - 1, by omega⟩
      rw [impl_step k' hx]; exact e2 k' (by omega)
    ·refine .inr ⟨j, by omega, o2, fun k hk => ?_, fun k' hk' => ?_⟩
     ·obtain ⟨k, rfl⟩ : ∃ q, k = q + 1 := ⟨k - 1, by omega⟩
      rw [spec_step k hx]; exact e1 k (by omega)
     ·obtain ⟨k', rfl⟩ : ∃ q, k' = q + 1 := ⟨k' - 1, by omega⟩
      obtain ⟨k'', q1, q2⟩ := e2 k' (by omega)
      exact ⟨k'', by omega, by rw [impl_step k' hx]; exact q2⟩
  ·refine .inl ⟨fun k hk => ?_, fun k' hk' => ?_⟩
   ·obtain ⟨k, rfl⟩ : ∃ q, k = q + 1 := ⟨k - 1, by omega⟩
    rw [spec_l1skip.l1, wa (by omega) (by omega), w1 (by omega), if_neg (by omega)]
   ·obtain ⟨k', rfl⟩ : ∃ q, k' = q + 1 := ⟨k' - 1, by omega⟩
    rw [impl_lexer_blanks.l2, w1 (by omega), if_neg (by omega), if_pos (by omega)]
    rfl
def BS (L : GLexer) (T : List Token) (last : Int) (p : Nat) : Prop :=
  ∃ (p' : Nat) (bad : Bool), p ≤ p' ∧ p' ≤ L.s_.length ∧
   (∀ k', 3 * (L.s_.length - p) + 3 < k' → impl_lexer_blanks.l0 k' L (p : Int) = some (if bad = true then ⟨L.s_, (p' : Int), L.tokens_, 2, (p' : Int)⟩ else ⟨L.s_, (p' : Int), L.tokens_, L.code_, L.place_⟩)) ∧
   (bad = true → ∀ k, 30000 + (L.s_.length - p) < k → spec_Lex.l0 k L.s_ T (p : Int) last = some ([], 2, (p' : Int))) ∧
   (bad = false → (∀ k, 30000 + (L.s_.length - p) < k → ∃ kk, k ≤ kk + (p' - p) ∧ spec_Lex.l0 k L.s_ T (p : Int) last = spec_Lex.l0 kk L.s_ T (p' : Int) last) ∧ (p' < L.s_.length → ∀ q, 30000 < q → spec_l1skip.f q L.s_ (p' : Int) = some 0))
theorem blanks_sim (hl : L.s_.length ≤ 10000) (hc0 : L.code_ = 0) (T : List Token) (last : Int) : ∀ (m p : Nat), L.s_.length - p ≤ m → p ≤ L.s_.length → BS L T last p := by
 intro m
 induction m with
 | zero =>
  intro p h1 h2
  refine ⟨p, false, by omega, h2, fun k' hk' => ?_, by simp, fun _ => ⟨fun k hk => ⟨k, by omega, rfl⟩, by omega⟩⟩
  obtain ⟨k', rfl⟩ : ∃ q, k' = q + 1 := ⟨k' - 1, by omega⟩
  rw [impl_lexer_blanks.l0, if_neg (by omega)]
  rfl
 | succ m ih =>
  intro p h1 h2
  by_cases hp : p < L.s_.length
  ·have F0 : (0 : Int) ≤ (p : Int) := by omega
   have F1 : (p : Int) < (L.s_.length : Int) := by omega
   have w1p : IntKind.i64.wrap ((p : Int) + 1) = ((p + 1 : Nat) : Int) := w1 (by omega)
   have w2p : IntKind.i64.wrap ((p : Int) + 2) = ((p + 2 : Nat) : Int) := w2 (by omega)
   obtain ⟨c, hc⟩ : ∃ c, L.s_.getD p 0 = c := ⟨_, rfl⟩
   have pk1 : impl_lexer_peek.f (⟨L.s_, (p : Int), L.tokens_, L.code_, L.place_⟩ : GLexer) 1 = _ := peek_val (L := ⟨L.s_, (p : Int), L.tokens_, L.code_, L.place_⟩) p rfl (by omega) 1 (by omega)
   -- on from a later place
   have on : ∀ (d : Nat), 0 < d → p + d ≤ L.s_.length → (∀ k, 30000 < k → spec_l1skip.f k L.s_ (p : Int) = some (d : Int)) →
     (∀ k', (L.s_.length - p) + 1 < k' → ∃ k'', k' ≤ k'' + d + 2 ∧ impl_lexer_blanks.l0 k' L (p : Int) = impl_lexer_blanks.l0 k'' L ((p + d : Nat) : Int)) → BS L T last p := by
    intro d d0 hd e1 e2
    obtain ⟨p', bad, o1, o2, b1, b2, b3⟩ := ih (p + d) (by omega) hd
    have step : ∀ k, 30000 + (L.s_.length - p) < k → spec_Lex.l0 k L.s_ T (p : Int) last = spec_Lex.l0 (k - 1) L.s_ T ((p + d : Nat) : Int) last := by
     intro k hk
     obtain ⟨k, rfl⟩ : ∃ q, k = q + 1 := ⟨k - 1, by omega⟩
     rw [spec_Lex.l0, if_pos F1, e1 k (by omega), Option.bind_some, if_pos (by omega), wa (by omega) (by omega)]
     rfl
    refine ⟨p', bad, by omega, o2, fun k' hk' => ?_, fun hb k hk => ?_, fun hb => ⟨fun k hk => ?_, (b3 hb).2⟩⟩
    ·obtain ⟨k'', q1, q2⟩ := e2 k' (by omega)
     rw [q2]
     exact b1 k'' (by omega)
    ·rw [step k hk]
     exact b2 hb (k - 1) (by omega)
    ·obtain ⟨kk, q1, q2⟩ := (b3 hb).1 (k - 1) (by omega)
     exact ⟨kk, by omega, by rw [step k hk]; exact q2⟩
   have stay : (∀ k, 30000 < k → spec_l1skip.f k L.s_ (p : Int) = some 0) → (∀ k', 0 < k' → impl_lexer_blanks.l0 k' L (p : Int) = some ⟨L.s_, (p : Int), L.tokens_, L.code_, L.place_⟩) → BS L T last p := by
    intro e1 e2
    refine ⟨p, false, by omega, h2, fun k' hk' => ?_, by simp, fun _ => ⟨fun k hk => ⟨k, by omega, rfl⟩, fun _ => e1⟩⟩
    rw [e2 k' (by omega)]; rfl
   cases hb : blankB c with
   | true =>
    refine on 1 (by omega) (by omega) (fun k hk => ?_) (fun k' hk' => ?_)
    ·rw [spec_l1skip.f]
     simp only [↓reduceIte, F0, F1, Int.toNat_natCast, hc, blankB_val, hb, Option.bind_some]
     rfl
    ·obtain ⟨k', rfl⟩ : ∃ q, k' = q + 1 := ⟨k' - 1, by omega⟩
     refine ⟨k', by omega, ?_⟩
     rw [impl_lexer_blanks.l0]
     simp only [↓reduceIte, F0, F1, Int.toNat_natCast, hc, blank_eq, blankB_val, hb, Option.bind_some, hc0, w1p]
   | false =>
    by_cases c37 : (c.toNat : Int) = 37
    ·obtain ⟨j, o1, o2, o3, e1, e2⟩ := pct hl p hc0 (L.s_.length - p) 0 (by omega) (by omega)
     have hj := o3 (by omega) (by rw [Nat.add_zero, hc]; omega)
     refine on j hj o2 (fun k hk => ?_) (fun k' hk' => ?_)
     ·rw [spec_l1skip.f]
      simp only [↓reduceIte, F0, F1, Int.toNat_natCast, hc, blankB_val, hb, Option.bind_some, eq_true c37, Bool.false_eq_true]
      exact e1 k (by omega)
     ·obtain ⟨k', rfl⟩ : ∃ q, k' = q + 1 := ⟨k' - 1, by omega⟩
      obtain ⟨k'', q1, q2⟩ := e2 k' (by omega)
      refine ⟨k'', by omega, ?_⟩
      rw [impl_lexer_blanks.l0]
      simp only [↓reduceIte, F0, F1, Int.toNat_natCast, hc, blank_eq, blankB_val, hb, Option.bind_some, hc0, eq_true c37, Bool.false_eq_true]
      exact q2
    ·by_cases c47 : (c.toNat : Int) = 47
     ·by_cases hp1 : p + 1 < L.s_.length
      ·have g0 : (0 : Int) ≤ ((p + 1 : Nat) : Int) := by omega
       have g1 : ((p + 1 : Nat) : Int) < (L.s_.length : Int) := by omega
       have g2 : ¬ ((p + 1 : Nat) : Int) ≥ (L.s_.length : Int) := by omega
       rw [if_pos hp1] at pk1
       replace pk1 : impl_lexer_peek.f (⟨L.s_, (p : Int), L.tokens_, 0, L.place_⟩ : GLexer) 1 = some (L.s_.getD (p + 1) 0) := by rw [← hc0]; exact pk1
       by_cases c42 : ((L.s_.getD (p + 1) 0).toNat : Int) = 42
       ·have sp : ∀ k, spec_l1skip.f k L.s_ (p : Int) = spec_l1skip.l1 k L.s_ (p : Int) 2 := by
         intro k
         rw [spec_l1skip.f]
         simp only [↓reduceIte, F0, F1, Int.toNat_natCast, hc, blankB_val, hb, Option.bind_some, c37, eq_true c47, eq_true c42, w1p, g0, g1, g2, Bool.false_eq_true, ne_eq, not_true_eq_false]
        have im : ∀ k', impl_lexer_blanks.l0 (k' + 1) L (p : Int) = impl_lexer_blanks.l2 k' L (p : Int) ((p + 2 : Nat) : Int) := by
         intro k'
         rw [impl_lexer_blanks.l0]
         simp only [↓reduceIte, F0, F1, Int.toNat_natCast, hc, blank_eq, blankB_val, hb, Option.bind_some, hc0, c37, eq_true c47, eq_true c42, pk1, w2p, Bool.false_eq_true]
        rcases cmt hl p hc0 (L.s_.length - p) 2 (by omega) (by omega) with ⟨e1, e2⟩ | ⟨j, o1, o2, e1, e2⟩
        ·refine ⟨p, true, by omega, h2, fun k' hk' => ?_, fun _ k hk => ?_, by simp⟩
         ·obtain ⟨k', rfl⟩ : ∃ q, k' = q + 1 := ⟨k' - 1, by omega⟩
          rw [im, e2 k' (by omega)]; rfl
         ·obtain ⟨k, rfl⟩ : ∃ q, k = q + 1 := ⟨k - 1, by omega⟩
          have e1' : spec_l1skip.l1 k L.s_ (p : Int) 2 = some (-1) := e1 k (by omega)
          rw [spec_Lex.l0, if_pos F1, sp, e1', Option.bind_some, if_neg (by omega), if_pos (by omega)]
        ·refine on j (by omega) o2 (fun k hk => ?_) (fun k' hk' => ?_)
         ·rw [sp]; exact e1 k (by omega)
         ·obtain ⟨k', rfl⟩ : ∃ q, k' = q + 1 := ⟨k' - 1, by omega⟩
          obtain ⟨k'', q1, q2⟩ := e2 k' (by omega)
          exact ⟨k'', by omega, by rw [im]; exact q2⟩
       ·refine stay (fun k hk => ?_) (fun k' hk' => ?_)
        ·rw [spec_l1skip.f]
         simp only [↓reduceIte, F0, F1, Int.toNat_natCast, hc, blankB_val, hb, Option.bind_some, c37, eq_true c47, c42, w1p, g0, g1, g2, Bool.false_eq_true, ne_eq, not_true_eq_false, not_false_eq_true]
        ·obtain ⟨k', rfl⟩ : ∃ q, k' = q + 1 := ⟨k' - 1, by omega⟩
         rw [impl_lexer_blanks.l0]
         simp only [↓reduceIte, F0, F1, Int.toNat_natCast, hc, blank_eq, blankB_val, hb, Option.bind_some, hc0, c37, eq_true c47, c42, pk1, w2p, Bool.false_eq_true]
      ·have g2 : ((p + 1 : Nat) : Int) ≥ (L.s_.length : Int) := by omega
       rw [if_neg hp1] at pk1
       replace pk1 : impl_lexer_peek.f (⟨L.s_, (p : Int), L.tokens_, 0, L.place_⟩ : GLexer) 1 = some 0 := by rw [← hc0]; exact pk1
       have z42 : ¬ (((0 : UInt8).toNat : Int) = 42) := by decide
       refine stay (fun k hk => ?_) (fun k' hk' => ?_)
       ·rw [spec_l1skip.f]
        simp only [↓reduceIte, F0, F1, Int.toNat_natCast, hc, blankB_val, hb, Option.bind_some, c37, eq_true c47, w1p, g2, Bool.false_eq_true, ne_eq, not_true_eq_false]
       ·obtain ⟨k', rfl⟩ : ∃ q, k' = q + 1 := ⟨k' - 1, by omega⟩
        rw [impl_lexer_blanks.l0]
        simp only [↓reduceIte, F0, F1, Int.toNat_natCast, hc, blank_eq, blankB_val, hb, Option.bind_some, hc0, c37, eq_true c47, pk1, z42, w2p, Bool.false_eq_true]
     ·refine stay (fun k hk => ?_) (fun k' hk' => ?_)
      ·rw [spec_l1skip.f]
       simp only [↓reduceIte, F0, F1, Int.toNat_natCast, hc, blankB_val, hb, Option.bind_some, c37, c47, Bool.false_eq_true, ne_eq, not_false_eq_true]
      ·obtain ⟨k', rfl⟩ : ∃ q, k' = q + 1 := ⟨k' - 1, by omega⟩
       rw [impl_lexer_blanks.l0]
       simp only [↓reduceIte, F0, F1, Int.toNat_natCast, hc, blank_eq, blankB_val, hb, Option.bind_some, hc0, c37, c47, Bool.false_eq_true]
  ·refine ⟨p, false, by omega, h2, fun k' hk' => ?_, by simp, fun _ => ⟨fun k hk => ⟨k, by omega, rfl⟩, by omega⟩⟩
   obtain ⟨k', rfl⟩ : ∃ q, k' = q + 1 := ⟨k' - 1, by omega⟩
   rw [impl_lexer_blanks.l0, if_neg (by omega)]
   rfl
end
theorem lexl0 {k : Nat} (a : List UInt8) (b : Int) (toks : List Token) (c q : Int) (h : 0 < k) : impl_Lex.l0 k a b toks c q = (if c ≠ 0 then some ([], c, q) else some (toks, 0, 0)) := by
 obtain ⟨k, rfl⟩ : ∃ q, k = q + 1 := ⟨k - 1, by omega⟩
 rw [impl_Lex.l0]
def okToks (xs : List Token) : Prop := xs.length ≤ 10000 ∧ ∀ t, t ∈ xs → t.text.length ≤ 100
theorem lastEnd_append (toks : List Token) (tk : Token) : lastEnd (toks ++ [tk]) = if tk.kind = 1 then tk.place + tk.size else -1 := by
 unfold lastEnd
 rw [if_neg (by simp)]
 have e : (toks ++ [tk]).getD ((toks ++ [tk]).length - 1) z28 = tk := by
  rw [List.getD_eq_getElem?_getD]; simp
 rw [e]
theorem lex_loop (s : List UInt8) (hl : s.length ≤ 10000) : ∀ (m p : Nat) (toks : List Token) (pl : Int) (k k' : Nat), s.length - p ≤ m → p ≤ s.length → toks.length ≤ p → (∀ t, t ∈ toks → t.text.length ≤ 100) → (-10 ≤ lastEnd toks ∧ lastEnd toks ≤ 20000) → 50000 + (s.length - p) < k → 50000 + (s.length - p) < k' →
  ∃ (r : List Token) (c q : Int), spec_Lex.l0 k s toks (p : Int) (lastEnd toks) = some (r, c, q) ∧ impl_Lex.l1 k' s (p : Int) toks 0 pl = some (r, c, q) ∧ okToks r := by
 intro m
 induction m with
 | zero =>
  intro p toks pl k k' h1 h2 h3 h4 h5 hk hk'
  obtain ⟨k, rfl⟩ : ∃ q, k = q + 1 := ⟨k - 1, by omega⟩
  obtain ⟨k', rfl⟩ : ∃ q, k' = q + 1 := ⟨k' - 1, by omega⟩
  refine ⟨toks, 0, 0, ?_, ?_, ⟨by omega, h4⟩⟩
  ·rw [spec_Lex.l0, if_neg (by omega)]
  ·obtain ⟨k', rfl⟩ : ∃ q, k' = q + 1 := ⟨k' - 1, by omega⟩
   rw [impl_Lex.l1, impl_lexer_blanks.f, impl_lexer_blanks.l0]
   show ((if (p : Int) < (s.length : Int) then _ else some (⟨s, (p : Int), toks, 0, pl⟩ : GLexer)).bind _) = _
   rw [if_neg (by omega), Option.bind_some, if_neg (by simp), if_pos (by simp; omega), impl_Lex.l0, if_neg (by simp)]
 | succ m ih =>
  intro p toks pl k k' h1 h2 h3 h4 h5 hk hk'
  obtain ⟨k', rfl⟩ : ∃ q, k' = q + 1 := ⟨k' - 1, by omega⟩
  obtain ⟨p', bad, o1, o2, b1, b2, b3⟩ := blanks_sim (L := ⟨s, (p : Int), toks, 0, pl⟩) hl rfl toks (lastEnd toks) (s.length - p) p (Nat.le_refl _) h2
  have b1 := b1 k' (by show 3 * (s.length - p) + 3 < k'; omega)
  rw [impl_Lex.l1, impl_lexer_blanks.f]
  show ∃ (r : List Token) (c q : Int), _ ∧ ((impl_lexer_blanks.l0 k' (⟨s, (p : Int), toks, 0, pl⟩ : GLexer) (p : Int)).bind _) = _ ∧ _
  cases bad with
  | true =>
   have b1 : impl_lexer_blanks.l0 k' (⟨s, (p : Int), toks, 0, pl⟩ : GLexer) (p : Int) = some ⟨s, (p' : Int), toks, 2, (p' : Int)⟩ := b1
   rw [b1, Option.bind_some, if_pos (by simp), lexl0 _ _ _ _ _ (by omega), if_pos (by simp)]
   exact ⟨[], 2, (p' : Int), b2 rfl k (by show 30000 + (s.length - p) < k; omega), rfl, ⟨by simp, by simp⟩⟩
  | false =>
   obtain ⟨b4, b5⟩ := b3 rfl
   obtain ⟨kk, q1, q2⟩ := b4 k (by show 30000 + (s.length - p) < k; omega)
   have b1 : impl_lexer_blanks.l0 k' (⟨s, (p : Int), toks, 0, pl⟩ : GLexer) (p : Int) = some ⟨s, (p' : Int), toks, 0, pl⟩ := b1
   rw [b1, Option.bind_some, if_neg (by simp)]
   have o2 : p' ≤ s.length := o2
   have q2 : spec_Lex.l0 k s toks (p : Int) (lastEnd toks) = spec_Lex.l0 kk s toks (p' : Int) (lastEnd toks) := q2
   rw [q2]
   obtain ⟨kk, rfl⟩ : ∃ q, kk = q + 1 := ⟨kk - 1, by omega⟩
   by_cases hp : p' < s.length
   ·have b5 := b5 hp kk (by omega)
    have b5 : spec_l1skip.f kk s (p' : Int) = some 0 := b5
    obtain ⟨tk, code, e1, e2, e3⟩ := token_sim (L := ⟨s, (p' : Int), toks, 0, pl⟩) hl p' rfl rfl (by show toks.length ≤ 10000; omega) hp h5 kk k' (by omega) (by omega)
    have e1 : spec_l1token.f kk s (p' : Int) (decide (lastEnd toks = (p' : Int))) = some (tk, code) := e1
    have e3 : tokOk s p' tk code := e3
    show ∃ (r : List Token) (c q : Int), _ ∧ (if (p' : Int) ≥ (s.length : Int) then _ else ((impl_lexer_token.f k' (⟨s, (p' : Int), toks, 0, pl⟩ : GLexer)).bind _)) = _ ∧ _
    rw [if_neg (by omega), e2, Option.bind_some, spec_Lex.l0, if_pos (by omega), b5, Option.bind_some, if_neg (by omega), if_neg (by omega), e1, Option.bind_some]
    by_cases hc : code = 0
    ·subst hc
     obtain ⟨f1, ⟨n, f2, f3, f4⟩, f5⟩ := e3 rfl
     have sum : tk.place + tk.size = ((p' + n : Nat) : Int) := by rw [f1, f3]; omega
     have hle : lastEnd (toks ++ [tk]) = if tk.kind = 1 then ((p' + n : Nat) : Int) else -1 := by rw [lastEnd_append, sum]
     have IH := ih (p' + n) (toks ++ [tk]) pl kk k' (by omega) f4 (by simp; omega) (by
      intro t ht
      rcases List.mem_append.1 ht with h | h
      ·exact h4 t h
      ·rcases List.mem_singleton.1 h with rfl; exact f5) (by rw [hle]; split <;> omega) (by omega) (by omega)
     have tr : tokR (⟨s, (p' : Int), toks, 0, pl⟩ : GLexer) tk 0 = ⟨s, ((p' + n : Nat) : Int), toks ++ [tk], 0, pl⟩ := by
      unfold tokR; rw [if_neg (by simp), sum]
     rw [tr, if_neg (c := _ ≠ _) (by simp), if_neg (c := _ ≠ _) (by simp), if_pos (by omega)]
     show ∃ (r : List Token) (c q : Int), (if tk.kind = 1 then spec_Lex.l0 kk s (toks ++ [tk]) (IntKind.i64.wrap ((p' : Int) + tk.size)) (IntKind.i64.wrap ((p' : Int) + tk.size)) else spec_Lex.l0 kk s (toks ++ [tk]) (IntKind.i64.wrap ((p' : Int) + tk.size)) (-1)) = some (r, c, q) ∧ _
     rw [f3, wa (by omega) (by omega)]
     rw [hle] at IH
     by_cases hk1 : tk.kind = 1
     ·rw [if_pos hk1] at IH ⊢; exact IH
     ·rw [if_neg hk1] at IH ⊢; exact IH
    ·have tr : tokR (⟨s, (p' : Int), toks, 0, pl⟩ : GLexer) tk code = ⟨s, (p' : Int), toks, code, (p' : Int)⟩ := by
      unfold tokR; rw [if_pos hc]
     rw [tr, if_pos hc, if_pos hc, lexl0 _ _ _ _ _ (by omega), if_pos hc]
     exact ⟨[], code, (p' : Int), rfl, rfl, ⟨by simp, by simp⟩⟩
   ·show ∃ (r : List Token) (c q : Int), _ ∧ (if (p' : Int) ≥ (s.length : Int) then (impl_Lex.l0 k' s (p' : Int) toks 0 pl) else _) = _ ∧ _
    rw [if_pos (by omega), spec_Lex.l0, if_neg (by omega), lexl0 _ _ _ _ _ (by omega), if_neg (by simp)]
    exact ⟨toks, 0, 0, rfl, rfl, ⟨by omega, h4⟩⟩
theorem lex_sim (s : List UInt8) (k k' : Nat) (hk : 70000 < k) (hk' : 70000 < k') : ∃ (r : List Token) (c q : Int), spec_Lex.f k s = some (r, c, q) ∧ impl_Lex.f k' s = some (r, c, q) ∧ okToks r := by
 rw [spec_Lex.f, impl_Lex.f]
 by_cases h : (s.length : Int) > 10000
 ·rw [if_pos h, if_pos h]
  exact ⟨[], 3, 10000, rfl, rfl, ⟨by simp, by simp⟩⟩
 ·rw [if_neg h, if_neg h]
  exact lex_loop s (by omega) (s.length) 0 [] 0 k k' (by omega) (by omega) (by simp) (by simp) ⟨by decide, by decide⟩ (by omega) (by omega)
end Go.Proofs.YtdkbfcmekppnmaaGreatDoor
