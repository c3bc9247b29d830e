import Derived.Test.YtdkbfcmekppnmaaGreatDoorPuTk11
import Derived.Test.YtdkbfcmekppnmaaGreatDoorPuTk2
namespace Go.Proofs.YtdkbfcmekppnmaaGreatDoor
open Go.Sx Go.Sy
set_option linter.unusedVariables false
set_option linter.unusedSimpArgs false
set_option linter.unusedSectionVars false
set_option maxRecDepth 4000
set_option maxHeartbeats 4000000
theorem sym_facts (c : UInt8) : symB c = true → digitB c = false ∧ alnumB c = false ∧ blankB c = false ∧ c.toNat ≠ 37 ∧ c.toNat ≠ 39 :=
 all_bytes (p := fun c => symB c = true → digitB c = false ∧ alnumB c = false ∧ blankB c = false ∧ c.toNat ≠ 37 ∧ c.toNat ≠ 39) (by decide +kernel) c
theorem small_facts (c : UInt8) : smallB c = true → digitB c = false ∧ alnumB c = true ∧ blankB c = false ∧ c.toNat ≠ 37 ∧ c.toNat ≠ 47 :=
 all_bytes (p := fun c => smallB c = true → digitB c = false ∧ alnumB c = true ∧ blankB c = false ∧ c.toNat ≠ 37 ∧ c.toNat ≠ 47) (by decide +kernel) c
theorem hex_facts (c : UInt8) : hexV (hx1 c) = c.toNat / 16 ∧ hexV (hx0 c) = c.toNat % 16 :=
 all_bytes (p := fun c => hexV (hx1 c) = c.toNat / 16 ∧ hexV (hx0 c) = c.toNat % 16) (by decide +kernel) c
theorem skip0 {w : List UInt8} (k : Nat) (h0 : 0 < w.length) (hl : w.length ≤ 10000) (hb : blankB (w.getD 0 0) = false) (h37 : (w.getD 0 0).toNat ≠ 37) (h47 : (w.getD 0 0).toNat = 47 → 1 < w.length → (w.getD 1 0).toNat ≠ 42) : spec_l1skip.f k w 0 = some 0 := by
 show spec_l1skip.f k w ((0 : Nat) : Int) = some 0
 rw [spec_l1skip.f, if_pos (by omega), if_pos (by omega), blankB_val, Option.bind_some, Int.toNat_natCast, hb, if_neg (by simp), if_neg (by omega), w1 (by omega)]
 by_cases c : (w.getD 0 0).toNat = 47
 ·rw [if_neg (by omega)]
  by_cases c2 : 1 < w.length
  ·rw [if_neg (by omega), if_pos (by omega), if_pos (by omega), Int.toNat_natCast, if_pos (by have := h47 c c2; rw [Nat.zero_add]; omega)]
  ·rw [if_pos (by omega)]
 ·rw [if_pos (by omega)]
theorem whole {w : List UInt8} (kind : Int) (hl : w.length ≤ 100) : spec_l1token.l0 0 w 0 kind (w.length : Int) = some (⟨kind, 0, (w.length : Int), w, 0⟩, 0) := by
 show spec_l1token.l0 0 w ((0 : Nat) : Int) kind (w.length : Int) = _
 rw [spec_l1token.l0, wa (by omega) (by omega), if_pos (by omega), if_pos (by omega)]
 simp only [Int.toNat_natCast, List.drop_zero]
 rw [show 0 + w.length - 0 = w.length by omega, List.take_of_length_le (Nat.le_refl _), spec_l1copy.f, if_pos (by omega), Option.bind_some, if_neg (by omega)]
 rfl
theorem run_all (w : List UInt8) (s : Bool) (k : Nat) (hl : w.length ≤ 100) (hk : 200 < k) (h : w.all (fun b => if s then symB b else alnumB b) = true) : spec_l1run.f k w 0 s = some (w.length : Int) := by
 obtain ⟨t, e1, e2⟩ := run_val w s k hl hk
 rw [h, decide_eq_true_eq] at e2
 rw [e1, e2]
theorem plain_token (w : List UInt8) (k : Nat) (hk : 200 < k) (hl : w.length ≤ 100) (hp : plainB w = true) (h1 : w ≠ [91, 93]) (h2 : w ≠ [123, 125]) :
  0 < w.length ∧ spec_l1skip.f k w 0 = some 0 ∧ spec_l1token.f k w 0 false = some (⟨1, 0, (w.length : Int), w, 0⟩, 0) := by
 have one : ∀ c : UInt8, (c = 33 ∨ c = 59) → spec_l1token.f k [c] 0 false = some (⟨1, 0, 1, [c], 0⟩, 0) := by
  intro c hc
  show spec_l1token.f k [c] ((0 : Nat) : Int) false = _
  rw [token_norm k false (by simp) (by simp), symbol_val k (by omega)]
  rcases hc with rfl | rfl <;> rfl
 by_cases a : w = [33]
 ·subst a; exact ⟨by simp, skip0 k (by simp) (by simp) (by decide) (by decide) (by simp), one 33 (.inl rfl)⟩
 by_cases b : w = [59]
 ·subst b; exact ⟨by simp, skip0 k (by simp) (by simp) (by decide) (by decide) (by simp), one 59 (.inr rfl)⟩
 unfold plainB at hp
 rw [if_neg (by simp [a, b, h1, h2])] at hp
 by_cases c : w = [] ∨ w = [46] ∨ 100 < w.length ∨ (1 < w.length ∧ w.take 2 = [47, 42])
 ·rw [if_pos c] at hp; cases hp
 rw [if_neg c] at hp
 have c0 : w ≠ [] := fun q => c (.inl q)
 have h0 : 0 < w.length := List.length_pos_iff.2 c0
 have hd0 : w.getD 0 0 ∈ w := by rw [getD_at h0]; exact List.getElem_mem h0
 refine ⟨h0, ?_⟩
 cases hs : smallB (w.getD 0 0) with
 | true =>
  obtain ⟨f1, f2, f3, f4, f5⟩ := small_facts _ hs
  refine ⟨skip0 k h0 (by omega) f3 f4 (fun q => absurd q f5), ?_⟩
  show spec_l1token.f k w ((0 : Nat) : Int) false = _
  rw [token_norm k false (by omega) h0, f1, f2, if_neg (by simp), if_pos rfl, hs, if_pos rfl]
  have := run_all w false k hl hk (by simp only [hs, if_true] at hp; simpa using hp)
  replace this : spec_l1run.f k w ((0 : Nat) : Int) false = some (w.length : Int) := this
  rw [this, Option.bind_some]
  exact whole 1 hl
 | false =>
  have hall : ∀ b, b ∈ w → symB b = true := by simp only [hs, if_true, Bool.false_eq_true, if_false] at hp; simpa using hp
  obtain ⟨f1, f2, f3, f4, f5⟩ := sym_facts _ (hall _ hd0)
  have nx : 1 < w.length → symB (w.getD 1 0) = true := fun q => hall _ (by rw [getD_at q]; exact List.getElem_mem q)
  refine ⟨skip0 k h0 (by omega) f3 f4 (fun q q2 q3 => ?_), ?_⟩
  ·refine c (.inr (.inr (.inr ⟨q2, ?_⟩)))
   rcases w with _ | ⟨x, _ | ⟨y, w⟩⟩
   ·simp at h0
   ·simp at q2
   ·have e1 : x = 47 := UInt8.toNat_inj.1 q
    have e2 : y = 42 := UInt8.toNat_inj.1 q3
    simp [e1, e2]
  ·show spec_l1token.f k w ((0 : Nat) : Int) false = _
   rw [token_norm k false (by omega) h0, f1, f2, if_neg (by simp), if_neg (by simp), if_neg (c := _ ∧ _), symbol_val k (by omega), hall _ hd0, Option.bind_some, if_pos rfl]
   ·have := run_all w true k hl hk (by simpa using hall)
    replace this : spec_l1run.f k w ((0 : Nat) : Int) true = some (w.length : Int) := this
    rw [this, Option.bind_some]
    exact whole 1 hl
   ·rintro ⟨x1, x2⟩
    by_cases q : 1 < w.length
    ·obtain ⟨_, _, g3, g4, _⟩ := sym_facts _ (nx q)
     rw [Nat.zero_add, g3] at x2
     rcases x2 with x2 | x2 | x2
     ·omega
     ·cases x2
     ·omega
    ·refine c (.inr (.inl ?_))
     rcases w with _ | ⟨x, _ | ⟨y, w⟩⟩
     ·simp at h0
     ·have e1 : x = 46 := ch_eq (d := 46) x1
      rw [e1]
     ·simp at q
theorem gA (pre l : List UInt8) (j : Nat) : (pre ++ l).getD (pre.length + j) 0 = l.getD j 0 := by
 rw [List.getD_eq_getElem?_getD, List.getElem?_append_right (by omega), show pre.length + j - pre.length = j by omega, ← List.getD_eq_getElem?_getD]
theorem b8_self (c : UInt8) : b8 (c.toNat : Int) = c := by
 apply UInt8.toNat_inj.1
 rw [b8_toNat (by omega) (by have := c.toNat_lt; omega)]; simp
theorem hex_esc {w : List UInt8} (k p : Nat) (hl : w.length ≤ 10000) (c : UInt8) (hk : 3 ≤ k) (hp : p + 3 < w.length) (g1 : w.getD (p + 1) 0 = hx1 c) (g2 : w.getD (p + 2) 0 = hx0 c) (g3 : w.getD (p + 3) 0 = 92) : spec_l1escape.l0 k w (p : Int) 0 0 = some ([c], 4) := by
 obtain ⟨k, rfl⟩ : ∃ q, k = q + 3 := ⟨k - 3, by omega⟩
 obtain ⟨f1, f2⟩ := hex_facts c
 have hc := c.toNat_lt
 have m1 : (hexV (hx1 c) : Int) < 16 := by omega
 have m2 : (hexV (hx0 c) : Int) < 16 := by omega
 show spec_l1escape.l0 (k + 3) w (p : Int) 0 ((0 : Nat) : Int) = _
 rw [spec_l1escape.l0, w1 (by omega), wa (by omega) (by omega), if_pos (by omega), if_pos (by omega), if_pos (by omega), Int.toNat_natCast, Nat.add_zero, g1, (hexV_val _).1, Option.bind_some, if_pos m1, Option.bind_some, w1 (by omega), wrap_id (n := 0 * 16) (by omega) (by omega), wrap_id (by omega) (by omega)]
 rw [spec_l1escape.l0, w1 (by omega), wa (by omega) (by omega), if_pos (by omega), if_pos (by omega), if_pos (by omega), Int.toNat_natCast, g2, (hexV_val _).1, Option.bind_some, if_pos m2, Option.bind_some, w1 (by omega), wrap_id (n := _ * 16) (by omega) (by omega), wrap_id (by omega) (by omega)]
 rw [spec_l1escape.l0, w1 (by omega), wa (by omega) (by omega), if_pos (by omega), if_neg (by omega), if_neg (by omega), if_neg (by omega), if_pos (by omega), Int.toNat_natCast, g3, if_neg (by decide), w2 (by omega)]
 have e : (0 * 16 + (hexV (hx1 c) : Int)) * 16 + (hexV (hx0 c) : Int) = (c.toNat : Int) := by omega
 rw [e, b8_self]
 rfl
theorem q_step (k : Nat) (w pre rest acc : List UInt8) (c : UInt8) (hw : w = pre ++ (pc c ++ rest)) (hq : w.getD 0 0 = 39) (hl : w.length ≤ 10000) (ha : acc.length ≤ 10000) (hk : 10 < k) :
  spec_l1text.l0 (k + 1) w 0 acc (pre.length : Int) = spec_l1text.l0 k w 0 (acc ++ [c]) ((pre.length + (pc c).length : Nat) : Int) := by
 have hq' : w.getD ((0 : Int).toNat) 0 = 39 := hq
 have G : ∀ j, w.getD (pre.length + j) 0 = (pc c ++ rest).getD j 0 := fun j => by rw [hw, gA]
 have L : pre.length + (pc c).length ≤ w.length := by rw [hw, List.length_append, List.length_append]; omega
 have G0 := G 0
 rw [Nat.add_zero] at G0
 have plc := pc_len c
 rw [spec_l1text.l0, if_pos (by omega), if_pos (by omega), Int.toNat_natCast, hq', w1 (by omega)]
 have E : w.getD pre.length 0 = 92 → ∀ n : Nat, spec_l1escape.f k w ((pre.length + 1 : Nat) : Int) = some ([c], (n : Int)) → 0 < n → (pc c).length = n + 1 → (if ((w.getD pre.length 0).toNat : Int) = ((39 : UInt8).toNat : Int) then (if ((pre.length + 1 : Nat) : Int) ≥ (w.length : Int) then some (acc, IntKind.i64.wrap (((pre.length + 1 : Nat) : Int) - 0)) else (if 0 ≤ ((pre.length + 1 : Nat) : Int) then (if ((pre.length + 1 : Nat) : Int) < (w.length : Int) then (if ((w.getD (((pre.length + 1 : Nat) : Int).toNat) 0).toNat : Int) ≠ ((39 : UInt8).toNat : Int) then some (acc, IntKind.i64.wrap (((pre.length + 1 : Nat) : Int) - 0)) else (if acc.length + 1 ≤ 140737488355328 then (spec_l1text.l0 k w 0 (acc ++ [(39 : UInt8)]) (IntKind.i64.wrap ((pre.length : Int) + 2))) else none)) else none) else none))
   else (if ((w.getD pre.length 0).toNat : Int) = 92 then ((spec_l1escape.f k w ((pre.length + 1 : Nat) : Int)).bind fun t75 => (if t75.2 = 0 then some ([], 0) else (if acc.length + t75.1.length ≤ 140737488355328 then (spec_l1text.l0 k w 0 (acc ++ t75.1) (IntKind.i64.wrap ((pre.length : Int) + (IntKind.i64.wrap (t75.2 + 1))))) else none))) else ((spec_l1raw.f (w.getD pre.length 0)).bind fun t111 => (if t111 = true then (if acc.length + 1 ≤ 140737488355328 then (spec_l1text.l0 k w 0 (acc ++ [(w.getD pre.length 0)]) ((pre.length + 1 : Nat) : Int)) else none) else some ([], 0))))) = spec_l1text.l0 k w 0 (acc ++ [c]) ((pre.length + (pc c).length : Nat) : Int) := by
  intro h92 n e1 e2 e3
  rw [h92, if_neg (by decide), if_pos (by decide), e1, Option.bind_some, if_neg (by show ¬ (n : Int) = 0; omega), if_pos (by simp; omega)]
  show spec_l1text.l0 k w 0 (acc ++ [c]) (IntKind.i64.wrap ((pre.length : Int) + IntKind.i64.wrap ((n : Int) + 1))) = _
  rw [w1 (by omega), wa (by omega) (by omega), e3]
 have X : ∀ d : UInt8, pre.length + 1 < w.length → w.getD (pre.length + 1) 0 = d → spec_l1escape.f k w ((pre.length + 1 : Nat) : Int) = (if (d.toNat : Int) = 92 then some ([d], 1) else (if (d.toNat : Int) = 39 then some ([d], 1) else (if (d.toNat : Int) = 34 then some ([d], 1) else (if (d.toNat : Int) = 110 then some ([(10 : UInt8)], 1) else (if (d.toNat : Int) = 116 then some ([(9 : UInt8)], 1) else (if (d.toNat : Int) = 114 then some ([(13 : UInt8)], 1) else (if (d.toNat : Int) = 10 then some ([], 1) else (if (d.toNat : Int) ≠ 120 then some ([], 0) else (spec_l1escape.l0 k w ((pre.length + 1 : Nat) : Int) 0 0))))))))) := by
  intro d h1 h2
  rw [spec_l1escape.f, if_neg (by omega), if_pos (by omega), if_pos (by omega), Int.toNat_natCast, h2]
 have G1 := G 1
 by_cases h1 : (c.toNat : Int) = 39
 ·have hp : pc c = [92, c] := by unfold pc; rw [if_pos h1]
  rw [hp] at G0 G1 L
  have hc : c = 39 := ch_eq (d := 39) h1
  exact E G0 1 (by rw [X c (by simp at L; omega) G1, hc]; rfl) (by omega) (by rw [hp]; rfl)
 by_cases h2 : (c.toNat : Int) = 92
 ·have hp : pc c = [92, c] := by unfold pc; rw [if_neg h1, if_pos h2]
  rw [hp] at G0 G1 L
  have hc : c = 92 := ch_eq (d := 92) h2
  exact E G0 1 (by rw [X c (by simp at L; omega) G1, hc]; rfl) (by omega) (by rw [hp]; rfl)
 by_cases h3 : (c.toNat : Int) = 10
 ·have hp : pc c = [92, 110] := by unfold pc; rw [if_neg h1, if_neg h2, if_pos h3]
  rw [hp] at G0 G1 L
  have hc : c = 10 := ch_eq (d := 10) h3
  exact E G0 1 (by rw [X 110 (by simp at L; omega) G1, hc]; rfl) (by omega) (by rw [hp]; rfl)
 by_cases h4 : (c.toNat : Int) = 9
 ·have hp : pc c = [92, 116] := by unfold pc; rw [if_neg h1, if_neg h2, if_neg h3, if_pos h4]
  rw [hp] at G0 G1 L
  have hc : c = 9 := ch_eq (d := 9) h4
  exact E G0 1 (by rw [X 116 (by simp at L; omega) G1, hc]; rfl) (by omega) (by rw [hp]; rfl)
 by_cases h7 : (c.toNat : Int) < 32 ∨ (c.toNat : Int) > 126
 ·have hp : pc c = [92, 120, hx1 c, hx0 c, 92] := by
   unfold pc; rw [if_neg h1, if_neg h2, if_neg h3, if_neg h4]
   by_cases h5 : (c.toNat : Int) < 32
   ·rw [if_pos h5]
   ·rw [if_neg h5, if_pos (h7.resolve_left h5)]
  have G2 := G 2; have G3 := G 3; have G4 := G 4
  rw [hp] at G0 G1 G2 G3 G4 L
  have L' : pre.length + 5 ≤ w.length := L
  exact E G0 4 (by rw [X 120 (by omega) G1]; exact hex_esc k (pre.length + 1) hl c (by omega) (by omega) G2 G3 G4) (by omega) (by rw [hp]; rfl)
 have h5 : ¬ (c.toNat : Int) < 32 := fun q => h7 (.inl q)
 have h6 : ¬ (c.toNat : Int) > 126 := fun q => h7 (.inr q)
 have hp : pc c = [c] := by unfold pc; rw [if_neg h1, if_neg h2, if_neg h3, if_neg h4, if_neg h5, if_neg h6]
 rw [hp] at G0 ⊢
 replace G0 : w.getD pre.length 0 = c := G0
 have hr : rawB c = true := by
  have : spec_l1raw.f c = some true := by rw [spec_l1raw.f, if_pos (by omega), decide_eq_true (by omega)]
  rw [rawB_val] at this; injection this
 rw [G0, if_neg (by show ¬ (c.toNat : Int) = 39; exact h1), if_neg h2, rawB_val, hr, Option.bind_some, if_pos rfl, if_pos (by omega)]
 rfl
theorem q_all (w : List UInt8) (hq : w.getD 0 0 = 39) (hl : w.length ≤ 10000) : ∀ (y pre acc : List UInt8) (k : Nat), w = pre ++ (y.flatMap pc ++ [39]) → acc.length + y.length ≤ 10000 → y.length + 11 < k → spec_l1text.l0 k w 0 acc (pre.length : Int) = some (acc ++ y, (w.length : Int)) := by
 intro y
 induction y with
 | nil =>
  intro pre acc k hw ha hk
  obtain ⟨k, rfl⟩ : ∃ q, k = q + 1 := ⟨k - 1, by omega⟩
  have hq' : w.getD ((0 : Int).toNat) 0 = 39 := hq
  have L : w.length = pre.length + 1 := by rw [hw]; simp
  have G0 : w.getD pre.length 0 = 39 := by rw [hw]; exact gA pre _ 0
  rw [spec_l1text.l0, if_pos (by omega), if_pos (by omega), Int.toNat_natCast, hq', w1 (by omega), G0, if_pos rfl, if_pos (by omega), wrap_id (by omega) (by omega), L, List.append_nil]
  congr 2
 | cons c y ih =>
  intro pre acc k hw ha hk
  obtain ⟨k, rfl⟩ : ∃ q, k = q + 1 := ⟨k - 1, by omega⟩
  rw [List.length_cons] at ha hk
  rw [List.flatMap_cons, List.append_assoc] at hw
  rw [q_step k w pre _ acc c hw hq hl (by omega) (by omega), ← List.length_append]
  rw [ih (pre ++ pc c) (acc ++ [c]) k (by rw [hw, List.append_assoc]) (by rw [List.length_append]; simp; omega) (by omega), List.append_assoc]
  rfl
theorem quote_token (x : List UInt8) (hl : x.length ≤ 100) (h1 : x ≠ [91, 93]) (h2 : x ≠ [123, 125]) (k' : Nat) (hk' : 70000 < k') :
  impl_Lex.f k' (quoteOf x) = some ([⟨1, 0, ((quoteOf x).length : Int), x, 0⟩], 0, 0) := by
 obtain ⟨k, hk⟩ : ∃ k : Nat, 70000 < k := ⟨70001, by omega⟩
 have ql := quote_len x
 refine toImpl (k + 1) (by omega) (by omega) ?_ k' hk'
 unfold quoteOf at ql ⊢
 rw [if_neg (by omega)] at ql ⊢
 by_cases hp : plainB x = true
 ·rw [if_pos hp] at ql ⊢
  obtain ⟨g1, g2, g3⟩ := plain_token x k (by omega) hl hp h1 h2
  exact lone g1 (by omega) (by omega) g2 g3 rfl
 ·rw [if_neg hp] at ql ⊢
  generalize hw : [39] ++ x.flatMap pc ++ [39] = w at ql ⊢
  have hw' : w = [39] ++ (x.flatMap pc ++ [39]) := by rw [← hw, List.append_assoc]
  have q0 : w.getD 0 0 = 39 := by rw [hw']; rfl
  have h0 : 0 < w.length := by rw [hw']; simp
  refine lone h0 (by omega) (by omega) (skip0 k h0 (by omega) (by rw [q0]; decide) (by rw [q0]; decide) (by rw [q0]; intro q; exact absurd q (by decide))) ?_ rfl
  show spec_l1token.f k w ((0 : Nat) : Int) false = _
  rw [token_norm k false (by omega) h0, q0, symbol_val k (by omega)]
  have T : spec_l1token.l2 k w ((0 : Nat) : Int) 1 = some (⟨1, 0, (w.length : Int), x, 0⟩, 0) := by
   rw [spec_l1token.l2, spec_l1text.f, if_pos (by omega), if_pos (by omega), w1 (by omega)]
   have := q_all w q0 (by omega) x [39] [] k hw' (by simp; omega) (by omega)
   replace this : spec_l1text.l0 k w ((0 : Nat) : Int) [] ((0 + 1 : Nat) : Int) = some (x, (w.length : Int)) := this
   rw [this, Option.bind_some, if_neg (by show ¬ (w.length : Int) = 0; omega), if_neg (by show ¬ (x.length : Int) > 100; omega)]
   rfl
  exact T
end Go.Proofs.YtdkbfcmekppnmaaGreatDoor
