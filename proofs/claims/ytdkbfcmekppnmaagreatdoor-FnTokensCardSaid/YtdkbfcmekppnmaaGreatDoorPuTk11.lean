import Derived.Test.YtdkbfcmekppnmaaGreatDoorPuTl9
namespace Go.Proofs.YtdkbfcmekppnmaaGreatDoor
open Go.Sx Go.Sy
set_option linter.unusedVariables false
set_option linter.unusedSimpArgs false
set_option linter.unusedSectionVars false
set_option maxRecDepth 4000
set_option maxHeartbeats 4000000
structure AG (s u : List UInt8) (e N : Nat) : Prop where
 eq : u = (s.drop e).take N
 le : e + N ≤ s.length
 lim : s.length ≤ 10000
theorem AG.ln {s u : List UInt8} {e N : Nat} (A : AG s u e N) : u.length = N := by
 rw [A.eq, List.length_take, List.length_drop]; have := A.le; omega
theorem AG.b {s u : List UInt8} {e N : Nat} (A : AG s u e N) (x y : Nat) (h : x < N) (hy : y = e + x) : u.getD x 0 = s.getD y 0 := by
 subst hy
 rw [A.eq, List.getD_eq_getElem?_getD, List.getD_eq_getElem?_getD, List.getElem?_take_of_lt h, List.getElem?_drop]
section
variable {s u : List UInt8} {e N : Nat}
theorem pct_loc (A : AG s u e N) (i : Nat) : ∀ (k j : Nat) (n : Int), e + i + j ≤ s.length → spec_l1skip.l0 k s ((e + i : Nat) : Int) (j : Int) = some n →
  ∃ m : Nat, n = (m : Int) ∧ j ≤ m ∧ e + i + m ≤ s.length ∧ (i + m ≤ N → spec_l1skip.l0 k u (i : Int) (j : Int) = some n) := by
 have ln := A.ln; have le := A.le; have lim := A.lim
 intro k
 induction k with
 | zero => intro j n _ h; rw [spec_l1skip.l0] at h; cases h
 | succ k ih =>
  intro j n hj h
  rw [spec_l1skip.l0, wa (by omega) (by omega)] at h
  rw [spec_l1skip.l0]
  by_cases c : e + i + j < s.length
  ·rw [if_pos (by omega), if_pos (by omega), Int.toNat_natCast] at h
   by_cases d : ((s.getD (e + i + j) 0).toNat : Int) ≠ 10
   ·rw [if_pos d, w1 (by omega)] at h
    obtain ⟨m, h1, h2, h3, h4⟩ := ih (j + 1) n (by omega) h
    refine ⟨m, h1, by omega, h3, fun hm => ?_⟩
    rw [wa (by omega) (by omega), if_pos (by omega), if_pos (by omega), Int.toNat_natCast, A.b (i + j) (e + i + j) (by omega) (by omega), if_pos d, w1 (by omega)]
    exact h4 hm
   ·rw [if_neg d] at h
    injection h with h
    refine ⟨j, h.symm, Nat.le_refl _, by omega, fun hm => ?_⟩
    rw [wa (by omega) (by omega)]
    by_cases c2 : i + j < N
    ·rw [if_pos (by omega), if_pos (by omega), Int.toNat_natCast, A.b (i + j) (e + i + j) (by omega) (by omega), if_neg d, h]
    ·rw [if_neg (by omega), h]
  ·rw [if_neg (by omega)] at h
   injection h with h
   exact ⟨j, h.symm, Nat.le_refl _, by omega, fun hm => by rw [wa (by omega) (by omega), if_neg (by omega), h]⟩
theorem cmt_loc (A : AG s u e N) (i : Nat) : ∀ (k j : Nat) (n : Int), e + i + j ≤ s.length → spec_l1skip.l1 k s ((e + i : Nat) : Int) (j : Int) = some n →
  n = -1 ∨ ∃ m : Nat, n = (m : Int) ∧ j + 2 ≤ m ∧ e + i + m ≤ s.length ∧ (i + m ≤ N → spec_l1skip.l1 k u (i : Int) (j : Int) = some n) := by
 have ln := A.ln; have le := A.le; have lim := A.lim
 intro k
 induction k with
 | zero => intro j n _ h; rw [spec_l1skip.l1] at h; cases h
 | succ k ih =>
  intro j n hj h
  rw [spec_l1skip.l1, wa (by omega) (by omega), w1 (by omega), w1 (by omega), w2 (by omega)] at h
  rw [spec_l1skip.l1]
  by_cases c : e + i + j + 1 < s.length
  ·rw [if_pos (by omega), if_pos (by omega), if_pos (by omega), if_pos (show (0 : Int) ≤ ((e + i + j + 1 : Nat) : Int) by omega)] at h
   simp only [Int.toNat_natCast] at h
   by_cases d : ((s.getD (e + i + j) 0).toNat : Int) = 42 ∧ ((s.getD (e + i + j + 1) 0).toNat : Int) = 47
   ·rw [if_pos d.1, if_pos d.2] at h
    injection h with h
    refine .inr ⟨j + 2, h.symm, Nat.le_refl _, by omega, fun hm => ?_⟩
    rw [wa (by omega) (by omega), w1 (by omega), w1 (by omega), w2 (by omega), if_pos (by omega), if_pos (by omega), if_pos (by omega), if_pos (show (0 : Int) ≤ ((i + j + 1 : Nat) : Int) by omega)]
    simp only [Int.toNat_natCast, A.b (i + j) (e + i + j) (by omega) (by omega), A.b (i + j + 1) (e + i + j + 1) (by omega) (by omega)]
    rw [if_pos d.1, if_pos d.2, h]
   ·have go : ∀ (w : List UInt8) (p : Int) (a b : UInt8), ¬ ((a.toNat : Int) = 42 ∧ (b.toNat : Int) = 47) → (if (a.toNat : Int) = 42 then (if (b.toNat : Int) = 47 then some (((j + 2 : Nat) : Int)) else (spec_l1skip.l1 k w p ((j + 1 : Nat) : Int))) else (spec_l1skip.l1 k w p ((j + 1 : Nat) : Int))) = spec_l1skip.l1 k w p ((j + 1 : Nat) : Int) := by
     intro w p a b q
     by_cases q1 : (a.toNat : Int) = 42
     ·rw [if_pos q1, if_neg (fun q2 => q ⟨q1, q2⟩)]
     ·rw [if_neg q1]
    rw [go _ _ _ _ d] at h
    rcases ih (j + 1) n (by omega) h with h1 | ⟨m, h1, h2, h3, h4⟩
    ·exact .inl h1
    ·refine .inr ⟨m, h1, by omega, h3, fun hm => ?_⟩
     rw [wa (by omega) (by omega), w1 (by omega), w1 (by omega), w2 (by omega), if_pos (by omega), if_pos (by omega), if_pos (by omega), if_pos (show (0 : Int) ≤ ((i + j + 1 : Nat) : Int) by omega)]
     simp only [Int.toNat_natCast, A.b (i + j) (e + i + j) (by omega) (by omega), A.b (i + j + 1) (e + i + j + 1) (by omega) (by omega)]
     rw [go _ _ _ _ d]
     exact h4 hm
  ·rw [if_neg (by omega)] at h
   injection h with h
   exact .inl h.symm
theorem skip_loc (A : AG s u e N) (i : Nat) (hi : i < N) (k : Nat) (n : Int) (h : spec_l1skip.f k s ((e + i : Nat) : Int) = some n) :
  n < 0 ∨ ∃ m : Nat, n = (m : Int) ∧ e + i + m ≤ s.length ∧ (i + m ≤ N → spec_l1skip.f k u (i : Int) = some n) := by
 have ln := A.ln; have le := A.le; have lim := A.lim
 rw [spec_l1skip.f, if_pos (by omega), if_pos (by omega), blankB_val, Option.bind_some, Int.toNat_natCast] at h
 rw [spec_l1skip.f, if_pos (by omega), if_pos (by omega), blankB_val, Option.bind_some, Int.toNat_natCast, A.b i (e + i) hi rfl]
 by_cases c1 : blankB (s.getD (e + i) 0) = true
 ·rw [if_pos c1] at h ⊢
  injection h with h
  exact .inr ⟨1, h.symm, by omega, fun _ => by rw [h]⟩
 rw [if_neg c1] at h ⊢
 by_cases c2 : ((s.getD (e + i) 0).toNat : Int) = 37
 ·rw [if_pos c2] at h ⊢
  obtain ⟨m, h1, h2, h3, h4⟩ := pct_loc A i k 0 n (by omega) h
  exact .inr ⟨m, h1, h3, h4⟩
 rw [if_neg c2] at h ⊢
 have z0 : some 0 = some n → ∃ m : Nat, n = (m : Int) ∧ e + i + m ≤ s.length ∧ (i + m ≤ N → some (0 : Int) = some n) := fun q => by
  injection q with q; exact ⟨0, q.symm, by omega, fun _ => by rw [q]⟩
 by_cases c3 : ((s.getD (e + i) 0).toNat : Int) ≠ 47
 ·rw [if_pos c3] at h ⊢
  exact .inr (z0 h)
 rw [if_neg c3, w1 (by omega)] at h ⊢
 by_cases c4 : e + i + 1 < s.length
 ·rw [if_neg (by omega), if_pos (by omega), if_pos (by omega), Int.toNat_natCast] at h
  by_cases c5 : ((s.getD (e + i + 1) 0).toNat : Int) ≠ 42
  ·rw [if_pos c5] at h
   obtain ⟨m, h1, h2, h3⟩ := z0 h
   refine .inr ⟨m, h1, h2, fun hm => ?_⟩
   by_cases c6 : i + 1 < N
   ·rw [if_neg (by omega), if_pos (by omega), if_pos (by omega), Int.toNat_natCast, A.b (i + 1) (e + i + 1) c6 (by omega), if_pos c5]; exact h3 hm
   ·rw [if_pos (by omega)]; exact h3 hm
  ·rw [if_neg c5] at h
   rcases cmt_loc A i k 2 n (by omega) h with h1 | ⟨m, h1, h2, h3, h4⟩
   ·exact .inl (by omega)
   ·refine .inr ⟨m, h1, h3, fun hm => ?_⟩
    rw [if_neg (by omega), if_pos (by omega), if_pos (by omega), Int.toNat_natCast, A.b (i + 1) (e + i + 1) (by omega) (by omega), if_neg c5]
    exact h4 hm
 ·rw [if_pos (by omega)] at h
  obtain ⟨m, h1, h2, h3⟩ := z0 h
  exact .inr ⟨m, h1, h2, fun hm => by rw [if_pos (by omega)]; exact h3 hm⟩
theorem run_loc (A : AG s u e N) (i : Nat) (b : Bool) : ∀ (k j : Nat) (n : Int), e + i + j ≤ s.length → spec_l1run.l0 k s ((e + i : Nat) : Int) b (j : Int) = some n →
  ∃ m : Nat, n = (m : Int) ∧ j ≤ m ∧ e + i + m ≤ s.length ∧ (i + m = N → spec_l1run.l0 k u (i : Int) b (j : Int) = some n) := by
 have ln := A.ln; have le := A.le; have lim := A.lim
 intro k
 induction k with
 | zero => intro j n _ h; rw [spec_l1run.l0] at h; cases h
 | succ k ih =>
  intro j n hj h
  have stop : some (j : Int) = some n → ∃ m : Nat, n = (m : Int) ∧ j ≤ m ∧ e + i + m ≤ s.length ∧ (i + m = N → spec_l1run.l0 (k + 1) u (i : Int) b (j : Int) = some n) := fun q => by
   injection q with q
   exact ⟨j, q.symm, Nat.le_refl _, hj, fun hm => by rw [spec_l1run.l0, wa (by omega) (by omega), if_neg (by omega), q]⟩
  rw [spec_l1run.l0, wa (by omega) (by omega)] at h
  by_cases c : e + i + j < s.length
  ·rw [if_pos (by omega)] at h
   cases b with
   | true =>
    rw [if_pos rfl, if_pos (by omega), Int.toNat_natCast] at h
    cases hs : spec_l1symbol.f k (s.getD (e + i + j) 0) with
    | none => rw [hs] at h; cases h
    | some v =>
     rw [hs, Option.bind_some] at h
     cases v with
     | true =>
      rw [if_pos rfl, w1 (by omega)] at h
      obtain ⟨m, h1, h2, h3, h4⟩ := ih (j + 1) n (by omega) h
      refine ⟨m, h1, by omega, h3, fun hm => ?_⟩
      rw [spec_l1run.l0, wa (by omega) (by omega), if_pos (by omega), if_pos rfl, if_pos (by omega), Int.toNat_natCast, A.b (i + j) (e + i + j) (by omega) (by omega), hs, Option.bind_some, if_pos rfl, w1 (by omega)]
      exact h4 hm
     | false =>
      rw [if_neg (by simp), if_neg (by simp)] at h
      exact stop h
   | false =>
    rw [if_neg (by simp), if_pos (by simp), if_pos (by omega), Int.toNat_natCast, alnumB_val, Option.bind_some] at h
    cases hs : alnumB (s.getD (e + i + j) 0) with
    | true =>
     rw [hs, if_pos rfl, w1 (by omega)] at h
     obtain ⟨m, h1, h2, h3, h4⟩ := ih (j + 1) n (by omega) h
     refine ⟨m, h1, by omega, h3, fun hm => ?_⟩
     rw [spec_l1run.l0, wa (by omega) (by omega), if_pos (by omega), if_neg (by simp), if_pos (by simp), if_pos (by omega), Int.toNat_natCast, A.b (i + j) (e + i + j) (by omega) (by omega), alnumB_val, Option.bind_some, hs, if_pos rfl, w1 (by omega)]
     exact h4 hm
    | false =>
     rw [hs, if_neg (by simp)] at h
     exact stop h
  ·rw [if_neg (by omega)] at h
   exact stop h
end
section
variable {s u : List UInt8} {e N : Nat}
theorem hexl_loc (A : AG s u e N) (i : Nat) : ∀ (k j : Nat) (v : Int) (t : List UInt8) (n : Int), j ≤ 2 → e + i + j ≤ 20000 → spec_l1escape.l0 k s ((e + i : Nat) : Int) v (j : Int) = some (t, n) →
  (n = 0 ∧ t = []) ∨ ∃ m : Nat, n = (m : Int) ∧ j + 2 ≤ m ∧ e + i + m ≤ s.length ∧ t.length ≤ 1 ∧ (i + m ≤ N → spec_l1escape.l0 k u (i : Int) v (j : Int) = some (t, n)) := by
 have ln := A.ln; have le := A.le; have lim := A.lim
 intro k
 induction k with
 | zero => intro j v t n _ _ h; rw [spec_l1escape.l0] at h; cases h
 | succ k ih =>
  intro j v t n hj hlim h
  have bad : some (([] : List UInt8), (0 : Int)) = some (t, n) → n = 0 ∧ t = [] := fun q => by injection q with q; injection q with q1 q2; exact ⟨q2.symm, q1.symm⟩
  rw [spec_l1escape.l0, w1 (by omega), wa (by omega) (by omega)] at h
  rw [spec_l1escape.l0]
  by_cases c : e + i + 1 + j < s.length
  ·have fin : ∀ h : (if (j : Int) = 0 then some (([] : List UInt8), (0 : Int)) else (if ((e + i + 1 + j : Nat) : Int) ≥ (s.length : Int) then some ([], 0) else (if ((s.getD (e + i + 1 + j) 0).toNat : Int) ≠ 92 then some ([], 0) else some ([b8 v], IntKind.i64.wrap ((j : Int) + 2))))) = some (t, n),
     (n = 0 ∧ t = []) ∨ (0 < j ∧ ((s.getD (e + i + 1 + j) 0).toNat : Int) = 92 ∧ t = [b8 v] ∧ n = ((j + 2 : Nat) : Int)) := by
    intro h
    rw [w2 (by omega)] at h
    by_cases d1 : (j : Int) = 0
    ·rw [if_pos d1] at h; exact .inl (bad h)
    rw [if_neg d1, if_neg (by omega)] at h
    by_cases d2 : ((s.getD (e + i + 1 + j) 0).toNat : Int) ≠ 92
    ·rw [if_pos d2] at h; exact .inl (bad h)
    rw [if_neg d2] at h
    injection h with h; injection h with h1 h2
    exact .inr ⟨by omega, by omega, h1.symm, h2.symm⟩
   by_cases d : j < 2
   ·by_cases hx : (hexV (s.getD (e + i + 1 + j) 0) : Int) < 16
    ·simp (maxSteps := 5000000) (disch := omega) only [w1, Int.toNat_natCast, (hexV_val _).1, Option.bind_some, if_pos] at h
     rcases ih (j + 1) _ t n (by omega) (by omega) h with h1 | ⟨m, h1, h2, h3, h5, h4⟩
     ·exact .inl h1
     ·refine .inr ⟨m, h1, by omega, h3, h5, fun hm => ?_⟩
      have hb := A.b (i + 1 + j) (e + i + 1 + j) (by omega) (by omega)
      simp (maxSteps := 5000000) (disch := omega) only [w1, wa, Int.toNat_natCast, hb, (hexV_val _).1, Option.bind_some, if_pos]
      exact h4 hm
    ·rw [if_pos (by omega), if_pos (by omega), if_pos (by omega), Int.toNat_natCast, (hexV_val _).1, Option.bind_some, if_neg hx] at h
     rcases fin h with h1 | ⟨h0, h1, h2, h3⟩
     ·exact .inl h1
     ·refine .inr ⟨j + 2, h3, by omega, by omega, by simp [h2], fun hm => ?_⟩
      have hb := A.b (i + 1 + j) (e + i + 1 + j) (by omega) (by omega)
      have h1' : ¬ ((s.getD (e + i + 1 + j) 0).toNat : Int) ≠ 92 := by omega
      simp (maxSteps := 5000000) (disch := omega) only [w1, w2, wa, Int.toNat_natCast, hb, (hexV_val _).1, Option.bind_some, if_pos, if_neg]
      rw [h2, h3]
   ·rw [if_pos (by omega), if_neg (by omega)] at h
    by_cases d1 : (j : Int) = 0
    ·omega
    rw [if_neg d1, if_neg (by omega), if_pos (by omega), Int.toNat_natCast] at h
    rcases fin (by rw [if_neg d1, if_neg (by omega)]; exact h) with h1 | ⟨h0, h1, h2, h3⟩
    ·exact .inl h1
    ·refine .inr ⟨j + 2, h3, by omega, by omega, by simp [h2], fun hm => ?_⟩
     have hb := A.b (i + 1 + j) (e + i + 1 + j) (by omega) (by omega)
     simp (maxSteps := 5000000) (disch := omega) only [w1, w2, wa, Int.toNat_natCast, hb, if_pos, if_neg]
     rw [h2, h3]
  ·rw [if_neg (by omega)] at h
   by_cases d1 : (j : Int) = 0
   ·rw [if_pos d1] at h; exact .inl (bad h)
   ·rw [if_neg d1, if_pos (by omega)] at h; exact .inl (bad h)
theorem escape_loc (A : AG s u e N) (i : Nat) (hlim : e + i ≤ 15000) (k : Nat) (t : List UInt8) (n : Int) (h : spec_l1escape.f k s ((e + i : Nat) : Int) = some (t, n)) :
  (n = 0 ∧ t = []) ∨ ∃ m : Nat, n = (m : Int) ∧ 1 ≤ m ∧ e + i + m ≤ s.length ∧ t.length ≤ 1 ∧ (i + m ≤ N → spec_l1escape.f k u (i : Int) = some (t, n)) := by
 have ln := A.ln; have le := A.le; have lim := A.lim
 have bad : some (([] : List UInt8), (0 : Int)) = some (t, n) → n = 0 ∧ t = [] := fun q => by injection q with q; injection q with q1 q2; exact ⟨q2.symm, q1.symm⟩
 rw [spec_l1escape.f] at h
 by_cases c : e + i < s.length
 ·rw [if_neg (by omega), if_pos (by omega), if_pos (by omega), Int.toNat_natCast] at h
  have U : i < N → spec_l1escape.f k u (i : Int) = _ := fun hi => by rw [spec_l1escape.f, if_neg (by omega), if_pos (by omega), if_pos (by omega), Int.toNat_natCast, A.b i (e + i) hi rfl]
  generalize s.getD (e + i) 0 = c at h U
  have one : ∀ q : List UInt8, q.length ≤ 1 → some (q, (1 : Int)) = some (t, n) → (i < N → spec_l1escape.f k u (i : Int) = some (q, 1)) → (n = 0 ∧ t = []) ∨ ∃ m : Nat, n = (m : Int) ∧ 1 ≤ m ∧ e + i + m ≤ s.length ∧ t.length ≤ 1 ∧ (i + m ≤ N → spec_l1escape.f k u (i : Int) = some (t, n)) := by
   intro q hq h1 h2
   injection h1 with h1; injection h1 with h3 h4
   refine .inr ⟨1, h4.symm, by omega, by omega, by rw [← h3]; exact hq, fun hm => ?_⟩
   rw [h2 (by omega), h3, h4]
  by_cases a1 : (c.toNat : Int) = 92
  ·rw [if_pos a1] at h; exact one _ (by simp) h fun hi => by rw [U hi, if_pos a1]
  rw [if_neg a1] at h
  by_cases a2 : (c.toNat : Int) = 39
  ·rw [if_pos a2] at h; exact one _ (by simp) h fun hi => by rw [U hi, if_neg a1, if_pos a2]
  rw [if_neg a2] at h
  by_cases a3 : (c.toNat : Int) = 34
  ·rw [if_pos a3] at h; exact one _ (by simp) h fun hi => by rw [U hi, if_neg a1, if_neg a2, if_pos a3]
  rw [if_neg a3] at h
  by_cases a4 : (c.toNat : Int) = 110
  ·rw [if_pos a4] at h; exact one _ (by simp) h fun hi => by rw [U hi, if_neg a1, if_neg a2, if_neg a3, if_pos a4]
  rw [if_neg a4] at h
  by_cases a5 : (c.toNat : Int) = 116
  ·rw [if_pos a5] at h; exact one _ (by simp) h fun hi => by rw [U hi, if_neg a1, if_neg a2, if_neg a3, if_neg a4, if_pos a5]
  rw [if_neg a5] at h
  by_cases a6 : (c.toNat : Int) = 114
  ·rw [if_pos a6] at h; exact one _ (by simp) h fun hi => by rw [U hi, if_neg a1, if_neg a2, if_neg a3, if_neg a4, if_neg a5, if_pos a6]
  rw [if_neg a6] at h
  by_cases a7 : (c.toNat : Int) = 10
  ·rw [if_pos a7] at h; exact one _ (by simp) h fun hi => by rw [U hi, if_neg a1, if_neg a2, if_neg a3, if_neg a4, if_neg a5, if_neg a6, if_pos a7]
  rw [if_neg a7] at h
  by_cases a8 : (c.toNat : Int) ≠ 120
  ·rw [if_pos a8] at h; exact .inl (bad h)
  rw [if_neg a8] at h
  rcases hexl_loc A i k 0 0 t n (by omega) (by omega) h with h1 | ⟨m, h1, h2, h3, tl, h4⟩
  ·exact .inl h1
  ·refine .inr ⟨m, h1, by omega, h3, tl, fun hm => ?_⟩
   rw [U (by omega), if_neg a1, if_neg a2, if_neg a3, if_neg a4, if_neg a5, if_neg a6, if_neg a7, if_neg a8]
   exact h4 hm
 ·rw [if_pos (by omega)] at h
  exact .inl (bad h)
theorem text_loc (A : AG s u e N) (i : Nat) (hi : i < N) : ∀ (k j : Nat) (acc t : List UInt8) (n : Int), 1 ≤ j → e + i + j ≤ s.length → spec_l1text.l0 k s ((e + i : Nat) : Int) acc ((e + (i + j) : Nat) : Int) = some (t, n) →
  n = 0 ∨ ∃ m : Nat, n = (m : Int) ∧ j + 1 ≤ m ∧ e + i + m ≤ s.length ∧ (i + m = N → spec_l1text.l0 k u (i : Int) acc ((i + j : Nat) : Int) = some (t, n)) := by
 have ln := A.ln; have le := A.le; have lim := A.lim
 have q0 := A.b i (e + i) hi rfl
 intro k
 induction k with
 | zero => intro j acc t n _ _ h; rw [spec_l1text.l0] at h; cases h
 | succ k ih =>
  intro j acc t n hj hjl h
  have bad : some (([] : List UInt8), (0 : Int)) = some (t, n) → n = 0 := fun q => by injection q with q; injection q with q1 q2; exact q2.symm
  rw [spec_l1text.l0] at h
  by_cases c : e + (i + j) < s.length
  ·by_cases d : ((s.getD (e + (i + j)) 0).toNat : Int) = ((s.getD (e + i) 0).toNat : Int)
   ·have stop : some (acc, IntKind.i64.wrap (((e + (i + j) + 1 : Nat) : Int) - ((e + i : Nat) : Int))) = some (t, n) → n = 0 ∨ ∃ m : Nat, n = (m : Int) ∧ j + 1 ≤ m ∧ e + i + m ≤ s.length ∧ (i + m = N → spec_l1text.l0 (k + 1) u (i : Int) acc ((i + j : Nat) : Int) = some (t, n)) := by
     intro q
     rw [ws (by omega) (by omega)] at q
     injection q with q; injection q with q1 q2
     refine .inr ⟨j + 1, by omega, by omega, by omega, fun hm => ?_⟩
     have hb := A.b (i + j) (e + (i + j)) (by omega) rfl
     rw [spec_l1text.l0]
     simp (maxSteps := 5000000) (disch := omega) only [w1, ws, Int.toNat_natCast, hb, q0, if_pos]
     rw [q1, ← q2]; congr 3; omega
    by_cases c2 : e + (i + j) + 1 < s.length
    ·by_cases d2 : ((s.getD (e + (i + j) + 1) 0).toNat : Int) = ((s.getD (e + i) 0).toNat : Int)
     ·simp (maxSteps := 5000000) (disch := omega) only [w1, w2, Int.toNat_natCast, if_pos, if_neg] at h
      by_cases z : acc.length + 1 ≤ 140737488355328
      ·rw [if_pos z] at h
       rcases ih (j + 2) _ t n (by omega) (by omega) h with h1 | ⟨m, h1, h2, h3, h4⟩
       ·exact .inl h1
       ·refine .inr ⟨m, h1, by omega, h3, fun hm => ?_⟩
        have hb := A.b (i + j) (e + (i + j)) (by omega) rfl
        have hb2 := A.b (i + j + 1) (e + (i + j) + 1) (by omega) (by omega)
        rw [spec_l1text.l0]
        simp (maxSteps := 5000000) (disch := omega) only [w1, w2, Int.toNat_natCast, hb, hb2, q0, if_pos, if_neg]
        exact h4 hm
      ·rw [if_neg z] at h; cases h
     ·simp (maxSteps := 5000000) (disch := omega) only [w1, w2, Int.toNat_natCast, if_pos, if_neg] at h
      exact stop h
    ·simp (maxSteps := 5000000) (disch := omega) only [w1, w2, Int.toNat_natCast, if_pos, if_neg] at h
     exact stop h
   ·by_cases d2 : ((s.getD (e + (i + j)) 0).toNat : Int) = 92
    ·simp (maxSteps := 5000000) (disch := omega) only [w1, w2, Int.toNat_natCast, if_pos, if_neg] at h
     cases hes : spec_l1escape.f k s ((e + (i + j) + 1 : Nat) : Int) with
     | none => rw [hes] at h; cases h
     | some v =>
      obtain ⟨t', n'⟩ := v
      rw [hes, Option.bind_some] at h
      rcases escape_loc A (i + j + 1) (by omega) k t' n' (by rw [← Nat.add_assoc]; exact hes) with h1 | ⟨m', g1, g2, g3, g4, g5⟩
      ·rw [if_pos (by simpa using h1.1)] at h
       exact .inl (bad h)
      ·subst g1
       rw [if_neg (by simp; omega)] at h
       by_cases z : acc.length + t'.length ≤ 140737488355328
       ·rw [if_pos z] at h
        simp (maxSteps := 5000000) (disch := omega) only [w1, wa] at h
        rcases ih (j + (m' + 1)) _ t n (by omega) (by omega) (by rw [← Nat.add_assoc i]; rw [← Nat.add_assoc e]; exact h) with h1 | ⟨m, h1, h2, h3, h4⟩
        ·exact .inl h1
        ·refine .inr ⟨m, h1, by omega, h3, fun hm => ?_⟩
         have hb := A.b (i + j) (e + (i + j)) (by omega) rfl
         rw [spec_l1text.l0]
         simp (maxSteps := 5000000) (disch := omega) only [w1, Int.toNat_natCast, hb, q0, if_pos, if_neg, g5 (by omega), Option.bind_some]
         rw [wa (by omega) (by omega), Nat.add_assoc i]
         exact h4 hm
       ·rw [if_neg z] at h; cases h
    ·simp (maxSteps := 5000000) (disch := omega) only [w1, w2, Int.toNat_natCast, if_pos, if_neg, rawB_val, Option.bind_some] at h
     by_cases d3 : rawB (s.getD (e + (i + j)) 0) = true
     ·rw [if_pos d3] at h
      by_cases z : acc.length + 1 ≤ 140737488355328
      ·rw [if_pos z] at h
       rcases ih (j + 1) _ t n (by omega) (by omega) h with h1 | ⟨m, h1, h2, h3, h4⟩
       ·exact .inl h1
       ·refine .inr ⟨m, h1, by omega, h3, fun hm => ?_⟩
        have hb := A.b (i + j) (e + (i + j)) (by omega) rfl
        rw [spec_l1text.l0]
        simp (maxSteps := 5000000) (disch := omega) only [w1, Int.toNat_natCast, hb, q0, if_pos, if_neg, rawB_val, Option.bind_some]
        exact h4 hm
      ·rw [if_neg z] at h; cases h
     ·rw [if_neg d3] at h
      exact .inl (bad h)
  ·rw [if_neg (by omega)] at h
   exact .inl (bad h)
end
section
variable {s u : List UInt8} {e N : Nat}
theorem num_loc (A : AG s u e N) (i : Nat) (b : Int) : ∀ (k j : Nat) (v : Int) (big : Bool) (r n : Int), e + i + j ≤ s.length → spec_l1number.l2 k s ((e + i : Nat) : Int) b (j : Int) v big = some (r, n, 0) →
  ∃ m : Nat, n = (m : Int) ∧ j ≤ m ∧ e + i + m ≤ s.length ∧ (e + i + j < s.length → (hexV (s.getD (e + i + j) 0) : Int) < b → j < m) ∧ (i + m = N → spec_l1number.l2 k u (i : Int) b (j : Int) v big = some (r, n, 0)) := by
 have ln := A.ln; have le := A.le; have lim := A.lim
 intro k
 induction k using Nat.strongRecOn with
 | _ k ih =>
 intro j v big r n hj h
 rcases k with _ | k
 ·rw [spec_l1number.l2] at h; cases h
 have stop : (if big = true then some ((0 : Int), (0 : Int), (3 : Int)) else some (v, (j : Int), 0)) = some (r, n, 0) → (e + i + j < s.length → ¬ (hexV (s.getD (e + i + j) 0) : Int) < b) → ∃ m : Nat, n = (m : Int) ∧ j ≤ m ∧ e + i + m ≤ s.length ∧ (e + i + j < s.length → (hexV (s.getD (e + i + j) 0) : Int) < b → j < m) ∧ (i + m = N → spec_l1number.l2 (k + 1) u (i : Int) b (j : Int) v big = some (r, n, 0)) := by
  intro q qq
  cases big with
  | true => rw [if_pos rfl] at q; injection q with q; injection q with _ q; injection q with _ q; cases q
  | false =>
   rw [if_neg (by simp)] at q
   injection q with q; injection q with q1 q; injection q with q2 _
   exact ⟨j, q2.symm, Nat.le_refl _, hj, fun a1 a2 => absurd a2 (qq a1), fun hm => by rw [spec_l1number.l2, wa (by omega) (by omega), if_neg (by omega), if_neg (by simp), q1, q2]⟩
 rw [spec_l1number.l2, wa (by omega) (by omega)] at h
 by_cases c : e + i + j < s.length
 ·rw [if_pos (by omega), if_pos (by omega), Int.toNat_natCast, (hexV_val _).1, Option.bind_some] at h
  by_cases d : (hexV (s.getD (e + i + j) 0) : Int) < b
  ·rw [if_pos d, Option.bind_some] at h
   have U : i + j < N → spec_l1number.l2 (k + 1) u (i : Int) b (j : Int) v big = (if IntKind.i64.wrap (IntKind.i64.wrap (v * b) + (hexV (s.getD (e + i + j) 0) : Int)) > 1000000000000000 then spec_l1number.l3 k u (i : Int) b (j : Int) 1000000000000000 true else spec_l1number.l3 k u (i : Int) b (j : Int) (IntKind.i64.wrap (IntKind.i64.wrap (v * b) + (hexV (s.getD (e + i + j) 0) : Int))) big) := by
    intro q
    rw [spec_l1number.l2, wa (by omega) (by omega), if_pos (by omega), if_pos (by omega), Int.toNat_natCast, A.b (i + j) (e + i + j) q (by omega), (hexV_val _).1, Option.bind_some, if_pos d, Option.bind_some]
   have step : ∀ (v' : Int) (big' : Bool), spec_l1number.l3 k s ((e + i : Nat) : Int) b (j : Int) v' big' = some (r, n, 0) → ∃ m : Nat, n = (m : Int) ∧ j < m ∧ e + i + m ≤ s.length ∧ (i + m = N → spec_l1number.l3 k u (i : Int) b (j : Int) v' big' = some (r, n, 0)) := by
    intro v' big' q
    rcases k with _ | k
    ·rw [spec_l1number.l3] at q; cases q
    rw [spec_l1number.l3, w1 (by omega)] at q
    obtain ⟨m, h1, h2, h3, _, h4⟩ := ih k (by omega) (j + 1) v' big' r n (by omega) q
    exact ⟨m, h1, by omega, h3, fun hm => by rw [spec_l1number.l3, w1 (by omega)]; exact h4 hm⟩
   by_cases g : IntKind.i64.wrap (IntKind.i64.wrap (v * b) + (hexV (s.getD (e + i + j) 0) : Int)) > 1000000000000000
   ·rw [if_pos g] at h
    obtain ⟨m, h1, h2, h3, h4⟩ := step _ _ h
    exact ⟨m, h1, by omega, h3, fun _ _ => h2, fun hm => by rw [U (by omega), if_pos g]; exact h4 hm⟩
   ·rw [if_neg g] at h
    obtain ⟨m, h1, h2, h3, h4⟩ := step _ _ h
    exact ⟨m, h1, by omega, h3, fun _ _ => h2, fun hm => by rw [U (by omega), if_neg g]; exact h4 hm⟩
  ·rw [if_neg d, alnumB_val, Option.bind_some] at h
   by_cases g : alnumB (s.getD (e + i + j) 0) = true
   ·rw [if_pos g] at h; injection h with h; injection h with _ h; injection h with _ h; cases h
   ·rw [if_neg g] at h
    exact stop h (fun _ => d)
 ·rw [if_neg (by omega)] at h
  exact stop h (fun a => absurd a c)
theorem chr_loc (A : AG s u e N) (i j : Nat) (hj : e + i + j ≤ s.length + 10) (v r n : Int) (h : spec_l1char.l0 0 s ((e + i : Nat) : Int) (j : Int) v = some (r, n, 0)) :
  n = (j : Int) ∧ 0 < j ∧ (i + j = N → spec_l1char.l0 0 u (i : Int) (j : Int) v = some (r, n, 0)) := by
 have ln := A.ln; have le := A.le; have lim := A.lim
 have no : some ((0 : Int), (0 : Int), (2 : Int)) ≠ some (r, n, 0) := fun q => by injection q with q; injection q with _ q; injection q with _ q; cases q
 rw [spec_l1char.l0, wa (by omega) (by omega)] at h
 by_cases c0 : (j : Int) = 0
 ·rw [if_pos c0] at h; exact absurd h no
 rw [if_neg c0] at h
 have fin : some (v, (j : Int), (0 : Int)) = some (r, n, 0) → n = (j : Int) ∧ 0 < j ∧ (i + j = N → spec_l1char.l0 0 u (i : Int) (j : Int) v = some (r, n, 0)) := fun q => by
  refine ⟨?_, by omega, fun hm => ?_⟩
  ·injection q with q; injection q with _ q; injection q with q _; exact q.symm
  ·rw [spec_l1char.l0, if_neg c0, wa (by omega) (by omega), if_neg (by omega), q]
 by_cases c : e + i + j < s.length
 ·rw [if_pos (by omega), if_pos (by omega), Int.toNat_natCast, alnumB_val, Option.bind_some] at h
  by_cases g : alnumB (s.getD (e + i + j) 0) = true
  ·rw [if_pos g] at h; exact absurd h no
  ·rw [if_neg g] at h; exact fin h
 ·rw [if_neg (by omega)] at h; exact fin h
theorem char_norm (k : Nat) {w : List UInt8} {p : Nat} (hw : w.length ≤ 10000) (hp : p + 2 < w.length) :
  spec_l1char.f k w (p : Int) = if p + 3 < w.length ∧ ((w.getD (p + 2) 0).toNat : Int) = 39 ∧ ((w.getD (p + 3) 0).toNat : Int) = 39 then spec_l1char.l0 0 w (p : Int) 4 39
   else if ((w.getD (p + 2) 0).toNat : Int) = 92 then ((spec_l1escape.f k w ((p + 3 : Nat) : Int)).bind fun t => (if (t.1.length : Int) = 1 then (if 0 < (t.1.length : Int) then (spec_l1char.l0 0 w (p : Int) (IntKind.i64.wrap (3 + t.2)) ((t.1.getD 0 (0 : UInt8)).toNat : Int)) else none) else (spec_l1char.l0 0 w (p : Int) 0 0)))
   else if ((w.getD (p + 2) 0).toNat : Int) ≠ 39 then (if rawB (w.getD (p + 2) 0) = true then spec_l1char.l0 0 w (p : Int) 3 ((w.getD (p + 2) 0).toNat : Int) else spec_l1char.l0 0 w (p : Int) 0 0) else spec_l1char.l0 0 w (p : Int) 0 0 := by
 rw [spec_l1char.f, w2 (by omega), w3 (by omega)]
 simp only [Int.toNat_natCast, rawB_val, Option.bind_some]
 by_cases c3 : p + 3 < w.length
 ·rw [if_pos (show ((p + 3 : Nat) : Int) < (w.length : Int) by omega), if_pos (by omega), if_pos (by omega)]
  by_cases a : ((w.getD (p + 2) 0).toNat : Int) = 39
  ·rw [if_pos a, if_pos (by omega)]
   by_cases a2 : ((w.getD (p + 3) 0).toNat : Int) = 39
   ·rw [if_pos a2, if_pos (c := _ ∧ _) ⟨c3, a, a2⟩]
   ·rw [if_neg a2, if_neg (c := _ ∧ _) (fun q => a2 q.2.2)]
  ·rw [if_neg a, if_neg (c := _ ∧ _) (fun q => a q.2.1)]
 ·rw [if_neg (show ¬ ((p + 3 : Nat) : Int) < (w.length : Int) by omega), if_pos (by omega), if_pos (by omega), if_neg (c := _ ∧ _) (fun q => c3 q.1)]
theorem char_loc (A : AG s u e N) (i : Nat) (k : Nat) (r n : Int) (hi : e + i + 1 < s.length) (h : spec_l1char.f k s ((e + i : Nat) : Int) = some (r, n, 0)) :
  ∃ m : Nat, n = (m : Int) ∧ 3 ≤ m ∧ e + i + m ≤ s.length ∧ (i + m = N → spec_l1char.f k u (i : Int) = some (r, n, 0)) := by
 have ln := A.ln; have le := A.le; have lim := A.lim
 have no : ∀ w : List UInt8, ∀ p : Int, spec_l1char.l0 0 w p 0 0 ≠ some (r, n, 0) := fun w p q => by
  rw [spec_l1char.l0, if_pos rfl] at q; injection q with q; injection q with _ q; injection q with _ q; cases q
 by_cases h2 : e + i + 2 < s.length
 ·rw [char_norm k lim h2] at h
  by_cases a : e + i + 3 < s.length ∧ ((s.getD (e + i + 2) 0).toNat : Int) = 39 ∧ ((s.getD (e + i + 3) 0).toNat : Int) = 39
  ·rw [if_pos a] at h
   obtain ⟨g1, g2, g3⟩ := chr_loc A i 4 (by omega) 39 r n h
   refine ⟨4, g1, by omega, by omega, fun hm => ?_⟩
   rw [char_norm k (by omega) (by omega), A.b (i + 2) (e + i + 2) (by omega) (by omega), A.b (i + 3) (e + i + 3) (by omega) (by omega), if_pos ⟨by omega, a.2⟩]
   exact g3 hm
  rw [if_neg a] at h
  have na : i + 3 ≤ N → (¬ (i + 3 < u.length ∧ ((s.getD (e + i + 2) 0).toNat : Int) = 39 ∧ ((u.getD (i + 3) 0).toNat : Int) = 39)) := fun q1 q => by
   have := A.b (i + 3) (e + i + 3) (by omega) (by omega)
   rw [this] at q
   exact a ⟨by omega, q.2⟩
  by_cases a2 : ((s.getD (e + i + 2) 0).toNat : Int) = 92
  ·rw [if_pos a2] at h
   cases hes : spec_l1escape.f k s ((e + i + 3 : Nat) : Int) with
   | none => rw [hes] at h; cases h
   | some v =>
    obtain ⟨t', n'⟩ := v
    rw [hes, Option.bind_some] at h
    by_cases b1 : (t'.length : Int) = 1
    ·rw [if_pos b1, if_pos (by show 0 < (t'.length : Int); omega)] at h
     rcases escape_loc A (i + 3) (by omega) k t' n' hes with h1 | ⟨m', g1, g2, g3, g4, g5⟩
     ·rw [h1.2] at b1; simp at b1
     ·subst g1
      replace h : spec_l1char.l0 0 s ((e + i : Nat) : Int) (IntKind.i64.wrap (3 + (m' : Int))) ((t'.getD 0 (0 : UInt8)).toNat : Int) = some (r, n, 0) := h
      rw [w3' (by omega)] at h
      obtain ⟨q1, q2, q3⟩ := chr_loc A i (3 + m') (by omega) _ r n h
      refine ⟨3 + m', q1, by omega, by omega, fun hm => ?_⟩
      rw [char_norm k (by omega) (by omega), A.b (i + 2) (e + i + 2) (by omega) (by omega), if_neg (na (by omega)), if_pos a2, g5 (by omega), Option.bind_some, if_pos b1, if_pos (by show 0 < (t'.length : Int); omega)]
      show spec_l1char.l0 0 u (i : Int) (IntKind.i64.wrap (3 + (m' : Int))) ((t'.getD 0 (0 : UInt8)).toNat : Int) = some (r, n, 0)
      rw [w3' (by omega)]
      exact q3 hm
    ·rw [if_neg b1] at h; exact absurd h (no _ _)
  rw [if_neg a2] at h
  by_cases a3 : ((s.getD (e + i + 2) 0).toNat : Int) ≠ 39
  ·rw [if_pos a3] at h
   by_cases a4 : rawB (s.getD (e + i + 2) 0) = true
   ·rw [if_pos a4] at h
    obtain ⟨q1, q2, q3⟩ := chr_loc A i 3 (by omega) _ r n h
    refine ⟨3, q1, by omega, by omega, fun hm => ?_⟩
    rw [char_norm k (by omega) (by omega), A.b (i + 2) (e + i + 2) (by omega) (by omega), if_neg (na (by omega)), if_neg a2, if_pos a3, if_pos a4]
    exact q3 hm
   ·rw [if_neg a4] at h; exact absurd h (no _ _)
  ·rw [if_neg a3] at h; exact absurd h (no _ _)
 ·rw [spec_l1char.f, w2 (by omega), w3 (by omega), if_neg (by omega), if_neg (by omega)] at h
  exact absurd h (no _ _)
def baseO (t : UInt8) : Int := if (t.toNat : Int) = 120 then 16 else if (t.toNat : Int) = 111 then 8 else if (t.toNat : Int) = 98 then 2 else 0
theorem number_norm (k : Nat) {w : List UInt8} {p : Nat} (hw : w.length ≤ 10000) (hp : p < w.length) :
  spec_l1number.f k w (p : Int) = if ((w.getD p 0).toNat : Int) = 48 ∧ p + 1 < w.length then
    (if ((w.getD (p + 1) 0).toNat : Int) = 39 then spec_l1char.f k w (p : Int) else
     if baseO (w.getD (p + 1) 0) > 0 ∧ p + 2 < w.length ∧ (hexV (w.getD (p + 2) 0) : Int) < baseO (w.getD (p + 1) 0) then spec_l1number.l2 k w (p : Int) (baseO (w.getD (p + 1) 0)) 2 0 false else spec_l1number.l2 k w (p : Int) 10 0 0 false)
   else spec_l1number.l2 k w (p : Int) 10 0 0 false := by
 have l1v : ∀ o : Int, spec_l1number.l1 k w (p : Int) o = if o > 0 ∧ p + 2 < w.length ∧ (hexV (w.getD (p + 2) 0) : Int) < o then spec_l1number.l2 k w (p : Int) o 2 0 false else spec_l1number.l2 k w (p : Int) 10 0 0 false := by
  intro o
  rw [spec_l1number.l1, w2 (by omega)]
  by_cases o1 : o > 0
  ·rw [if_pos o1]
   by_cases o2 : p + 2 < w.length
   ·rw [if_pos (by omega), if_pos (by omega), Int.toNat_natCast, (hexV_val _).1, Option.bind_some]
    by_cases o3 : (hexV (w.getD (p + 2) 0) : Int) < o
    ·rw [if_pos o3, if_pos (c := _ ∧ _) ⟨o1, o2, o3⟩]; rfl
    ·rw [if_neg o3, if_neg (c := _ ∧ _) (fun q => o3 q.2.2)]; rfl
   ·rw [if_neg (by omega), if_neg (c := _ ∧ _) (fun q => o2 q.2.1)]; rfl
  ·rw [if_neg o1, if_neg (c := _ ∧ _) (fun q => o1 q.1)]; rfl
 rw [spec_l1number.f, if_pos (by omega), if_pos (by omega), Int.toNat_natCast, w1 (by omega)]
 by_cases c0 : ((w.getD p 0).toNat : Int) = 48
 ·rw [if_pos c0]
  by_cases c1 : p + 1 < w.length
  ·rw [if_pos (by omega), if_pos (by omega), if_pos (c := _ ∧ _) ⟨c0, c1⟩, Int.toNat_natCast]
   by_cases c2 : ((w.getD (p + 1) 0).toNat : Int) = 39
   ·rw [if_pos c2, if_pos c2]
    cases spec_l1char.f k w (p : Int) <;> rfl
   ·rw [if_neg c2, if_neg c2, ← l1v]
    unfold baseO
    by_cases d1 : ((w.getD (p + 1) 0).toNat : Int) = 120
    ·rw [if_pos d1, if_pos d1]
    ·rw [if_neg d1, if_neg d1]
     by_cases d2 : ((w.getD (p + 1) 0).toNat : Int) = 111
     ·rw [if_pos d2, if_pos d2]
     ·rw [if_neg d2, if_neg d2]
      by_cases d3 : ((w.getD (p + 1) 0).toNat : Int) = 98
      ·rw [if_pos d3, if_pos d3]
      ·rw [if_neg d3, if_neg d3]
  ·rw [if_neg (by omega), if_neg (c := _ ∧ _) (fun q => c1 q.2)]; rfl
 ·rw [if_neg c0, if_neg (c := _ ∧ _) (fun q => c0 q.1)]; rfl
theorem number_loc (A : AG s u e N) (i : Nat) (hi : i < N) (k : Nat) (r n : Int) (h : spec_l1number.f k s ((e + i : Nat) : Int) = some (r, n, 0)) :
  ∃ m : Nat, n = (m : Int) ∧ e + i + m ≤ s.length ∧ (i + m = N → spec_l1number.f k u (i : Int) = some (r, n, 0)) := by
 have ln := A.ln; have le := A.le; have lim := A.lim
 rw [number_norm k lim (by omega)] at h
 have q0 := A.b i (e + i) hi rfl
 have ten : spec_l1number.l2 k s ((e + i : Nat) : Int) 10 0 0 false = some (r, n, 0) → ∃ m : Nat, n = (m : Int) ∧ e + i + m ≤ s.length ∧ (i + m = N → spec_l1number.l2 k u (i : Int) 10 0 0 false = some (r, n, 0)) := fun q => by
  obtain ⟨m, h1, h2, h3, _, h4⟩ := num_loc A i 10 k 0 0 false r n (by omega) q
  exact ⟨m, h1, h3, h4⟩
 by_cases c : ((s.getD (e + i) 0).toNat : Int) = 48 ∧ e + i + 1 < s.length
 ·rw [if_pos c] at h
  by_cases c2 : ((s.getD (e + i + 1) 0).toNat : Int) = 39
  ·rw [if_pos c2] at h
   obtain ⟨m, h1, h2, h3, h4⟩ := char_loc A i k r n c.2 h
   refine ⟨m, h1, h3, fun hm => ?_⟩
   rw [number_norm k (by omega) (by omega), q0, A.b (i + 1) (e + i + 1) (by omega) (by omega), if_pos ⟨c.1, by omega⟩, if_pos c2]
   exact h4 hm
  rw [if_neg c2] at h
  by_cases c3 : baseO (s.getD (e + i + 1) 0) > 0 ∧ e + i + 2 < s.length ∧ (hexV (s.getD (e + i + 2) 0) : Int) < baseO (s.getD (e + i + 1) 0)
  ·rw [if_pos c3] at h
   obtain ⟨m, h1, h2, h3, h5, h4⟩ := num_loc A i _ k 2 0 false r n (by omega) h
   have h6 := h5 c3.2.1 c3.2.2
   refine ⟨m, h1, h3, fun hm => ?_⟩
   rw [number_norm k (by omega) (by omega), q0, A.b (i + 1) (e + i + 1) (by omega) (by omega), A.b (i + 2) (e + i + 2) (by omega) (by omega), if_pos ⟨c.1, by omega⟩, if_neg c2, if_pos ⟨c3.1, by omega, c3.2.2⟩]
   exact h4 hm
  rw [if_neg c3] at h
  obtain ⟨m, h1, h3, h4⟩ := ten h
  refine ⟨m, h1, h3, fun hm => ?_⟩
  rw [number_norm k (by omega) (by omega), q0]
  by_cases d1 : i + 1 < N
  ·rw [A.b (i + 1) (e + i + 1) (by omega) (by omega), if_pos ⟨c.1, by omega⟩, if_neg c2]
   rw [if_neg]
   ·exact h4 hm
   ·rintro ⟨x1, x2, x3⟩
    rw [A.b (i + 2) (e + i + 2) (by omega) (by omega)] at x3
    exact c3 ⟨x1, by omega, x3⟩
  ·rw [if_neg (c := _ ∧ _) (fun q => by omega)]
   exact h4 hm
 ·rw [if_neg c] at h
  obtain ⟨m, h1, h3, h4⟩ := ten h
  refine ⟨m, h1, h3, fun hm => ?_⟩
  rw [number_norm k (by omega) (by omega), q0, if_neg (c := _ ∧ _) (fun q => c ⟨q.1, by omega⟩)]
  exact h4 hm
end
def re (t : Token) : Token := ⟨t.kind, 0, t.size, t.text, t.n⟩
theorem token_facts {s : List UInt8} {p : Nat} (call : Bool) (hl : s.length ≤ 10000) (hp : p < s.length) (k : Nat) (hk : 30000 < k) (tk : Token) (h : spec_l1token.f k s (p : Int) call = some (tk, 0)) :
  tk.place = p ∧ (∃ n : Nat, 0 < n ∧ tk.size = n ∧ p + n ≤ s.length) ∧ tk.text.length ≤ 100 := by
 have key : ∀ toks : List Token, toks.length ≤ 10000 → -10 ≤ lastEnd toks ∧ lastEnd toks ≤ 20000 → decide (lastEnd toks = (p : Int)) = call → tk.place = p ∧ (∃ n : Nat, 0 < n ∧ tk.size = n ∧ p + n ≤ s.length) ∧ tk.text.length ≤ 100 := by
  intro toks h1 h2 h3
  obtain ⟨tk', code, e1, _, e3⟩ := token_sim (L := ⟨s, (p : Int), toks, 0, 0⟩) hl p rfl rfl h1 hp h2 k k hk hk
  replace e1 : spec_l1token.f k s (p : Int) (decide (lastEnd toks = (p : Int))) = some (tk', code) := e1
  rw [h3, h] at e1
  injection e1 with e1; injection e1 with e1 e2
  subst e1; subst e2
  exact e3 rfl
 cases call with
 | false => exact key [] (by simp) (by unfold lastEnd; simp) (by unfold lastEnd; simp)
 | true => exact key [⟨1, (p : Int), 0, [], 0⟩] (by simp) (by unfold lastEnd; simp; omega) (by unfold lastEnd; simp)
def tzero : Token := ⟨0, 0, 0, [], 0⟩
def chain (c : UInt8) (call : Bool) (S T : Int → Option (Token × Int)) : Option (Token × Int) :=
 if (c.toNat : Int) = 33 then S 1 else if (c.toNat : Int) = 59 then S 1 else if (c.toNat : Int) = 39 then (if (c.toNat : Int) = 34 then T 4 else T 1) else if (c.toNat : Int) = 34 then T 4
 else if (c.toNat : Int) = 40 then (if call = true then S 6 else S 5) else if (c.toNat : Int) = 41 then S 5 else if (c.toNat : Int) = 91 then S 5 else if (c.toNat : Int) = 93 then S 5 else if (c.toNat : Int) = 123 then S 5
 else if (c.toNat : Int) = 125 then S 5 else if (c.toNat : Int) = 44 then S 5 else if (c.toNat : Int) = 124 then S 5 else some (tzero, 2)
theorem chain_loc {c : UInt8} {call : Bool} {S T S' T' : Int → Option (Token × Int)} {tk : Token} {r : Token × Int} (hS : ∀ q, S q = some (tk, 0) → S' q = some r) (hT : ∀ q, T q = some (tk, 0) → T' q = some r) (h6 : S 6 ≠ some (tk, 0)) (h : chain c call S T = some (tk, 0)) : chain c false S' T' = some r := by
 unfold chain at h ⊢
 by_cases a : (c.toNat : Int) = 33
 ·rw [if_pos a] at h ⊢; exact hS _ h
 rw [if_neg a] at h ⊢
 by_cases a : (c.toNat : Int) = 59
 ·rw [if_pos a] at h ⊢; exact hS _ h
 rw [if_neg a] at h ⊢
 by_cases a : (c.toNat : Int) = 39
 ·rw [if_pos a, if_neg (by omega)] at h ⊢; exact hT _ h
 rw [if_neg a] at h ⊢
 by_cases a : (c.toNat : Int) = 34
 ·rw [if_pos a] at h ⊢; exact hT _ h
 rw [if_neg a] at h ⊢
 by_cases a : (c.toNat : Int) = 40
 ·rw [if_pos a] at h ⊢
  cases call with
  | true => rw [if_pos rfl] at h; exact absurd h h6
  | false => rw [if_neg (by simp)] at h ⊢; exact hS _ h
 rw [if_neg a] at h ⊢
 by_cases a : (c.toNat : Int) = 41
 ·rw [if_pos a] at h ⊢; exact hS _ h
 rw [if_neg a] at h ⊢
 by_cases a : (c.toNat : Int) = 91
 ·rw [if_pos a] at h ⊢; exact hS _ h
 rw [if_neg a] at h ⊢
 by_cases a : (c.toNat : Int) = 93
 ·rw [if_pos a] at h ⊢; exact hS _ h
 rw [if_neg a] at h ⊢
 by_cases a : (c.toNat : Int) = 123
 ·rw [if_pos a] at h ⊢; exact hS _ h
 rw [if_neg a] at h ⊢
 by_cases a : (c.toNat : Int) = 125
 ·rw [if_pos a] at h ⊢; exact hS _ h
 rw [if_neg a] at h ⊢
 by_cases a : (c.toNat : Int) = 44
 ·rw [if_pos a] at h ⊢; exact hS _ h
 rw [if_neg a] at h ⊢
 by_cases a : (c.toNat : Int) = 124
 ·rw [if_pos a] at h ⊢; exact hS _ h
 rw [if_neg a] at h
 injection h with h; injection h with _ h; cases h
theorem token_norm (k : Nat) (call : Bool) {w : List UInt8} {p : Nat} (hw : w.length ≤ 10000) (hp : p < w.length) :
  spec_l1token.f k w (p : Int) call = if digitB (w.getD p 0) = true then ((spec_l1number.f k w (p : Int)).bind fun t => some ((⟨3, (p : Int), t.2.1, [], t.1⟩ : Token), t.2.2))
   else if alnumB (w.getD p 0) = true then ((spec_l1run.f k w (p : Int) false).bind fun t => spec_l1token.l0 0 w (p : Int) (if smallB (w.getD p 0) = true then 1 else 2) t)
   else if ((w.getD p 0).toNat : Int) = 46 ∧ (p + 1 = w.length ∨ blankB (w.getD (p + 1) 0) = true ∨ ((w.getD (p + 1) 0).toNat : Int) = 37) then some ((⟨7, (p : Int), 1, [], 0⟩ : Token), 0)
   else ((spec_l1symbol.f k (w.getD p 0)).bind fun t => if t = true then ((spec_l1run.f k w (p : Int) true).bind fun t => spec_l1token.l0 0 w (p : Int) 1 t) else chain (w.getD p 0) call (fun q => spec_l1token.l0 0 w (p : Int) q 1) (fun q => spec_l1token.l2 k w (p : Int) q)) := by
 rw [spec_l1token.f, if_pos (by omega), if_pos (by omega), Int.toNat_natCast, digitB_val, Option.bind_some]
 by_cases d : digitB (w.getD p 0) = true
 ·rw [if_pos d, if_pos d]
 rw [if_neg d, if_neg d, alnumB_val, Option.bind_some]
 by_cases a : alnumB (w.getD p 0) = true
 ·rw [if_pos a, if_pos a]
  cases spec_l1run.f k w (p : Int) false with
  | none => rfl
  | some v =>
   rw [Option.bind_some, Option.bind_some, smallB_val, Option.bind_some]
   cases smallB (w.getD p 0) <;> rfl
 rw [if_neg a, if_neg a, w1 (by omega)]
 by_cases c : ((w.getD p 0).toNat : Int) = 46
 ·rw [if_pos c]
  by_cases c1 : p + 1 = w.length
  ·rw [if_pos (by omega), if_pos (c := _ ∧ _) ⟨c, .inl c1⟩]
  ·rw [if_neg (by omega), if_pos (by omega), if_pos (by omega), Int.toNat_natCast, blankB_val, Option.bind_some]
   by_cases c2 : blankB (w.getD (p + 1) 0) = true
   ·rw [if_pos c2, if_pos (c := _ ∧ _) ⟨c, .inr (.inl c2)⟩]
   ·rw [if_neg c2]
    by_cases c3 : ((w.getD (p + 1) 0).toNat : Int) = 37
    ·rw [if_pos c3, if_pos (c := _ ∧ _) ⟨c, .inr (.inr c3)⟩]
    ·rw [if_neg c3, if_neg (c := _ ∧ _) (fun q => q.2.elim c1 (fun q => q.elim c2 c3))]
     rfl
 ·rw [if_neg c, if_neg (c := _ ∧ _) (fun q => c q.1)]
  rfl
section
variable {s u : List UInt8} {e N : Nat}
theorem tl_loc (A : AG s u e N) (kind : Int) (n : Nat) (hn : e + n ≤ s.length) (tk : Token) (hs : tk.size = (N : Int)) (h : spec_l1token.l0 0 s (e : Int) kind (n : Int) = some (tk, 0)) :
  n = N ∧ tk.kind = kind ∧ spec_l1token.l0 0 u 0 kind (n : Int) = some (re tk, 0) := by
 have ln := A.ln; have le := A.le; have lim := A.lim
 have lt : ∀ w : List UInt8, w.length ≤ 10000 → spec_l1copy.f w = some w := fun w hw => by rw [spec_l1copy.f, if_pos (by omega)]
 have ll : ((s.drop e).take (e + n - e)).length ≤ 10000 := by rw [List.length_take, List.length_drop]; omega
 rw [spec_l1token.l0, wa (by omega) (by omega), if_pos (by omega), if_pos (by omega)] at h
 simp only [Int.toNat_natCast] at h
 rw [lt _ ll, Option.bind_some] at h
 by_cases g : (((s.drop e).take (e + n - e)).length : Int) > 100
 ·rw [if_pos g] at h; injection h with h; injection h with _ h; cases h
 ·rw [if_neg g] at h
  injection h with h; injection h with h _
  subst h
  have hs' : (n : Int) = (N : Int) := hs
  obtain rfl : n = N := by omega
  refine ⟨rfl, rfl, ?_⟩
  rw [show e + n - e = n by omega, ← A.eq] at g ⊢
  show spec_l1token.l0 0 u ((0 : Nat) : Int) kind (n : Int) = _
  rw [spec_l1token.l0, wa (by omega) (by omega), if_pos (by omega), if_pos (by omega)]
  simp only [Int.toNat_natCast, List.drop_zero]
  rw [show 0 + n - 0 = n by omega, List.take_of_length_le (by omega), lt _ (by omega), Option.bind_some, if_neg g]
  rfl
theorem l2_loc (A : AG s u e N) (hN : 0 < N) (k : Nat) (kind : Int) (tk : Token) (hs : tk.size = (N : Int)) (h : spec_l1token.l2 k s (e : Int) kind = some (tk, 0)) :
  spec_l1token.l2 k u 0 kind = some (re tk, 0) := by
 have ln := A.ln; have le := A.le; have lim := A.lim
 have no : ∀ c : Int, c ≠ 0 → some ((⟨0, 0, 0, [], 0⟩ : Token), c) ≠ some (tk, 0) := fun c hc q => by injection q with q; injection q with _ q; exact hc q
 rw [spec_l1token.l2, spec_l1text.f, if_pos (by omega), if_pos (by omega), w1 (by omega)] at h
 cases ht : spec_l1text.l0 k s (e : Int) [] ((e + 1 : Nat) : Int) with
 | none => rw [ht] at h; cases h
 | some v =>
  obtain ⟨t, n⟩ := v
  rw [ht, Option.bind_some] at h
  by_cases g0 : n = 0
  ·rw [if_pos g0] at h; exact absurd h (no 2 (by decide))
  rw [if_neg g0] at h
  by_cases g1 : (t.length : Int) > 100
  ·rw [if_pos g1] at h; exact absurd h (no 3 (by decide))
  rw [if_neg g1] at h
  injection h with h; injection h with h _
  subst h
  have hs' : n = (N : Int) := hs
  rcases text_loc A 0 hN k 1 [] t n (by omega) (by omega) ht with h1 | ⟨m, h1, h2, h3, h4⟩
  ·exact absurd h1 g0
  ·have := h4 (by omega)
   rw [spec_l1token.l2, spec_l1text.f, if_pos (by omega), if_pos (by omega)]
   replace this : spec_l1text.l0 k u 0 [] (IntKind.i64.wrap (0 + 1)) = some (t, n) := this
   rw [this, Option.bind_some, if_neg g0, if_neg g1]
   rfl
theorem token_loc (A : AG s u e N) (hN : 0 < N) (k : Nat) (hk : 18 ≤ k) (call : Bool) (tk : Token) (hs : tk.size = (N : Int)) (h6 : tk.kind ≠ 6) (h7 : tk.kind ≠ 7) (hd : ¬ (tk.kind = 1 ∧ N = 1 ∧ ((s.getD e 0).toNat : Int) = 46)) (h : spec_l1token.f k s (e : Int) call = some (tk, 0)) :
  spec_l1token.f k u 0 false = some (re tk, 0) := by
 have ln := A.ln; have le := A.le; have lim := A.lim
 have q0 := A.b 0 e hN rfl
 show spec_l1token.f k u ((0 : Nat) : Int) false = _
 rw [token_norm k call lim (by omega)] at h
 rw [token_norm k false (by omega) (by omega), q0]
 by_cases d : digitB (s.getD e 0) = true
 ·rw [if_pos d] at h ⊢
  cases hn : spec_l1number.f k s (e : Int) with
  | none => rw [hn] at h; cases h
  | some v =>
   obtain ⟨r, n, c⟩ := v
   rw [hn, Option.bind_some] at h
   injection h with h; injection h with h h'
   subst h
   replace h' : c = 0 := h'
   subst h'
   have hs' : n = (N : Int) := hs
   obtain ⟨m, h1, h2, h3⟩ := number_loc A 0 hN k r n hn
   have := h3 (by omega)
   rw [this, Option.bind_some]
   rfl
 rw [if_neg d] at h ⊢
 have RUN : ∀ (b : Bool) (kind : Int), ((spec_l1run.f k s (e : Int) b).bind fun t => spec_l1token.l0 0 s (e : Int) kind t) = some (tk, 0) → ((spec_l1run.f k u ((0 : Nat) : Int) b).bind fun t => spec_l1token.l0 0 u ((0 : Nat) : Int) kind t) = some (re tk, 0) := by
  intro b kind q
  cases hn : spec_l1run.f k s (e : Int) b with
  | none => rw [hn] at q; cases q
  | some n =>
   rw [hn, Option.bind_some] at q
   obtain ⟨m, h1, h2, h3, h4⟩ := run_loc A 0 b k 0 n (by omega) hn
   subst h1
   obtain ⟨g1, _, g2⟩ := tl_loc A kind m (by omega) tk hs q
   have := h4 (by omega)
   rw [spec_l1run.f]
   replace this : spec_l1run.l0 k u ((0 : Nat) : Int) b 0 = some (m : Int) := this
   rw [this, Option.bind_some]
   exact g2
 by_cases a : alnumB (s.getD e 0) = true
 ·rw [if_pos a] at h ⊢
  exact RUN _ _ h
 rw [if_neg a] at h ⊢
 by_cases c : ((s.getD e 0).toNat : Int) = 46 ∧ (e + 1 = s.length ∨ blankB (s.getD (e + 1) 0) = true ∨ ((s.getD (e + 1) 0).toNat : Int) = 37)
 ·rw [if_pos c] at h
  injection h with h; injection h with h _
  subst h
  exact absurd rfl h7
 rw [if_neg c] at h
 cases hy : spec_l1symbol.f k (s.getD e 0) with
 | none => rw [hy] at h; cases h
 | some y =>
  rw [hy, Option.bind_some] at h
  cases y with
  | true =>
   rw [if_pos rfl] at h
   have R := RUN _ _ h
   have k1 : tk.kind = 1 := by
    cases hn : spec_l1run.f k s (e : Int) true with
    | none => rw [hn] at h; cases h
    | some n =>
     rw [hn, Option.bind_some] at h
     obtain ⟨m, h1, h2, h3, h4⟩ := run_loc A 0 true k 0 n (by omega) hn
     subst h1
     exact (tl_loc A 1 m (by omega) tk hs h).2.1
   rw [if_neg (c := _ ∧ _), Option.bind_some, if_pos rfl]
   ·exact R
   ·rintro ⟨x1, x2⟩
    by_cases n1 : N = 1
    ·exact hd ⟨k1, n1, x1⟩
    ·have b1 := A.b (0 + 1) (e + 1) (by omega) (by omega)
     rw [b1] at x2
     rcases x2 with x2 | x2
     ·omega
     ·exact c ⟨x1, .inr x2⟩
  | false =>
   rw [if_neg (by simp)] at h
   rw [if_neg (c := _ ∧ _), Option.bind_some, if_neg (by simp)]
   ·refine chain_loc (fun q hq => ?_) (fun q hq => ?_) ?_ h
    ·exact (tl_loc A q 1 (by omega) tk hs hq).2.2
    ·exact l2_loc A hN k q tk hs hq
    ·exact fun q => h6 (tl_loc A 6 1 (by omega) tk hs q).2.1
   ·rintro ⟨x1, x2⟩
    have e46 : s.getD e 0 = 46 := ch_eq (d := 46) x1
    rw [e46, symbol_val k hk] at hy
    injection hy with hy
    exact absurd hy (by decide)
end
theorem toImpl {u : List UInt8} {r : List Token × Int × Int} (k : Nat) (hk : 70000 < k) (hu : u.length ≤ 10000) (h : spec_Lex.l0 k u [] 0 (-1) = some r) : ∀ k', 70000 < k' → impl_Lex.f k' u = some r := by
 intro k' hk'
 obtain ⟨r', c, q, e1, e2, _⟩ := lex_sim u k k' hk hk'
 rw [spec_Lex.f, if_neg (by omega), h] at e1
 rw [e2, ← e1]
theorem lone {w : List UInt8} {t : Token} {k : Nat} (h0 : 0 < w.length) (hl : w.length ≤ 10000) (hk : 0 < k) (sk : spec_l1skip.f k w 0 = some 0) (tl : spec_l1token.f k w 0 false = some (t, 0)) (hs : t.size = (w.length : Int)) : spec_Lex.l0 (k + 1) w [] 0 (-1) = some ([t], 0, 0) := by
 rw [spec_Lex.l0, if_pos (by omega), sk, Option.bind_some, if_neg (by omega), if_neg (by omega), show decide ((-1 : Int) = 0) = false from rfl, tl, Option.bind_some, if_neg (by simp), if_pos (by simp)]
 have fin : ∀ z : Int, spec_Lex.l0 k w ([] ++ [t]) (IntKind.i64.wrap (0 + t.size)) z = some ([t], 0, 0) := by
  intro z
  obtain ⟨k, rfl⟩ : ∃ q, k = q + 1 := ⟨k - 1, by omega⟩
  rw [hs, wrap_id (by omega) (by omega), Int.zero_add, spec_Lex.l0, if_neg (by omega)]
  rfl
 by_cases q1 : t.kind = 1
 ·rw [if_pos q1]; exact fin _
 ·rw [if_neg q1]; exact fin _
theorem piece {s : List UInt8} {e N : Nat} (h1 : e + N ≤ s.length) (h2 : s.length ≤ 10000) : AG s ((s.drop e).take N) e N := ⟨rfl, h1, h2⟩
def GAP (s : List UInt8) (e p : Nat) : Prop := e ≤ p ∧ p ≤ s.length ∧ ∀ k, 70000 < k → impl_Lex.f k ((s.drop e).take (p - e)) = some ([], 0, 0)
def ONE (s : List UInt8) (p n : Nat) (t : Token) : Prop := t.kind ≠ 6 → t.kind ≠ 7 → ¬ (t.kind = 1 ∧ n = 1 ∧ ((s.getD p 0).toNat : Int) = 46) → ∀ k, 70000 < k → impl_Lex.f k ((s.drop p).take n) = some ([re t], 0, 0)
def LXR (s : List UInt8) : Nat → List Token → Prop
 | e, [] => GAP s e s.length
 | e, t :: ts => ∃ p n : Nat, GAP s e p ∧ t.place = (p : Int) ∧ t.size = (n : Int) ∧ 1 ≤ n ∧ p + n ≤ s.length ∧ t.text.length ≤ 100 ∧ ONE s p n t ∧ LXR s (p + n) ts
theorem lex_rel {s : List UInt8} (hl : s.length ≤ 10000) (r : List Token) (z9 : Int) : ∀ (k e a k1 : Nat) (toks : List Token) (last : Int), k ≤ k1 → e ≤ a → a ≤ s.length → 71001 + (s.length - a) ≤ k →
  (∀ u N, AG s u e N → a ≤ e + N → spec_Lex.l0 k1 u [] 0 (-1) = spec_Lex.l0 k u [] ((a - e : Nat) : Int) (-1)) →
  spec_Lex.l0 k s toks (a : Int) last = some (r, 0, z9) → ∃ ts, r = toks ++ ts ∧ LXR s e ts := by
 intro k
 induction k with
 | zero => intro e a k1 toks last _ _ _ h; omega
 | succ k ih =>
  intro e a k1 toks last hk1 hea hal hk G h
  have no : ∀ (c q : Int), c ≠ 0 → some (([] : List Token), c, q) ≠ some (r, 0, z9) := fun c q hc x => by injection x with x; injection x with _ x; injection x with x _; exact hc x
  -- the gap ends here
  have gap : GAP s e a := by
   refine ⟨hea, hal, toImpl k1 (by omega) (by rw [List.length_take, List.length_drop]; omega) ?_⟩
   have A := piece (s := s) (e := e) (N := a - e) (by omega) hl
   have ln := A.ln
   rw [G _ _ A (by omega), spec_Lex.l0, if_neg (by omega)]
  rw [spec_Lex.l0] at h
  by_cases c : a < s.length
  ·rw [if_pos (by omega)] at h
   cases hs : spec_l1skip.f k s (a : Int) with
   | none => rw [hs] at h; cases h
   | some n =>
    rw [hs, Option.bind_some] at h
    -- how the skip reads in a piece
    have SK : ∀ u N, AG s u e N → a < e + N → n < 0 ∨ ∃ m : Nat, n = (m : Int) ∧ a + m ≤ s.length ∧ (a + m ≤ e + N → spec_l1skip.f k u ((a - e : Nat) : Int) = some n) := by
     intro u N A hN
     have hs' : spec_l1skip.f k s ((e + (a - e) : Nat) : Int) = some n := by rw [show e + (a - e) = a by omega]; exact hs
     rcases skip_loc A (a - e) (by omega) k n hs' with h1 | ⟨m, h1, h2, h3⟩
     ·exact .inl h1
     ·exact .inr ⟨m, h1, by omega, fun q => h3 (by omega)⟩
    by_cases n0 : n > 0
    ·rw [if_pos n0] at h
     have A0 := piece (s := s) (e := e) (N := s.length - e) (by omega) hl
     rcases SK _ _ A0 (by omega) with h1 | ⟨m, rfl, h2, _⟩
     ·omega
     rw [wa (by omega) (by omega)] at h
     refine ih e (a + m) k1 toks last (by omega) (by omega) h2 (by omega) (fun u N A hN => ?_) h
     have ln := A.ln
     rw [G u N A (by omega), spec_Lex.l0, if_pos (by omega)]
     rcases SK u N A (by omega) with h1 | ⟨m', h1, _, h3⟩
     ·omega
     ·rw [h3 (by omega), Option.bind_some, if_pos n0, wa (by omega) (by omega), show a - e + m = a + m - e by omega]
    rw [if_neg n0] at h
    by_cases n1 : n < 0
    ·rw [if_pos n1] at h; exact absurd h (no _ _ (by decide))
    rw [if_neg n1] at h
    obtain rfl : n = 0 := by omega
    cases ht : spec_l1token.f k s (a : Int) (decide (last = (a : Int))) with
    | none => rw [ht] at h; cases h
    | some v =>
     obtain ⟨tk, code⟩ := v
     rw [ht, Option.bind_some] at h
     by_cases g0 : code = 0
     ·subst g0
      obtain ⟨f1, ⟨n, f2, f3, f4⟩, f5⟩ := token_facts _ hl c k (by omega) tk ht
      rw [if_neg (by simp)] at h
      have A := piece (s := s) (e := a) (N := n) (by omega) hl
      have ln := A.ln
      have one : ONE s a n tk := by
       intro k6 k7 kd
       refine toImpl (k + 1) (by omega) (by omega) ?_
       have sk : spec_l1skip.f k ((s.drop a).take n) 0 = some 0 := by
        rcases skip_loc A 0 f2 k 0 hs with h1 | ⟨m, h1, _, h3⟩
        ·omega
        ·exact h3 (by omega)
       have tl := token_loc A f2 k (by omega) _ tk f3 k6 k7 (fun q => kd ⟨q.1, q.2.1, q.2.2⟩) ht
       exact lone (by omega) (by omega) (by omega) sk tl (by show tk.size = _; rw [f3, ln])
      have nxt : ∀ z : Int, spec_Lex.l0 k s (toks ++ [tk]) (IntKind.i64.wrap ((a : Int) + tk.size)) z = some (r, 0, z9) → ∃ ts, r = toks ++ ts ∧ LXR s e ts := by
       intro z hz
       rw [f3, wa (by omega) (by omega)] at hz
       obtain ⟨ts, t1, t2⟩ := ih (a + n) (a + n) k (toks ++ [tk]) z (Nat.le_refl _) (Nat.le_refl _) f4 (by omega) (fun u N A _ => by rw [Nat.sub_self]; rfl) hz
       exact ⟨tk :: ts, by rw [t1, List.append_assoc]; rfl, a, n, gap, f1, f3, f2, f4, f5, one, t2⟩
      by_cases z : toks.length + 1 ≤ 2513169434916
      ·rw [if_pos z] at h
       by_cases q1 : tk.kind = 1
       ·rw [if_pos q1] at h; exact nxt _ h
       ·rw [if_neg q1] at h; exact nxt _ h
      ·rw [if_neg z] at h; cases h
     ·rw [if_pos g0] at h; exact absurd h (no _ _ g0)
  ·rw [if_neg (by omega)] at h
   injection h with h; injection h with h _
   obtain rfl : a = s.length := by omega
   exact ⟨[], by rw [h, List.append_nil], gap⟩
theorem lex_all (s : List UInt8) : ∃ (r : List Token) (c q : Int), (∀ k, 70000 < k → impl_Lex.f k s = some (r, c, q)) ∧ (∀ k, 70000 < k → spec_Lex.f k s = some (r, c, q)) ∧ okToks r ∧ (c = 0 → s.length ≤ 10000 ∧ LXR s 0 r) := by
 obtain ⟨r, c, q, e1, e2, e3⟩ := lex_sim s 100000 100000 (by omega) (by omega)
 refine ⟨r, c, q, fun k hk => ?_, fun k hk => ?_, e3, fun hc => ?_⟩
 ·obtain ⟨r', c', q', f1, f2, _⟩ := lex_sim s 100000 k (by omega) hk
  rw [f2, ← f1, e1]
 ·obtain ⟨r', c', q', f1, f2, _⟩ := lex_sim s k 100000 hk (by omega)
  rw [f1, ← f2, e2]
 ·subst hc
  rw [spec_Lex.f] at e1
  by_cases hl : (s.length : Int) > 10000
  ·rw [if_pos hl] at e1; injection e1 with e1; injection e1 with _ e1; injection e1 with e1 _; exact absurd e1 (by decide)
  ·rw [if_neg hl] at e1
   obtain ⟨ts, t1, t2⟩ := lex_rel (by omega) r q 100000 0 0 100000 [] (-1) (Nat.le_refl _) (Nat.le_refl _) (Nat.zero_le _) (by omega) (fun u N A _ => rfl) e1
   rw [List.nil_append] at t1
   exact ⟨by omega, by rw [t1]; exact t2⟩
end Go.Proofs.YtdkbfcmekppnmaaGreatDoor
