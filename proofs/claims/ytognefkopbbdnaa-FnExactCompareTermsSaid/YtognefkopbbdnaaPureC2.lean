import Derived.Test.YtognefkopbbdnaaPureB
namespace Go.Proofs.Ytognefkopbbdnaa
open Go.Sx
set_option linter.unusedVariables false
/-! ### the order of cell lists -/
def cmp : List Cell → List Cell → Int
  | a :: x, b :: y =>
    if a.kind ≠ b.kind then (if a.kind < b.kind then -1 else 1)
    else if a.n ≠ b.n then (if a.n < b.n then -1 else 1)
    else if a.text ≠ b.text then (if Op.bytesLess a.text b.text = true then -1 else 1)
    else cmp x y
  | _, _ => 0
theorem l2compare_l0 (xs ys : List Cell) (hl : xs.length ≤ 2000) : ∀ (m k i : Nat), xs.length - i = m → i ≤ xs.length → m < k → spec_l2compare.l0 k xs ys (i : Int) = some (cmp (xs.drop i) (ys.drop i)) := by
  intro m
  induction m with
  | zero =>
    intro k i h1 h2 h3
    obtain ⟨k, rfl⟩ : ∃ q, k = q + 1 := ⟨k - 1, by omega⟩
    rw [spec_l2compare.l0, if_neg (by omega), List.drop_of_length_le (show xs.length ≤ i by omega)]
    rfl
  | succ m ih =>
    intro k i h1 h2 h3
    obtain ⟨k, rfl⟩ : ∃ q, k = q + 1 := ⟨k - 1, by omega⟩
    have hi : i < xs.length := by omega
    have hg : xs.getD i z65 = xs[i] := by rw [List.getD_eq_getElem?_getD, List.getElem?_eq_getElem hi]; rfl
    rw [spec_l2compare.l0, if_pos (by omega), Int.toNat_natCast, hg]
    by_cases hj : i < ys.length
    · have hg2 : ys.getD i z65 = ys[i] := by rw [List.getD_eq_getElem?_getD, List.getElem?_eq_getElem hj]; rfl
      rw [if_pos (by omega), if_pos (by omega), hg2, wrap_nat (by omega), ih k (i + 1) (by omega) (by omega) (by omega), List.drop_eq_getElem_cons hi, List.drop_eq_getElem_cons hj, cmp]
      split
      · simp [spec_l2sign.f]; split <;> rfl
      · split
        · simp [spec_l2sign.f]; split <;> rfl
        · split
          · simp [spec_l2sign.f]; split <;> rfl
          · rfl
    · rw [if_neg (by omega), List.drop_of_length_le (show ys.length ≤ i by omega)]
      cases xs.drop i <;> rfl
theorem l2compare_val (xs ys : List Cell) (k : Nat) (hl : xs.length ≤ 2000) (hk : xs.length < k) : spec_l2compare.f k xs ys = some (cmp xs ys) := by
  rw [spec_l2compare.f]
  exact l2compare_l0 xs ys hl xs.length k 0 rfl (by omega) hk
theorem cInt (a b : Int) : impl_compareInt.f a b = some (if a < b then -1 else if b < a then 1 else 0) := by
  rw [impl_compareInt.f]
  split
  · rfl
  · split <;> rfl
theorem cText {a b : List UInt8} (h : a ≠ b) : impl_compareText.f a b = some (if Op.bytesLess a b = true then -1 else 1) := by
  rw [impl_compareText.f]
  split
  · rfl
  · rename_i h1
    rw [if_pos (by simp [h, Bool.not_eq_true] at h1 ⊢; simp [h1, h])]
theorem bytesLess_self : ∀ s : List UInt8, Op.bytesLess s s = false
  | [] => rfl
  | a :: s => by simp [Op.bytesLess, bytesLess_self s]
theorem cmp_cons (a n a' n' : Int) (s s' : List UInt8) (x y : List Cell) : cmp (⟨a, n, s⟩ :: x) (⟨a', n', s'⟩ :: y) = if a = a' then if n = n' then if s = s' then cmp x y else (if Op.bytesLess s s' = true then -1 else 1) else (if n < n' then -1 else 1) else (if a < a' then -1 else 1) := by
  rw [cmp]
  show (if a ≠ a' then _ else if n ≠ n' then _ else if s ≠ s' then _ else _) = _
  by_cases h1 : a = a'
  · rw [if_neg (by simp [h1]), if_pos h1]
    by_cases h2 : n = n'
    · rw [if_neg (by simp [h2]), if_pos h2]
      by_cases h3 : s = s'
      · rw [if_neg (by simp [h3]), if_pos h3]
      · rw [if_pos h3, if_neg h3]
    · rw [if_pos h2, if_neg h2]
  · rw [if_pos h1, if_neg h1]
theorem comp_f (k : Nat) (a n a' n' : Int) (s s' : List UInt8) (us us' : List Tm) : impl_compare.f (k + 3) (.mk a n s us) (.mk a' n' s' us') =
    if a = a' then (if a = 0 ∨ a = 1 then (impl_compareInt.f n n').bind fun t => some t else if a = 2 then (impl_compareText.f s s').bind fun t => some t else if n = n' then if s = s' then impl_compare.l2 k (.mk a n s us) (.mk a' n' s' us') 0 else (impl_compareText.f s s').bind fun t => some t else (impl_compareInt.f n n').bind fun t => some t) else (impl_compareInt.f a a').bind fun t => some t := by
  have hl1 : ∀ b : Bool, impl_compare.l1 (k + 2) (.mk a n s us) (.mk a' n' s' us') b = if b = true then (impl_compareInt.f n n').bind fun t => some t else if a = 2 then (impl_compareText.f s s').bind fun t => some t else impl_compare.l0 (k + 1) (.mk a n s us) (.mk a' n' s' us') := fun b => by rw [impl_compare.l1]; rfl
  have hl0 : impl_compare.l0 (k + 1) (.mk a n s us) (.mk a' n' s' us') = if n = n' then if s = s' then impl_compare.l2 k (.mk a n s us) (.mk a' n' s' us') 0 else (impl_compareText.f s s').bind fun t => some t else (impl_compareInt.f n n').bind fun t => some t := by
    rw [impl_compare.l0]
    show (if n ≠ n' then _ else if s ≠ s' then _ else _) = _
    by_cases h2 : n = n'
    · rw [if_neg (by simp [h2]), if_pos h2]
      by_cases h3 : s = s'
      · rw [if_neg (by simp [h3]), if_pos h3]
      · rw [if_pos h3, if_neg h3]; rfl
    · rw [if_pos h2, if_neg h2]; rfl
  rw [impl_compare.f]
  show (if a ≠ a' then _ else if a = 0 then impl_compare.l1 (k + 2) (.mk a n s us) (.mk a' n' s' us') (decide (a = 0)) else impl_compare.l1 (k + 2) (.mk a n s us) (.mk a' n' s' us') (decide (a = 1))) = _
  by_cases h1 : a = a'
  · rw [if_neg (by simp [h1]), if_pos h1, hl1, hl1, hl0]
    by_cases h0 : a = 0
    · simp [h0]
    · by_cases h01 : a = 1
      · simp [h01]
      · simp [h0, h01]
  · rw [if_pos h1, if_neg h1]; rfl
mutual
theorem cmp_flat : ∀ (t u : Tm) (k : Nat), Wf t → Wf u → 5 * (flat t).length < k → (flat t).length ≤ 2000 →
    ∃ v, impl_compare.f k t u = some v ∧ ∀ r1 r2, cmp (flat t ++ r1) (flat u ++ r2) = if v ≠ 0 then v else cmp r1 r2
  | .mk a n s us, .mk a' n' s' us', k, hw, hw', hk, hl => by
    simp only [flat, List.length_cons] at hk hl
    obtain ⟨k, rfl⟩ : ∃ q, k = q + 3 := ⟨k - 3, by omega⟩
    simp only [Wf] at hw hw'
    obtain ⟨w1, w2, w3, w4, w5, w6⟩ := hw
    obtain ⟨w1', w2', w3', w4', w5', w6'⟩ := hw'
    have sgn : ∀ x y : Int, x ≠ y → ((if x < y then (-1 : Int) else if y < x then 1 else 0) = if x < y then -1 else 1) ∧ (if x < y then (-1 : Int) else 1) ≠ 0 := fun x y h => by
      constructor
      · split
        · rfl
        · rw [if_pos (by omega)]
      · split <;> omega
    have key : ∀ v : Int, v ≠ 0 → ∀ z : Int, v = if v ≠ 0 then v else z := fun v hv z => by rw [if_pos hv]
    rw [comp_f]
    simp only [flat, List.cons_append]
    by_cases h1 : a = a'
    · subst h1
      rw [if_pos rfl]
      by_cases h01 : a = 0 ∨ a = 1
      · rw [if_pos h01, cInt, w3 h01, w3' h01, w2 (by omega), w2' (by omega)]
        refine ⟨_, rfl, fun r1 r2 => ?_⟩
        rw [cmp_cons, if_pos rfl]
        by_cases hn : n = n'
        · subst hn; simp [flats]
        · rw [if_neg hn, (sgn n n' hn).1]
          exact key _ (sgn n n' hn).2 _
      · rw [if_neg h01]
        by_cases h2 : a = 2
        · rw [if_pos h2, w4 h2, w4' h2, w2 (by omega), w2' (by omega)]
          by_cases hs : s = s'
          · subst hs
            refine ⟨0, ?_, fun r1 r2 => ?_⟩
            · have : Op.bytesLess s s = false := bytesLess_self s
              rw [impl_compareText.f, if_neg (by simp [this]), if_neg (by simp)]; rfl
            · rw [cmp_cons]; simp [flats]
          · rw [cText hs]
            refine ⟨_, rfl, fun r1 r2 => ?_⟩
            rw [cmp_cons, if_pos rfl, if_pos rfl, if_neg hs]
            refine key _ ?_ _
            split <;> omega
        · rw [if_neg h2]
          have h3 : a = 3 := by omega
          by_cases hn : n = n'
          · subst hn
            rw [if_pos rfl]
            by_cases hs : s = s'
            · subst hs
              rw [if_pos rfl]
              obtain ⟨_, b2, b3⟩ := w1 h3
              obtain ⟨_, _, b3'⟩ := w1' h3
              obtain ⟨v, e1, e2⟩ := cmp_flats us us' k (.mk a n s us) (.mk a n s us') [] [] (by omega) rfl rfl rfl w6 w6' (by omega) (by simp; omega) (by omega)
              refine ⟨v, e1, fun r1 r2 => ?_⟩
              rw [cmp_cons, if_pos rfl, if_pos rfl, if_pos rfl]
              exact e2 r1 r2
            · rw [if_neg hs, cText hs]
              refine ⟨_, rfl, fun r1 r2 => ?_⟩
              rw [cmp_cons, if_pos rfl, if_pos rfl, if_neg hs]
              refine key _ ?_ _
              split <;> omega
          · rw [if_neg hn, cInt]
            refine ⟨_, rfl, fun r1 r2 => ?_⟩
            rw [cmp_cons, if_pos rfl, if_neg hn, (sgn n n' hn).1]
            exact key _ (sgn n n' hn).2 _
    · rw [if_neg h1, cInt]
      refine ⟨_, rfl, fun r1 r2 => ?_⟩
      rw [cmp_cons, if_neg h1, (sgn a a' h1).1]
      exact key _ (sgn a a' h1).2 _
theorem cmp_flats : ∀ (us vs : List Tm) (k : Nat) (t u : Tm) (p q : List Tm), us.length = vs.length → t.args = p ++ us → u.args = q ++ vs → p.length = q.length → Wfs us → Wfs vs → 5 * (flats us).length + 1 < k → p.length + us.length ≤ 20 → (flats us).length ≤ 2000 →
    ∃ v, impl_compare.l2 k t u (p.length : Int) = some v ∧ ∀ r1 r2, cmp (flats us ++ r1) (flats vs ++ r2) = if v ≠ 0 then v else cmp r1 r2
  | [], [], k, t, u, p, q, h1, h2, h3, h4, hw, hw', hk, hb, hl => by
    obtain ⟨k, rfl⟩ : ∃ q, k = q + 1 := ⟨k - 1, by omega⟩
    rw [impl_compare.l2, if_neg (by rw [h2]; simp)]
    exact ⟨0, rfl, fun r1 r2 => by simp [flats]⟩
  | [], _ :: _, k, t, u, p, q, h1, h2, h3, h4, hw, hw', hk, hb, hl => by simp at h1
  | _ :: _, [], k, t, u, p, q, h1, h2, h3, h4, hw, hw', hk, hb, hl => by simp at h1
  | a :: us, b :: vs, k, t, u, p, q, h1, h2, h3, h4, hw, hw', hk, hb, hl => by
    obtain ⟨k, rfl⟩ : ∃ q, k = q + 1 := ⟨k - 1, by omega⟩
    simp only [Wfs] at hw hw'
    simp only [flats, List.length_append] at hk hl
    simp only [List.length_cons] at h1 hb
    have hp := flat_pos a
    obtain ⟨v, e1, e2⟩ := cmp_flat a b k hw.1 hw'.1 (by omega) (by omega)
    obtain ⟨v2, f1, f2⟩ := cmp_flats us vs k t u (p ++ [a]) (q ++ [b]) (by omega) (by rw [h2]; simp) (by rw [h3]; simp) (by simp [h4]) hw.2 hw'.2 (by omega) (by simp; omega) (by omega)
    have g1 : t.args.getD p.length (Tm.mk 0 0 [] []) = a := by rw [h2]; simp
    have g2 : u.args.getD p.length (Tm.mk 0 0 [] []) = b := by rw [h3, h4]; simp
    rw [impl_compare.l2, if_pos (by rw [h2]; simp; omega), if_pos (by omega), if_pos (by rw [h3]; simp; omega), Int.toNat_natCast, g1, g2, e1, Option.bind_some]
    by_cases hv : v = 0
    · rw [if_neg (by simp [hv]), wrap_nat (by omega)]
      refine ⟨v2, by simpa using f1, fun r1 r2 => ?_⟩
      simp only [flats, List.append_assoc]
      rw [e2, if_neg (by simp [hv]), f2]
    · rw [if_pos hv]
      refine ⟨v, rfl, fun r1 r2 => ?_⟩
      simp only [flats, List.append_assoc]
      rw [e2]
      simp [hv]
end
end Go.Proofs.Ytognefkopbbdnaa
