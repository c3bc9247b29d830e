import Derived.Test.YtognefkopbbdnaaPuFu7
namespace Go.Proofs.Ytognefkopbbdnaa
open Go.Sx Go.Sy
set_option linter.unusedVariables false
set_option linter.unusedSimpArgs false
set_option linter.unusedSectionVars false
set_option maxRecDepth 4000
theorem okc_parts {k n : Int} {s : List UInt8} (h : Okc ⟨k, n, s⟩) : (k = 0 ∨ k = 1 ∨ k = 2 ∨ k = 3) ∧ (k = 0 ∨ k = 1 → s = []) ∧ (k = 2 → n = 0) ∧ (k = 3 → 1 ≤ n ∧ n ≤ 20) := by
  unfold Okc at h
  simp only at h
  rcases h with ⟨h, _, _, h2⟩ | ⟨h, _, _, h2⟩ | ⟨h, h2, _⟩ | ⟨h, h2, h3, _⟩
  · exact ⟨.inl h, fun _ => h2, fun q => by omega, fun q => by omega⟩
  · exact ⟨.inr (.inl h), fun _ => h2, fun q => by omega, fun q => by omega⟩
  · exact ⟨.inr (.inr (.inl h)), fun q => by omega, fun _ => h2, fun q => by omega⟩
  · exact ⟨.inr (.inr (.inr h)), fun q => by omega, fun q => by omega, fun _ => ⟨h2, h3⟩⟩
/-! ### the order of cell lists -/
def cmp : List Cell → List Cell → Int
  | a :: x, b :: y =>
    if a.kind ≠ b.kind then (if a.kind < b.kind then -1 else 1)
    else if a.n ≠ b.n then (if a.n < b.n then -1 else 1)
    else if a.text ≠ b.text then (if Op.bytesLess a.text b.text = true then -1 else 1)
    else cmp x y
  | _, _ => 0
theorem l2compare_l0 (xs ys : List Cell) (hl : xs.length ≤ 2000) : ∀ (m k i : Nat), xs.length - i = m → i ≤ xs.length → m < k → spec_l2compare.l0 k xs ys (i : Int) = some (cmp (xs.drop i) (ys.drop i)) := by
  intro m
  induction m with
  | zero =>
    intro k i h1 h2 h3
    obtain ⟨k, rfl⟩ : ∃ q, k = q + 1 := ⟨k - 1, by omega⟩
    rw [spec_l2compare.l0, if_neg (by omega), List.drop_of_length_le (show xs.length ≤ i by omega)]
    rfl
  | succ m ih =>
    intro k i h1 h2 h3
    obtain ⟨k, rfl⟩ : ∃ q, k = q + 1 := ⟨k - 1, by omega⟩
    have hi : i < xs.length := by omega
    have hg : xs.getD i z65 = xs[i] := by rw [List.getD_eq_getElem?_getD, List.getElem?_eq_getElem hi]; rfl
    rw [spec_l2compare.l0, if_pos (by omega), Int.toNat_natCast, hg]
    by_cases hj : i < ys.length
    · have hg2 : ys.getD i z65 = ys[i] := by rw [List.getD_eq_getElem?_getD, List.getElem?_eq_getElem hj]; rfl
      rw [if_pos (by omega), if_pos (by omega), hg2, wrap_nat (by omega), ih k (i + 1) (by omega) (by omega) (by omega), List.drop_eq_getElem_cons hi, List.drop_eq_getElem_cons hj, cmp]
      split
      · simp [spec_l2sign.f]; split <;> rfl
      · split
        · simp [spec_l2sign.f]; split <;> rfl
        · split
          · simp [spec_l2sign.f]; split <;> rfl
          · rfl
    · rw [if_neg (by omega), List.drop_of_length_le (show ys.length ≤ i by omega)]
      cases xs.drop i <;> rfl
theorem l2compare_val (xs ys : List Cell) (k : Nat) (hl : xs.length ≤ 2000) (hk : xs.length < k) : spec_l2compare.f k xs ys = some (cmp xs ys) := by
  rw [spec_l2compare.f]
  exact l2compare_l0 xs ys hl xs.length k 0 rfl (by omega) hk
theorem cInt (a b : Int) : impl_compareInt.f a b = some (if a < b then -1 else if b < a then 1 else 0) := by
  rw [impl_compareInt.f]
  split
  · rfl
  · split <;> rfl
theorem cText {a b : List UInt8} (h : a ≠ b) : impl_compareText.f a b = some (if Op.bytesLess a b = true then -1 else 1) := by
  rw [impl_compareText.f]
  split
  · rfl
  · rename_i h1
    rw [if_pos (by simp [h, Bool.not_eq_true] at h1 ⊢; simp [h1, h])]
theorem bytesLess_self : ∀ s : List UInt8, Op.bytesLess s s = false
  | [] => rfl
  | a :: s => by simp [Op.bytesLess, bytesLess_self s]
theorem cmp_cons (a n a' n' : Int) (s s' : List UInt8) (x y : List Cell) : cmp (⟨a, n, s⟩ :: x) (⟨a', n', s'⟩ :: y) = if a = a' then if n = n' then if s = s' then cmp x y else (if Op.bytesLess s s' = true then -1 else 1) else (if n < n' then -1 else 1) else (if a < a' then -1 else 1) := by
  rw [cmp]
  show (if a ≠ a' then _ else if n ≠ n' then _ else if s ≠ s' then _ else _) = _
  by_cases h1 : a = a'
  · rw [if_neg (by simp [h1]), if_pos h1]
    by_cases h2 : n = n'
    · rw [if_neg (by simp [h2]), if_pos h2]
      by_cases h3 : s = s'
      · rw [if_neg (by simp [h3]), if_pos h3]
      · rw [if_pos h3, if_neg h3]
    · rw [if_pos h2, if_neg h2]
  · rw [if_pos h1, if_neg h1]
theorem comp_f (k : Nat) (a n a' n' : Int) (s s' : List UInt8) (us us' : List Tm) : impl_compare.f (k + 2) (.mk a n s us) (.mk a' n' s' us') =
    if a = a' then (if a = 0 ∨ a = 1 then (impl_compareInt.f n n').bind fun t => some t else if a = 2 then (impl_compareText.f s s').bind fun t => some t else if n = n' then if s = s' then impl_compare.l1 k (.mk a n s us) (.mk a' n' s' us') 0 else (impl_compareText.f s s').bind fun t => some t else (impl_compareInt.f n n').bind fun t => some t) else (impl_compareInt.f a a').bind fun t => some t := by
  have hl1 : ∀ b : Bool, impl_compare.l0 (k + 1) (.mk a n s us) (.mk a' n' s' us') b = if b = true then (impl_compareInt.f n n').bind fun t => some t else if a = 2 then (impl_compareText.f s s').bind fun t => some t else if n = n' then if s = s' then impl_compare.l1 k (.mk a n s us) (.mk a' n' s' us') 0 else (impl_compareText.f s s').bind fun t => some t else (impl_compareInt.f n n').bind fun t => some t := fun b => by
    rw [impl_compare.l0]
    show (if b = true then _ else if a = 2 then _ else if n ≠ n' then _ else if s ≠ s' then _ else _) = _
    by_cases h2 : n = n'
    · rw [if_neg (c := n ≠ n') (by simp [h2]), if_pos h2]
      by_cases h3 : s = s'
      · rw [if_neg (c := s ≠ s') (by simp [h3]), if_pos h3]; rfl
      · rw [if_pos h3, if_neg h3]; rfl
    · rw [if_pos h2, if_neg h2]; rfl
  rw [impl_compare.f]
  show (if a ≠ a' then _ else if a = 0 then impl_compare.l0 (k + 1) (.mk a n s us) (.mk a' n' s' us') (decide (a = 0)) else impl_compare.l0 (k + 1) (.mk a n s us) (.mk a' n' s' us') (decide (a = 1))) = _
  by_cases h1 : a = a'
  · rw [if_neg (by simp [h1]), if_pos h1, hl1, hl1]
    by_cases h0 : a = 0
    · simp [h0]
    · by_cases h01 : a = 1
      · simp [h01]
      · simp [h0, h01]
  · rw [if_pos h1, if_neg h1]; rfl
mutual
theorem cmp_flat : ∀ (t u : Tm) (k : Nat), Wf t → Wf u → 5 * (flat t).length < k → (flat t).length ≤ 2000 →
    ∃ v, impl_compare.f k t u = some v ∧ ∀ r1 r2, cmp (flat t ++ r1) (flat u ++ r2) = if v ≠ 0 then v else cmp r1 r2
  | .mk a n s us, .mk a' n' s' us', k, hw, hw', hk, hl => by
    simp only [flat, List.length_cons] at hk hl
    obtain ⟨k, rfl⟩ : ∃ q, k = q + 2 := ⟨k - 2, by omega⟩
    simp only [Wf] at hw hw'
    obtain ⟨w0, w1, w2, w6⟩ := hw
    obtain ⟨w0', w1', w2', w6'⟩ := hw'
    obtain ⟨w5, w3, w4, w7⟩ := okc_parts w0
    obtain ⟨w5', w3', w4', w7'⟩ := okc_parts w0'
    have sgn : ∀ x y : Int, x ≠ y → ((if x < y then (-1 : Int) else if y < x then 1 else 0) = if x < y then -1 else 1) ∧ (if x < y then (-1 : Int) else 1) ≠ 0 := fun x y h => by
      constructor
      · split
        · rfl
        · rw [if_pos (by omega)]
      · split <;> omega
    have key : ∀ v : Int, v ≠ 0 → ∀ z : Int, v = if v ≠ 0 then v else z := fun v hv z => by rw [if_pos hv]
    rw [comp_f]
    simp only [flat, List.cons_append]
    by_cases h1 : a = a'
    · subst h1
      rw [if_pos rfl]
      by_cases h01 : a = 0 ∨ a = 1
      · rw [if_pos h01, cInt, w3 h01, w3' h01, w2 (by omega), w2' (by omega)]
        refine ⟨_, rfl, fun r1 r2 => ?_⟩
        rw [cmp_cons, if_pos rfl]
        by_cases hn : n = n'
        · subst hn; simp [flats]
        · rw [if_neg hn, (sgn n n' hn).1]
          exact key _ (sgn n n' hn).2 _
      · rw [if_neg h01]
        by_cases h2 : a = 2
        · rw [if_pos h2, w4 h2, w4' h2, w2 (by omega), w2' (by omega)]
          by_cases hs : s = s'
          · subst hs
            refine ⟨0, ?_, fun r1 r2 => ?_⟩
            · have : Op.bytesLess s s = false := bytesLess_self s
              rw [impl_compareText.f, if_neg (by simp [this]), if_neg (by simp)]; rfl
            · rw [cmp_cons]; simp [flats]
          · rw [cText hs]
            refine ⟨_, rfl, fun r1 r2 => ?_⟩
            rw [cmp_cons, if_pos rfl, if_pos rfl, if_neg hs]
            refine key _ ?_ _
            split <;> omega
        · rw [if_neg h2]
          have h3 : a = 3 := by omega
          by_cases hn : n = n'
          · subst hn
            rw [if_pos rfl]
            by_cases hs : s = s'
            · subst hs
              rw [if_pos rfl]
              obtain ⟨_, b2⟩ := w7 h3
              have b3 := w1 h3
              have b3' := w1' h3
              obtain ⟨v, e1, e2⟩ := cmp_flats us us' k (.mk a n s us) (.mk a n s us') [] [] (by omega) rfl rfl rfl w6 w6' (by omega) (by simp; omega) (by omega)
              refine ⟨v, e1, fun r1 r2 => ?_⟩
              rw [cmp_cons, if_pos rfl, if_pos rfl, if_pos rfl]
              exact e2 r1 r2
            · rw [if_neg hs, cText hs]
              refine ⟨_, rfl, fun r1 r2 => ?_⟩
              rw [cmp_cons, if_pos rfl, if_pos rfl, if_neg hs]
              refine key _ ?_ _
              split <;> omega
          · rw [if_neg hn, cInt]
            refine ⟨_, rfl, fun r1 r2 => ?_⟩
            rw [cmp_cons, if_pos rfl, if_neg hn, (sgn n n' hn).1]
            exact key _ (sgn n n' hn).2 _
    · rw [if_neg h1, cInt]
      refine ⟨_, rfl, fun r1 r2 => ?_⟩
      rw [cmp_cons, if_neg h1, (sgn a a' h1).1]
      exact key _ (sgn a a' h1).2 _
theorem cmp_flats : ∀ (us vs : List Tm) (k : Nat) (t u : Tm) (p q : List Tm), us.length = vs.length → t.args = p ++ us → u.args = q ++ vs → p.length = q.length → Wfs us → Wfs vs → 5 * (flats us).length + 1 < k → p.length + us.length ≤ 20 → (flats us).length ≤ 2000 →
    ∃ v, impl_compare.l1 k t u (p.length : Int) = some v ∧ ∀ r1 r2, cmp (flats us ++ r1) (flats vs ++ r2) = if v ≠ 0 then v else cmp r1 r2
  | [], [], k, t, u, p, q, h1, h2, h3, h4, hw, hw', hk, hb, hl => by
    obtain ⟨k, rfl⟩ : ∃ q, k = q + 1 := ⟨k - 1, by omega⟩
    rw [impl_compare.l1, if_neg (by rw [h2]; simp)]
    exact ⟨0, rfl, fun r1 r2 => by simp [flats]⟩
  | [], _ :: _, k, t, u, p, q, h1, h2, h3, h4, hw, hw', hk, hb, hl => by simp at h1
  | _ :: _, [], k, t, u, p, q, h1, h2, h3, h4, hw, hw', hk, hb, hl => by simp at h1
  | a :: us, b :: vs, k, t, u, p, q, h1, h2, h3, h4, hw, hw', hk, hb, hl => by
    obtain ⟨k, rfl⟩ : ∃ q, k = q + 1 := ⟨k - 1, by omega⟩
    simp only [Wfs] at hw hw'
    simp only [flats, List.length_append] at hk hl
    simp only [List.length_cons] at h1 hb
    have hp := flat_pos a
    obtain ⟨v, e1, e2⟩ := cmp_flat a b k hw.1 hw'.1 (by omega) (by omega)
    obtain ⟨v2, f1, f2⟩ := cmp_flats us vs k t u (p ++ [a]) (q ++ [b]) (by omega) (by rw [h2]; simp) (by rw [h3]; simp) (by simp [h4]) hw.2 hw'.2 (by omega) (by simp; omega) (by omega)
    have g1 : t.args.getD p.length (Tm.mk 0 0 [] []) = a := by rw [h2]; simp
    have g2 : u.args.getD p.length (Tm.mk 0 0 [] []) = b := by rw [h3, h4]; simp
    rw [impl_compare.l1, if_pos (by rw [h2]; simp; omega), if_pos (by omega), if_pos (by rw [h3]; simp; omega), Int.toNat_natCast, g1, g2, e1, Option.bind_some]
    by_cases hv : v = 0
    · rw [if_neg (by simp [hv]), wrap_nat (by omega)]
      refine ⟨v2, by simpa using f1, fun r1 r2 => ?_⟩
      simp only [flats, List.append_assoc]
      rw [e2, if_neg (by simp [hv]), f2]
    · rw [if_pos hv]
      refine ⟨v, rfl, fun r1 r2 => ?_⟩
      simp only [flats, List.append_assoc]
      rw [e2]
      simp [hv]
end
theorem compare_val (t u : Tm) (k : Nat) (w1 : Wf t) (w2 : Wf u) (hl : (flat t).length ≤ 2000) (hk : 20000 < k) : impl_compare.f k t u = some (cmp (flat t) (flat u)) := by
  obtain ⟨v, e1, e2⟩ := cmp_flat t u k w1 w2 (by omega) hl
  have e3 := e2 [] []
  rw [List.append_nil, List.append_nil] at e3
  rw [e1, e3]
  split
  · rfl
  · rename_i hv
    have : v = 0 := by simpa using hv
    rw [this]; rfl
/-! ### FnExactSubsumes -/
theorem cmp_self : ∀ xs : List Cell, cmp xs xs = 0
  | [] => rfl
  | ⟨a, n, s⟩ :: xs => by rw [cmp_cons, if_pos rfl, if_pos rfl, if_pos rfl]; exact cmp_self xs
theorem cmp_eq : ∀ xs ys : List Cell, xs.length = ys.length → cmp xs ys = 0 → xs = ys
  | [], [], _, _ => rfl
  | [], _ :: _, h, _ => by simp at h
  | _ :: _, [], h, _ => by simp at h
  | ⟨a, n, s⟩ :: xs, ⟨a', n', s'⟩ :: ys, hl, h => by
    rw [cmp_cons] at h
    by_cases h1 : a = a'
    · rw [if_pos h1] at h
      by_cases h2 : n = n'
      · rw [if_pos h2] at h
        by_cases h3 : s = s'
        · rw [if_pos h3] at h
          rw [cmp_eq xs ys (by simpa using hl) h, h1, h2, h3]
        · rw [if_neg h3] at h; split at h <;> omega
      · rw [if_neg h2] at h; split at h <;> omega
    · rw [if_neg h1] at h; split at h <;> omega
mutual
theorem tree_eq : ∀ (t u : Tm) (r1 r2 : List Cell), Wf t → Wf u → cmp (flat t ++ r1) (flat u ++ r2) = 0 → flat t = flat u ∧ cmp r1 r2 = 0
  | .mk a n s us, .mk a' n' s' vs, r1, r2, hw, hw', h => by
    simp only [Wf] at hw hw'
    obtain ⟨w0, w1, w2, w6⟩ := hw
    obtain ⟨w0', w1', w2', w6'⟩ := hw'
    simp only [flat, List.cons_append] at h ⊢
    rw [cmp_cons] at h
    by_cases h1 : a = a'
    · rw [if_pos h1] at h
      by_cases h2 : n = n'
      · rw [if_pos h2] at h
        by_cases h3 : s = s'
        · rw [if_pos h3] at h
          have hl : us.length = vs.length := by
            by_cases hk : a = 3
            · have := w1 hk
              have := w1' (h1 ▸ hk)
              omega
            · rw [w2 hk, w2' (fun q => hk (h1.trans q))]
          obtain ⟨e1, e2⟩ := trees_eq us vs r1 r2 hl w6 w6' h
          rw [e1, h1, h2, h3]
          exact ⟨rfl, e2⟩
        · rw [if_neg h3] at h; split at h <;> omega
      · rw [if_neg h2] at h; split at h <;> omega
    · rw [if_neg h1] at h; split at h <;> omega
theorem trees_eq : ∀ (us vs : List Tm) (r1 r2 : List Cell), us.length = vs.length → Wfs us → Wfs vs → cmp (flats us ++ r1) (flats vs ++ r2) = 0 → flats us = flats vs ∧ cmp r1 r2 = 0
  | [], [], r1, r2, _, _, _, h => ⟨rfl, by simpa [flats] using h⟩
  | [], _ :: _, _, _, hl, _, _, _ => by simp at hl
  | _ :: _, [], _, _, hl, _, _, _ => by simp at hl
  | t :: us, u :: vs, r1, r2, hl, hw, hw', h => by
    simp only [Wfs] at hw hw'
    simp only [flats, List.append_assoc] at h ⊢
    obtain ⟨e1, e2⟩ := tree_eq t u _ _ hw.1 hw'.1 h
    obtain ⟨e3, e4⟩ := trees_eq us vs r1 r2 (by simpa using hl) hw.2 hw'.2 e2
    rw [e1, e3]; exact ⟨rfl, e4⟩
end
abbrev MT := List (Int × Tm)
mutual
def matchT : Tm → MT → Tm → Bool × MT
  | .mk k n s ts, m, u => if k = 0 then (if (mget m n).isSome = true then (decide (cmp (flat ((mget m n).getD (Tm.mk 0 0 [] []))) (flat u) = 0), m) else (true, mset m n u)) else if k = u.kind ∧ n = u.n ∧ s = u.text then matchTs ts m u.args else (false, m)
def matchTs : List Tm → MT → List Tm → Bool × MT
  | [], m, _ => (true, m)
  | t :: ts, m, us => if (matchT t m (us.headD (Tm.mk 0 0 [] []))).1 then matchTs ts (matchT t m (us.headD (Tm.mk 0 0 [] []))).2 us.tail else (false, (matchT t m (us.headD (Tm.mk 0 0 [] []))).2)
end
theorem matchTs_cons (t u : Tm) (ts us : List Tm) (m : MT) : matchTs (t :: ts) m (u :: us) = if (matchT t m u).1 = true then matchTs ts (matchT t m u).2 us else (false, (matchT t m u).2) := by rw [matchTs]; rfl
def MOK (m : MT) : Prop := ∀ v u, mget m v = some u → Wf u ∧ (flat u).length ≤ 2000
mutual
theorem matches_val : ∀ (t u : Tm) (k : Nat) (m : MT), Wf t → Wf u → 4 * (flat t).length + 30000 < k → (flat u).length ≤ 2000 → MOK m → impl_matches.f k m t u = some (matchT t m u) ∧ MOK (matchT t m u).2
  | .mk a n s ts, u, k, m, hw, hw', hk, hl, hm => by
    simp only [flat, List.length_cons] at hk
    simp only [Wf] at hw
    obtain ⟨w0, w1, w2, w6⟩ := hw
    obtain ⟨k, rfl⟩ : ∃ q, k = q + 2 := ⟨k - 2, by omega⟩
    rw [impl_matches.f, matchT]
    show (if a = 0 then (if (mget m n).isSome = true then ((impl_compare.f (k + 1) ((mget m n).getD (Tm.mk 0 0 [] [])) u).bind fun t27 => some ((decide (t27 = 0)), m)) else some (true, mset m n u)) else (if a ≠ u.kind then some (false, m) else (if n ≠ u.n then some (false, m) else (if s ≠ u.text then some (false, m) else impl_matches.l0 (k + 1) (.mk a n s ts) u 0 m)))) = _ ∧ _
    by_cases h0 : a = 0
    · rw [if_pos h0, if_pos h0]
      by_cases hs : (mget m n).isSome = true
      · rw [if_pos hs, if_pos hs]
        obtain ⟨v, hv⟩ := Option.isSome_iff_exists.1 hs
        have hq := hm n v hv
        rw [hv, Option.getD_some, compare_val v u (k + 1) hq.1 hw' hq.2 (by omega), Option.bind_some]
        exact ⟨rfl, hm⟩
      · rw [if_neg hs, if_neg hs]
        refine ⟨rfl, fun v w h => ?_⟩
        rw [mget_mset] at h
        by_cases hv : v = n
        · rw [if_pos hv] at h; injection h with h; subst h; exact ⟨hw', hl⟩
        · rw [if_neg hv] at h; exact hm v w h
    rw [if_neg h0, if_neg h0]
    by_cases h1 : a = u.kind
    · by_cases h2 : n = u.n
      · by_cases h3 : s = u.text
        · rw [if_neg (by simpa using h1), if_neg (by simpa using h2), if_neg (by simpa using h3), if_pos ⟨h1, h2, h3⟩]
          obtain ⟨a', n', s', us⟩ := u
          have h1 : a = a' := h1
          have h2 : n = n' := h2
          have h3 : s = s' := h3
          simp only [Wf] at hw'
          have hlen : ts.length = us.length := by
            by_cases hk3 : a = 3
            · have := w1 hk3
              have := hw'.2.1 (h1 ▸ hk3)
              omega
            · rw [w2 hk3, hw'.2.2.1 (fun q => hk3 (h1.trans q))]
          simp only [flat, List.length_cons] at hl
          exact matches_vals ts us [] [] k (.mk a n s ts) (.mk a' n' s' us) m rfl rfl rfl hlen w6 hw'.2.2.2 (by omega) (by omega) hm (by have := flats_len us; simp; omega)
        · rw [if_neg (by simpa using h1), if_neg (by simpa using h2), if_pos h3, if_neg (fun q => h3 q.2.2)]; exact ⟨rfl, hm⟩
      · rw [if_neg (by simpa using h1), if_pos h2, if_neg (fun q => h2 q.2.1)]; exact ⟨rfl, hm⟩
    · rw [if_pos h1, if_neg (fun q => h1 q.1)]; exact ⟨rfl, hm⟩
theorem matches_vals : ∀ (ts us p q : List Tm) (k : Nat) (t u : Tm) (m : MT), t.args = p ++ ts → u.args = q ++ us → p.length = q.length → ts.length = us.length → Wfs ts → Wfs us → 4 * (flats ts).length + 30001 < k + 1 → (flats us).length ≤ 2000 → MOK m → p.length + ts.length ≤ 1000000 →
    impl_matches.l0 (k + 1) t u (p.length : Int) m = some (matchTs ts m us) ∧ MOK (matchTs ts m us).2
  | [], us, p, q, k, t, u, m, h1, h2, h3, h4, hw, hw', hk, hl, hm, hb => by
    rw [impl_matches.l0, h1, if_neg (by simp), matchTs]; exact ⟨rfl, hm⟩
  | _ :: _, [], p, q, k, t, u, m, h1, h2, h3, h4, hw, hw', hk, hl, hm, hb => by simp at h4
  | a :: ts, b :: us, p, q, k, t, u, m, h1, h2, h3, h4, hw, hw', hk, hl, hm, hb => by
    simp only [Wfs] at hw hw'
    simp only [flats, List.length_append] at hk hl
    simp only [List.length_cons] at h4 hb
    have hp := flat_pos a
    obtain ⟨k, rfl⟩ : ∃ q, k = q + 1 := ⟨k - 1, by omega⟩
    have g1 : t.args.getD p.length (Tm.mk 0 0 [] []) = a := by rw [h1]; simp
    have g2 : u.args.getD p.length (Tm.mk 0 0 [] []) = b := by rw [h2, h3]; simp
    obtain ⟨e1, e2⟩ := matches_val a b (k + 1) m hw.1 hw'.1 (by omega) (by omega) hm
    rw [impl_matches.l0, if_pos (by rw [h1]; simp; omega), if_pos (by omega), if_pos (by rw [h2]; simp; omega), Int.toNat_natCast, g1, g2, e1, Option.bind_some, matchTs_cons]
    by_cases hv : (matchT a m b).1 = true
    · rw [if_neg (by simpa using hv), if_pos hv, wrap_nat (by omega)]
      have := matches_vals ts us (p ++ [a]) (q ++ [b]) k t u (matchT a m b).2 (by rw [h1]; simp) (by rw [h2]; simp) (by simp [h3]) (by omega) hw.2 hw'.2 (by omega) (by omega) e2 (by simp; omega)
      rw [show ((p ++ [a]).length : Int) = ((p.length + 1 : Nat) : Int) by simp] at this
      exact this
    · rw [if_pos hv, if_neg hv]; exact ⟨rfl, e2⟩
end
/-- the lists of names and values, and the map -/
def SM (vars : List Int) (vals : List (List Cell)) (m : MT) : Prop := vars.length = vals.length ∧ ∀ v, if v ∈ vars then ∃ u, mget m v = some u ∧ vals[num vars v]? = some (flat u) ∧ Wf u ∧ (flat u).length ≤ 2000 else mget m v = none
theorem cut_one' (xs : List Cell) (i : Nat) (hi : i < xs.length) : (xs.drop i).take (((i + 1 : Nat) : Int).toNat - i) = [xs[i]] := by
  rw [Int.toNat_natCast, Nat.add_sub_cancel_left, List.drop_eq_getElem_cons hi]; rfl
theorem drop_len {xs a r : List Cell} {i : Nat} (h : xs.drop i = a ++ r) (hp : 1 ≤ a.length) : i + a.length + r.length = xs.length := by
  have h2 := congrArg List.length h
  rw [List.length_drop, List.length_append] at h2
  omega
theorem drop_next {xs a r : List Cell} {i : Nat} (h : xs.drop i = a ++ r) : xs.drop (i + a.length) = r := by
  rw [← List.drop_drop, h]; simp
theorem ar1 (K F : Nat) : K + 1 + 2 * F = K + 2 * (F + 1) - 1 := by omega
section
variable (xs ys : List Cell) (hx : xs.length ≤ 2000) (hy : ys.length ≤ 2000)
include hx hy
mutual
theorem sub_tree : ∀ (t u : Tm) (K i j : Nat) (m : MT) (vars : List Int) (vals : List (List Cell)) (r1 r2 : List Cell), Wf t → Wf u → xs.drop i = flat t ++ r1 → ys.drop j = flat u ++ r2 → 100000 < K → SM vars vals m → vars.length ≤ i →
    ((matchT t m u).1 = true ∧ ∃ k' vars' vals', K ≤ k' ∧ spec_Subsumes.l0 (K + 2 * (flat t).length) xs ys vars vals (j : Int) (i : Int) = spec_Subsumes.l0 k' xs ys vars' vals' ((j + (flat u).length : Nat) : Int) ((i + (flat t).length : Nat) : Int) ∧ SM vars' vals' (matchT t m u).2 ∧ vars'.length ≤ i + (flat t).length) ∨
    ((matchT t m u).1 = false ∧ spec_Subsumes.l0 (K + 2 * (flat t).length) xs ys vars vals (j : Int) (i : Int) = some false)
  | .mk a n s ts, u, K, i, j, m, vars, vals, r1, r2, hw, hw', hd1, hd2, hK, hs, hv => by
    have hp1 := flat_pos (Tm.mk a n s ts)
    have hp2 := flat_pos u
    have q1 := drop_len hd1 hp1
    have q2 := drop_len hd2 hp2
    simp only [Wf] at hw
    obtain ⟨w0, w1, w2, w6⟩ := hw
    have hi : i < xs.length := by omega
    have hj : j < ys.length := by omega
    have hc : xs[i] = ⟨a, n, s⟩ := by
      rw [List.drop_eq_getElem_cons hi] at hd1
      simp only [flat, List.cons_append] at hd1
      exact (List.cons.inj hd1).1
    have hvl : vars.length ≤ 2000 := by omega
    rw [show K + 2 * (flat (Tm.mk a n s ts)).length = (K + 2 * (flat (Tm.mk a n s ts)).length - 1) + 1 by omega, spec_Subsumes.l0, if_pos (by omega), if_neg (by omega), if_pos (by omega), Int.toNat_natCast, getD_at hi, hc]
    generalize hk1 : K + 2 * (flat (Tm.mk a n s ts)).length - 1 = k1
    by_cases h0 : a = 0
    · have hmT : matchT (.mk a n s ts) m u = if (mget m n).isSome = true then (decide (cmp (flat ((mget m n).getD (Tm.mk 0 0 [] []))) (flat u) = 0), m) else (true, mset m n u) := by rw [matchT, if_pos h0]
      rw [if_pos h0, next_at ys u j k1 r2 hy hw' hd2 (by omega), Option.bind_some, if_pos (by omega), if_pos (by omega), if_pos (by omega), cut_at ys u j r2 hd2]
      have hts : ts = [] := w2 (by omega)
      subst hts
      have hf1 : (flat (Tm.mk a n s [])).length = 1 := by simp [flat, flats]
      rw [hf1] at hk1 ⊢
      obtain ⟨k2, rfl⟩ : ∃ q, k1 = q + 1 := ⟨k1 - 1, by omega⟩
      have step : ∀ V L, spec_Subsumes.l1 (k2 + 1) xs ys (j : Int) (i : Int) ((j + (flat u).length : Nat) : Int) V L = spec_Subsumes.l0 k2 xs ys V L ((j + (flat u).length : Nat) : Int) ((i + 1 : Nat) : Int) := fun V L => by
        rw [spec_Subsumes.l1, cut_at ys u j r2 hd2, wrap_nat (by omega), wrap_id (by omega) (by omega)]; rfl
      have hsv := hs.2 n
      by_cases hm : n ∈ vars
      · rw [if_pos hm] at hsv
        obtain ⟨v, g1, g2, g3, g4⟩ := hsv
        have hlt := num_lt vars n hm
        have hvals : num vars n < vals.length := by rw [← hs.1]; exact hlt
        have hg : vals.getD (num vars n) ([] : List Cell) = flat v := by rw [List.getD_eq_getElem?_getD, g2]; rfl
        rw [l2find_num vars n (k2 + 1) (by omega) (by omega) hm, Option.bind_some, if_neg (by omega), if_pos (by omega), if_pos (by omega), Int.toNat_natCast, hg]
        rw [g1, if_pos (show (some v).isSome = true from rfl), Option.getD_some] at hmT
        rw [hmT]
        clear hmT
        by_cases hl : ((flat v).length : Int) ≠ ((flat u).length : Int)
        · rw [if_pos hl]
          refine .inr ⟨?_, rfl⟩
          simp only [decide_eq_false_iff_not]
          intro hc0
          have := (tree_eq v u [] [] g3 hw' (by simpa using hc0)).1
          rw [this] at hl; exact hl rfl
        · rw [if_neg hl, l2compare_val _ _ (k2 + 1) g4 (by omega), Option.bind_some]
          by_cases hc0 : cmp (flat v) (flat u) = 0
          · rw [if_neg (by simpa using hc0), step]
            exact .inl ⟨by simpa using hc0, k2, vars, vals, by omega, rfl, hs, by omega⟩
          · rw [if_pos hc0]
            exact .inr ⟨by simpa using hc0, rfl⟩
      · rw [if_neg hm] at hsv
        obtain ⟨r, f1, f2⟩ := l2find_val vars n (k2 + 1) (by omega) (by omega)
        rw [f1, Option.bind_some, if_pos (f2.2 hm), if_pos (by omega), if_pos (by have := hs.1; omega), step]
        rw [hsv, if_neg (by simp)] at hmT
        rw [hmT]
        refine .inl ⟨rfl, k2, _, _, by omega, rfl, ⟨by simp [hs.1], fun w => ?_⟩, by simp; omega⟩
        rw [mget_mset]
        by_cases hw : w = n
        · subst hw
          rw [if_pos (by simp), if_pos rfl, num_new vars w hm, hs.1]
          exact ⟨u, rfl, by simp, hw', by omega⟩
        · rw [if_neg hw]
          have := hs.2 w
          by_cases hwv : w ∈ vars
          · rw [if_pos hwv] at this
            rw [if_pos (by simp [hwv]), num_app vars [n] w hwv]
            obtain ⟨z, z1, z2, z3⟩ := this
            exact ⟨z, z1, by rw [List.getElem?_append_left (by rw [← hs.1]; exact num_lt vars w hwv)]; exact z2, z3⟩
          · rw [if_neg hwv] at this
            rw [if_neg (by simp [hwv, hw])]; exact this
    · rw [if_neg h0, wrap_nat (by omega), wrap_nat (by omega), if_pos (by omega), if_pos (by omega), if_pos (by omega), if_pos (by omega), if_pos (by omega), cut_one' xs i hi, cut_one ys j hj, l2compare_val _ _ k1 (by simp) (by simp; omega), Option.bind_some, hc]
      obtain ⟨a', n', s', us⟩ := u
      have hmT : matchT (.mk a n s ts) m (.mk a' n' s' us) = if a = a' ∧ n = n' ∧ s = s' then matchTs ts m us else (false, m) := by rw [matchT, if_neg h0]; rfl
      have hc2 : ys[j] = ⟨a', n', s'⟩ := by
        rw [List.drop_eq_getElem_cons hj] at hd2
        simp only [flat, List.cons_append] at hd2
        exact (List.cons.inj hd2).1
      rw [hc2]
      have hcc : cmp [⟨a, n, s⟩] [⟨a', n', s'⟩] = 0 ↔ (a = a' ∧ n = n' ∧ s = s') := by
        constructor
        · intro h
          have := cmp_eq [⟨a, n, s⟩] [⟨a', n', s'⟩] rfl h
          have h2 := (List.cons.inj this).1
          exact ⟨congrArg Cell.kind h2, congrArg Cell.n h2, congrArg Cell.text h2⟩
        · rintro ⟨rfl, rfl, rfl⟩; exact cmp_self _
      by_cases he : a = a' ∧ n = n' ∧ s = s'
      · rw [if_neg (by simpa using hcc.2 he)]
        rw [if_pos he] at hmT
        rw [hmT]
        simp only [Wf] at hw'
        have hlen : ts.length = us.length := by
          by_cases hk3 : a = 3
          · have x1 := w1 hk3
            have x2 := hw'.2.1 (he.1 ▸ hk3)
            have x3 := he.2.1
            clear he hcc hmT
            omega
          · rw [w2 hk3, hw'.2.2.1 (fun q => hk3 (he.1.trans q))]
        have d1 : xs.drop (i + 1) = flats ts ++ r1 := by
          rw [List.drop_eq_getElem_cons hi] at hd1
          simp only [flat, List.cons_append] at hd1
          exact (List.cons.inj hd1).2
        have d2 : ys.drop (j + 1) = flats us ++ r2 := by
          rw [List.drop_eq_getElem_cons hj] at hd2
          simp only [flat, List.cons_append] at hd2
          exact (List.cons.inj hd2).2
        have f1 : (flat (Tm.mk a n s ts)).length = (flats ts).length + 1 := by simp [flat]
        have f2 : (flat (Tm.mk a' n' s' us)).length = (flats us).length + 1 := by simp [flat]
        rw [f1] at hk1 ⊢
        rw [f2]
        have hws := hw'.2.2.2
        clear he hcc hmT hw' w0 w1 w2 hc hc2
        have := sub_trees ts us (K + 1) (i + 1) (j + 1) m vars vals r1 r2 hlen w6 hws d1 d2 (by omega) hs (by omega)
        rw [(ar1 K (flats ts).length).trans hk1] at this
        clear hk1 hs hd1 hd2 d1 d2 hi hj
        rcases this with ⟨g1, k', v1, v2, g2, g3, g4, g5⟩ | ⟨g1, g2⟩
        · exact .inl ⟨g1, k', v1, v2, by omega, by rw [g3]; congr 2 <;> omega, g4, by omega⟩
        · exact .inr ⟨g1, g2⟩
      · rw [if_pos (fun q => he (hcc.1 q))]
        rw [if_neg he] at hmT
        rw [hmT]
        exact .inr ⟨rfl, rfl⟩
theorem sub_trees : ∀ (ts us : List Tm) (K i j : Nat) (m : MT) (vars : List Int) (vals : List (List Cell)) (r1 r2 : List Cell), ts.length = us.length → Wfs ts → Wfs us → xs.drop i = flats ts ++ r1 → ys.drop j = flats us ++ r2 → 100000 < K → SM vars vals m → vars.length ≤ i →
    ((matchTs ts m us).1 = true ∧ ∃ k' vars' vals', K ≤ k' ∧ spec_Subsumes.l0 (K + 2 * (flats ts).length) xs ys vars vals (j : Int) (i : Int) = spec_Subsumes.l0 k' xs ys vars' vals' ((j + (flats us).length : Nat) : Int) ((i + (flats ts).length : Nat) : Int) ∧ SM vars' vals' (matchTs ts m us).2 ∧ vars'.length ≤ i + (flats ts).length) ∨
    ((matchTs ts m us).1 = false ∧ spec_Subsumes.l0 (K + 2 * (flats ts).length) xs ys vars vals (j : Int) (i : Int) = some false)
  | [], [], K, i, j, m, vars, vals, r1, r2, hl, hw, hw', hd1, hd2, hK, hs, hv => by
    rw [matchTs]
    exact .inl ⟨rfl, K, vars, vals, Nat.le_refl _, by simp [flats], hs, by omega⟩
  | [], _ :: _, K, i, j, m, vars, vals, r1, r2, hl, hw, hw', hd1, hd2, hK, hs, hv => by simp at hl
  | _ :: _, [], K, i, j, m, vars, vals, r1, r2, hl, hw, hw', hd1, hd2, hK, hs, hv => by simp at hl
  | t :: ts, u :: us, K, i, j, m, vars, vals, r1, r2, hl, hw, hw', hd1, hd2, hK, hs, hv => by
    simp only [Wfs] at hw hw'
    simp only [flats, List.append_assoc] at hd1 hd2
    rw [matchTs_cons]
    simp only [flats, List.length_append]
    have h1 := sub_tree t u (K + 2 * (flats ts).length) i j m vars vals _ _ hw.1 hw'.1 hd1 hd2 (by omega) hs hv
    rw [show K + 2 * ((flat t).length + (flats ts).length) = K + 2 * (flats ts).length + 2 * (flat t).length by omega]
    rcases h1 with ⟨g1, k', v1, v2, g2, g3, g4, g5⟩ | ⟨g1, g2⟩
    · rw [if_pos g1, g3]
      have h2 := sub_trees ts us (k' - 2 * (flats ts).length) (i + (flat t).length) (j + (flat u).length) (matchT t m u).2 v1 v2 r1 r2 (by simpa using hl) hw.2 hw'.2 (drop_next hd1) (drop_next hd2) (by omega) g4 g5
      rw [show k' - 2 * (flats ts).length + 2 * (flats ts).length = k' by omega] at h2
      rcases h2 with ⟨e1, k2, z1, z2, e2, e3, e4, e5⟩ | ⟨e1, e2⟩
      · exact .inl ⟨e1, k2, z1, z2, by omega, by rw [e3]; congr 2 <;> omega, e4, by omega⟩
      · exact .inr ⟨e1, e2⟩
    · rw [if_neg (by simp [g1])]
      exact .inr ⟨rfl, g2⟩
end
end
end Go.Proofs.Ytognefkopbbdnaa
