import Derived.Test.YtnigifmkjmbfiaaPuUs2
namespace Go.Proofs.Ytnigifmkjmbfiaa
open Go.Sx Go.Sy
set_option linter.unusedVariables false
set_option linter.unusedSimpArgs false
set_option linter.unusedSectionVars false
set_option maxRecDepth 4000
/-! ### unification: the recursion and the stack of work -/
theorem ideref2_eq : ∀ (k : Nat) (h : Store) (a b : Int) (c : List UInt8), impl_Store_deref_2.l0 k h a b c = impl_Store_deref.l0 k h a b c
  | 0, _, _, _, _ => rfl
  | k + 1, h, a, b, c => by rw [impl_Store_deref_2.l0, impl_Store_deref.l0, ideref2_eq k]
theorem ideref2 (k : Nat) (h : Store) (w : Cell) : impl_Store_deref_2.f k h w = impl_Store_deref.f k h w := by rw [impl_Store_deref_2.f, impl_Store_deref.f, ideref2_eq]
/-- two words that lead to the same place -/
def Same (s : Store) (x y : Cell) : Prop := ∃ N, ∀ k, N < k → impl_Store_deref.f k s x = impl_Store_deref.f k s y
theorem Same.refl (s : Store) (x : Cell) : Same s x x := ⟨0, fun _ _ => rfl⟩
theorem Same.d {s : Store} {N : Nat} {D : Cell → Cell} (hD : DrOK s N D) {x y : Cell} (hx : Okw s.cells x) (hy : Okw s.cells y) (h : Same s x y) : D x = D y := by
  obtain ⟨M, h⟩ := h
  have h1 := (hD x hx).2.2.1 (N + M + 2) (by omega)
  have h2 := (hD y hy).2.2.1 (N + M + 2) (by omega)
  rw [h _ (by omega), h2] at h1
  injection h1 with h1; exact h1.symm
/-- a word that was read from cell j before the store grew leads where the cell leads -/
theorem same_grow {cs0 : List Cell} {s : Store} (v : VSt s) (h : Grow cs0 s.cells) {j : Nat} (hj : j < cs0.length) (hw : Okw cs0 (cs0.getD j c0)) (h3 : kd cs0 j ≠ 3) : Same s (s.cells.getD j c0) (cs0.getD j c0) := by
  rcases h.2 j with e | ⟨e1, e2, e3, e4⟩
  · rw [e]; exact Same.refl _ _
  · obtain ⟨N, D, hD, _, _⟩ := dr_exists v
    have hw' := h.okw hw
    have q : (cs0.getD j c0).kind = 0 := e2
    have qn : (cs0.getD j c0).n = (j : Int) := e3
    have hjl : j < s.cells.length := by rw [h.1]; exact hj
    have hsw := v.good.w j hjl e4
    refine ⟨N + 1, fun k hk => ?_⟩
    rw [(hD _ hsw).2.2.1 k (by omega), (hD _ hw').2.2.1 k (by omega)]
    by_cases z : kd s.cells j = 0 ∧ nn s.cells j = (j : Int)
    · -- still a variable of its own: the same word
      have : s.cells.getD j c0 = cs0.getD j c0 := by
        have t1 : (cs0.getD j c0).text = [] := by
          unfold Okw at hw
          exact List.length_eq_zero_iff.1 (by omega)
        have t2 : (s.cells.getD j c0).text = [] := by
          have a1 : (s.cells.getD j c0).kind = 0 := z.1
          unfold Okw at hsw
          exact List.length_eq_zero_iff.1 (by omega)
        have a1 : (s.cells.getD j c0).kind = 0 := z.1
        have a2 : (s.cells.getD j c0).n = (j : Int) := z.2
        generalize s.cells.getD j c0 = x at *
        generalize cs0.getD j c0 = y at *
        cases x; cases y; simp_all
      rw [this]
    · have := deref_step hD v hw' q (by rw [qn, Int.toNat_natCast]; exact z)
      rw [qn, Int.toNat_natCast] at this
      rw [this]
def pst (cs : List Cell) (f g m : Nat) : Nat → List GT97
  | 0 => []
  | c + 1 => pst cs f g m c ++ [⟨cs.getD (f + (m - c)) c0, cs.getD (g + (m - c)) c0⟩]
theorem pst_len (cs : List Cell) (f g m : Nat) : ∀ c, (pst cs f g m c).length = c
  | 0 => rfl
  | c + 1 => by rw [pst, List.length_append, pst_len cs f g m c]; rfl
/-- the arguments are put on the stack -/
theorem push_args (s : Store) (p : Int) (f g m : Nat) (hf : f + m < s.cells.length) (hg : g + m < s.cells.length) (hl : s.cells.length ≤ 20000) (rest : List GT97) (hr : rest.length ≤ 1000000000) : ∀ (q c k : Nat), c + q = m → impl_Store_unify_2.l4 (k + q + 1) p s.cells s.trail (f : Int) (g : Int) (rest ++ pst s.cells f g m c) (q : Int) = impl_Store_unify_2.l0 k (rest ++ pst s.cells f g m m) (IntKind.i64.wrap (p + 1)) s.cells s.trail
  | 0, c, k, h => by
    obtain rfl : c = m := by omega
    rw [impl_Store_unify_2.l4, if_neg (by omega)]
  | q + 1, c, k, h => by
    have e1 : IntKind.i64.wrap ((f : Int) + ((q + 1 : Nat) : Int)) = ((f + (q + 1) : Nat) : Int) := by rw [wrap_id (by omega) (by omega)]; omega
    have e2 : IntKind.i64.wrap ((g : Int) + ((q + 1 : Nat) : Int)) = ((g + (q + 1) : Nat) : Int) := by rw [wrap_id (by omega) (by omega)]; omega
    have e3 : IntKind.i64.wrap (((q + 1 : Nat) : Int) - 1) = ((q : Nat) : Int) := by rw [wrap_id (by omega) (by omega)]; omega
    rw [show k + (q + 1) + 1 = (k + q + 1) + 1 by omega, impl_Store_unify_2.l4, e1, e2, e3, if_pos (by omega), if_pos (by omega), if_pos (by omega), if_pos (by omega), if_pos (by omega), if_pos (by rw [List.length_append, pst_len]; omega)]
    have e4 : rest ++ pst s.cells f g m c ++ [(⟨s.cells.getD (((f + (q + 1) : Nat) : Int)).toNat z36, s.cells.getD (((g + (q + 1) : Nat) : Int)).toNat z36⟩ : GT97)] = rest ++ pst s.cells f g m (c + 1) := by
      rw [pst, List.append_assoc, Int.toNat_natCast, Int.toNat_natCast, show m - c = q + 1 by omega]; rfl
    rw [e4]
    exact push_args s p f g m hf hg hl rest hr q (c + 1) k (by omega)
/-- what the two do from a state on -/
def URes (n : Nat) (s : Store) (p : Nat) (sp : Nat → Option (Int × GL10heap)) (im : List GT97 → Nat → Option (Int × Store)) : Prop :=
  ∃ (r : Int) (s' : Store) (p' K d : Nat), VSt s' ∧ Grow s.cells s'.cells ∧ (r = 0 → p ≤ p' ∧ p' ≤ 20000) ∧
    (∀ k, K < k → sp k = some (r, ⟨s'.cells, s'.trail, (p' : Int)⟩)) ∧
    ∀ (rest : List GT97) (k : Nat), rest.length + 20 * n ≤ 1000000000 → K < k → im rest (k + d) = if r = 0 then impl_Store_unify_2.l0 k rest (p' : Int) s'.cells s'.trail else some (r, s')
theorem sameCell_val (x y : Cell) : impl_sameCell.f x y = some (decide (x.kind = y.kind ∧ x.n = y.n ∧ x.text = y.text)) := by
  rw [impl_sameCell.f]
  by_cases h1 : x.kind = y.kind
  · by_cases h2 : x.n = y.n
    · rw [if_pos h1, if_pos h2]; simp [h1, h2]
    · rw [if_pos h1, if_neg h2]; simp [h2]
  · rw [if_neg h1]; simp [h1]
theorem unify_sim : ∀ (n : Nat) (s : Store) (p : Nat) (x y x' y' : Cell), VSt s → 20000 - p ≤ n → p ≤ 20000 → Okw s.cells x → Okw s.cells y → Okw s.cells x' → Okw s.cells y' → Same s x x' → Same s y y' →
    URes n s p (fun k => spec_l10unify_2.f k ⟨s.cells, s.trail, (p : Int)⟩ x y) (fun rest k => impl_Store_unify_2.l0 k (rest ++ [⟨x', y'⟩]) (p : Int) s.cells s.trail) := by
  intro n
  induction n with
  | zero =>
    intro s p x y x' y' v h1 h2 hx hy hx' hy' sx sy
    obtain rfl : p = 20000 := by omega
    refine ⟨3, s, 20000, 0, 1, v, Grow.refl _, by omega, fun k hk => ?_, fun rest k hr hk => ?_⟩
    · obtain ⟨k, rfl⟩ : ∃ q, k = q + 1 := ⟨k - 1, by omega⟩
      show spec_l10unify_2.f (k + 1) ⟨s.cells, s.trail, ((20000 : Nat) : Int)⟩ x y = _
      rw [spec_l10unify_2.f, if_pos (show ((20000 : Nat) : Int) ≥ 20000 by omega)]
    · show impl_Store_unify_2.l0 (k + 1) _ _ _ _ = _
      rw [impl_Store_unify_2.l0, if_pos (by simp), if_pos (by omega), if_neg (by omega)]
  | succ n ih =>
    intro s p x y x' y' v h1 h2 hx hy hx' hy' sx sy
    by_cases hp : p = 20000
    · subst hp
      refine ⟨3, s, 20000, 0, 1, v, Grow.refl _, by omega, fun k hk => ?_, fun rest k hr hk => ?_⟩
      · obtain ⟨k, rfl⟩ : ∃ q, k = q + 1 := ⟨k - 1, by omega⟩
        show spec_l10unify_2.f (k + 1) ⟨s.cells, s.trail, ((20000 : Nat) : Int)⟩ x y = _
        rw [spec_l10unify_2.f, if_pos (show ((20000 : Nat) : Int) ≥ 20000 by omega)]
      · show impl_Store_unify_2.l0 (k + 1) _ _ _ _ = _
        rw [impl_Store_unify_2.l0, if_pos (by simp), if_pos (by omega), if_neg (by omega)]
    obtain ⟨N, D, hD, hN, hn⟩ := dr_exists v
    have dx := sx.d hD hx hx'
    have dy := sy.d hD hy hy'
    obtain ⟨ux, ex, ix, _⟩ := hD x hx
    obtain ⟨uy, ey, iy, _⟩ := hD y hy
    have sx1 := (hD x hx).2.2.2
    have sy1 := (hD y hy).2.2.2
    have ix' := (hD x' hx').2.2.1
    have iy' := (hD y' hy').2.2.1
    rw [← dx] at ix'
    rw [← dy] at iy'
    generalize D x = u at *
    generalize D y = w at *
    have hcl := v.cl
    -- the first step of the recursion
    have spec0 : ∀ k, N + 1 < k → spec_l10unify_2.f (k + 1) ⟨s.cells, s.trail, (p : Int)⟩ x y =
        (if u.kind = 0 then (if w.kind = 0 then (if w.n = u.n then some (0, (⟨s.cells, s.trail, ((p + 1 : Nat) : Int)⟩ : GL10heap)) else spec_l10bind_2.f k ⟨s.cells, s.trail, ((p + 1 : Nat) : Int)⟩ u.n w) else spec_l10bind_2.f k ⟨s.cells, s.trail, ((p + 1 : Nat) : Int)⟩ u.n w)
        else (if w.kind = 0 then spec_l10bind_2.f k ⟨s.cells, s.trail, ((p + 1 : Nat) : Int)⟩ w.n u
        else (if u.kind ≠ w.kind then some (4, ⟨s.cells, s.trail, ((p + 1 : Nat) : Int)⟩)
        else (if u.kind ≠ 4 then (if u.n ≠ w.n then some (4, ⟨s.cells, s.trail, ((p + 1 : Nat) : Int)⟩) else (if u.text ≠ w.text then some (4, ⟨s.cells, s.trail, ((p + 1 : Nat) : Int)⟩) else some (0, ⟨s.cells, s.trail, ((p + 1 : Nat) : Int)⟩)))
        else (if 0 ≤ u.n then (if u.n < (s.cells.length : Int) then (if 0 ≤ w.n then (if w.n < (s.cells.length : Int) then (if nn s.cells u.n.toNat ≠ nn s.cells w.n.toNat then some (4, ⟨s.cells, s.trail, ((p + 1 : Nat) : Int)⟩) else (if (s.cells.getD u.n.toNat c0).text ≠ (s.cells.getD w.n.toNat c0).text then some (4, ⟨s.cells, s.trail, ((p + 1 : Nat) : Int)⟩) else spec_l10unify_2.l0 k ⟨s.cells, s.trail, (p : Int)⟩ u w 1 s.cells s.trail ((p + 1 : Nat) : Int))) else none) else none) else none) else none))))) := by
      intro k hk
      have bs : ∀ o : Option (Int × GL10heap), (o.bind fun t => some (t.1, t.2)) = o := fun o => by cases o <;> rfl
      rw [spec_l10unify_2.f]
      show (if (p : Int) ≥ 20000 then _ else ((spec_l10deref.f k ⟨s.cells, s.trail, IntKind.i64.wrap ((p : Int) + 1)⟩ x).bind _)) = _
      rw [if_neg (by omega), wrap_nat (by omega), sx1 k _ _ hk, Option.bind_some]
      show ((spec_l10deref.f k ⟨s.cells, s.trail, ((p + 1 : Nat) : Int)⟩ y).bind _) = _
      rw [sy1 k _ _ hk, Option.bind_some]
      simp only [bs]
      rfl
    -- the first step of the stack
    have impl0 : ∀ (rest : List GT97) k, N + 1 < k → rest.length ≤ 1000000000 → impl_Store_unify_2.l0 (k + 1) (rest ++ [⟨x', y'⟩]) (p : Int) s.cells s.trail = impl_Store_unify_2.l1 k (rest ++ [⟨x', y'⟩]) (p : Int) s.cells s.trail u.kind u.n u.text w.kind w.n w.text := by
      intro rest k hk hr
      have hlen : (rest ++ [(⟨x', y'⟩ : GT97)]).length = rest.length + 1 := by simp
      have e1 : IntKind.i64.wrap (((rest ++ [(⟨x', y'⟩ : GT97)]).length : Int) - 1) = ((rest.length : Nat) : Int) := by rw [hlen, wrap_id (by omega) (by omega)]; omega
      have e2 : (rest ++ [(⟨x', y'⟩ : GT97)]).getD rest.length z97 = ⟨x', y'⟩ := by rw [List.getD_eq_getElem?_getD]; simp
      rw [impl_Store_unify_2.l0, if_pos (by simp), if_neg (by omega), e1, if_pos (by omega), if_pos (by rw [hlen]; omega), if_pos (by rw [hlen]; omega), Int.toNat_natCast, e2]
      show ((impl_Store_deref_2.f k s x').bind fun t164 => ((impl_Store_deref_2.f k s y').bind fun t184 => _)) = _
      rw [ideref2, ideref2, ix' k hk, iy' k hk]
      rfl
    have tk : ∀ (rest : List GT97), rest.length ≤ 1000000000 → (rest ++ [(⟨x', y'⟩ : GT97)]).take ((IntKind.i64.wrap (((rest ++ [(⟨x', y'⟩ : GT97)]).length : Int) - 1)) : Int).toNat = rest := by
      intro rest hr
      have hlen : (rest ++ [(⟨x', y'⟩ : GT97)]).length = rest.length + 1 := by simp
      have e1 : IntKind.i64.wrap (((rest ++ [(⟨x', y'⟩ : GT97)]).length : Int) - 1) = ((rest.length : Nat) : Int) := by rw [hlen, wrap_id (by omega) (by omega)]; omega
      rw [e1, Int.toNat_natCast, List.take_left]
    -- binding
    have bindc : ∀ (a b : Cell), Okw s.cells a → Dend s.cells a → a.kind = 0 → Okw s.cells b → Dend s.cells b → (b.kind = 0 → b.n ≠ a.n) →
        (∀ k, N + 1 < k → spec_l10unify_2.f (k + 1) ⟨s.cells, s.trail, (p : Int)⟩ x y = spec_l10bind_2.f k ⟨s.cells, s.trail, ((p + 1 : Nat) : Int)⟩ a.n b) →
        (∀ (rest : List GT97) k, N + 1 < k → rest.length ≤ 1000000000 → impl_Store_unify_2.l0 (k + 3) (rest ++ [⟨x', y'⟩]) (p : Int) s.cells s.trail = ((impl_Store_bind_2.f k s a.n b).bind fun t => (if t.1 ≠ 0 then some (t.1, t.2) else impl_Store_unify_2.l0 k rest ((p + 1 : Nat) : Int) t.2.cells t.2.trail))) →
        URes (n + 1) s p (fun k => spec_l10unify_2.f k ⟨s.cells, s.trail, (p : Int)⟩ x y) (fun rest k => impl_Store_unify_2.l0 k (rest ++ [⟨x', y'⟩]) (p : Int) s.cells s.trail) := by
      intro a b ha hae ha0 hb hbe hab es ei
      have hr : 0 ≤ a.n ∧ a.n < (s.cells.length : Int) := by unfold Okw at ha; omega
      obtain ⟨k1, k2⟩ := hae ha0
      obtain ⟨r, s', v', g', hr2⟩ := bind_val s v N D hD hN hn a.n b hr.1 hr.2 k1 k2 hb hbe hab
      refine ⟨r, s', p + 1, 30 * N + 3000002, 3, v', g', fun _ => by omega, fun k hk => ?_, fun rest k hl hk => ?_⟩
      · obtain ⟨k, rfl⟩ : ∃ q, k = q + 1 := ⟨k - 1, by omega⟩
        show spec_l10unify_2.f (k + 1) ⟨s.cells, s.trail, (p : Int)⟩ x y = _
        rw [es k (by omega)]
        exact (hr2 k (by omega)).2 _
      · show impl_Store_unify_2.l0 (k + 3) (rest ++ [⟨x', y'⟩]) (p : Int) s.cells s.trail = _
        rw [ei rest k (by omega) (by omega), (hr2 k (by omega)).1, Option.bind_some]
        by_cases h : r = 0
        · rw [if_neg (by simpa using h), if_pos h]
        · rw [if_pos h, if_neg h]
    have stay : ∀ (r : Int), (∀ k, N + 1 < k → spec_l10unify_2.f (k + 1) ⟨s.cells, s.trail, (p : Int)⟩ x y = some (r, ⟨s.cells, s.trail, ((p + 1 : Nat) : Int)⟩)) → ∀ d, (∀ (rest : List GT97) k, N + 1 < k → rest.length ≤ 1000000000 → impl_Store_unify_2.l0 (k + d) (rest ++ [⟨x', y'⟩]) (p : Int) s.cells s.trail = if r = 0 then impl_Store_unify_2.l0 k rest ((p + 1 : Nat) : Int) s.cells s.trail else some (r, s)) →
        URes (n + 1) s p (fun k => spec_l10unify_2.f k ⟨s.cells, s.trail, (p : Int)⟩ x y) (fun rest k => impl_Store_unify_2.l0 k (rest ++ [⟨x', y'⟩]) (p : Int) s.cells s.trail) := by
      intro r es d ei
      refine ⟨r, s, p + 1, N + 2, d, v, Grow.refl _, fun _ => by omega, fun k hk => ?_, fun rest k hl hk => ei rest k (by omega) (by omega)⟩
      obtain ⟨k, rfl⟩ : ∃ q, k = q + 1 := ⟨k - 1, by omega⟩
      exact es k (by omega)
    by_cases u0 : u.kind = 0
    · by_cases w0 : w.kind = 0
      · by_cases e : w.n = u.n
        · refine stay 0 (fun k hk => by rw [spec0 k hk, if_pos u0, if_pos w0, if_pos e]) 3 (fun rest k hk hr => ?_)
          rw [impl0 rest (k + 2) (by omega) hr, impl_Store_unify_2.l1, if_pos w0, if_neg (by omega), impl_Store_unify_2.l2, if_pos u0, if_pos w0, if_pos e.symm, tk rest hr, wrap_nat (by omega), if_pos rfl]
        · refine bindc u w ux ex u0 uy ey (fun _ => e) (fun k hk => by rw [spec0 k hk, if_pos u0, if_pos w0, if_neg e]) (fun rest k hk hr => ?_)
          rw [impl0 rest (k + 2) (by omega) hr, impl_Store_unify_2.l1, if_pos w0, if_neg (by omega), impl_Store_unify_2.l2, if_pos u0, if_pos w0, if_neg (fun q => e q.symm), tk rest hr, wrap_nat (by omega)]
      · refine bindc u w ux ex u0 uy ey (fun q => absurd q w0) (fun k hk => by rw [spec0 k hk, if_pos u0, if_neg w0]) (fun rest k hk hr => ?_)
        rw [impl0 rest (k + 2) (by omega) hr, impl_Store_unify_2.l1, if_neg w0, impl_Store_unify_2.l2, if_pos u0, if_neg w0, tk rest hr, wrap_nat (by omega)]
    · by_cases w0 : w.kind = 0
      · refine bindc w u uy ey w0 ux ex (fun q => absurd q u0) (fun k hk => by rw [spec0 k hk, if_neg u0, if_pos w0]) (fun rest k hk hr => ?_)
        rw [impl0 rest (k + 2) (by omega) hr, impl_Store_unify_2.l1, if_pos w0, if_pos u0, impl_Store_unify_2.l2, if_pos w0, if_neg u0, tk rest hr, wrap_nat (by omega)]
      · have l2 : ∀ (rest : List GT97) k, N + 1 < k → rest.length ≤ 1000000000 → impl_Store_unify_2.l0 (k + 2) (rest ++ [⟨x', y'⟩]) (p : Int) s.cells s.trail = impl_Store_unify_2.l2 k (rest ++ [⟨x', y'⟩]) (p : Int) s.cells s.trail u.kind u.n u.text w.kind w.n w.text := by
          intro rest k hk hr
          rw [impl0 rest (k + 1) (by omega) hr, impl_Store_unify_2.l1, if_neg w0]
        by_cases uw : u.kind ≠ w.kind
        · refine stay 4 (fun k hk => by rw [spec0 k hk, if_neg u0, if_neg w0, if_pos uw]) 3 (fun rest k hk hr => ?_)
          rw [l2 rest (k + 1) (by omega) hr, impl_Store_unify_2.l2, if_neg u0, if_pos uw]; rfl
        · have uw' : u.kind = w.kind := by simpa using uw
          by_cases u4 : u.kind ≠ 4
          · by_cases same : u.n = w.n ∧ u.text = w.text
            · refine stay 0 (fun k hk => by rw [spec0 k hk, if_neg u0, if_neg w0, if_neg uw, if_pos u4, if_neg (by simpa using same.1), if_neg (by simpa using same.2)]) 3 (fun rest k hk hr => ?_)
              rw [l2 rest (k + 1) (by omega) hr, impl_Store_unify_2.l2, if_neg u0, if_neg uw, if_pos u4, sameCell_val, Option.bind_some, if_neg (by simp [uw', same.1, same.2]), tk rest hr, wrap_nat (by omega), if_pos rfl]
            · refine stay 4 (fun k hk => ?_) 3 (fun rest k hk hr => ?_)
              · rw [spec0 k hk, if_neg u0, if_neg w0, if_neg uw, if_pos u4]
                by_cases e : u.n = w.n
                · rw [if_neg (by simpa using e), if_pos (fun q => same ⟨e, q⟩)]
                · rw [if_pos e]
              · rw [l2 rest (k + 1) (by omega) hr, impl_Store_unify_2.l2, if_neg u0, if_neg uw, if_pos u4, sameCell_val, Option.bind_some, if_pos (by simp only [decide_eq_true_eq]; exact fun q => same q.2)]; rfl
          · have u4' : u.kind = 4 := by simpa using u4
            have w4' : w.kind = 4 := by rw [← uw']; exact u4'
            have hu := ux; have hw := uy
            unfold Okw at hu hw
            have a1 : 0 ≤ u.n := by omega
            have a2 : u.n < (s.cells.length : Int) := by omega
            have b1 : 0 ≤ w.n := by omega
            have b2 : w.n < (s.cells.length : Int) := by omega
            have a3 : kd s.cells u.n.toNat = 3 := by
              rcases hu with z | z | z | z
              · omega
              · omega
              · omega
              · exact z.2.2.2.2
            have b3 : kd s.cells w.n.toNat = 3 := by
              rcases hw with z | z | z | z
              · omega
              · omega
              · omega
              · exact z.2.2.2.2
            have l3 : ∀ (rest : List GT97) k, N + 1 < k → rest.length ≤ 1000000000 → impl_Store_unify_2.l0 (k + 4) (rest ++ [⟨x', y'⟩]) (p : Int) s.cells s.trail = (if ¬ (decide (nn s.cells u.n.toNat = nn s.cells w.n.toNat ∧ (s.cells.getD u.n.toNat c0).text = (s.cells.getD w.n.toNat c0).text) = true) then some (4, s) else impl_Store_unify_2.l4 k (p : Int) s.cells s.trail u.n w.n rest (nn s.cells u.n.toNat)) := by
              intro rest k hk hr
              rw [l2 rest (k + 2) (by omega) hr, impl_Store_unify_2.l2, if_neg u0, if_neg uw, if_neg u4, if_pos a1, if_pos a2, if_pos b1, if_pos b2, impl_Store_unify_2.l3, sameCell_val, Option.bind_some, tk rest hr]
              have : (kd s.cells u.n.toNat = kd s.cells w.n.toNat) = True := by rw [a3, b3]; simp
              show (if ¬ (decide (kd s.cells u.n.toNat = kd s.cells w.n.toNat ∧ nn s.cells u.n.toNat = nn s.cells w.n.toNat ∧ (s.cells.getD u.n.toNat c0).text = (s.cells.getD w.n.toNat c0).text) = true) then _ else _) = _
              simp only [this, true_and]
              rfl
            by_cases same : nn s.cells u.n.toNat = nn s.cells w.n.toNat ∧ (s.cells.getD u.n.toNat c0).text = (s.cells.getD w.n.toNat c0).text
            · have specL : ∀ k, N + 1 < k → spec_l10unify_2.f (k + 1) ⟨s.cells, s.trail, (p : Int)⟩ x y = spec_l10unify_2.l0 k ⟨s.cells, s.trail, (p : Int)⟩ u w 1 s.cells s.trail ((p + 1 : Nat) : Int) := fun k hk => by
                rw [spec0 k hk, if_neg u0, if_neg w0, if_neg uw, if_neg u4, if_pos a1, if_pos a2, if_pos b1, if_pos b2, if_neg (by simpa using same.1), if_neg (by simpa using same.2)]
              obtain ⟨f1, f2, f3⟩ := v.good.f u.n.toNat (by omega) a3
              obtain ⟨g1, g2, g3⟩ := v.good.f w.n.toNat (by omega) b3
              obtain ⟨f4, f5, _⟩ := f1
              have f4 : 1 ≤ nn s.cells u.n.toNat := f4
              have f5 : nn s.cells u.n.toNat ≤ 20 := f5
              obtain ⟨m, hm⟩ : ∃ m : Nat, nn s.cells u.n.toNat = (m : Int) := ⟨(nn s.cells u.n.toNat).toNat, by omega⟩
              have hm2 : nn s.cells w.n.toNat = (m : Int) := by rw [← same.1]; exact hm
              obtain ⟨f, hf⟩ : ∃ f : Nat, u.n = (f : Int) := ⟨u.n.toNat, by omega⟩
              obtain ⟨g, hg⟩ : ∃ g : Nat, w.n = (g : Int) := ⟨w.n.toNat, by omega⟩
              rw [hf, Int.toNat_natCast] at a3 hm f2 f3 f4 f5
              rw [hg, Int.toNat_natCast] at b3 hm2 g2 g3
              rw [hm] at f2 f3 f4 f5
              have hfl : f + m < s.cells.length := by omega
              have hgl : g + m < s.cells.length := by rw [hm2] at g2; omega
              rw [hm2] at g3
              have loop : ∀ c, c ≤ m → ∀ (s1 : Store) (p1 : Nat), VSt s1 → Grow s.cells s1.cells → p < p1 → p1 ≤ 20000 →
                  URes (n + 1) s1 p1 (fun k => spec_l10unify_2.l0 k ⟨s.cells, s.trail, (p : Int)⟩ u w ((m - c + 1 : Nat) : Int) s1.cells s1.trail (p1 : Int)) (fun rest k => impl_Store_unify_2.l0 k (rest ++ pst s.cells f g m c) (p1 : Int) s1.cells s1.trail) := by
                intro c
                induction c with
                | zero =>
                  intro hc s1 p1 v1 gr p2 p3
                  refine ⟨0, s1, p1, 0, 0, v1, Grow.refl _, fun _ => ⟨Nat.le_refl _, p3⟩, fun k hk => ?_, fun rest k hl hk => ?_⟩
                  · obtain ⟨k, rfl⟩ : ∃ q, k = q + 1 := ⟨k - 1, by omega⟩
                    show spec_l10unify_2.l0 (k + 1) _ _ _ _ _ _ _ = _
                    rw [spec_l10unify_2.l0]
                    show (if ((m - 0 + 1 : Nat) : Int) ≤ nn s.cells u.n.toNat then _ else _) = _
                    rw [hf, Int.toNat_natCast, hm, if_neg (by omega)]
                  · show impl_Store_unify_2.l0 (k + 0) (rest ++ []) _ _ _ = _
                    rw [List.append_nil, if_pos rfl]; rfl
                | succ c ihc =>
                  intro hc s1 p1 v1 gr p2 p3
                  have il1 : 1 ≤ m - c := by omega
                  have fw : Okw s.cells (s.cells.getD (f + (m - c)) c0) := v.good.w _ (by omega) (f3 _ il1 (by omega))
                  have gw : Okw s.cells (s.cells.getD (g + (m - c)) c0) := v.good.w _ (by omega) (g3 _ il1 (by omega))
                  have fk := f3 (m - c) il1 (by omega)
                  have gk := g3 (m - c) il1 (by omega)
                  have l1 := gr.1
                  have fw1 := v1.good.w (f + (m - c)) (by omega) (fun q => fk ((gr.kd3 _).1 q))
                  have gw1 := v1.good.w (g + (m - c)) (by omega) (fun q => gk ((gr.kd3 _).1 q))
                  obtain ⟨r1, s2, p2', K1, d1, v2, gr2, hr1, e1, i1⟩ := ih s1 p1 _ _ _ _ v1 (by omega) p3 fw1 gw1 (gr.okw fw) (gr.okw gw) (same_grow v1 gr (by omega) fw fk) (same_grow v1 gr (by omega) gw gk)
                  have specs : ∀ k, K1 < k → spec_l10unify_2.l0 (k + 1) ⟨s.cells, s.trail, (p : Int)⟩ u w ((m - (c + 1) + 1 : Nat) : Int) s1.cells s1.trail (p1 : Int) = (if r1 ≠ 0 then some (r1, (⟨s2.cells, s2.trail, (p2' : Int)⟩ : GL10heap)) else spec_l10unify_2.l0 k ⟨s.cells, s.trail, (p : Int)⟩ u w ((m - c + 1 : Nat) : Int) s2.cells s2.trail (p2' : Int)) := by
                    intro k hk
                    have q1 : IntKind.i64.wrap ((f : Int) + ((m - (c + 1) + 1 : Nat) : Int)) = ((f + (m - c) : Nat) : Int) := by rw [wrap_id (by omega) (by omega)]; omega
                    have q2 : IntKind.i64.wrap ((g : Int) + ((m - (c + 1) + 1 : Nat) : Int)) = ((g + (m - c) : Nat) : Int) := by rw [wrap_id (by omega) (by omega)]; omega
                    have q3 : IntKind.i64.wrap (((m - (c + 1) + 1 : Nat) : Int) + 1) = ((m - c + 1 : Nat) : Int) := by rw [wrap_id (by omega) (by omega)]; omega
                    rw [spec_l10unify_2.l0]
                    show (if ((m - (c + 1) + 1 : Nat) : Int) ≤ nn s.cells u.n.toNat then _ else _) = _
                    rw [hf, hg, Int.toNat_natCast, hm, if_pos (by omega), q1, q2, q3, if_pos (by omega), if_pos (by omega), if_pos (by omega), if_pos (by omega), Int.toNat_natCast, Int.toNat_natCast]
                    have e1 : spec_l10unify_2.f k ⟨s1.cells, s1.trail, (p1 : Int)⟩ (s1.cells.getD (f + (m - c)) z36) (s1.cells.getD (g + (m - c)) z36) = _ := e1 k hk
                    rw [e1, Option.bind_some]
                  have ims : ∀ (rest : List GT97) k, rest.length + 20 * (n + 1) ≤ 1000000000 → K1 < k → impl_Store_unify_2.l0 (k + d1) (rest ++ pst s.cells f g m (c + 1)) (p1 : Int) s1.cells s1.trail = if r1 = 0 then impl_Store_unify_2.l0 k (rest ++ pst s.cells f g m c) (p2' : Int) s2.cells s2.trail else some (r1, s2) := by
                    intro rest k hl hk
                    have := i1 (rest ++ pst s.cells f g m c) k (by rw [List.length_append, pst_len]; omega) hk
                    rw [pst, ← List.append_assoc]
                    exact this
                  by_cases h : r1 = 0
                  · obtain ⟨r3, s3, p4, K3, d3, v3, gr3, hr3, e3, i3⟩ := ihc (by omega) s2 p2' v2 (gr.trans gr2) (by have := (hr1 h).1; omega) (hr1 h).2
                    refine ⟨r3, s3, p4, K1 + K3 + 1, d3 + d1, v3, gr2.trans gr3, fun q => ⟨by have := (hr1 h).1; have := (hr3 q).1; omega, (hr3 q).2⟩, fun k hk => ?_, fun rest k hl hk => ?_⟩
                    · obtain ⟨k, rfl⟩ : ∃ q, k = q + 1 := ⟨k - 1, by omega⟩
                      show spec_l10unify_2.l0 (k + 1) _ _ _ _ _ _ _ = _
                      rw [specs k (by omega), if_neg (by simpa using h)]
                      exact e3 k (by omega)
                    · show impl_Store_unify_2.l0 (k + (d3 + d1)) _ _ _ _ = _
                      rw [← Nat.add_assoc, ims rest (k + d3) hl (by omega), if_pos h]
                      exact i3 rest k hl (by omega)
                  · refine ⟨r1, s2, p2', K1 + 1, d1, v2, gr2, fun q => absurd q h, fun k hk => ?_, fun rest k hl hk => ?_⟩
                    · obtain ⟨k, rfl⟩ : ∃ q, k = q + 1 := ⟨k - 1, by omega⟩
                      show spec_l10unify_2.l0 (k + 1) _ _ _ _ _ _ _ = _
                      rw [specs k (by omega), if_pos h]
                    · show impl_Store_unify_2.l0 (k + d1) _ _ _ _ = _
                      rw [ims rest k hl (by omega), if_neg h, if_neg h]
              obtain ⟨r3, s3, p4, K3, d3, v3, gr3, hr3, e3, i3⟩ := loop m (Nat.le_refl _) s (p + 1) v (Grow.refl _) (by omega) (by omega)
              refine ⟨r3, s3, p4, N + K3 + 2, d3 + m + 5, v3, gr3, fun q => ⟨by have := (hr3 q).1; omega, (hr3 q).2⟩, fun k hk => ?_, fun rest k hl hk => ?_⟩
              · obtain ⟨k, rfl⟩ : ∃ q, k = q + 1 := ⟨k - 1, by omega⟩
                show spec_l10unify_2.f (k + 1) ⟨s.cells, s.trail, (p : Int)⟩ x y = _
                have := e3 k (by omega)
                rw [show ((m - m + 1 : Nat) : Int) = 1 by omega] at this
                rw [specL k (by omega)]
                exact this
              · show impl_Store_unify_2.l0 (k + (d3 + m + 5)) (rest ++ [⟨x', y'⟩]) (p : Int) s.cells s.trail = _
                have pu := push_args s (p : Int) f g m hfl hgl hcl rest (by omega) m 0 (k + d3) (by omega)
                rw [pst, List.append_nil, wrap_nat (by omega)] at pu
                rw [show k + (d3 + m + 5) = (k + d3 + m + 1) + 4 by omega, l3 rest _ (by omega) (by omega), if_neg (by simp only [decide_eq_true_eq]; exact fun q => q same), hf, hg, Int.toNat_natCast, hm, pu]
                exact i3 rest k hl (by omega)
            · refine stay 4 (fun k hk => ?_) 4 (fun rest k hk hr => ?_)
              · rw [spec0 k hk, if_neg u0, if_neg w0, if_neg uw, if_neg u4, if_pos a1, if_pos a2, if_pos b1, if_pos b2]
                by_cases e : nn s.cells u.n.toNat = nn s.cells w.n.toNat
                · rw [if_neg (by simpa using e), if_pos (fun q => same ⟨e, q⟩)]
                · rw [if_pos e]
              · rw [l3 rest k hk hr, if_pos (by simp only [decide_eq_true_eq]; exact same)]; rfl
end Go.Proofs.Ytnigifmkjmbfiaa
