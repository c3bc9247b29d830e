import Derived.Test.YtnigifmkjmbfiaaPuUs1
namespace Go.Proofs.Ytnigifmkjmbfiaa
open Go.Sx Go.Sy
set_option linter.unusedVariables false
set_option linter.unusedSimpArgs false
set_option linter.unusedSectionVars false
set_option maxRecDepth 4000
/-! ### binding, and that the store stays one -/
theorem same_deref (s : Store) (u : Cell) (h : u.kind ≠ 0) (k : Nat) (hk : 0 < k) : impl_Store_deref.f k s u = some u := by
  obtain ⟨k, rfl⟩ : ∃ q, k = q + 1 := ⟨k - 1, by omega⟩
  rw [impl_Store_deref.f, impl_Store_deref.l0, if_neg h]
def stw (s : Store) (t : Int) (x : Cell) : Int × Store := if s.trail.length ≥ 20000 then (10, s) else (0, ⟨s.cells.set t.toNat x, s.trail ++ [t]⟩)
theorem sset_val (s : Store) (v : VSt s) (p : Int) (t : Int) (x : Cell) (h0 : 0 ≤ t) (h1 : t < (s.cells.length : Int)) : spec_l10set_2.f ⟨s.cells, s.trail, p⟩ t x = some ((stw s t x).1, ⟨(stw s t x).2.cells, (stw s t x).2.trail, p⟩) := by
  have := v.tl
  rw [spec_l10set_2.f]
  show (if (s.trail.length : Int) ≥ 20000 then some (10, _) else (if 0 ≤ t then (if t < (s.cells.length : Int) then (if s.trail.length + 1 ≤ 17592186044416 then _ else none) else none) else none)) = _
  unfold stw
  by_cases h : s.trail.length ≥ 20000
  · rw [if_pos (by omega), if_pos h]
  · rw [if_neg (by omega), if_neg h, if_pos h0, if_pos h1, if_pos (by omega)]
theorem iset_val (s : Store) (v : VSt s) (k : Nat) (t : Int) (x : Cell) (h0 : 0 ≤ t) (h1 : t < (s.cells.length : Int)) : impl_Store_bind_2.l0 k s t x.kind x.n x.text = some (stw s t x) := by
  have := v.tl
  rw [impl_Store_bind_2.l0]
  unfold stw
  by_cases h : s.trail.length ≥ 20000
  · rw [if_pos (by omega), if_pos h]
  · rw [if_neg (by omega), if_neg h, if_pos h0, if_pos h1, if_pos (by omega)]
/-- what a variable may be bound to -/
structure Bnd (s : Store) (D : Cell → Cell) (t : Int) (x : Cell) : Prop where
  t0 : 0 ≤ t
  t1 : t < (s.cells.length : Int)
  k : kd s.cells t.toNat = 0
  n : nn s.cells t.toNat = t
  w : Okw s.cells x
  no : ¬ Occ D s.cells t x
theorem deref_end {s : Store} {N : Nat} {D : Cell → Cell} (hD : DrOK s N D) {u : Cell} (hu : Okw s.cells u) (he : Dend s.cells u) : D u = u := by
  have h1 := (hD u hu).2.2.1 (N + 2) (by omega)
  rw [impl_Store_deref.f, impl_Store_deref.l0] at h1
  by_cases q : u.kind = 0
  · obtain ⟨d1, d2⟩ := he q
    have hz : ∀ i : Nat, (s.cells.getD i z36).kind = kd s.cells i := fun _ => rfl
    have hy : ∀ i : Nat, (s.cells.getD i z36).n = nn s.cells i := fun _ => rfl
    unfold Okw at hu
    rw [if_pos q, if_pos (by omega), if_pos (by omega), hz, if_pos d1, hy, if_neg (by omega)] at h1
    injection h1 with h1; exact h1.symm
  · rw [if_neg q] at h1
    injection h1 with h1; exact h1.symm
theorem deref_step {s : Store} {N : Nat} {D : Cell → Cell} (hD : DrOK s N D) (v : VSt s) {w : Cell} (hw : Okw s.cells w) (q : w.kind = 0) (h : ¬ (kd s.cells w.n.toNat = 0 ∧ nn s.cells w.n.toNat = w.n)) : D w = D (s.cells.getD w.n.toNat c0) := by
  have hw2 := hw
  unfold Okw at hw2
  have r1 : 0 ≤ w.n := by omega
  have r2 : w.n < (s.cells.length : Int) := by omega
  have r3 : kd s.cells w.n.toNat ≠ 3 := by
    rcases hw2 with z | z | z | z
    · omega
    · omega
    · exact z.2.2.2.2
    · omega
  have h1 := (hD w hw).2.2.1 (N + 3) (by omega)
  have h2 := (hD _ (v.good.w w.n.toNat (by omega) r3)).2.2.1 (N + 2) (by omega)
  rw [impl_Store_deref.f] at h2
  have h2 : impl_Store_deref.l0 (N + 2) s (s.cells.getD w.n.toNat z36).kind (s.cells.getD w.n.toNat z36).n (s.cells.getD w.n.toNat z36).text = some (D (s.cells.getD w.n.toNat c0)) := h2
  rw [impl_Store_deref.f, impl_Store_deref.l0, if_pos q, if_pos r1, if_pos r2, h2] at h1
  by_cases z : (s.cells.getD w.n.toNat z36).kind = 0
  · rw [if_pos z, if_pos (show ¬ ((s.cells.getD w.n.toNat z36).n = w.n) from fun e => h ⟨z, e⟩)] at h1
    injection h1 with h1; exact h1.symm
  · rw [if_neg z] at h1
    injection h1 with h1; exact h1.symm
theorem Occ.congr {D : Cell → Cell} {cs : List Cell} {a : Int} {w x : Cell} (h : D w = D x) (o : Occ D cs a w) : Occ D cs a x := by
  cases o with
  | var h1 h2 => exact .var (by rw [← h]; exact h1) (by rw [← h]; exact h2)
  | arg h1 h2 h3 h4 => exact .arg (by rw [← h]; exact h1) h2 (by rw [← h]; exact h3) (by rw [← h]; exact h4)
/-- a store may have grown by bindings -/
def Grow (cs cs' : List Cell) : Prop := cs'.length = cs.length ∧ ∀ j : Nat, cs'.getD j c0 = cs.getD j c0 ∨ (j < cs.length ∧ kd cs j = 0 ∧ nn cs j = (j : Int) ∧ kd cs' j ≠ 3)
theorem Grow.refl (cs : List Cell) : Grow cs cs := ⟨rfl, fun _ => .inl rfl⟩
theorem Grow.trans {a b c : List Cell} (h1 : Grow a b) (h2 : Grow b c) : Grow a c := by
  refine ⟨h2.1.trans h1.1, fun j => ?_⟩
  rcases h1.2 j with e1 | ⟨e1, e2, e3, e4⟩
  · rcases h2.2 j with f1 | ⟨f1, f2, f3, f4⟩
    · exact .inl (f1.trans e1)
    · unfold kd at f2
      unfold nn at f3
      rw [e1] at f2 f3
      exact .inr ⟨by rw [h1.1] at f1; exact f1, f2, f3, f4⟩
  · rcases h2.2 j with f1 | ⟨_, _, _, f4⟩
    · exact .inr ⟨e1, e2, e3, by unfold kd at e4 ⊢; rw [f1]; exact e4⟩
    · exact .inr ⟨e1, e2, e3, f4⟩
theorem Grow.kd3 {cs cs' : List Cell} (h : Grow cs cs') (j : Nat) : kd cs' j = 3 ↔ kd cs j = 3 := by
  rcases h.2 j with e | ⟨_, e2, _, e4⟩
  · unfold kd; rw [e]
  · constructor
    · intro q; exact absurd q e4
    · intro q; rw [e2] at q; cases q
theorem Grow.fun {cs cs' : List Cell} (h : Grow cs cs') {j : Nat} (h3 : kd cs j = 3) : cs'.getD j c0 = cs.getD j c0 := by
  rcases h.2 j with e | ⟨_, e2, _, e4⟩
  · exact e
  · rw [e2] at h3; cases h3
theorem Grow.okw {cs cs' : List Cell} (h : Grow cs cs') {w : Cell} (hw : Okw cs w) : Okw cs' w := by
  have e := h.1
  have k := h.kd3 w.n.toNat
  unfold Okw at hw ⊢
  rw [e]
  rcases hw with q | q | q | q
  · exact .inl q
  · exact .inr (.inl q)
  · exact .inr (.inr (.inl ⟨q.1, q.2.1, q.2.2.1, q.2.2.2.1, fun z => q.2.2.2.2 (k.1 z)⟩))
  · exact .inr (.inr (.inr ⟨q.1, q.2.1, q.2.2.1, q.2.2.2.1, k.2 q.2.2.2.2⟩))
theorem getD_set {cs : List Cell} {t : Nat} (ht : t < cs.length) (x : Cell) (j : Nat) : (cs.set t x).getD j c0 = if j = t then x else cs.getD j c0 := by
  rw [List.getD_eq_getElem?_getD, List.getElem?_set]
  by_cases h : t = j
  · subst h
    rw [if_pos rfl, if_pos ht, if_pos rfl]; rfl
  · rw [if_neg h, if_neg (fun q => h q.symm), ← List.getD_eq_getElem?_getD]
theorem grow_set {s : Store} {D : Cell → Cell} {t : Int} {x : Cell} (b : Bnd s D t x) : Grow s.cells (s.cells.set t.toNat x) := by
  have ht : t.toNat < s.cells.length := by have := b.t0; have := b.t1; omega
  refine ⟨List.length_set, fun j => ?_⟩
  rw [getD_set ht]
  by_cases h : j = t.toNat
  · rw [if_pos h]
    refine .inr ⟨by omega, by rw [h]; exact b.k, by rw [h, b.n]; have := b.t0; omega, ?_⟩
    unfold kd
    rw [getD_set ht, if_pos h]
    have := b.w
    unfold Okw at this
    omega
  · rw [if_neg h]; exact .inl rfl
theorem bind_vst {s : Store} (v : VSt s) {N : Nat} {D : Cell → Cell} (hD : DrOK s N D) {t : Int} {x : Cell} (b : Bnd s D t x) (hl : s.trail.length < 20000) : VSt ⟨s.cells.set t.toNat x, s.trail ++ [t]⟩ := by
  have hg := grow_set b
  have t0 := b.t0; have t1 := b.t1
  have ht : t.toNat < s.cells.length := by omega
  have hset := fun j => getD_set ht x j
  have hk : ∀ j, j ≠ t.toNat → kd (s.cells.set t.toNat x) j = kd s.cells j := fun j h => by unfold kd; rw [hset, if_neg h]
  have hn : ∀ j, j ≠ t.toNat → nn (s.cells.set t.toNat x) j = nn s.cells j := fun j h => by unfold nn; rw [hset, if_neg h]
  have hkt : kd (s.cells.set t.toNat x) t.toNat = x.kind := by unfold kd; rw [hset, if_pos rfl]
  have hnt : nn (s.cells.set t.toNat x) t.toNat = x.n := by unfold nn; rw [hset, if_pos rfl]
  have ht3 : kd s.cells t.toNat ≠ 3 := by rw [b.k]; decide
  have hct : Okw s.cells (s.cells.getD t.toNat c0) := v.good.w _ ht ht3
  have hDt : D (s.cells.getD t.toNat c0) = s.cells.getD t.toNat c0 := deref_end hD hct fun _ => by
    have e2 : (s.cells.getD t.toNat c0).n = t := b.n
    rw [e2]; exact ⟨b.k, b.n⟩
  have occ_t : Occ D s.cells t (s.cells.getD t.toNat c0) := .var (by rw [hDt]; exact b.k) (by rw [hDt]; exact b.n)
  have good : Goodc (s.cells.set t.toNat x) := by
    refine ⟨fun i hi h3 => ?_, fun i hi h3 => ?_⟩
    · rw [hset]
      by_cases h : i = t.toNat
      · rw [if_pos h]; exact hg.okw b.w
      · rw [if_neg h]
        exact hg.okw (v.good.w i (by rw [List.length_set] at hi; exact hi) (by rw [← hk i h]; exact h3))
    · have h3' := (hg.kd3 i).1 h3
      have hne : i ≠ t.toNat := fun e => ht3 (by rw [← e]; exact h3')
      obtain ⟨f1, f2, f3⟩ := v.good.f i (by rw [List.length_set] at hi; exact hi) h3'
      rw [hset, if_neg hne, hn i hne, List.length_set]
      exact ⟨f1, f2, fun l l1 l2 q => f3 l l1 l2 ((hg.kd3 _).1 q)⟩
  -- the ways out of a cell that is not t stay
  have edges : ∀ a, a < s.cells.length → kd s.cells a ≠ 3 → a ≠ t.toNat → sI (s.cells.set t.toNat x) a = sI s.cells a := fun a ha h3 hne => by
    unfold sI
    rw [hk a hne, hn a hne]
    by_cases q : kd s.cells a = 4
    · have hw := v.good.w a ha h3
      have e1 : (s.cells.getD a c0).kind = kd s.cells a := rfl
      have e2 : (s.cells.getD a c0).n = nn s.cells a := rfl
      unfold Okw at hw
      rw [e1, e2] at hw
      have h3' : kd s.cells (nn s.cells a).toNat = 3 := by
        rcases hw with z | z | z | z
        · omega
        · omega
        · omega
        · exact z.2.2.2.2
      rw [hn _ (fun e => ht3 (by rw [← e]; exact h3'))]
    · rw [if_neg q, if_neg q]
  have away : ∀ a, Ac (sI s.cells) a → a < s.cells.length → kd s.cells a ≠ 3 → ¬ Occ D s.cells t (s.cells.getD a c0) → Ac (sI (s.cells.set t.toNat x)) a := by
    intro a h
    induction h with
    | @mk a h ih =>
      intro ha h3 hno
      have hne : a ≠ t.toNat := fun e => hno (by rw [e]; exact occ_t)
      have hw := v.good.w a ha h3
      have e1 : (s.cells.getD a c0).kind = kd s.cells a := rfl
      have e2 : (s.cells.getD a c0).n = nn s.cells a := rfl
      refine .mk fun c hc => ?_
      rw [edges a ha h3 hne] at hc
      obtain ⟨c1, c2⟩ := v.good.next ha h3 hc
      refine ih c hc c1 c2 fun ho => hno ?_
      unfold sI at hc
      split at hc
      · rename_i q
        rw [List.mem_singleton] at hc
        by_cases q2 : kd s.cells (nn s.cells a).toNat = 0 ∧ nn s.cells (nn s.cells a).toNat = nn s.cells a
        · -- c is a variable of its own
          have he : D (s.cells.getD a c0) = s.cells.getD a c0 := deref_end hD hw fun _ => by rw [e2]; exact q2
          have he2 : D (s.cells.getD c c0) = s.cells.getD c c0 := deref_end hD (v.good.w c c1 c2) fun _ => by
            rw [hc]
            have : (s.cells.getD (nn s.cells a).toNat c0).n = nn s.cells (nn s.cells a).toNat := rfl
            rw [this, q2.2]; exact q2
          cases ho with
          | var o1 o2 =>
            rw [he2, hc] at o2
            have o2 : nn s.cells (nn s.cells a).toNat = t := o2
            exact .var (by rw [he]; exact q.1) (by rw [he, e2, ← q2.2]; exact o2)
          | arg o1 _ _ _ =>
            rw [he2, hc] at o1
            have o1 : kd s.cells (nn s.cells a).toNat = 4 := o1
            omega
        · have := deref_step hD v hw q.1 (by rw [e2]; exact q2)
          rw [e2, ← hc] at this
          exact ho.congr this.symm
      · split at hc
        · rename_i q
          obtain ⟨k, hk1, rfl⟩ := List.mem_map.1 hc
          rw [List.mem_range] at hk1
          have he : D (s.cells.getD a c0) = s.cells.getD a c0 := deref_end hD hw fun z => by rw [e1] at z; omega
          refine .arg (l := 1 + k) (by rw [he]; exact q) (by omega) (by rw [he, e2]; omega) ?_
          rw [he, e2, ← Nat.add_assoc]; exact ho
        · cases hc
  -- t itself
  have hx3 : x.kind ≠ 3 := by have := b.w; unfold Okw at this; omega
  have act : Ac (sI (s.cells.set t.toNat x)) t.toNat := by
    refine .mk fun c hc => ?_
    unfold sI at hc
    rw [hkt, hnt] at hc
    have hw := b.w
    unfold Okw at hw
    split at hc
    · rename_i q
      rw [List.mem_singleton] at hc
      rcases hw with z | z | z | z
      · omega
      · omega
      · have c1 : c < s.cells.length := by omega
        have c2 : kd s.cells c ≠ 3 := by rw [hc]; exact z.2.2.2.2
        refine away c (v.all c c1 c2) c1 c2 fun ho => b.no ?_
        by_cases q2 : kd s.cells x.n.toNat = 0 ∧ nn s.cells x.n.toNat = x.n
        · have he : D x = x := deref_end hD b.w fun _ => q2
          have he2 : D (s.cells.getD c c0) = s.cells.getD c c0 := deref_end hD (v.good.w c c1 c2) fun _ => by
            rw [hc]
            have : (s.cells.getD x.n.toNat c0).n = nn s.cells x.n.toNat := rfl
            rw [this, q2.2]; exact q2
          cases ho with
          | var o1 o2 =>
            rw [he2, hc] at o2
            have o2 : nn s.cells x.n.toNat = t := o2
            exact .var (by rw [he]; exact q.1) (by rw [he, ← q2.2]; exact o2)
          | arg o1 _ _ _ =>
            rw [he2, hc] at o1
            have o1 : kd s.cells x.n.toNat = 4 := o1
            omega
        · have := deref_step hD v b.w q.1 q2
          rw [← hc] at this
          exact ho.congr this.symm
      · omega
    · split at hc
      · rename_i q
        obtain ⟨k, hk1, rfl⟩ := List.mem_map.1 hc
        rw [List.mem_range] at hk1
        rcases hw with z | z | z | z
        · omega
        · omega
        · omega
        · have hne : x.n.toNat ≠ t.toNat := fun e => ht3 (by rw [← e]; exact z.2.2.2.2)
          rw [hn _ hne] at hk1
          obtain ⟨g1, g2, g3, g4⟩ := okw_args v b.w q (l := 1 + k) (by omega) (by omega)
          rw [← Nat.add_assoc] at g1 g2
          refine away _ (v.all _ g1 g2) g1 g2 fun ho => b.no ?_
          have he : D x = x := deref_end hD b.w fun z => by omega
          refine .arg (l := 1 + k) (by rw [he]; exact q) (by omega) (by rw [he]; omega) ?_
          rw [he, ← Nat.add_assoc]; exact ho
      · cases hc
  have all : AllI (s.cells.set t.toNat x) := by
    have key : ∀ a, Ac (sI s.cells) a → a < s.cells.length → kd s.cells a ≠ 3 → Ac (sI (s.cells.set t.toNat x)) a := by
      intro a h
      induction h with
      | @mk a h ih =>
        intro ha h3
        by_cases hne : a = t.toNat
        · rw [hne]; exact act
        · refine .mk fun c hc => ?_
          rw [edges a ha h3 hne] at hc
          obtain ⟨c1, c2⟩ := v.good.next ha h3 hc
          exact ih c hc c1 c2
    intro a ha h3
    rw [List.length_set] at ha
    have h3' : kd s.cells a ≠ 3 := fun q => h3 ((hg.kd3 a).2 q)
    exact key a (v.all a ha h3') ha h3'
  refine ⟨by show (s.cells.set t.toNat x).length ≤ 20000; rw [List.length_set]; exact v.cl, by show (s.trail ++ [t]).length ≤ 20000; simp; omega, good, all, fun a ha => ?_⟩
  unfold TrOk
  rw [List.length_set]
  rcases List.mem_append.1 ha with h | h
  · obtain ⟨q1, q2, q3⟩ := v.tr a h
    exact ⟨q1, q2, fun z => q3 ((hg.kd3 _).1 z)⟩
  · rw [List.mem_singleton.1 h]
    exact ⟨t0, t1, fun z => ht3 ((hg.kd3 _).1 z)⟩
theorem bind_val (s : Store) (v : VSt s) (N : Nat) (D : Cell → Cell) (hD : DrOK s N D) (hN : ∀ w, Okw s.cells w → Hw s.cells N w) (hn : ∀ n w, Okw s.cells w → Hw s.cells n w → Hw s.cells n (D w) ∧ (∀ k, n + 1 < k → impl_Store_deref.f k s w = some (D w))) (a : Int) (u : Cell)
    (ha0 : 0 ≤ a) (ha1 : a < (s.cells.length : Int)) (hka : kd s.cells a.toNat = 0) (hna : nn s.cells a.toNat = a) (hu : Okw s.cells u) (hue : Dend s.cells u) (hne : u.kind = 0 → u.n ≠ a) :
    ∃ (r : Int) (s' : Store), VSt s' ∧ Grow s.cells s'.cells ∧ ∀ k, 30 * N + 3000000 < k → impl_Store_bind_2.f k s a u = some (r, s') ∧ ∀ p, spec_l10bind_2.f k ⟨s.cells, s.trail, p⟩ a u = some (r, ⟨s'.cells, s'.trail, p⟩) := by
  have hcl := v.cl
  have hDu : D u = u := deref_end hD hu hue
  have hst : ∀ (t : Int) (x : Cell), Bnd s D t x → VSt (stw s t x).2 ∧ Grow s.cells (stw s t x).2.cells := fun t x b => by
    unfold stw
    split
    · exact ⟨v, Grow.refl _⟩
    · exact ⟨bind_vst v hD b (by omega), grow_set b⟩
  by_cases h0 : u.kind = 0
  · have hb : 0 ≤ u.n ∧ u.n < (s.cells.length : Int) := by unfold Okw at hu; omega
    obtain ⟨k1, k2⟩ := hue h0
    by_cases hg : u.n > a
    · have hw : Okw s.cells ⟨0, a, []⟩ := .inr (.inr (.inl ⟨rfl, rfl, ha0, ha1, by show kd s.cells a.toNat ≠ 3; rw [hka]; decide⟩))
      have hDa : D ⟨0, a, []⟩ = ⟨0, a, []⟩ := deref_end hD hw fun _ => ⟨hka, hna⟩
      have b : Bnd s D u.n ⟨0, a, []⟩ := ⟨hb.1, hb.2, k1, k2, hw, fun o => by
        cases o with
        | var _ o2 => rw [hDa] at o2; have o2 : a = u.n := o2; omega
        | arg o1 _ _ _ => rw [hDa] at o1; cases o1⟩
      obtain ⟨r1, r2⟩ := hst _ _ b
      refine ⟨(stw s u.n ⟨0, a, []⟩).1, (stw s u.n ⟨0, a, []⟩).2, r1, r2, fun k hk => ⟨?_, fun p => ?_⟩⟩
      · rw [impl_Store_bind_2.f, if_pos h0, if_pos hg, impl_ref.f, Option.bind_some]
        exact iset_val s v 0 u.n ⟨0, a, []⟩ hb.1 hb.2
      · rw [spec_l10bind_2.f, if_pos h0, if_pos hg, spec_l10ref.f, Option.bind_some, sset_val s v p _ _ hb.1 hb.2]; rfl
    · have b : Bnd s D a u := ⟨ha0, ha1, hka, hna, hu, fun o => by
        cases o with
        | var _ o2 => rw [hDu] at o2; exact hne h0 o2
        | arg o1 _ _ _ => rw [hDu] at o1; omega⟩
      obtain ⟨r1, r2⟩ := hst _ _ b
      refine ⟨(stw s a u).1, (stw s a u).2, r1, r2, fun k hk => ⟨?_, fun p => ?_⟩⟩
      · rw [impl_Store_bind_2.f, if_pos h0, if_neg hg, if_neg (by omega)]
        exact iset_val s v 0 a u ha0 ha1
      · rw [spec_l10bind_2.f, if_pos h0, if_neg hg, sset_val s v p _ _ ha0 ha1]; rfl
  · obtain ⟨b, m', e1, e2, e3⟩ := within_val s v D a hn (fun w hw => (hD w hw).1) N u [] (fun _ => False) hu (hN u hu) (fun f hf => by simp [seenI, mget] at hf)
    have hb : b = true ↔ Occ D s.cells a u := ⟨e2, fun ho => by
      cases b with
      | true => rfl
      | false =>
        obtain ⟨_, q2, q3, q4⟩ := e3 rfl
        exact (no_occ (S := seenI m') (fun f hf => q2 f hf (fun z => z)) ho q3 q4).elim⟩
    by_cases h4 : u.kind = 4
    · have hs : ∀ k p, 30 * N + 3000000 < k → ∃ b', spec_l10within.f k ⟨s.cells, s.trail, p⟩ a u = some b' ∧ (b' = true ↔ Occ D s.cells a u) := fun k p hk => by
        have hw := white_le (z := false) (List.replicate s.cells.length false)
        rw [List.length_replicate] at hw
        rw [spec_l10within.f, if_pos (show (0 : Int) ≤ (s.cells.length : Int) by omega), if_pos (show ((s.cells.length : Int)).toNat ≤ 281474976710656 by omega)]
        refine swithin_val s v N D hD a s.trail p u (1 + 45 * white false (List.replicate s.cells.length false)) [u] (List.replicate s.cells.length false) k (Nat.le_refl _) (by omega) List.length_replicate (by simp) (by simp; omega) (fun x hx => by rw [List.mem_singleton.1 hx]; exact ⟨hu, id⟩) (fun f hf => ?_) (.inr (.head _))
        exfalso
        have := hf.1
        rw [List.getD_eq_getElem?_getD, List.getElem?_replicate] at this
        split at this <;> simp at this
      cases b with
      | true =>
        refine ⟨5, s, v, Grow.refl _, fun k hk => ⟨?_, fun p => ?_⟩⟩
        · rw [impl_Store_bind_2.f, if_neg h0, if_pos h0, e1 k (by omega), Option.bind_some, if_pos rfl]
        · obtain ⟨b', f1, f2⟩ := hs k p hk
          obtain rfl : b' = true := f2.2 (hb.1 rfl)
          rw [spec_l10bind_2.f, if_neg h0, if_pos h4, f1, Option.bind_some, if_pos rfl]
      | false =>
        have bd : Bnd s D a u := ⟨ha0, ha1, hka, hna, hu, fun o => by have := hb.2 o; cases this⟩
        obtain ⟨r1, r2⟩ := hst _ _ bd
        refine ⟨(stw s a u).1, (stw s a u).2, r1, r2, fun k hk => ⟨?_, fun p => ?_⟩⟩
        · rw [impl_Store_bind_2.f, if_neg h0, if_pos h0, e1 k (by omega), Option.bind_some, if_neg (by simp)]
          exact iset_val s v 0 a u ha0 ha1
        · obtain ⟨b', f1, f2⟩ := hs k p hk
          have : b' = false := by
            cases b' with
            | false => rfl
            | true => have := hb.2 (f2.1 rfl); cases this
          subst this
          rw [spec_l10bind_2.f, if_neg h0, if_pos h4, f1, Option.bind_some, if_neg (by simp), sset_val s v p _ _ ha0 ha1]; rfl
    · have noc : ¬ Occ D s.cells a u := fun o => by
        cases o with
        | var q1 q2 => rw [hDu] at q1; exact h0 q1
        | arg q1 _ _ _ => rw [hDu] at q1; exact h4 q1
      obtain rfl : b = false := by
        cases b with
        | false => rfl
        | true => exact (noc (e2 rfl)).elim
      obtain ⟨r1, r2⟩ := hst _ _ ⟨ha0, ha1, hka, hna, hu, noc⟩
      refine ⟨(stw s a u).1, (stw s a u).2, r1, r2, fun k hk => ⟨?_, fun p => ?_⟩⟩
      · rw [impl_Store_bind_2.f, if_neg h0, if_pos h0, e1 k (by omega), Option.bind_some, if_neg (by simp)]
        exact iset_val s v 0 a u ha0 ha1
      · rw [spec_l10bind_2.f, if_neg h0, if_neg h4, sset_val s v p _ _ ha0 ha1]; rfl
end Go.Proofs.Ytnigifmkjmbfiaa
