import Derived.Test.YtognefkopbbdnaaPuFu9
namespace Go.Proofs.Ytognefkopbbdnaa
open Go.Sx Go.Sy
set_option linter.unusedVariables false
set_option linter.unusedSimpArgs false
set_option linter.unusedSectionVars false
set_option maxRecDepth 4000
/-! ### cells tell the term -/
theorem wf_args {a : Int} {n : Int} {s : List UInt8} {us vs : List Tm} (h : Wf (.mk a n s us)) (g : Wf (.mk a n s vs)) : us.length = vs.length := by
  simp only [Wf] at h g
  by_cases hk : a = 3
  · have := h.2.1 hk; have := g.2.1 hk; omega
  · rw [h.2.2.1 hk, g.2.2.1 hk]
mutual
theorem flat_inj : ∀ (t u : Tm) (r1 r2 : List Cell), Wf t → Wf u → flat t ++ r1 = flat u ++ r2 → t = u ∧ r1 = r2
  | .mk a n s us, .mk b m z vs, r1, r2, hw, hw', h => by
    simp only [flat, List.cons_append] at h
    obtain ⟨h1, h2⟩ := List.cons.inj h
    injection h1 with e1 e2 e3
    subst e1; subst e2; subst e3
    have hl := wf_args hw hw'
    simp only [Wf] at hw hw'
    obtain ⟨e, e'⟩ := flats_inj us vs r1 r2 hl hw.2.2.2 hw'.2.2.2 h2
    rw [e]; exact ⟨rfl, e'⟩
theorem flats_inj : ∀ (us vs : List Tm) (r1 r2 : List Cell), us.length = vs.length → Wfs us → Wfs vs → flats us ++ r1 = flats vs ++ r2 → us = vs ∧ r1 = r2
  | [], [], r1, r2, _, _, _, h => ⟨rfl, by simpa [flats] using h⟩
  | [], _ :: _, _, _, hl, _, _, _ => by simp at hl
  | _ :: _, [], _, _, hl, _, _, _ => by simp at hl
  | t :: us, u :: vs, r1, r2, hl, hw, hw', h => by
    simp only [Wfs] at hw hw'
    simp only [flats, List.append_assoc] at h
    obtain ⟨e1, e2⟩ := flat_inj t u _ _ hw.1 hw'.1 h
    obtain ⟨e3, e4⟩ := flats_inj us vs r1 r2 (by simpa using hl) hw.2 hw'.2 e2
    rw [e1, e3]; exact ⟨rfl, e4⟩
end
/-- terms for all variables -/
def Th (θ : Int → List Cell) : Prop := ∀ v, 0 ≤ v → v ≤ 1000000 → ∃ τ, Wf τ ∧ θ v = flat τ
mutual
theorem sx_tree {θ : Int → List Cell} (hθ : Th θ) : ∀ t : Tm, Wf t → ∃ t', Wf t' ∧ flat t' = sx θ (flat t)
  | .mk a n s us, hw => by
    by_cases h0 : a = 0
    · have hv := var_rng hw h0
      obtain ⟨τ, h1, h2⟩ := hθ _ hv.1 hv.2.1
      exact ⟨τ, h1, by rw [sx_var θ hw h0, h2]⟩
    · have hw2 := hw
      simp only [Wf] at hw2
      obtain ⟨us', h1, h2, h3⟩ := sx_trees hθ us hw2.2.2.2
      refine ⟨.mk a n s us', ?_, by rw [sx_tm θ (u := .mk a n s us) h0]; simp only [flat]; rw [h3]; rfl⟩
      simp only [Wf]
      refine ⟨hw2.1, fun h => by rw [h2]; exact hw2.2.1 h, fun h => ?_, h1⟩
      have := hw2.2.2.1 h
      rw [this] at h2
      exact List.length_eq_zero_iff.1 h2
theorem sx_trees {θ : Int → List Cell} (hθ : Th θ) : ∀ ts : List Tm, Wfs ts → ∃ ts', Wfs ts' ∧ ts'.length = ts.length ∧ flats ts' = sx θ (flats ts)
  | [], _ => ⟨[], by simp [Wfs], rfl, rfl⟩
  | t :: ts, hw => by
    simp only [Wfs] at hw
    obtain ⟨t', a1, a2⟩ := sx_tree hθ t hw.1
    obtain ⟨ts', b1, b2, b3⟩ := sx_trees hθ ts hw.2
    exact ⟨t' :: ts', by simp only [Wfs]; exact ⟨a1, b1⟩, by simp [b2], by simp only [flats]; rw [sx_app, a2, b3]⟩
end
theorem sx_split {θ : Int → List Cell} (hθ : Th θ) : ∀ (us ws : List Tm), us.length = ws.length → Wfs us → Wfs ws → sx θ (flats us) = sx θ (flats ws) → ∀ q, q ∈ us.zip ws → sx θ (flat q.1) = sx θ (flat q.2)
  | [], _, _, _, _, _ => fun q hq => by simp at hq
  | _ :: _, [], h, _, _, _ => by simp at h
  | u :: us, w :: ws, h, hu, hw, he => by
    simp only [Wfs] at hu hw
    simp only [flats, sx_app] at he
    obtain ⟨u', a1, a2⟩ := sx_tree hθ u hu.1
    obtain ⟨w', b1, b2⟩ := sx_tree hθ w hw.1
    rw [← a2, ← b2] at he
    obtain ⟨e1, e2⟩ := flat_inj u' w' _ _ a1 b1 he
    intro q hq
    simp only [List.zip_cons_cons] at hq
    rcases List.mem_cons.1 hq with rfl | hq
    · show sx θ (flat u) = sx θ (flat w); rw [← a2, ← b2, e1]
    · exact sx_split hθ us ws (by simpa using h) hu.2 hw.2 e2 q hq
theorem reach_len {θ : Int → List Cell} {m : List (Int × Tm)} (hE : ∀ v t, mget m v = some t → θ v = sx θ (flat t)) {v : Int} {cs : List Cell} (h : Reach m v cs) : (θ v).length ≤ (sx θ cs).length := by
  have hmem : ∀ (cs : List Cell) (x : Int), x ∈ vs cs → (θ x).length ≤ (sx θ cs).length := fun cs x hx => by
    obtain ⟨c, hc, h0, rfl⟩ := mem_vs.1 hx
    obtain ⟨a, b, rfl⟩ := List.append_of_mem hc
    rw [sx_app, sx_cons, if_pos h0]
    simp only [List.length_append]; omega
  induction h with
  | here h => exact hmem _ _ h
  | via h e _ ih => exact Nat.le_trans ih (by rw [← hE _ _ e]; exact hmem _ _ h)
/-- where a unifier is, no run fails -/
theorem run_ok {m : List (Int × Tm)} {p : Nat} {st : List (Tm × Tm)} {c : Int} {m' : List (Int × Tm)} {p' : Nat} (h : Run m p st c m' p') {θ : Int → List Cell} (hθ : Th θ) : Wm m → (∀ q, q ∈ st → Ok2 q) → (∀ v t, mget m v = some t → θ v = sx θ (flat t)) → (∀ q, q ∈ st → sx θ (flat q.1) = sx θ (flat q.2)) → c = 0 ∨ c = 3 := by
  have heq : ∀ {m : List (Int × Tm)} {x y u w : Tm} {st : List (Tm × Tm)}, Wm m → (∀ q, q ∈ (x, y) :: st → Ok2 q) → (∀ v t, mget m v = some t → θ v = sx θ (flat t)) → Wk m x u → Wk m y w → (∀ q, q ∈ (x, y) :: st → sx θ (flat q.1) = sx θ (flat q.2)) → sx θ (flat u) = sx θ (flat w) := by
    intro m x y u w st hm hs hE h1 h2 hq
    have ho := hs _ (.head _)
    have := hq _ (.head _)
    rw [← wk_sx (m' := m) hm hE h1 ho.1.1, ← wk_sx (m' := m) hm hE h2 ho.2.1]; exact this
  have hset : ∀ {m : List (Int × Tm)} {u w : Tm}, (∀ v t, mget m v = some t → θ v = sx θ (flat t)) → Wf u → u.kind = 0 → sx θ (flat u) = sx θ (flat w) → ∀ v t, mget (mset m u.n w) v = some t → θ v = sx θ (flat t) := by
    intro m u w hE hu k0 he v t e
    rw [mget_mset] at e
    by_cases hv : v = u.n
    · rw [if_pos hv] at e; injection e with e; subst e; rw [hv, ← sx_var θ hu k0]; exact he
    · rw [if_neg hv] at e; exact hE v t e
  have hcyc : ∀ {m : List (Int × Tm)} {u w : Tm}, (∀ v t, mget m v = some t → θ v = sx θ (flat t)) → Wf u → u.kind = 0 → ¬ w.kind = 0 → sx θ (flat u) = sx θ (flat w) → ¬ Reach m u.n (flat w) := by
    intro m u w hE hu k0 k1 he hr
    have hr2 : Reach m u.n (flats w.args) := hr.mono fun x hx => (flat_args w).2.2.1 k1 x hx
    have := reach_len hE hr2
    rw [sx_var θ hu k0, sx_tm θ k1] at he
    rw [he, List.length_cons] at this
    omega
  induction h with
  | nil => exact fun _ _ _ _ => .inl rfl
  | limit _ => exact fun _ _ _ _ => .inr rfl
  | same h h1 h2 k1 k2 hn r ih => exact fun hm hs hE hq => ih hm (fun q h => hs q (.tail _ h)) hE fun q h => hq q (.tail _ h)
  | bindL h h1 h2 k1 k2 hn r ih =>
      intro hm hs hE hq
      have ho := hs _ (.head _)
      have hu := wk_ok hm h1 ho.1
      have hw := wk_ok hm h2 ho.2
      exact ih (hm.set hu.1 k1 hw) (fun q h => hs q (.tail _ h)) (hset hE hu.1 k1 (heq hm hs hE h1 h2 hq)) fun q h => hq q (.tail _ h)
  | bindR h h1 h2 k1 k2 hn r ih =>
      intro hm hs hE hq
      have ho := hs _ (.head _)
      have hu := wk_ok hm h1 ho.1
      have hw := wk_ok hm h2 ho.2
      exact ih (hm.set hw.1 k2 hu) (fun q h => hs q (.tail _ h)) (hset hE hw.1 k2 (heq hm hs hE h1 h2 hq).symm) fun q h => hq q (.tail _ h)
  | cyc1 h h1 h2 k1 k2 hr => exact fun hm hs hE hq => absurd hr (hcyc hE (wk_ok hm h1 (hs _ (.head _)).1).1 k1 k2 (heq hm hs hE h1 h2 hq))
  | cyc2 h h1 h2 k1 k2 hr => exact fun hm hs hE hq => absurd hr (hcyc hE (wk_ok hm h2 (hs _ (.head _)).2).1 k2 k1 (heq hm hs hE h1 h2 hq).symm)
  | bind1 h h1 h2 k1 k2 hr r ih =>
      intro hm hs hE hq
      have ho := hs _ (.head _)
      have hu := wk_ok hm h1 ho.1
      have hw := wk_ok hm h2 ho.2
      exact ih (hm.set hu.1 k1 hw) (fun q h => hs q (.tail _ h)) (hset hE hu.1 k1 (heq hm hs hE h1 h2 hq)) fun q h => hq q (.tail _ h)
  | bind2 h h1 h2 k1 k2 hr r ih =>
      intro hm hs hE hq
      have ho := hs _ (.head _)
      have hu := wk_ok hm h1 ho.1
      have hw := wk_ok hm h2 ho.2
      exact ih (hm.set hw.1 k2 hu) (fun q h => hs q (.tail _ h)) (hset hE hw.1 k2 (heq hm hs hE h1 h2 hq).symm) fun q h => hq q (.tail _ h)
  | @fail m p x y u w st h h1 h2 k1 k2 hn =>
      intro hm hs hE hq
      have he := heq hm hs hE h1 h2 hq
      rw [sx_tm θ k1, sx_tm θ k2] at he
      have := (List.cons.inj he).1
      injection this with e1 e2 e3
      exact absurd ⟨e1, e2, e3⟩ hn
  | @args m p x y u w st c m' p' h h1 h2 k1 k2 hn r ih =>
      intro hm hs hE hq
      have ho := hs _ (.head _)
      have hu := wk_ok hm h1 ho.1
      have hw := wk_ok hm h2 ho.2
      have he := heq hm hs hE h1 h2 hq
      rw [sx_tm θ k1, sx_tm θ k2] at he
      have he2 := (List.cons.inj he).2
      have hau := (flat_args u).2.2.2 hu.1
      have haw := (flat_args w).2.2.2 hw.1
      exact ih hm (fun q hq => (List.mem_append.1 hq).elim (zip_ok hu hw q) fun hq => hs q (.tail _ hq)) hE fun q h => (List.mem_append.1 h).elim (sx_split hθ u.args w.args (args_same hu.1 hw.1 k1 hn) hau haw he2 q) fun h => hq q (.tail _ h)
/-! ### the expansions, as terms for variables -/
theorem xt_fun {m : List (Int × Tm)} {cs r : List Cell} (h : Xt m cs r) : ∀ r', Xt m cs r' → r = r' := by
  induction h with
  | nil => intro r' h'; cases h'; rfl
  | cell h0 _ ih =>
    intro r' h'
    cases h' with
    | cell _ h => rw [ih _ h]
    | var h1 e _ _ => rw [h0 h1] at e; cases e
  | var h0 e _ _ ih1 ih2 =>
    intro r' h'
    cases h' with
    | cell h1 _ => rw [h1 h0] at e; cases e
    | var _ e' a b =>
      rw [e] at e'
      injection e' with e'
      subst e'
      rw [ih1 _ a, ih2 _ b]
theorem xt_tree {m : List (Int × Tm)} (hm : Wm m) {cs r : List Cell} (h : Xt m cs r) : ∀ ts : List Tm, flats ts = cs → Wfs ts → ∃ ts', flats ts' = r ∧ Wfs ts' ∧ ts'.length = ts.length := by
  induction h with
  | nil =>
    intro ts e hw
    cases ts with
    | nil => exact ⟨[], rfl, hw, rfl⟩
    | cons t ts => have h1 := congrArg List.length e; simp only [flats, List.length_append, List.length_nil] at h1; have := Go.Sy.flat_pos t; omega
  | @cell c cs r h0 _ ih =>
    intro ts e hw
    cases ts with
    | nil => cases e
    | cons t ts =>
      cases t with
      | mk a n s us =>
        simp only [flats, flat, List.cons_append] at e
        obtain ⟨e1, e2⟩ := List.cons.inj e
        simp only [Wfs, Wf] at hw
        obtain ⟨zs, z1, z2, z3⟩ := ih (us ++ ts) (by rw [flats_append]; exact e2) ((Wfs_append _ _).2 ⟨hw.1.2.2.2, hw.2⟩)
        rw [List.length_append] at z3
        rw [← List.take_append_drop us.length zs] at z1 z2
        rw [flats_append] at z1
        rw [Wfs_append] at z2
        refine ⟨.mk a n s (zs.take us.length) :: zs.drop us.length, ?_, ?_, by simp; omega⟩
        · simp only [flats, flat, List.cons_append]
          rw [z1, e1]
        · have hlen : (zs.take us.length).length = us.length := by rw [List.length_take]; omega
          simp only [Wfs, Wf]
          refine ⟨⟨hw.1.1, fun h => by rw [hlen]; exact hw.1.2.1 h, fun h => ?_, z2.1⟩, z2.2⟩
          have := hw.1.2.2.1 h
          rw [this] at hlen
          rw [this]; rfl
  | @var c cs r' t z h0 e1 _ _ ih1 ih2 =>
    intro ts e hw
    cases ts with
    | nil => cases e
    | cons u ts =>
      cases u with
      | mk a n s us =>
        simp only [flats, flat, List.cons_append] at e
        obtain ⟨e3, e2⟩ := List.cons.inj e
        simp only [Wfs, Wf] at hw
        have ha : ¬ a = 3 := by rw [← e3] at h0; have h0 : a = 0 := h0; omega
        have hus := hw.1.2.2.1 ha
        subst hus
        obtain ⟨z1, a1, a2, a3⟩ := ih1 [t] (by simp [flats]) (by simp only [Wfs]; exact ⟨(hm _ _ e1).1.1, trivial⟩)
        obtain ⟨z2, b1, b2, b3⟩ := ih2 ts (by simpa [flats] using e2) hw.2
        exact ⟨z1 ++ z2, by rw [flats_append, a1, b1], (Wfs_append _ _).2 ⟨a2, b2⟩, by rw [List.length_append, a3, b3]; simp; omega⟩
def Vt (cs : List Cell) : Prop := ∀ c, c ∈ cs → c.kind = 0 → c = ⟨0, c.n, []⟩
theorem vt_ok {cs : List Cell} (h : ∀ c, c ∈ cs → Okc c) : Vt cs := fun c hc h0 => by
  have := h c hc
  cases c with
  | mk k n s =>
    have h0 : k = 0 := h0
    subst h0
    rcases this with ⟨_, _, _, h⟩ | ⟨h, _⟩ | ⟨h, _⟩ | ⟨h, _⟩
    · have h : s = [] := h
      subst h; rfl
    all_goals exact absurd (show (0 : Int) = _ from h) (by decide)
theorem sx_ex {sub : List Binding} {m : List (Int × Tm)} (hr : Rel sub m) : ∃ θ : Int → List Cell, (∀ v, mget m v = none → θ v = [⟨0, v, []⟩]) ∧ (∀ v t, mget m v = some t → Xt m (flat t) (θ v)) := by
  obtain ⟨ρ, hρ⟩ := hr.acyc
  have : ∀ v, ∃ z : List Cell, (mget m v = none → z = [⟨0, v, []⟩]) ∧ (∀ t, mget m v = some t → Xt m (flat t) z) := fun v => by
    cases e : mget m v with
    | none => exact ⟨_, fun _ => rfl, fun t h => by cases h⟩
    | some t =>
      obtain ⟨B, hB⟩ := bound_ex ρ (vs (flat t))
      obtain ⟨r, h⟩ := xt_ex hρ B (flat t) hB
      exact ⟨r, fun h => (by cases h), fun t' h => by injection h with h; subst h; exact h⟩
  obtain ⟨θ, h⟩ := Classical.axiomOfChoice this
  exact ⟨θ, fun v => (h v).1, fun v => (h v).2⟩
theorem xt_sx {m : List (Int × Tm)} {θ : Int → List Cell} (h1 : ∀ v, mget m v = none → θ v = [⟨0, v, []⟩]) (h2 : ∀ v t, mget m v = some t → Xt m (flat t) (θ v)) : ∀ cs : List Cell, Vt cs → Xt m cs (sx θ cs)
  | [], _ => .nil
  | c :: cs, hv => by
    have ih := xt_sx h1 h2 cs fun d hd => hv d (.tail _ hd)
    rw [sx_cons]
    by_cases h0 : c.kind = 0
    · rw [if_pos h0]
      cases e : mget m c.n with
      | none =>
        rw [h1 _ e, ← hv c (.head _) h0]
        exact .cell (fun _ => e) ih
      | some t => exact .var h0 e (h2 _ _ e) ih
    · rw [if_neg h0]; exact .cell (fun h => absurd h h0) ih
theorem xt_unb {m : List (Int × Tm)} {cs r : List Cell} (h : Xt m cs r) : ∀ c, c ∈ r → c.kind = 0 → mget m c.n = none := by
  induction h with
  | nil => intro c hc; cases hc
  | cell h0 _ ih =>
    intro d hd
    rcases List.mem_cons.1 hd with rfl | hd
    · exact h0
    · exact ih d hd
  | var _ _ _ _ ih1 ih2 => exact fun d hd => (List.mem_append.1 hd).elim (ih1 d) (ih2 d)
theorem sx_self {θ : Int → List Cell} : ∀ cs : List Cell, (∀ c, c ∈ cs → c.kind = 0 → θ c.n = [c]) → sx θ cs = cs
  | [], _ => rfl
  | c :: cs, h => by
    rw [sx_cons, sx_self cs fun d hd => h d (.tail _ hd)]
    by_cases h0 : c.kind = 0
    · rw [if_pos h0, h c (.head _) h0]; rfl
    · rw [if_neg h0]; rfl
end Go.Proofs.Ytognefkopbbdnaa
