import Derived.Test.YtognefkopbbdnaaPuFu11
namespace Go.Proofs.Ytognefkopbbdnaa
open Go.Sx Go.Sy
set_option linter.unusedVariables false
set_option linter.unusedSimpArgs false
set_option linter.unusedSectionVars false
set_option maxRecDepth 4000
/-! ### variants -/
inductive PW (R : Cell → Cell → Prop) : List Cell → List Cell → Prop
  | nil : PW R [] []
  | cons {c d cs ds} (h : R c d) (t : PW R cs ds) : PW R (c :: cs) (d :: ds)
theorem sx_len {θ : Int → List Cell} : ∀ cs : List Cell, (∀ c, c ∈ cs → c.kind = 0 → 1 ≤ (θ c.n).length) → cs.length ≤ (sx θ cs).length
  | [], _ => by simp
  | c :: cs, h => by
    have ih := sx_len cs fun d hd => h d (.tail _ hd)
    rw [sx_cons, List.length_append, List.length_cons]
    by_cases h0 : c.kind = 0
    · rw [if_pos h0]; have := h c (.head _) h0; omega
    · rw [if_neg h0]; simp; omega
theorem sx_pw {θ : Int → List Cell} : ∀ cs ds : List Cell, (∀ c, c ∈ cs → c.kind = 0 → 1 ≤ (θ c.n).length) → sx θ cs = ds → cs.length = ds.length → PW (fun c d => (c.kind ≠ 0 → d = c) ∧ (c.kind = 0 → θ c.n = [d])) cs ds
  | [], ds, _, h, hl => by
    have : ds = [] := List.length_eq_zero_iff.1 hl.symm
    subst this; exact .nil
  | c :: cs, ds, hn, h, hl => by
    have hlen := sx_len cs fun d hd => hn d (.tail _ hd)
    rw [sx_cons] at h
    have h2 := congrArg List.length h
    rw [List.length_append] at h2
    by_cases h0 : c.kind = 0
    · rw [if_pos h0] at h h2
      have h1 := hn c (.head _) h0
      simp only [List.length_cons] at hl
      obtain ⟨d, hd⟩ : ∃ d, θ c.n = [d] := List.length_eq_one_iff.1 (by omega)
      rw [hd] at h h2
      subst h
      exact .cons ⟨fun h => absurd h0 h, fun _ => hd⟩ (sx_pw cs _ (fun d hd => hn d (.tail _ hd)) rfl (by simpa using hl))
    · rw [if_neg h0] at h
      subst h
      exact .cons ⟨fun _ => rfl, fun h => absurd h h0⟩ (sx_pw cs _ (fun d hd => hn d (.tail _ hd)) rfl (by simpa using hl))
theorem pw_both {R S : Cell → Cell → Prop} {cs ds : List Cell} (h : PW R cs ds) : PW S ds cs → PW (fun c d => R c d ∧ S d c) cs ds := by
  induction h with
  | nil => intro _; exact .nil
  | cons h _ ih => intro g; cases g with | cons a b => exact .cons ⟨h, a⟩ (ih b)
theorem pw_imp {R S : Cell → Cell → Prop} {cs ds : List Cell} (h : PW R cs ds) (hi : ∀ c d, c ∈ cs → d ∈ ds → R c d → S c d) : PW S cs ds := by
  induction h with
  | nil => exact .nil
  | cons h _ ih => exact .cons (hi _ _ (.head _) (.head _) h) (ih fun c d hc hd => hi c d (.tail _ hc) (.tail _ hd))
def RR (f g : Int → Int) (c d : Cell) : Prop := (c.kind ≠ 0 ∧ d = c) ∨ (c.kind = 0 ∧ d.kind = 0 ∧ d.n = f c.n ∧ g d.n = c.n ∧ c.text = d.text)
theorem num_map {f g : Int → Int} : ∀ (V : List Int) (v : Int), (∀ a, a ∈ V → g (f a) = a) → g (f v) = v → num (V.map f) (f v) = num V v
  | [], _, _, _ => rfl
  | x :: V, v, h, hv => by
    have ih := num_map V v (fun a ha => h a (.tail _ ha)) hv
    rw [List.map_cons]
    by_cases hx : x = v
    · rw [num_eq hx, num_eq (by rw [hx])]
    · have : ¬ f x = f v := fun e => hx (by rw [← h x (.head _), e, hv])
      rw [num_ne hx, num_ne this, ih]
theorem varsC_map {f g : Int → Int} {cs ds : List Cell} (h : PW (RR f g) cs ds) : ∀ A : List Int, (∀ a, a ∈ A → g (f a) = a) → varsC ds (A.map f) = (varsC cs A).map f ∧ ∀ a, a ∈ varsC cs A → g (f a) = a := by
  induction h with
  | nil => exact fun A h => ⟨rfl, h⟩
  | @cons c d cs ds h _ ih =>
    intro A hA
    show varsC ds (addV (A.map f) d) = (varsC cs (addV A c)).map f ∧ _
    have key : addV (A.map f) d = (addV A c).map f ∧ ∀ a, a ∈ addV A c → g (f a) = a := by
      rcases h with ⟨h0, rfl⟩ | ⟨h0, h1, h2, h3, _⟩
      · unfold addV; rw [if_neg (fun q => h0 q.1), if_neg (fun q => h0 q.1)]; exact ⟨rfl, hA⟩
      · unfold addV
        have hcc : g (f c.n) = c.n := by rw [← h2]; exact h3
        by_cases hm : c.n ∈ A
        · rw [if_neg (fun q => q.2 (by rw [h2]; exact List.mem_map_of_mem hm)), if_neg (fun q => q.2 hm)]; exact ⟨rfl, hA⟩
        · have hm2 : d.n ∉ A.map f := fun q => by
            obtain ⟨a, ha, e⟩ := List.mem_map.1 q
            rw [h2] at e
            have := hA a ha
            rw [e, hcc] at this
            exact hm (this ▸ ha)
          rw [if_pos ⟨h1, hm2⟩, if_pos ⟨h0, hm⟩, List.map_append, h2]
          refine ⟨rfl, fun a ha => ?_⟩
          rcases List.mem_append.1 ha with ha | ha
          · exact hA a ha
          · rw [List.mem_singleton.1 ha]; exact hcc
    rw [key.1]
    exact ih _ key.2
theorem ren_pw {f g : Int → Int} {V : List Int} {cs ds : List Cell} (h : PW (RR f g) cs ds) (hV : ∀ a, a ∈ V → g (f a) = a) : cs.map (ren V) = ds.map (ren (V.map f)) := by
  induction h with
  | nil => rfl
  | @cons c d cs ds h _ ih =>
    rw [List.map_cons, List.map_cons, ih]
    congr 1
    rcases h with ⟨h0, rfl⟩ | ⟨h0, h1, h2, h3, h4⟩
    · unfold ren; rw [if_neg h0, if_neg h0]
    · unfold ren
      rw [if_pos h0, if_pos h1, h2, num_map V c.n hV (by rw [← h2]; exact h3)]
      cases c with
      | mk a n s => cases d with
        | mk b m z =>
          have h0 : a = 0 := h0
          have h1 : b = 0 := h1
          have h4 : s = z := h4
          subst h0; subst h1; subst h4; rfl
theorem getD_num : ∀ (V : List Int) (v : Int), v ∈ V → V.getD (num V v) 0 = v
  | [], v, h => by cases h
  | x :: V, v, h => by
    by_cases hx : x = v
    · rw [num_eq hx]; exact hx
    · rw [num_ne hx]
      exact getD_num V v ((List.mem_cons.1 h).elim (fun q => absurd q.symm hx) id)
theorem varsC_sub : ∀ (xs : List Cell) (acc : List Int) (v : Int), v ∈ varsC xs acc → v ∈ acc ∨ ∃ c, c ∈ xs ∧ c.kind = 0 ∧ c.n = v
  | [], acc, v, h => .inl h
  | x :: xs, acc, v, h => by
    rcases varsC_sub xs (addV acc x) v h with h | ⟨c, h1, h2⟩
    · unfold addV at h
      split at h
      · rename_i hx
        rcases List.mem_append.1 h with h | h
        · exact .inl h
        · exact .inr ⟨x, .head _, hx.1, (List.mem_singleton.1 h).symm⟩
      · exact .inl h
    · exact .inr ⟨c, .tail _ h1, h2⟩
theorem ren_sx {V W : List Int} : ∀ cs ds : List Cell, cs.map (ren V) = ds.map (ren W) → Vt cs → (∀ c, c ∈ cs → c.kind = 0 → c.n ∈ V) → sx (fun w => [⟨0, V.getD (num W w) 0, []⟩]) ds = cs
  | [], [], _, _, _ => rfl
  | [], _ :: _, h, _, _ => by simp at h
  | _ :: _, [], h, _, _ => by simp at h
  | c :: cs, d :: ds, h, hv, hm => by
    rw [List.map_cons, List.map_cons] at h
    obtain ⟨h1, h2⟩ := List.cons.inj h
    rw [sx_cons, ren_sx cs ds h2 (fun x hx => hv x (.tail _ hx)) fun x hx => hm x (.tail _ hx)]
    have hk : c.kind = d.kind := by
      have := congrArg Cell.kind h1
      unfold ren at this
      split at this <;> split at this <;> exact this
    by_cases h0 : d.kind = 0
    · have h0c : c.kind = 0 := hk.trans h0
      have hn := congrArg Cell.n h1
      unfold ren at hn
      rw [if_pos h0, if_pos h0c] at hn
      have hn : (num V c.n : Int) = (num W d.n : Int) := hn
      have hn2 : num W d.n = num V c.n := by omega
      rw [if_pos h0, hn2, getD_num V c.n (hm c (.head _) h0c), ← hv c (.head _) h0c]; rfl
    · have h0c : ¬ c.kind = 0 := fun q => h0 (hk.symm.trans q)
      unfold ren at h1
      rw [if_neg h0, if_neg h0c] at h1
      rw [if_neg h0, h1]; rfl
theorem okc_rng {c : Cell} (h : Okc c) (h0 : c.kind = 0) : 0 ≤ c.n ∧ c.n ≤ 1000000 := by
  rcases h with ⟨_, h1, h2, _⟩ | ⟨h, _⟩ | ⟨h, _⟩ | ⟨h, _⟩
  · exact ⟨h1, h2⟩
  all_goals omega
theorem th_pos {θ : Int → List Cell} (hθ : Th θ) {t : Tm} (hw : Wf t) : ∀ c, c ∈ flat t → c.kind = 0 → 1 ≤ (θ c.n).length := fun c hc h0 => by
  have := okc_rng (flat_ok t hw c hc) h0
  obtain ⟨τ, _, e⟩ := hθ _ this.1 this.2
  rw [e]; exact Go.Sy.flat_pos τ
theorem variant_iff {t u : Tm} (ht : Wf t) (hu : Wf u) (h : (matchT t [] u).1 = true) : decide ((flat t).length = (flat u).length ∧ rn (flat t) = rn (flat u)) = (matchT u [] t).1 := by
  obtain ⟨θ, hθ, e1⟩ := (match_iff ht hu).1 h
  have main : ((flat t).length = (flat u).length ∧ rn (flat t) = rn (flat u)) ↔ (matchT u [] t).1 = true := by
    constructor
    · rintro ⟨_, hr⟩
      refine (match_iff hu ht).2 ⟨_, ?_, ren_sx (flat t) (flat u) hr (vt_ok (flat_ok t ht)) fun c hc h0 => varsC_mem (flat t) [] c hc h0⟩
      intro v _ _
      have hb : 0 ≤ (varsC (flat t) []).getD (num (varsC (flat u) []) v) 0 ∧ (varsC (flat t) []).getD (num (varsC (flat u) []) v) 0 ≤ 1000000 := by
        rw [List.getD_eq_getElem?_getD]
        cases e : (varsC (flat t) [])[num (varsC (flat u) []) v]? with
        | none => simp
        | some x =>
          rcases varsC_sub (flat t) [] x (List.mem_of_getElem? e) with h | ⟨c, h1, h2, h3⟩
          · cases h
          · have := okc_rng (flat_ok t ht c h1) h2; rw [h3] at this; exact this
      refine ⟨.mk 0 ((varsC (flat t) []).getD (num (varsC (flat u) []) v) 0) [] [], ?_, by simp [flat, flats]⟩
      simp only [Wf, Wfs]
      exact ⟨.inl ⟨rfl, hb.1, hb.2, rfl⟩, by simp, by simp, trivial⟩
    · intro h2
      obtain ⟨θ', hθ', e2⟩ := (match_iff hu ht).1 h2
      have l1 := sx_len (flat t) (th_pos hθ ht)
      have l2 := sx_len (flat u) (th_pos hθ' hu)
      rw [e1] at l1
      rw [e2] at l2
      have hl : (flat t).length = (flat u).length := by omega
      have p1 := sx_pw (flat t) (flat u) (th_pos hθ ht) e1 hl
      have p2 := sx_pw (flat u) (flat t) (th_pos hθ' hu) e2 hl.symm
      have p : PW (RR (fun v => ((θ v).headD z65).n) (fun v => ((θ' v).headD z65).n)) (flat t) (flat u) := pw_imp (pw_both p1 p2) fun c d hc hd ⟨⟨a1, a2⟩, b1, b2⟩ => by
        by_cases h0 : c.kind = 0
        · by_cases h1 : d.kind = 0
          · have x1 := a2 h0
            have x2 := b2 h1
            have v1 := vt_ok (flat_ok t ht) c hc h0
            have v2 := vt_ok (flat_ok u hu) d hd h1
            exact .inr ⟨h0, h1, by show d.n = ((θ c.n).headD z65).n; rw [x1]; rfl, by show ((θ' d.n).headD z65).n = c.n; rw [x2]; rfl, by rw [v1, v2]⟩
          · rw [b1 h1] at h0; exact absurd h0 h1
        · exact .inl ⟨h0, a1 h0⟩
      refine ⟨hl, ?_⟩
      obtain ⟨q1, q2⟩ := varsC_map p [] (fun a ha => by cases ha)
      unfold rn
      rw [List.map_nil] at q1
      rw [q1]
      exact ren_pw p q2
  cases h2 : (matchT u [] t).1 with
  | true => exact decide_eq_true (main.2 h2)
  | false => exact decide_eq_false fun q => by rw [main.1 q] at h2; cases h2
end Go.Proofs.Ytognefkopbbdnaa
