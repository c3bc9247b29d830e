import Derived.Test.YtognefkopbbdnaaPuUn5
namespace Go.Proofs.Ytognefkopbbdnaa
open Go.Sx Go.Sy
set_option linter.unusedVariables false
set_option linter.unusedSimpArgs false
set_option linter.unusedSectionVars false
set_option maxRecDepth 4000
open Classical in
theorem st_l1 {sub : List Binding} {m : List (Int × Tm)} (hr : Rel sub m) (hl : sub.length ≤ 1000000) {ρ : Int → Nat} (hρ : ∀ v t, mget m v = some t → ∀ u, u ∈ vs (flat t) → ρ u < ρ v) {v : Int} (hv : mget m v = none) (p : Int) (T : Prop) :
    ∀ (U N : Nat) (x34 x72 : List (List Cell)) (X : List Cell) (i : Nat) (seen : List Bool), x34.getD ((IntKind.i64.wrap ((x34.length : Int) - 1)).toNat) [] = X → i ≤ X.length → X.length ≤ 2000 → (∀ x, x ∈ x72 → x.length ≤ 2000) → seen.length = sub.length → seen.count false = U → x72.length + U ≤ sub.length + 1 →
      N = (X.length - i) + (x72.map (fun x => x.length + 2)).sum → Inv sub m ρ v T (vs (X.drop i) ++ vs x72.flatten) seen → Ev (fun k => spec_l5stands.l1 k ⟨sub, p⟩ v x34 x72 (i : Int) seen) (decide T) := by
  intro U
  induction U using Nat.strongRecOn with
  | _ U ihU =>
    intro N
    induction N using Nat.strongRecOn with
    | _ N ihN =>
      intro x34 x72 X i seen hX hi hXl hx hsl hc hb hN hI
      have wi : IntKind.i64.wrap ((i : Int) + 1) = ((i + 1 : Nat) : Int) := by rw [wrap_id (by omega) (by omega)]; omega
      by_cases hlt : i < X.length
      · -- a cell
        have hgd : X.getD i z65 = X[i] := by rw [List.getD_eq_getElem?_getD, List.getElem?_eq_getElem hlt]; rfl
        rw [List.drop_eq_getElem_cons hlt, vs_cons] at hI
        have hN' : (X.length - (i + 1)) + (x72.map (fun x => x.length + 2)).sum < N := by omega
        by_cases hk : X[i].kind = 0
        · rw [if_pos hk] at hI
          by_cases hn : X[i].n = v
          · have hT : T := hI.sound v (by rw [hn]; simp) (.inl rfl)
            refine Ev.succ (fun k => ?_) (Ev.ret _)
            rw [spec_l5stands.l1, hX, if_pos (by omega), if_pos (by omega), Int.toNat_natCast, hgd, if_neg (by simpa using hk), if_pos hn, decide_eq_true hT]
          · have step : ∀ k, spec_l5stands.l1 (k + 1) ⟨sub, p⟩ v x34 x72 (i : Int) seen = (spec_l5index.f k sub X[i].n).bind fun t127 => (if t127 ≥ 0 then (if 0 ≤ t127 then (if t127 < (((sub.length : Int)).toNat : Int) then (if ¬ ((seen.getD ((t127).toNat) false) = true) then (if t127 < (sub.length : Int) then (if x72.length + 1 ≤ 5864062014805 then (spec_l5stands.l1 k ⟨sub, p⟩ v x34 (x72 ++ [(sub.getD ((t127).toNat) z63).term]) ((i + 1 : Nat) : Int) (seen.set ((t127).toNat) true)) else none) else none) else (spec_l5stands.l1 k ⟨sub, p⟩ v x34 x72 ((i + 1 : Nat) : Int) seen)) else none) else none) else (spec_l5stands.l1 k ⟨sub, p⟩ v x34 x72 ((i + 1 : Nat) : Int) seen)) := fun k => by
              rw [spec_l5stands.l1, hX, if_pos (by omega), if_pos (by omega), Int.toNat_natCast, hgd, if_neg (by simpa using hk), if_neg hn, wi]
            rcases hr.idx hl X[i].n with ⟨e, ev⟩ | ⟨s, j, hj, e, ev, e3, e4⟩
            · have hmiss : ¬ Hit m v X[i].n := by
                rintro (q | ⟨s, q, _⟩)
                · exact hn q
                · rw [e] at q; cases q
              refine Ev.succ step (Ev.bind ev (Ev.of (fun k => if_neg (by decide)) ?_))
              exact ihN _ hN' x34 x72 X (i + 1) seen hX (by omega) hXl hx hsl hc hb rfl (Inv.miss (by simpa using hI) hmiss)
            · have hI' : Inv sub m ρ v T (sub[j].var :: (vs (X.drop (i + 1)) ++ vs x72.flatten)) seen := by rw [e3]; simpa using hI
              by_cases hs : seen.getD j false = true
              · refine Ev.succ step (Ev.bind ev (Ev.of (fun k => ?_) (ihN _ hN' x34 x72 X (i + 1) seen hX (by omega) hXl hx hsl hc hb rfl (hI'.again hj hs))))
                rw [if_pos (by omega), if_pos (by omega), if_pos (by omega), Int.toNat_natCast, if_neg (by simpa using hs)]
              · have hs' : seen.getD j false = false := by simpa using hs
                have hcnt := count_set (l := seen) (j := j) (by omega) hs'
                have hgj : (sub.getD j z63).term = flat s := by rw [gd hj, e4]
                have hop := hI'.open hj (s := s) (by rw [e3]; exact hn) (by rw [e3]; exact e) (by rw [e3]; exact hρ _ _ e) hsl
                refine Ev.succ step (Ev.bind ev (Ev.of (fun k => ?_) (ihU ((seen.set j true).count false) (by omega) _ x34 (x72 ++ [flat s]) X (i + 1) (seen.set j true) hX (by omega) hXl (fun x hx' => ?_) (by rw [List.length_set]; exact hsl) rfl (by rw [List.length_append]; simp; omega) rfl (hop.congr (fun y => ?_)))))
                · rw [if_pos (by omega), if_pos (by omega), if_pos (by omega), Int.toNat_natCast, if_pos (by simpa using hs'), if_pos (by omega), if_pos (by omega), hgj]
                · rcases List.mem_append.1 hx' with q | q
                  · exact hx x q
                  · have : x = flat s := by simpa using q
                    rw [this]; exact (hr.wf _ _ e).2
                · simp only [List.flatten_append, List.flatten_cons, List.flatten_nil, List.append_nil, vs_append, List.mem_append]
                  constructor
                  · rintro (q | q | q)
                    · exact .inr (.inr q)
                    · exact .inl q
                    · exact .inr (.inl q)
                  · rintro (q | q | q)
                    · exact .inr (.inl q)
                    · exact .inr (.inr q)
                    · exact .inl q
        · rw [if_neg hk] at hI
          refine Ev.succ (fun k => ?_) (ihN _ hN' x34 x72 X (i + 1) seen hX (by omega) hXl hx hsl hc hb rfl hI)
          rw [spec_l5stands.l1, hX, if_pos (by omega), if_pos (by omega), Int.toNat_natCast, hgd, if_pos hk, wi]
      · -- the next term
        rw [List.drop_of_length_le (by omega)] at hI
        have s1 : ∀ k, spec_l5stands.l1 (k + 1) ⟨sub, p⟩ v x34 x72 (i : Int) seen = spec_l5stands.l0 k ⟨sub, p⟩ v x72 seen := fun k => by
          rw [spec_l5stands.l1, hX, if_neg (by omega)]
        refine Ev.succ s1 ?_
        by_cases h0 : x72 = []
        · subst h0
          have hT : ¬ T := fun t => by
            obtain ⟨y, a, _⟩ := hI.full t
            simp [vs] at a
          refine Ev.succ (fun k => ?_) (Ev.ret _)
          rw [spec_l5stands.l0, if_neg (by simp), decide_eq_false hT]
        · obtain ⟨L, x, rfl⟩ : ∃ L x, x72 = L ++ [x] := ⟨x72.dropLast, x72.getLast h0, (List.dropLast_concat_getLast h0).symm⟩
          have hlen : (L ++ [x]).length = L.length + 1 := by simp
          have wl : IntKind.i64.wrap (((L ++ [x]).length : Int) - 1) = (L.length : Int) := by rw [hlen, wrap_id (by omega) (by omega)]; omega
          have htk : (L ++ [x]).take ((L.length : Int)).toNat = L := by rw [Int.toNat_natCast, List.take_left]
          have s0 : ∀ k, spec_l5stands.l0 (k + 1) ⟨sub, p⟩ v (L ++ [x]) seen = spec_l5stands.l1 k ⟨sub, p⟩ v (L ++ [x]) L ((0 : Nat) : Int) seen := fun k => by
            rw [spec_l5stands.l0, wl, if_pos (by rw [hlen]; omega), if_pos (by omega), if_pos (by rw [hlen]; omega), if_pos (by rw [hlen]; omega), htk]; rfl
          refine Ev.succ s0 ?_
          have hsum : (((L ++ [x]).map (fun x => x.length + 2)).sum) = (L.map (fun x => x.length + 2)).sum + (x.length + 2) := by simp
          refine ihN _ ?_ (L ++ [x]) L x 0 seen (by rw [wl, Int.toNat_natCast]; simp) (by omega) (hx x (by simp)) (fun y hy => hx y (by simp [hy])) hsl hc (by rw [hlen] at hb; omega) rfl (hI.congr (fun y => ?_))
          · rw [hsum] at hN; omega
          · simp only [List.flatten_append, List.flatten_cons, List.flatten_nil, List.append_nil, vs_append, List.mem_append, List.drop_zero]
            constructor
            · rintro (q | q | q)
              · simp [vs] at q
              · exact .inr q
              · exact .inl q
            · rintro (q | q)
              · exact .inr (.inr q)
              · exact .inr (.inl q)
open Classical in
theorem l5stands_val {sub : List Binding} {m : List (Int × Tm)} (hr : Rel sub m) (hl : sub.length ≤ 1000000) {v : Int} (hv : mget m v = none) (p : Int) {t : Tm} (hw : Wf t ∧ (flat t).length ≤ 2000) : Ev (fun k => spec_l5stands.f k ⟨sub, p⟩ v (flat t)) (decide (Reach m v (flat t))) := by
  obtain ⟨ρ, hρ⟩ := hr.acyc
  have hI : Inv sub m ρ v (Reach m v (flat t)) (vs (flat t)) (List.replicate sub.length false) := by
    refine ⟨fun y hy hh => reach_hit.2 ⟨y, hy, hh⟩, fun h => reach_hit.1 h, fun j hj hs => ?_⟩
    rw [List.getD_eq_getElem?_getD, List.getElem?_replicate, if_pos hj] at hs
    cases hs
  have main := st_l1 hr hl hρ hv p (Reach m v (flat t)) sub.length ((flat t).length - 0 + (([] : List (List Cell)).map (fun x => x.length + 2)).sum) [flat t] [] (flat t) 0 (List.replicate sub.length false) (by rfl) (by omega) hw.2 (by simp) (by simp) (by simp) (by simp) rfl (hI.congr (fun y => by simp [vs]))
  have h0 : ∀ k, spec_l5stands.f (k + 1) ⟨sub, p⟩ v (flat t) = spec_l5stands.l1 k ⟨sub, p⟩ v [flat t] [] ((0 : Nat) : Int) (List.replicate sub.length false) := fun k => by
    unfold spec_l5stands.f
    rw [if_pos (by omega), if_pos (by simp; omega), Int.toNat_natCast, spec_l5stands.l0]
    have w0 : IntKind.i64.wrap ((([flat t] : List (List Cell)).length : Int) - 1) = 0 := rfl
    rw [if_pos (by simp), w0, if_pos (by decide), if_pos (by simp), if_pos (by simp)]
    rfl
  exact Ev.succ h0 main
end Go.Proofs.Ytognefkopbbdnaa
