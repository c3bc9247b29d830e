import Derived.Test.YtognefkopbbdnaaPuFu8
namespace Go.Proofs.Ytognefkopbbdnaa
open Go.Sx Go.Sy
set_option linter.unusedVariables false
set_option linter.unusedSimpArgs false
set_option linter.unusedSectionVars false
set_option maxRecDepth 4000
/-! ### runs: the two sides swapped; what a run keeps -/
theorem zip_swap : ∀ (a b : List Tm), (a.zip b).map Prod.swap = b.zip a
  | [], [] => rfl
  | [], _ :: _ => rfl
  | _ :: _, [] => rfl
  | x :: a, y :: b => by simp [zip_swap a b]
theorem run_swap {m : List (Int × Tm)} {p : Nat} {st : List (Tm × Tm)} {c : Int} {m' : List (Int × Tm)} {p' : Nat} (h : Run m p st c m' p') : Run m p (st.map Prod.swap) c m' p' := by
  induction h with
  | nil => exact .nil
  | limit h => exact .limit h
  | same h h1 h2 k1 k2 hn _ ih => exact .same h h2 h1 k2 k1 hn.symm ih
  | bindL h h1 h2 k1 k2 hn _ ih => exact .bindR h h2 h1 k2 k1 hn ih
  | bindR h h1 h2 k1 k2 hn _ ih => exact .bindL h h2 h1 k2 k1 hn ih
  | cyc1 h h1 h2 k1 k2 hr => exact .cyc2 h h2 h1 k2 k1 hr
  | cyc2 h h1 h2 k1 k2 hr => exact .cyc1 h h2 h1 k2 k1 hr
  | bind1 h h1 h2 k1 k2 hr _ ih => exact .bind2 h h2 h1 k2 k1 hr ih
  | bind2 h h1 h2 k1 k2 hr _ ih => exact .bind1 h h2 h1 k2 k1 hr ih
  | fail h h1 h2 k1 k2 hn => exact .fail h h2 h1 k2 k1 fun q => hn ⟨q.1.symm, q.2.1.symm, q.2.2.symm⟩
  | args h h1 h2 k1 k2 hn _ ih =>
    refine .args h h2 h1 k2 k1 ⟨hn.1.symm, hn.2.1.symm, hn.2.2.symm⟩ ?_
    rw [← zip_swap, ← List.map_append]; exact ih
theorem run_mono {m : List (Int × Tm)} {p : Nat} {st : List (Tm × Tm)} {c : Int} {m' : List (Int × Tm)} {p' : Nat} (h : Run m p st c m' p') : ∀ v t, mget m v = some t → mget m' v = some t := by
  have key : ∀ {m : List (Int × Tm)} {x u w : Tm} {m' : List (Int × Tm)}, Wk m x u → u.kind = 0 → (∀ v t, mget (mset m u.n w) v = some t → mget m' v = some t) → ∀ v t, mget m v = some t → mget m' v = some t := fun h1 k1 ih v t e => by
    apply ih
    rw [mget_mset, if_neg]
    · exact e
    · rintro rfl; rw [wk_end h1 k1] at e; cases e
  induction h with
  | nil => exact fun _ _ h => h
  | limit _ => exact fun _ _ h => h
  | same _ _ _ _ _ _ _ ih => exact ih
  | bindL h h1 h2 k1 k2 hn _ ih => exact key h1 k1 ih
  | bindR h h1 h2 k1 k2 hn _ ih => exact key h2 k2 ih
  | cyc1 => exact fun _ _ h => h
  | cyc2 => exact fun _ _ h => h
  | bind1 h h1 h2 k1 k2 hr _ ih => exact key h1 k1 ih
  | bind2 h h1 h2 k1 k2 hr _ ih => exact key h2 k2 ih
  | fail => exact fun _ _ h => h
  | args _ _ _ _ _ _ _ ih => exact ih
/-- the bindings are of variables, to terms -/
def Wm (m : List (Int × Tm)) : Prop := ∀ v t, mget m v = some t → (Wf t ∧ (flat t).length ≤ 2000) ∧ 0 ≤ v ∧ v ≤ 1000000
theorem wk_ok {m : List (Int × Tm)} (hm : Wm m) {t u : Tm} (h : Wk m t u) (hw : Wf t ∧ (flat t).length ≤ 2000) : Wf u ∧ (flat u).length ≤ 2000 := by
  induction h with
  | stop _ => exact hw
  | step _ e _ ih => exact ih (hm _ _ e).1
theorem var_rng {u : Tm} (hw : Wf u) (k0 : u.kind = 0) : 0 ≤ u.n ∧ u.n ≤ 1000000 ∧ flat u = [⟨0, u.n, []⟩] := by
  cases u with
  | mk k n s us =>
    simp only [Wf] at hw
    have k0 : k = 0 := k0
    subst k0
    have hu : us = [] := hw.2.2.1 (by omega)
    subst hu
    rcases hw.1 with ⟨_, h1, h2, h3⟩ | ⟨h, _⟩ | ⟨h, _⟩ | ⟨h, _⟩
    · have h3 : s = [] := h3
      subst h3
      exact ⟨h1, h2, by simp [flat, flats, Tm.n]⟩
    all_goals exact absurd (show (0 : Int) = _ from h) (by decide)
theorem Wm.set {m : List (Int × Tm)} (h : Wm m) {u w : Tm} (hu : Wf u) (k0 : u.kind = 0) (hw : Wf w ∧ (flat w).length ≤ 2000) : Wm (mset m u.n w) := fun v t e => by
  rw [mget_mset] at e
  by_cases hv : v = u.n
  · rw [if_pos hv] at e
    injection e with e
    subst e
    have := var_rng hu k0
    exact ⟨hw, by omega, by omega⟩
  · rw [if_neg hv] at e; exact h v t e
/-- an invariant of runs, shown step by step -/
theorem run_wm {m : List (Int × Tm)} {p : Nat} {st : List (Tm × Tm)} {c : Int} {m' : List (Int × Tm)} {p' : Nat} (h : Run m p st c m' p') : Wm m → (∀ q, q ∈ st → Ok2 q) → Wm m' := by
  induction h with
  | nil => exact fun h _ => h
  | limit _ => exact fun h _ => h
  | same _ _ _ _ _ _ _ ih => exact fun h hs => ih h fun q hq => hs q (.tail _ hq)
  | bindL h h1 h2 k1 k2 hn _ ih => exact fun hm hs => ih (hm.set (wk_ok hm h1 (hs _ (.head _)).1).1 k1 (wk_ok hm h2 (hs _ (.head _)).2)) fun q hq => hs q (.tail _ hq)
  | bindR h h1 h2 k1 k2 hn _ ih => exact fun hm hs => ih (hm.set (wk_ok hm h2 (hs _ (.head _)).2).1 k2 (wk_ok hm h1 (hs _ (.head _)).1)) fun q hq => hs q (.tail _ hq)
  | cyc1 => exact fun h _ => h
  | cyc2 => exact fun h _ => h
  | bind1 h h1 h2 k1 k2 hr _ ih => exact fun hm hs => ih (hm.set (wk_ok hm h1 (hs _ (.head _)).1).1 k1 (wk_ok hm h2 (hs _ (.head _)).2)) fun q hq => hs q (.tail _ hq)
  | bind2 h h1 h2 k1 k2 hr _ ih => exact fun hm hs => ih (hm.set (wk_ok hm h2 (hs _ (.head _)).2).1 k2 (wk_ok hm h1 (hs _ (.head _)).1)) fun q hq => hs q (.tail _ hq)
  | fail => exact fun h _ => h
  | args h h1 h2 k1 k2 hn _ ih => exact fun hm hs => ih hm fun q hq => (List.mem_append.1 hq).elim (zip_ok (wk_ok hm h1 (hs _ (.head _)).1) (wk_ok hm h2 (hs _ (.head _)).2) q) fun hq => hs q (.tail _ hq)
/-! ### terms for variables -/
def sx (θ : Int → List Cell) (cs : List Cell) : List Cell := cs.flatMap fun c => if c.kind = 0 then θ c.n else [c]
theorem sx_app (θ : Int → List Cell) (a b : List Cell) : sx θ (a ++ b) = sx θ a ++ sx θ b := by unfold sx; rw [List.flatMap_append]
theorem sx_cons (θ : Int → List Cell) (c : Cell) (b : List Cell) : sx θ (c :: b) = (if c.kind = 0 then θ c.n else [c]) ++ sx θ b := by unfold sx; rw [List.flatMap_cons]
theorem sx_nil (θ : Int → List Cell) : sx θ [] = [] := rfl
theorem sx_var (θ : Int → List Cell) {u : Tm} (hw : Wf u) (k0 : u.kind = 0) : sx θ (flat u) = θ u.n := by
  rw [(var_rng hw k0).2.2, sx_cons, if_pos rfl, sx_nil, List.append_nil]
theorem flat_cell (u : Tm) : flat u = ⟨u.kind, u.n, u.text⟩ :: flats u.args := by cases u; rfl
theorem sx_tm (θ : Int → List Cell) {u : Tm} (k0 : ¬ u.kind = 0) : sx θ (flat u) = ⟨u.kind, u.n, u.text⟩ :: sx θ (flats u.args) := by
  rw [flat_cell, sx_cons, if_neg k0]; rfl
theorem wk_sx {m m' : List (Int × Tm)} {θ : Int → List Cell} (hm : Wm m) (hE : ∀ v t, mget m v = some t → θ v = sx θ (flat t)) {t u : Tm} (h : Wk m t u) (hw : Wf t) : sx θ (flat t) = sx θ (flat u) := by
  induction h with
  | stop _ => rfl
  | @step t s u h0 h _ ih => rw [sx_var θ hw h0, hE _ _ h]; exact ih (hm _ _ h).1.1
theorem flats_zip (θ : Int → List Cell) : ∀ (us ws : List Tm), us.length = ws.length → (∀ q, q ∈ us.zip ws → sx θ (flat q.1) = sx θ (flat q.2)) → sx θ (flats us) = sx θ (flats ws)
  | [], [], _, _ => rfl
  | [], _ :: _, h, _ => by simp at h
  | _ :: _, [], h, _ => by simp at h
  | u :: us, w :: ws, h, hz => by
    rw [flats, flats, sx_app, sx_app, hz (u, w) (by simp), flats_zip θ us ws (by simpa using h) fun q hq => hz q (by simp only [List.zip_cons_cons]; exact .tail _ hq)]
/-- a run that ends well makes the pairs alike -/
theorem run_eq {m : List (Int × Tm)} {p : Nat} {st : List (Tm × Tm)} {c : Int} {m' : List (Int × Tm)} {p' : Nat} (h : Run m p st c m' p') {θ : Int → List Cell} : c = 0 → Wm m → (∀ q, q ∈ st → Ok2 q) → (∀ v t, mget m' v = some t → θ v = sx θ (flat t)) → ∀ q, q ∈ st → sx θ (flat q.1) = sx θ (flat q.2) := by
  have hd : ∀ {m : List (Int × Tm)} {x y u w : Tm} {m' : List (Int × Tm)} {st : List (Tm × Tm)}, Wm m → Ok2 (x, y) → (∀ v t, mget m v = some t → mget m' v = some t) → (∀ v t, mget m' v = some t → θ v = sx θ (flat t)) → Wk m x u → Wk m y w → sx θ (flat u) = sx θ (flat w) → (∀ q, q ∈ st → sx θ (flat q.1) = sx θ (flat q.2)) → ∀ q, q ∈ (x, y) :: st → sx θ (flat q.1) = sx θ (flat q.2) := by
    intro m x y u w m' st hm ho hmm hE h1 h2 he ih q hq
    rcases List.mem_cons.1 hq with rfl | hq
    · show sx θ (flat x) = sx θ (flat y)
      rw [wk_sx (m' := m') hm (fun v t e => hE v t (hmm v t e)) h1 ho.1.1, wk_sx (m' := m') hm (fun v t e => hE v t (hmm v t e)) h2 ho.2.1, he]
    · exact ih q hq
  have hset : ∀ {m : List (Int × Tm)} {u w : Tm} {st : List (Tm × Tm)} {c : Int} {p p' : Nat} {m' : List (Int × Tm)}, Run (mset m u.n w) p st c m' p' → (∀ v t, mget m' v = some t → θ v = sx θ (flat t)) → Wf u → u.kind = 0 → sx θ (flat u) = sx θ (flat w) := by
    intro m u w st c p p' m' h hE hu k0
    rw [sx_var θ hu k0]
    exact hE _ _ (run_mono h _ _ (by rw [mget_mset, if_pos rfl]))
  induction h with
  | nil => exact fun _ _ _ _ q hq => by cases hq
  | limit _ => exact fun h => absurd h (by decide)
  | same h h1 h2 k1 k2 hn r ih =>
    intro h0 hm hs hE
    have ho := hs _ (.head _)
    exact hd hm ho (run_mono r) hE h1 h2 (by rw [sx_var θ (wk_ok hm h1 ho.1).1 k1, sx_var θ (wk_ok hm h2 ho.2).1 k2, hn]) (ih h0 hm (fun q hq => hs q (.tail _ hq)) hE)
  | bindL h h1 h2 k1 k2 hn r ih =>
    intro h0 hm hs hE
    have ho := hs _ (.head _)
    have hu := wk_ok hm h1 ho.1
    have hw := wk_ok hm h2 ho.2
    exact hd hm ho (run_mono (.bindL h h1 h2 k1 k2 hn r)) hE h1 h2 (hset r hE hu.1 k1) (ih h0 (hm.set hu.1 k1 hw) (fun q hq => hs q (.tail _ hq)) hE)
  | bindR h h1 h2 k1 k2 hn r ih =>
    intro h0 hm hs hE
    have ho := hs _ (.head _)
    have hu := wk_ok hm h1 ho.1
    have hw := wk_ok hm h2 ho.2
    exact hd hm ho (run_mono (.bindR h h1 h2 k1 k2 hn r)) hE h1 h2 (hset r hE hw.1 k2).symm (ih h0 (hm.set hw.1 k2 hu) (fun q hq => hs q (.tail _ hq)) hE)
  | cyc1 => exact fun h => absurd h (by decide)
  | cyc2 => exact fun h => absurd h (by decide)
  | bind1 h h1 h2 k1 k2 hr r ih =>
    intro h0 hm hs hE
    have ho := hs _ (.head _)
    have hu := wk_ok hm h1 ho.1
    have hw := wk_ok hm h2 ho.2
    exact hd hm ho (run_mono (.bind1 h h1 h2 k1 k2 hr r)) hE h1 h2 (hset r hE hu.1 k1) (ih h0 (hm.set hu.1 k1 hw) (fun q hq => hs q (.tail _ hq)) hE)
  | bind2 h h1 h2 k1 k2 hr r ih =>
    intro h0 hm hs hE
    have ho := hs _ (.head _)
    have hu := wk_ok hm h1 ho.1
    have hw := wk_ok hm h2 ho.2
    exact hd hm ho (run_mono (.bind2 h h1 h2 k1 k2 hr r)) hE h1 h2 (hset r hE hw.1 k2).symm (ih h0 (hm.set hw.1 k2 hu) (fun q hq => hs q (.tail _ hq)) hE)
  | fail => exact fun h => absurd h (by decide)
  | @args m p x y u w st c m' p' h h1 h2 k1 k2 hn r ih =>
    intro h0 hm hs hE
    have ho := hs _ (.head _)
    have hu := wk_ok hm h1 ho.1
    have hw := wk_ok hm h2 ho.2
    have ih := ih h0 hm (fun q hq => (List.mem_append.1 hq).elim (zip_ok hu hw q) fun hq => hs q (.tail _ hq)) hE
    refine hd hm ho (run_mono r) hE h1 h2 ?_ fun q hq => ih q (List.mem_append_right _ hq)
    rw [sx_tm θ k1, sx_tm θ k2, hn.1, hn.2.1, hn.2.2, flats_zip θ u.args w.args (args_same hu.1 hw.1 k1 hn) fun q hq => ih q (List.mem_append_left _ hq)]
end Go.Proofs.Ytognefkopbbdnaa
