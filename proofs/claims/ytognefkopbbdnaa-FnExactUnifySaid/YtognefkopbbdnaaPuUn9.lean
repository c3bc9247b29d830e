import Derived.Test.YtognefkopbbdnaaPuUn8
namespace Go.Proofs.Ytognefkopbbdnaa
open Go.Sx Go.Sy
set_option linter.unusedVariables false
set_option linter.unusedSimpArgs false
set_option linter.unusedSectionVars false
set_option maxRecDepth 4000
/-! ### the program's search answers as Run -/
theorem ret_ev {β : Type} {g : Nat → Option β} {r : β} (e : ∀ k, g k = some r) : Ev g r := ⟨0, fun k _ => e k⟩
theorem args_few {t : Tm} (h : Wf t ∧ (flat t).length ≤ 2000) : t.args.length ≤ 2000 := by
  have := (flat_args t).1
  have := flats_len t.args
  have := h.2
  omega
theorem args_same {u w : Tm} (hu : Wf u) (hw : Wf w) (k1 : ¬ u.kind = 0) (h : u.kind = w.kind ∧ u.n = w.n ∧ u.text = w.text) : u.args.length = w.args.length := by
  cases u with
  | mk a n s us =>
    cases w with
    | mk b n' s' ws =>
      simp only [Tm.kind, Tm.n, Tm.text, Tm.args] at *
      simp only [Wf] at hu hw
      by_cases h3 : a = 3
      · have a1 := hu.2.1 h3
        have a2 := hw.2.1 (by omega)
        omega
      · rw [hu.2.2.1 h3, hw.2.2.1 (by omega)]
theorem run_impl {m : List (Int × Tm)} {p : Nat} {st : List (Tm × Tm)} {c : Int} {m' : List (Int × Tm)} {p' : Nat} (h : Run m p st c m' p') : ∀ sub, Rel sub m → sub.length ≤ p → p ≤ 20000 → (∀ q, q ∈ st → Ok2 q) → st.length ≤ 2000 * p + 1 → Ev (fun k => impl_unify.l0 k (stk st) (p : Int) m) (c, m') := by
  induction h with
  | nil =>
    intro sub _ _ _ _ _
    exact Ev.succ (fun k => by rw [impl_unify.l0, if_neg (by rw [stk_len]; simp)]) (Ev.ret _)
  | limit h =>
    intro sub _ _ hp _ _
    exact Ev.succ (fun k => by rw [impl_unify.l0, if_pos (by rw [stk_len]; simp <;> omega), if_pos (by omega)]) (Ev.ret _)
  | same h h1 h2 k1 k2 hn r ih =>
    intro sub hr hl hp hs hlen
    simp only [List.length_cons] at hlen
    refine Ev.succ (fun k => l0_step k _ _ h _ _ _ (by omega)) (Ev.bind (wk_impl h1) (Ev.bind (wk_impl h2) ?_))
    refine Ev.of (fun k => by rw [ubody, if_pos k1, if_pos k2, if_neg (by omega), if_neg (by omega), wrap1 h]) (ih sub hr (by omega) (by omega) (fun q hq => hs q (.tail _ hq)) (by omega))
  | @bindL m p x y u w st c m' p' h h1 h2 k1 k2 hn r ih =>
    intro sub hr hl hp hs hlen
    simp only [List.length_cons] at hlen
    obtain ⟨hx, hy⟩ := hs _ (.head _)
    have ww := wk_wf hr h2 hy
    refine Ev.succ (fun k => l0_step k _ _ h _ _ _ (by omega)) (Ev.bind (wk_impl h1) (Ev.bind (wk_impl h2) ?_))
    refine Ev.of (fun k => by rw [ubody, if_pos k1, if_pos k2, if_pos (by omega), wrap1 h, impl_bindings_set.f]; rfl) (ih _ (hr.bind (wk_end h1 k1) ww (var_reach ww.1 k2 (by omega) (wk_end h2 k2))) (by rw [ins_len]; omega) (by omega) (fun q hq => hs q (.tail _ hq)) (by omega))
  | @bindR m p x y u w st c m' p' h h1 h2 k1 k2 hn r ih =>
    intro sub hr hl hp hs hlen
    simp only [List.length_cons] at hlen
    obtain ⟨hx, hy⟩ := hs _ (.head _)
    have wu := wk_wf hr h1 hx
    refine Ev.succ (fun k => l0_step k _ _ h _ _ _ (by omega)) (Ev.bind (wk_impl h1) (Ev.bind (wk_impl h2) ?_))
    refine Ev.of (fun k => by rw [ubody, if_pos k1, if_pos k2, if_neg (by omega), if_pos (by omega), wrap1 h, impl_bindings_set.f]; rfl) (ih _ (hr.bind (wk_end h2 k2) wu (var_reach wu.1 k1 (by omega) (wk_end h1 k1))) (by rw [ins_len]; omega) (by omega) (fun q hq => hs q (.tail _ hq)) (by omega))
  | @cyc1 m p x y u w st h h1 h2 k1 k2 hh =>
    intro sub hr hl hp hs hlen
    simp only [List.length_cons] at hlen
    obtain ⟨hx, hy⟩ := hs _ (.head _)
    have ww := wk_wf hr h2 hy
    refine Ev.succ (fun k => l0_step k _ _ h _ _ _ (by omega)) (Ev.bind (wk_impl h1) (Ev.bind (wk_impl h2) ?_))
    refine Ev.of (fun k => by rw [ubody, if_pos k1, if_neg k2]) (Ev.bind (stands_val hr (wk_end h1 k1) ww) ?_)
    exact ret_ev (fun k => by rw [if_pos (by simp [hh])])
  | @cyc2 m p x y u w st h h1 h2 k1 k2 hh =>
    intro sub hr hl hp hs hlen
    simp only [List.length_cons] at hlen
    obtain ⟨hx, hy⟩ := hs _ (.head _)
    have wu := wk_wf hr h1 hx
    refine Ev.succ (fun k => l0_step k _ _ h _ _ _ (by omega)) (Ev.bind (wk_impl h1) (Ev.bind (wk_impl h2) ?_))
    refine Ev.of (fun k => by rw [ubody, if_neg k1, if_pos k2]) (Ev.bind (stands_val hr (wk_end h2 k2) wu) ?_)
    exact ret_ev (fun k => by rw [if_pos (by simp [hh])])
  | @bind1 m p x y u w st c m' p' h h1 h2 k1 k2 hh r ih =>
    intro sub hr hl hp hs hlen
    simp only [List.length_cons] at hlen
    obtain ⟨hx, hy⟩ := hs _ (.head _)
    have ww := wk_wf hr h2 hy
    refine Ev.succ (fun k => l0_step k _ _ h _ _ _ (by omega)) (Ev.bind (wk_impl h1) (Ev.bind (wk_impl h2) ?_))
    refine Ev.of (fun k => by rw [ubody, if_pos k1, if_neg k2]) (Ev.bind (stands_val hr (wk_end h1 k1) ww) ?_)
    exact Ev.of (fun k => by rw [if_neg (by simp [hh]), wrap1 h, impl_bindings_set.f]; rfl) (ih _ (hr.bind (wk_end h1 k1) ww hh) (by rw [ins_len]; omega) (by omega) (fun q hq => hs q (.tail _ hq)) (by omega))
  | @bind2 m p x y u w st c m' p' h h1 h2 k1 k2 hh r ih =>
    intro sub hr hl hp hs hlen
    simp only [List.length_cons] at hlen
    obtain ⟨hx, hy⟩ := hs _ (.head _)
    have wu := wk_wf hr h1 hx
    refine Ev.succ (fun k => l0_step k _ _ h _ _ _ (by omega)) (Ev.bind (wk_impl h1) (Ev.bind (wk_impl h2) ?_))
    refine Ev.of (fun k => by rw [ubody, if_neg k1, if_pos k2]) (Ev.bind (stands_val hr (wk_end h2 k2) wu) ?_)
    exact Ev.of (fun k => by rw [if_neg (by simp [hh]), wrap1 h, impl_bindings_set.f]; rfl) (ih _ (hr.bind (wk_end h2 k2) wu hh) (by rw [ins_len]; omega) (by omega) (fun q hq => hs q (.tail _ hq)) (by omega))
  | @fail m p x y u w st h h1 h2 k1 k2 hn =>
    intro sub hr hl hp hs hlen
    simp only [List.length_cons] at hlen
    refine Ev.succ (fun k => l0_step k _ _ h _ _ _ (by omega)) (Ev.bind (wk_impl h1) (Ev.bind (wk_impl h2) ?_))
    refine ret_ev (fun k => ?_)
    rw [ubody, if_neg k1, if_neg k2]
    by_cases a1 : u.kind = w.kind
    · by_cases a2 : u.n = w.n
      · rw [if_neg (by simpa using a1), if_neg (by simpa using a2), if_pos (fun a3 => hn ⟨a1, a2, a3⟩)]
      · rw [if_neg (by simpa using a1), if_pos a2]
    · rw [if_pos a1]
  | @args m p x y u w st c m' p' h h1 h2 k1 k2 hn r ih =>
    intro sub hr hl hp hs hlen
    simp only [List.length_cons] at hlen
    obtain ⟨hx, hy⟩ := hs _ (.head _)
    have wu := wk_wf hr h1 hx
    have ww := wk_wf hr h2 hy
    have ha : u.args.length = w.args.length := args_same wu.1 ww.1 k1 hn
    have hb : u.args.length ≤ 2000 := args_few wu
    refine Ev.succ (fun k => l0_step k _ _ h _ _ _ (by omega)) (Ev.bind (wk_impl h1) (Ev.bind (wk_impl h2) ?_))
    have z : (u.args.zip w.args).drop u.args.length = [] := by rw [List.drop_eq_nil_iff, List.length_zip]; omega
    have e := l1_val (m := m) (r := (c, m')) h (st := st) (by omega) ha hb (ih sub hr (by omega) (by omega) (fun q hq => by
      rcases List.mem_append.1 hq with h | h
      · exact zip_ok wu ww q h
      · exact hs q (.tail _ h)) (by rw [List.length_append, List.length_zip]; omega)) u.args.length (Nat.le_refl _)
    rw [z, List.nil_append] at e
    exact Ev.of (fun k => by rw [ubody, if_neg k1, if_neg k2, if_neg (by simpa using hn.1), if_neg (by simpa using hn.2.1), if_neg (by simpa using hn.2.2), wrap_id (by omega) (by omega)]) e
end Go.Proofs.Ytognefkopbbdnaa
