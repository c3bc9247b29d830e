import Derived.Test.YtognefkopbbdnaaPuUn6
namespace Go.Proofs.Ytognefkopbbdnaa
open Go.Sx Go.Sy
set_option linter.unusedVariables false
set_option linter.unusedSimpArgs false
set_option linter.unusedSectionVars false
set_option maxRecDepth 4000
/-! ### unifying, pair by pair -/
inductive Run : List (Int × Tm) → Nat → List (Tm × Tm) → Int → List (Int × Tm) → Nat → Prop
  | nil {m p} : Run m p [] 0 m p
  | limit {m p x st} (h : 20000 ≤ p) : Run m p (x :: st) 3 m p
  | same {m p x y u w st c m' p'} (h : p < 20000) (h1 : Wk m x u) (h2 : Wk m y w) (k1 : u.kind = 0) (k2 : w.kind = 0) (hn : u.n = w.n) (r : Run m (p + 1) st c m' p') : Run m p ((x, y) :: st) c m' p'
  | bindL {m p x y u w st c m' p'} (h : p < 20000) (h1 : Wk m x u) (h2 : Wk m y w) (k1 : u.kind = 0) (k2 : w.kind = 0) (hn : u.n > w.n) (r : Run (mset m u.n w) (p + 1) st c m' p') : Run m p ((x, y) :: st) c m' p'
  | bindR {m p x y u w st c m' p'} (h : p < 20000) (h1 : Wk m x u) (h2 : Wk m y w) (k1 : u.kind = 0) (k2 : w.kind = 0) (hn : w.n > u.n) (r : Run (mset m w.n u) (p + 1) st c m' p') : Run m p ((x, y) :: st) c m' p'
  | cyc1 {m p x y u w st} (h : p < 20000) (h1 : Wk m x u) (h2 : Wk m y w) (k1 : u.kind = 0) (k2 : ¬ w.kind = 0) (hr : Reach m u.n (flat w)) : Run m p ((x, y) :: st) 5 m (p + 1)
  | cyc2 {m p x y u w st} (h : p < 20000) (h1 : Wk m x u) (h2 : Wk m y w) (k1 : ¬ u.kind = 0) (k2 : w.kind = 0) (hr : Reach m w.n (flat u)) : Run m p ((x, y) :: st) 5 m (p + 1)
  | bind1 {m p x y u w st c m' p'} (h : p < 20000) (h1 : Wk m x u) (h2 : Wk m y w) (k1 : u.kind = 0) (k2 : ¬ w.kind = 0) (hr : ¬ Reach m u.n (flat w)) (r : Run (mset m u.n w) (p + 1) st c m' p') : Run m p ((x, y) :: st) c m' p'
  | bind2 {m p x y u w st c m' p'} (h : p < 20000) (h1 : Wk m x u) (h2 : Wk m y w) (k1 : ¬ u.kind = 0) (k2 : w.kind = 0) (hr : ¬ Reach m w.n (flat u)) (r : Run (mset m w.n u) (p + 1) st c m' p') : Run m p ((x, y) :: st) c m' p'
  | fail {m p x y u w st} (h : p < 20000) (h1 : Wk m x u) (h2 : Wk m y w) (k1 : ¬ u.kind = 0) (k2 : ¬ w.kind = 0) (hn : ¬ (u.kind = w.kind ∧ u.n = w.n ∧ u.text = w.text)) : Run m p ((x, y) :: st) 4 m (p + 1)
  | args {m p x y u w st c m' p'} (h : p < 20000) (h1 : Wk m x u) (h2 : Wk m y w) (k1 : ¬ u.kind = 0) (k2 : ¬ w.kind = 0) (hn : u.kind = w.kind ∧ u.n = w.n ∧ u.text = w.text) (r : Run m (p + 1) (u.args.zip w.args ++ st) c m' p') : Run m p ((x, y) :: st) c m' p'
def Ok2 (q : Tm × Tm) : Prop := (Wf q.1 ∧ (flat q.1).length ≤ 2000) ∧ (Wf q.2 ∧ (flat q.2).length ≤ 2000)
theorem args_ok {t a : Tm} (hw : Wf t ∧ (flat t).length ≤ 2000) (h : a ∈ t.args) : Wf a ∧ (flat a).length ≤ 2000 := by
  obtain ⟨a1, a2, a3, a4⟩ := flat_args t
  obtain ⟨b1, b2, b3⟩ := flats_mem h
  exact ⟨b3 (a4 hw.1), by have := hw.2; omega⟩
theorem zip_ok {u w : Tm} (hu : Wf u ∧ (flat u).length ≤ 2000) (hw : Wf w ∧ (flat w).length ≤ 2000) : ∀ q, q ∈ u.args.zip w.args → Ok2 q := fun q hq => by
  obtain ⟨a, b⟩ := q
  have := List.of_mem_zip hq
  exact ⟨args_ok hu this.1, args_ok hw this.2⟩
theorem var_reach {m : List (Int × Tm)} {v : Int} {w : Tm} (hw : Wf w) (k0 : w.kind = 0) (hn : w.n ≠ v) (e : mget m w.n = none) : ¬ Reach m v (flat w) := by
  have hv := (vs_var hw k0).2
  intro h
  cases h with
  | here h => rw [hv] at h; exact hn (by simpa using h : v = w.n).symm
  | @via _ y _ h e1 _ =>
    rw [hv] at h
    have : y = w.n := by simpa using h
    rw [this, e] at e1; cases e1
/-- there is an answer -/
theorem run_ex : ∀ (n : Nat) (sub : List Binding) (m : List (Int × Tm)) (p : Nat) (st : List (Tm × Tm)), 20000 - p = n → p ≤ 20000 → Rel sub m → sub.length ≤ p → (∀ q, q ∈ st → Ok2 q) → ∃ c m' p' sub', Run m p st c m' p' ∧ Rel sub' m' ∧ sub'.length ≤ p' ∧ p' ≤ 20000 := by
  intro n
  induction n with
  | zero =>
    intro sub m p st h1 h2 hr hl hs
    cases st with
    | nil => exact ⟨0, m, p, sub, .nil, hr, hl, h2⟩
    | cons x st => exact ⟨3, m, p, sub, .limit (by omega), hr, hl, h2⟩
  | succ n ih =>
    intro sub m p st h1 h2 hr hl hs
    cases st with
    | nil => exact ⟨0, m, p, sub, .nil, hr, hl, h2⟩
    | cons q st =>
      obtain ⟨x, y⟩ := q
      obtain ⟨hx, hy⟩ := hs (x, y) (.head _)
      have hst : ∀ q, q ∈ st → Ok2 q := fun q hq => hs q (.tail _ hq)
      obtain ⟨u, hu⟩ := wk_ex hr x
      obtain ⟨w, hw⟩ := wk_ex hr y
      have wu := wk_wf hr hu hx
      have ww := wk_wf hr hw hy
      have eu := wk_end hu
      have ew := wk_end hw
      have hp : p < 20000 := by omega
      by_cases k1 : u.kind = 0
      · by_cases k2 : w.kind = 0
        · rcases Int.lt_trichotomy u.n w.n with hn | hn | hn
          · obtain ⟨c, m', p', sub', r, a⟩ := ih _ (mset m w.n u) (p + 1) st (by omega) (by omega) (hr.bind (ew k2) wu (var_reach wu.1 k1 (by omega) (eu k1))) (by rw [ins_len]; omega) hst
            exact ⟨c, m', p', sub', .bindR hp hu hw k1 k2 hn r, a⟩
          · obtain ⟨c, m', p', sub', r, a⟩ := ih sub m (p + 1) st (by omega) (by omega) hr (by omega) hst
            exact ⟨c, m', p', sub', .same hp hu hw k1 k2 hn r, a⟩
          · obtain ⟨c, m', p', sub', r, a⟩ := ih _ (mset m u.n w) (p + 1) st (by omega) (by omega) (hr.bind (eu k1) ww (var_reach ww.1 k2 (by omega) (ew k2))) (by rw [ins_len]; omega) hst
            exact ⟨c, m', p', sub', .bindL hp hu hw k1 k2 hn r, a⟩
        · by_cases hh : Reach m u.n (flat w)
          · exact ⟨5, m, p + 1, sub, .cyc1 hp hu hw k1 k2 hh, hr, by omega, by omega⟩
          · obtain ⟨c, m', p', sub', r, a⟩ := ih _ (mset m u.n w) (p + 1) st (by omega) (by omega) (hr.bind (eu k1) ww hh) (by rw [ins_len]; omega) hst
            exact ⟨c, m', p', sub', .bind1 hp hu hw k1 k2 hh r, a⟩
      · by_cases k2 : w.kind = 0
        · by_cases hh : Reach m w.n (flat u)
          · exact ⟨5, m, p + 1, sub, .cyc2 hp hu hw k1 k2 hh, hr, by omega, by omega⟩
          · obtain ⟨c, m', p', sub', r, a⟩ := ih _ (mset m w.n u) (p + 1) st (by omega) (by omega) (hr.bind (ew k2) wu hh) (by rw [ins_len]; omega) hst
            exact ⟨c, m', p', sub', .bind2 hp hu hw k1 k2 hh r, a⟩
        · by_cases hn : u.kind = w.kind ∧ u.n = w.n ∧ u.text = w.text
          · obtain ⟨c, m', p', sub', r, a⟩ := ih sub m (p + 1) (u.args.zip w.args ++ st) (by omega) (by omega) hr (by omega) (fun q hq => by
              rcases List.mem_append.1 hq with h | h
              · exact zip_ok wu ww q h
              · exact hst q h)
            exact ⟨c, m', p', sub', .args hp hu hw k1 k2 hn r, a⟩
          · exact ⟨4, m, p + 1, sub, .fail hp hu hw k1 k2 hn, hr, by omega, by omega⟩
end Go.Proofs.Ytognefkopbbdnaa
