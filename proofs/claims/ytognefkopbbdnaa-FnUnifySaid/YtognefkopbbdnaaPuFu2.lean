import Derived.Test.YtognefkopbbdnaaPuFu1
namespace Go.Proofs.Ytognefkopbbdnaa
open Go.Sx Go.Sy
set_option linter.unusedVariables false
set_option linter.unusedSimpArgs false
set_option linter.unusedSectionVars false
set_option maxRecDepth 4000
open Classical in
theorem st_l1 {sub : List Binding} {m : List (Int × Tm)} (hr : Rel sub m) (hl : sub.length ≤ 1000000) {ρ : Int → Nat} (hρ : ∀ v t, mget m v = some t → ∀ u, u ∈ vs (flat t) → ρ u < ρ v) {v : Int} (hv : mget m v = none) (p : Int) (T : Prop) :
    ∀ (U N : Nat) (x34 x72 : List (List Cell)) (X : List Cell) (i : Nat) (seen : List Bool), x34.getD ((IntKind.i64.wrap ((x34.length : Int) - 1)).toNat) [] = X → i ≤ X.length → X.length ≤ 2000 → (∀ x, x ∈ x72 → x.length ≤ 2000) → seen.length = sub.length → seen.count false = U → x72.length + U ≤ sub.length + 1 →
      N = (X.length - i) + (x72.map (fun x => x.length + 2)).sum → Inv sub m ρ v T (vs (X.drop i) ++ vs x72.flatten) seen → Ev (fun k => spec_l5stands.l1 k ⟨sub, p⟩ v x34 x72 (i : Int) seen) (decide T) := by
  intro U
  induction U using Nat.strongRecOn with
  | _ U ihU =>
    intro N
    induction N using Nat.strongRecOn with
    | _ N ihN =>
      intro x34 x72 X i seen hX hi hXl hx hsl hc hb hN hI
      have wi : IntKind.i64.wrap ((i : Int) + 1) = ((i + 1 : Nat) : Int) := by rw [wrap_id (by omega) (by omega)]; omega
      by_cases hlt : i < X.length
      · -- a cell
        have hgd : X.getD i z65 = X[i] := by rw [List.getD_eq_getElem?_getD, List.getElem?_eq_getElem hlt]; rfl
        rw [List.drop_eq_getElem_cons hlt, vs_cons] at hI
        have hN' : (X.length - (i + 1)) + (x72.map (fun x => x.length + 2)).sum < N := by omega
        by_cases hk : X[i].kind = 0
        · rw [if_pos hk] at hI
          by_cases hn : X[i].n = v
          · have hT : T := hI.sound v (by rw [hn]; simp) (.inl rfl)
            refine Ev.succ (fun k => ?_) (Ev.ret _)
            rw [spec_l5stands.l1, hX, if_pos (by omega), if_pos (by omega), Int.toNat_natCast, hgd, if_neg (by simpa using hk), if_pos hn, decide_eq_true hT]
          · have step : ∀ k, spec_l5stands.l1 (k + 1) ⟨sub, p⟩ v x34 x72 (i : Int) seen = (spec_l5index.f k sub X[i].n).bind fun t127 => (if t127 ≥ 0 then (if 0 ≤ t127 then (if t127 < (((sub.length : Int)).toNat : Int) then (if ¬ ((seen.getD ((t127).toNat) false) = true) then (if t127 < (sub.length : Int) then (if x72.length + 1 ≤ 5864062014805 then (spec_l5stands.l1 k ⟨sub, p⟩ v x34 (x72 ++ [(sub.getD ((t127).toNat) z63).term]) ((i + 1 : Nat) : Int) (seen.set ((t127).toNat) true)) else none) else none) else (spec_l5stands.l1 k ⟨sub, p⟩ v x34 x72 ((i + 1 : Nat) : Int) seen)) else none) else none) else (spec_l5stands.l1 k ⟨sub, p⟩ v x34 x72 ((i + 1 : Nat) : Int) seen)) := fun k => by
              rw [spec_l5stands.l1, hX, if_pos (by omega), if_pos (by omega), Int.toNat_natCast, hgd, if_neg (by simpa using hk), if_neg hn, wi]
            rcases hr.idx hl X[i].n with ⟨e, ev⟩ | ⟨s, j, hj, e, ev, e3, e4⟩
            · have hmiss : ¬ Hit m v X[i].n := by
                rintro (q | ⟨s, q, _⟩)
                · exact hn q
                · rw [e] at q; cases q
              refine Ev.succ step (Ev.bind ev (Ev.of (fun k => if_neg (by decide)) ?_))
              exact ihN _ hN' x34 x72 X (i + 1) seen hX (by omega) hXl hx hsl hc hb rfl (Inv.miss (by simpa using hI) hmiss)
            · have hI' : Inv sub m ρ v T (sub[j].var :: (vs (X.drop (i + 1)) ++ vs x72.flatten)) seen := by rw [e3]; simpa using hI
              by_cases hs : seen.getD j false = true
              · refine Ev.succ step (Ev.bind ev (Ev.of (fun k => ?_) (ihN _ hN' x34 x72 X (i + 1) seen hX (by omega) hXl hx hsl hc hb rfl (hI'.again hj hs))))
                rw [if_pos (by omega), if_pos (by omega), if_pos (by omega), Int.toNat_natCast, if_neg (by simpa using hs)]
              · have hs' : seen.getD j false = false := by simpa using hs
                have hcnt := count_set (l := seen) (j := j) (by omega) hs'
                have hgj : (sub.getD j z63).term = flat s := by rw [gd hj, e4]
                have hop := hI'.open hj (s := s) (by rw [e3]; exact hn) (by rw [e3]; exact e) (by rw [e3]; exact hρ _ _ e) hsl
                refine Ev.succ step (Ev.bind ev (Ev.of (fun k => ?_) (ihU ((seen.set j true).count false) (by omega) _ x34 (x72 ++ [flat s]) X (i + 1) (seen.set j true) hX (by omega) hXl (fun x hx' => ?_) (by rw [List.length_set]; exact hsl) rfl (by rw [List.length_append]; simp; omega) rfl (hop.congr (fun y => ?_)))))
                · rw [if_pos (by omega), if_pos (by omega), if_pos (by omega), Int.toNat_natCast, if_pos (by simpa using hs'), if_pos (by omega), if_pos (by omega), hgj]
                · rcases List.mem_append.1 hx' with q | q
                  · exact hx x q
                  · have : x = flat s := by simpa using q
                    rw [this]; exact (hr.wf _ _ e).2
                · simp only [List.flatten_append, List.flatten_cons, List.flatten_nil, List.append_nil, vs_append, List.mem_append]
                  constructor
                  · rintro (q | q | q)
                    · exact .inr (.inr q)
                    · exact .inl q
                    · exact .inr (.inl q)
                  · rintro (q | q | q)
                    · exact .inr (.inl q)
                    · exact .inr (.inr q)
                    · exact .inl q
        · rw [if_neg hk] at hI
          refine Ev.succ (fun k => ?_) (ihN _ hN' x34 x72 X (i + 1) seen hX (by omega) hXl hx hsl hc hb rfl hI)
          rw [spec_l5stands.l1, hX, if_pos (by omega), if_pos (by omega), Int.toNat_natCast, hgd, if_pos hk, wi]
      · -- the next term
        rw [List.drop_of_length_le (by omega)] at hI
        have s1 : ∀ k, spec_l5stands.l1 (k + 1) ⟨sub, p⟩ v x34 x72 (i : Int) seen = spec_l5stands.l0 k ⟨sub, p⟩ v x72 seen := fun k => by
          rw [spec_l5stands.l1, hX, if_neg (by omega)]
        refine Ev.succ s1 ?_
        by_cases h0 : x72 = []
        · subst h0
          have hT : ¬ T := fun t => by
            obtain ⟨y, a, _⟩ := hI.full t
            simp [vs] at a
          refine Ev.succ (fun k => ?_) (Ev.ret _)
          rw [spec_l5stands.l0, if_neg (by simp), decide_eq_false hT]
        · obtain ⟨L, x, rfl⟩ : ∃ L x, x72 = L ++ [x] := ⟨x72.dropLast, x72.getLast h0, (List.dropLast_concat_getLast h0).symm⟩
          have hlen : (L ++ [x]).length = L.length + 1 := by simp
          have wl : IntKind.i64.wrap (((L ++ [x]).length : Int) - 1) = (L.length : Int) := by rw [hlen, wrap_id (by omega) (by omega)]; omega
          have htk : (L ++ [x]).take ((L.length : Int)).toNat = L := by rw [Int.toNat_natCast, List.take_left]
          have s0 : ∀ k, spec_l5stands.l0 (k + 1) ⟨sub, p⟩ v (L ++ [x]) seen = spec_l5stands.l1 k ⟨sub, p⟩ v (L ++ [x]) L ((0 : Nat) : Int) seen := fun k => by
            rw [spec_l5stands.l0, wl, if_pos (by rw [hlen]; omega), if_pos (by omega), if_pos (by rw [hlen]; omega), if_pos (by rw [hlen]; omega), htk]; rfl
          refine Ev.succ s0 ?_
          have hsum : (((L ++ [x]).map (fun x => x.length + 2)).sum) = (L.map (fun x => x.length + 2)).sum + (x.length + 2) := by simp
          refine ihN _ ?_ (L ++ [x]) L x 0 seen (by rw [wl, Int.toNat_natCast]; simp) (by omega) (hx x (by simp)) (fun y hy => hx y (by simp [hy])) hsl hc (by rw [hlen] at hb; omega) rfl (hI.congr (fun y => ?_))
          · rw [hsum] at hN; omega
          · simp only [List.flatten_append, List.flatten_cons, List.flatten_nil, List.append_nil, vs_append, List.mem_append, List.drop_zero]
            constructor
            · rintro (q | q | q)
              · simp [vs] at q
              · exact .inr q
              · exact .inl q
            · rintro (q | q)
              · exact .inr (.inr q)
              · exact .inr (.inl q)
open Classical in
theorem l5stands_val {sub : List Binding} {m : List (Int × Tm)} (hr : Rel sub m) (hl : sub.length ≤ 1000000) {v : Int} (hv : mget m v = none) (p : Int) {t : Tm} (hw : Wf t ∧ (flat t).length ≤ 2000) : Ev (fun k => spec_l5stands.f k ⟨sub, p⟩ v (flat t)) (decide (Reach m v (flat t))) := by
  obtain ⟨ρ, hρ⟩ := hr.acyc
  have hI : Inv sub m ρ v (Reach m v (flat t)) (vs (flat t)) (List.replicate sub.length false) := by
    refine ⟨fun y hy hh => reach_hit.2 ⟨y, hy, hh⟩, fun h => reach_hit.1 h, fun j hj hs => ?_⟩
    rw [List.getD_eq_getElem?_getD, List.getElem?_replicate, if_pos hj] at hs
    cases hs
  have main := st_l1 hr hl hρ hv p (Reach m v (flat t)) sub.length ((flat t).length - 0 + (([] : List (List Cell)).map (fun x => x.length + 2)).sum) [flat t] [] (flat t) 0 (List.replicate sub.length false) (by rfl) (by omega) hw.2 (by simp) (by simp) (by simp) (by simp) rfl (hI.congr (fun y => by simp [vs]))
  have h0 : ∀ k, spec_l5stands.f (k + 1) ⟨sub, p⟩ v (flat t) = spec_l5stands.l1 k ⟨sub, p⟩ v [flat t] [] ((0 : Nat) : Int) (List.replicate sub.length false) := fun k => by
    unfold spec_l5stands.f
    rw [if_pos (by omega), if_pos (by simp; omega), Int.toNat_natCast, spec_l5stands.l0]
    have w0 : IntKind.i64.wrap ((([flat t] : List (List Cell)).length : Int) - 1) = 0 := rfl
    rw [if_pos (by simp), w0, if_pos (by decide), if_pos (by simp), if_pos (by simp)]
    rfl
  exact Ev.succ h0 main
/-! ### unifying, pair by pair -/
inductive Run : List (Int × Tm) → Nat → List (Tm × Tm) → Int → List (Int × Tm) → Nat → Prop
  | nil {m p} : Run m p [] 0 m p
  | limit {m p x st} (h : 20000 ≤ p) : Run m p (x :: st) 3 m p
  | same {m p x y u w st c m' p'} (h : p < 20000) (h1 : Wk m x u) (h2 : Wk m y w) (k1 : u.kind = 0) (k2 : w.kind = 0) (hn : u.n = w.n) (r : Run m (p + 1) st c m' p') : Run m p ((x, y) :: st) c m' p'
  | bindL {m p x y u w st c m' p'} (h : p < 20000) (h1 : Wk m x u) (h2 : Wk m y w) (k1 : u.kind = 0) (k2 : w.kind = 0) (hn : u.n > w.n) (r : Run (mset m u.n w) (p + 1) st c m' p') : Run m p ((x, y) :: st) c m' p'
  | bindR {m p x y u w st c m' p'} (h : p < 20000) (h1 : Wk m x u) (h2 : Wk m y w) (k1 : u.kind = 0) (k2 : w.kind = 0) (hn : w.n > u.n) (r : Run (mset m w.n u) (p + 1) st c m' p') : Run m p ((x, y) :: st) c m' p'
  | cyc1 {m p x y u w st} (h : p < 20000) (h1 : Wk m x u) (h2 : Wk m y w) (k1 : u.kind = 0) (k2 : ¬ w.kind = 0) (hr : Reach m u.n (flat w)) : Run m p ((x, y) :: st) 5 m (p + 1)
  | cyc2 {m p x y u w st} (h : p < 20000) (h1 : Wk m x u) (h2 : Wk m y w) (k1 : ¬ u.kind = 0) (k2 : w.kind = 0) (hr : Reach m w.n (flat u)) : Run m p ((x, y) :: st) 5 m (p + 1)
  | bind1 {m p x y u w st c m' p'} (h : p < 20000) (h1 : Wk m x u) (h2 : Wk m y w) (k1 : u.kind = 0) (k2 : ¬ w.kind = 0) (hr : ¬ Reach m u.n (flat w)) (r : Run (mset m u.n w) (p + 1) st c m' p') : Run m p ((x, y) :: st) c m' p'
  | bind2 {m p x y u w st c m' p'} (h : p < 20000) (h1 : Wk m x u) (h2 : Wk m y w) (k1 : ¬ u.kind = 0) (k2 : w.kind = 0) (hr : ¬ Reach m w.n (flat u)) (r : Run (mset m w.n u) (p + 1) st c m' p') : Run m p ((x, y) :: st) c m' p'
  | fail {m p x y u w st} (h : p < 20000) (h1 : Wk m x u) (h2 : Wk m y w) (k1 : ¬ u.kind = 0) (k2 : ¬ w.kind = 0) (hn : ¬ (u.kind = w.kind ∧ u.n = w.n ∧ u.text = w.text)) : Run m p ((x, y) :: st) 4 m (p + 1)
  | args {m p x y u w st c m' p'} (h : p < 20000) (h1 : Wk m x u) (h2 : Wk m y w) (k1 : ¬ u.kind = 0) (k2 : ¬ w.kind = 0) (hn : u.kind = w.kind ∧ u.n = w.n ∧ u.text = w.text) (r : Run m (p + 1) (u.args.zip w.args ++ st) c m' p') : Run m p ((x, y) :: st) c m' p'
def Ok2 (q : Tm × Tm) : Prop := (Wf q.1 ∧ (flat q.1).length ≤ 2000) ∧ (Wf q.2 ∧ (flat q.2).length ≤ 2000)
theorem args_ok {t a : Tm} (hw : Wf t ∧ (flat t).length ≤ 2000) (h : a ∈ t.args) : Wf a ∧ (flat a).length ≤ 2000 := by
  obtain ⟨a1, a2, a3, a4⟩ := flat_args t
  obtain ⟨b1, b2, b3⟩ := flats_mem h
  exact ⟨b3 (a4 hw.1), by have := hw.2; omega⟩
theorem zip_ok {u w : Tm} (hu : Wf u ∧ (flat u).length ≤ 2000) (hw : Wf w ∧ (flat w).length ≤ 2000) : ∀ q, q ∈ u.args.zip w.args → Ok2 q := fun q hq => by
  obtain ⟨a, b⟩ := q
  have := List.of_mem_zip hq
  exact ⟨args_ok hu this.1, args_ok hw this.2⟩
theorem var_reach {m : List (Int × Tm)} {v : Int} {w : Tm} (hw : Wf w) (k0 : w.kind = 0) (hn : w.n ≠ v) (e : mget m w.n = none) : ¬ Reach m v (flat w) := by
  have hv := (vs_var hw k0).2
  intro h
  cases h with
  | here h => rw [hv] at h; exact hn (by simpa using h : v = w.n).symm
  | @via _ y _ h e1 _ =>
    rw [hv] at h
    have : y = w.n := by simpa using h
    rw [this, e] at e1; cases e1
/-- there is an answer -/
theorem run_ex : ∀ (n : Nat) (sub : List Binding) (m : List (Int × Tm)) (p : Nat) (st : List (Tm × Tm)), 20000 - p = n → p ≤ 20000 → Rel sub m → sub.length ≤ p → (∀ q, q ∈ st → Ok2 q) → ∃ c m' p' sub', Run m p st c m' p' ∧ Rel sub' m' ∧ sub'.length ≤ p' ∧ p' ≤ 20000 := by
  intro n
  induction n with
  | zero =>
    intro sub m p st h1 h2 hr hl hs
    cases st with
    | nil => exact ⟨0, m, p, sub, .nil, hr, hl, h2⟩
    | cons x st => exact ⟨3, m, p, sub, .limit (by omega), hr, hl, h2⟩
  | succ n ih =>
    intro sub m p st h1 h2 hr hl hs
    cases st with
    | nil => exact ⟨0, m, p, sub, .nil, hr, hl, h2⟩
    | cons q st =>
      obtain ⟨x, y⟩ := q
      obtain ⟨hx, hy⟩ := hs (x, y) (.head _)
      have hst : ∀ q, q ∈ st → Ok2 q := fun q hq => hs q (.tail _ hq)
      obtain ⟨u, hu⟩ := wk_ex hr x
      obtain ⟨w, hw⟩ := wk_ex hr y
      have wu := wk_wf hr hu hx
      have ww := wk_wf hr hw hy
      have eu := wk_end hu
      have ew := wk_end hw
      have hp : p < 20000 := by omega
      by_cases k1 : u.kind = 0
      · by_cases k2 : w.kind = 0
        · rcases Int.lt_trichotomy u.n w.n with hn | hn | hn
          · obtain ⟨c, m', p', sub', r, a⟩ := ih _ (mset m w.n u) (p + 1) st (by omega) (by omega) (hr.bind (ew k2) wu (var_reach wu.1 k1 (by omega) (eu k1))) (by rw [ins_len]; omega) hst
            exact ⟨c, m', p', sub', .bindR hp hu hw k1 k2 hn r, a⟩
          · obtain ⟨c, m', p', sub', r, a⟩ := ih sub m (p + 1) st (by omega) (by omega) hr (by omega) hst
            exact ⟨c, m', p', sub', .same hp hu hw k1 k2 hn r, a⟩
          · obtain ⟨c, m', p', sub', r, a⟩ := ih _ (mset m u.n w) (p + 1) st (by omega) (by omega) (hr.bind (eu k1) ww (var_reach ww.1 k2 (by omega) (ew k2))) (by rw [ins_len]; omega) hst
            exact ⟨c, m', p', sub', .bindL hp hu hw k1 k2 hn r, a⟩
        · by_cases hh : Reach m u.n (flat w)
          · exact ⟨5, m, p + 1, sub, .cyc1 hp hu hw k1 k2 hh, hr, by omega, by omega⟩
          · obtain ⟨c, m', p', sub', r, a⟩ := ih _ (mset m u.n w) (p + 1) st (by omega) (by omega) (hr.bind (eu k1) ww hh) (by rw [ins_len]; omega) hst
            exact ⟨c, m', p', sub', .bind1 hp hu hw k1 k2 hh r, a⟩
      · by_cases k2 : w.kind = 0
        · by_cases hh : Reach m w.n (flat u)
          · exact ⟨5, m, p + 1, sub, .cyc2 hp hu hw k1 k2 hh, hr, by omega, by omega⟩
          · obtain ⟨c, m', p', sub', r, a⟩ := ih _ (mset m w.n u) (p + 1) st (by omega) (by omega) (hr.bind (ew k2) wu hh) (by rw [ins_len]; omega) hst
            exact ⟨c, m', p', sub', .bind2 hp hu hw k1 k2 hh r, a⟩
        · by_cases hn : u.kind = w.kind ∧ u.n = w.n ∧ u.text = w.text
          · obtain ⟨c, m', p', sub', r, a⟩ := ih sub m (p + 1) (u.args.zip w.args ++ st) (by omega) (by omega) hr (by omega) (fun q hq => by
              rcases List.mem_append.1 hq with h | h
              · exact zip_ok wu ww q h
              · exact hst q h)
            exact ⟨c, m', p', sub', .args hp hu hw k1 k2 hn r, a⟩
          · exact ⟨4, m, p + 1, sub, .fail hp hu hw k1 k2 hn, hr, by omega, by omega⟩
/-! ### the program's work list: its top is its end -/
def stk (st : List (Tm × Tm)) : List GPair := (st.map fun q => (⟨q.1, q.2⟩ : GPair)).reverse
theorem stk_cons (q : Tm × Tm) (st : List (Tm × Tm)) : stk (q :: st) = stk st ++ [(⟨q.1, q.2⟩ : GPair)] := by simp [stk]
theorem stk_len (st : List (Tm × Tm)) : (stk st).length = st.length := by simp [stk]
def ubody (k : Nat) (m : List (Int × Tm)) (p : Int) (s : List GPair) (u w : Tm) : Option (Int × List (Int × Tm)) :=
  if u.kind = 0 then (if w.kind = 0 then (if u.n > w.n then ((impl_bindings_set.f m u.n w).bind fun t => impl_unify.l0 k s (IntKind.i64.wrap (p + 1)) t) else (if u.n < w.n then ((impl_bindings_set.f m w.n u).bind fun t => impl_unify.l0 k s (IntKind.i64.wrap (p + 1)) t) else impl_unify.l0 k s (IntKind.i64.wrap (p + 1)) m)) else ((impl_stands.f k m u.n w []).bind fun b => if b = true then some (5, m) else ((impl_bindings_set.f m u.n w).bind fun t => impl_unify.l0 k s (IntKind.i64.wrap (p + 1)) t))) else (if w.kind = 0 then ((impl_stands.f k m w.n u []).bind fun b => if b = true then some (5, m) else ((impl_bindings_set.f m w.n u).bind fun t => impl_unify.l0 k s (IntKind.i64.wrap (p + 1)) t)) else (if u.kind ≠ w.kind then some (4, m) else (if u.n ≠ w.n then some (4, m) else (if u.text ≠ w.text then some (4, m) else impl_unify.l1 k p m u w s (IntKind.i64.wrap ((u.args.length : Int) - 1))))))
theorem l0_step (k : Nat) (m : List (Int × Tm)) (p : Nat) (hp : p < 20000) (x y : Tm) (st : List (Tm × Tm)) (hl : st.length ≤ 100000000) :
    impl_unify.l0 (k + 1) (stk ((x, y) :: st)) (p : Int) m = (impl_walk.f k m x).bind fun u => (impl_walk.f k m y).bind fun w => ubody k m (p : Int) (stk st) u w := by
  have hlen : ((stk ((x, y) :: st)).length : Int) = (st.length : Int) + 1 := by rw [stk_len]; simp
  have hw : IntKind.i64.wrap ((st.length : Int) + 1 - 1) = (st.length : Int) := by rw [wrap_id (by omega) (by omega)]; omega
  have hg : (stk ((x, y) :: st)).getD st.length (default : GPair) = ⟨x, y⟩ := by
    rw [stk_cons, List.getD_eq_getElem?_getD, List.getElem?_append_right (by rw [stk_len]; omega)]; simp [stk_len]
  have ht : (stk ((x, y) :: st)).take st.length = stk st := by
    rw [stk_cons, List.take_append_of_le_length (by rw [stk_len]; omega), List.take_of_length_le (by rw [stk_len]; omega)]
  rw [impl_unify.l0, hlen, hw, if_pos (by omega), if_neg (by omega), if_pos (by omega), if_pos (by omega), if_pos (by omega), Int.toNat_natCast, hg, ht]
  rfl
theorem wrap1 {p : Nat} (hp : p < 20000) : IntKind.i64.wrap ((p : Int) + 1) = ((p + 1 : Nat) : Int) := by rw [wrap_id (by omega) (by omega)]; omega
theorem l1_val {m : List (Int × Tm)} {p : Nat} {u w : Tm} {st : List (Tm × Tm)} {r : Int × List (Int × Tm)} (hp : p < 20000) (hl : st.length ≤ 100000000) (ha : u.args.length = w.args.length) (hb : u.args.length ≤ 2000)
    (H : Ev (fun k => impl_unify.l0 k (stk (u.args.zip w.args ++ st)) ((p + 1 : Nat) : Int) m) r) : ∀ j : Nat, j ≤ u.args.length → Ev (fun k => impl_unify.l1 k (p : Int) m u w (stk ((u.args.zip w.args).drop j ++ st)) ((j : Int) - 1)) r := by
  intro j
  induction j with
  | zero =>
    intro _
    exact Ev.succ (h := fun k => impl_unify.l0 k (stk (u.args.zip w.args ++ st)) ((p + 1 : Nat) : Int) m) (fun k => by rw [impl_unify.l1, if_neg (by omega), wrap1 hp]; rfl) H
  | succ j ih =>
    intro hj
    have hz : (u.args.zip w.args).length = u.args.length := by rw [List.length_zip]; omega
    have hd : (u.args.zip w.args).drop j = (u.args[j]'(by omega), w.args[j]'(by omega)) :: (u.args.zip w.args).drop (j + 1) := by
      rw [List.drop_eq_getElem_cons (by omega)]; simp
    refine Ev.succ (fun k => ?_) (ih (by omega))
    have e1 : (((j + 1 : Nat) : Int) - 1) = (j : Int) := by omega
    have g1 : u.args.getD j (Tm.mk 0 0 [] []) = u.args[j]'(by omega) := by rw [List.getD_eq_getElem?_getD, List.getElem?_eq_getElem (by omega)]; rfl
    have g2 : w.args.getD j (Tm.mk 0 0 [] []) = w.args[j]'(by omega) := by rw [List.getD_eq_getElem?_getD, List.getElem?_eq_getElem (by omega)]; rfl
    have hs : (stk ((u.args.zip w.args).drop (j + 1) ++ st)).length + 1 ≤ 8796093022208 := by
      rw [stk_len, List.length_append, List.length_drop, hz]; omega
    rw [e1, impl_unify.l1, if_pos (by omega), if_pos (by omega), if_pos (by omega), if_pos (by omega), if_pos hs, Int.toNat_natCast, g1, g2, hd, List.cons_append, stk_cons, wrap_id (by omega) (by omega)]
/-! ### the program's search answers as Run -/
theorem ret_ev {β : Type} {g : Nat → Option β} {r : β} (e : ∀ k, g k = some r) : Ev g r := ⟨0, fun k _ => e k⟩
theorem args_few {t : Tm} (h : Wf t ∧ (flat t).length ≤ 2000) : t.args.length ≤ 2000 := by
  have := (flat_args t).1
  have := flats_len t.args
  have := h.2
  omega
theorem args_same {u w : Tm} (hu : Wf u) (hw : Wf w) (k1 : ¬ u.kind = 0) (h : u.kind = w.kind ∧ u.n = w.n ∧ u.text = w.text) : u.args.length = w.args.length := by
  cases u with
  | mk a n s us =>
    cases w with
    | mk b n' s' ws =>
      simp only [Tm.kind, Tm.n, Tm.text, Tm.args] at *
      simp only [Wf] at hu hw
      by_cases h3 : a = 3
      · have a1 := hu.2.1 h3
        have a2 := hw.2.1 (by omega)
        omega
      · rw [hu.2.2.1 h3, hw.2.2.1 (by omega)]
theorem run_impl {m : List (Int × Tm)} {p : Nat} {st : List (Tm × Tm)} {c : Int} {m' : List (Int × Tm)} {p' : Nat} (h : Run m p st c m' p') : ∀ sub, Rel sub m → sub.length ≤ p → p ≤ 20000 → (∀ q, q ∈ st → Ok2 q) → st.length ≤ 2000 * p + 1 → Ev (fun k => impl_unify.l0 k (stk st) (p : Int) m) (c, m') := by
  induction h with
  | nil =>
    intro sub _ _ _ _ _
    exact Ev.succ (fun k => by rw [impl_unify.l0, if_neg (by rw [stk_len]; simp)]) (Ev.ret _)
  | limit h =>
    intro sub _ _ hp _ _
    exact Ev.succ (fun k => by rw [impl_unify.l0, if_pos (by rw [stk_len]; simp <;> omega), if_pos (by omega)]) (Ev.ret _)
  | same h h1 h2 k1 k2 hn r ih =>
    intro sub hr hl hp hs hlen
    simp only [List.length_cons] at hlen
    refine Ev.succ (fun k => l0_step k _ _ h _ _ _ (by omega)) (Ev.bind (wk_impl h1) (Ev.bind (wk_impl h2) ?_))
    refine Ev.of (fun k => by rw [ubody, if_pos k1, if_pos k2, if_neg (by omega), if_neg (by omega), wrap1 h]) (ih sub hr (by omega) (by omega) (fun q hq => hs q (.tail _ hq)) (by omega))
  | @bindL m p x y u w st c m' p' h h1 h2 k1 k2 hn r ih =>
    intro sub hr hl hp hs hlen
    simp only [List.length_cons] at hlen
    obtain ⟨hx, hy⟩ := hs _ (.head _)
    have ww := wk_wf hr h2 hy
    refine Ev.succ (fun k => l0_step k _ _ h _ _ _ (by omega)) (Ev.bind (wk_impl h1) (Ev.bind (wk_impl h2) ?_))
    refine Ev.of (fun k => by rw [ubody, if_pos k1, if_pos k2, if_pos (by omega), wrap1 h, impl_bindings_set.f]; rfl) (ih _ (hr.bind (wk_end h1 k1) ww (var_reach ww.1 k2 (by omega) (wk_end h2 k2))) (by rw [ins_len]; omega) (by omega) (fun q hq => hs q (.tail _ hq)) (by omega))
  | @bindR m p x y u w st c m' p' h h1 h2 k1 k2 hn r ih =>
    intro sub hr hl hp hs hlen
    simp only [List.length_cons] at hlen
    obtain ⟨hx, hy⟩ := hs _ (.head _)
    have wu := wk_wf hr h1 hx
    refine Ev.succ (fun k => l0_step k _ _ h _ _ _ (by omega)) (Ev.bind (wk_impl h1) (Ev.bind (wk_impl h2) ?_))
    refine Ev.of (fun k => by rw [ubody, if_pos k1, if_pos k2, if_neg (by omega), if_pos (by omega), wrap1 h, impl_bindings_set.f]; rfl) (ih _ (hr.bind (wk_end h2 k2) wu (var_reach wu.1 k1 (by omega) (wk_end h1 k1))) (by rw [ins_len]; omega) (by omega) (fun q hq => hs q (.tail _ hq)) (by omega))
  | @cyc1 m p x y u w st h h1 h2 k1 k2 hh =>
    intro sub hr hl hp hs hlen
    simp only [List.length_cons] at hlen
    obtain ⟨hx, hy⟩ := hs _ (.head _)
    have ww := wk_wf hr h2 hy
    refine Ev.succ (fun k => l0_step k _ _ h _ _ _ (by omega)) (Ev.bind (wk_impl h1) (Ev.bind (wk_impl h2) ?_))
    refine Ev.of (fun k => by rw [ubody, if_pos k1, if_neg k2]) (Ev.bind (stands_val hr (wk_end h1 k1) ww) ?_)
    exact ret_ev (fun k => by rw [if_pos (by simp [hh])])
  | @cyc2 m p x y u w st h h1 h2 k1 k2 hh =>
    intro sub hr hl hp hs hlen
    simp only [List.length_cons] at hlen
    obtain ⟨hx, hy⟩ := hs _ (.head _)
    have wu := wk_wf hr h1 hx
    refine Ev.succ (fun k => l0_step k _ _ h _ _ _ (by omega)) (Ev.bind (wk_impl h1) (Ev.bind (wk_impl h2) ?_))
    refine Ev.of (fun k => by rw [ubody, if_neg k1, if_pos k2]) (Ev.bind (stands_val hr (wk_end h2 k2) wu) ?_)
    exact ret_ev (fun k => by rw [if_pos (by simp [hh])])
  | @bind1 m p x y u w st c m' p' h h1 h2 k1 k2 hh r ih =>
    intro sub hr hl hp hs hlen
    simp only [List.length_cons] at hlen
    obtain ⟨hx, hy⟩ := hs _ (.head _)
    have ww := wk_wf hr h2 hy
    refine Ev.succ (fun k => l0_step k _ _ h _ _ _ (by omega)) (Ev.bind (wk_impl h1) (Ev.bind (wk_impl h2) ?_))
    refine Ev.of (fun k => by rw [ubody, if_pos k1, if_neg k2]) (Ev.bind (stands_val hr (wk_end h1 k1) ww) ?_)
    exact Ev.of (fun k => by rw [if_neg (by simp [hh]), wrap1 h, impl_bindings_set.f]; rfl) (ih _ (hr.bind (wk_end h1 k1) ww hh) (by rw [ins_len]; omega) (by omega) (fun q hq => hs q (.tail _ hq)) (by omega))
  | @bind2 m p x y u w st c m' p' h h1 h2 k1 k2 hh r ih =>
    intro sub hr hl hp hs hlen
    simp only [List.length_cons] at hlen
    obtain ⟨hx, hy⟩ := hs _ (.head _)
    have wu := wk_wf hr h1 hx
    refine Ev.succ (fun k => l0_step k _ _ h _ _ _ (by omega)) (Ev.bind (wk_impl h1) (Ev.bind (wk_impl h2) ?_))
    refine Ev.of (fun k => by rw [ubody, if_neg k1, if_pos k2]) (Ev.bind (stands_val hr (wk_end h2 k2) wu) ?_)
    exact Ev.of (fun k => by rw [if_neg (by simp [hh]), wrap1 h, impl_bindings_set.f]; rfl) (ih _ (hr.bind (wk_end h2 k2) wu hh) (by rw [ins_len]; omega) (by omega) (fun q hq => hs q (.tail _ hq)) (by omega))
  | @fail m p x y u w st h h1 h2 k1 k2 hn =>
    intro sub hr hl hp hs hlen
    simp only [List.length_cons] at hlen
    refine Ev.succ (fun k => l0_step k _ _ h _ _ _ (by omega)) (Ev.bind (wk_impl h1) (Ev.bind (wk_impl h2) ?_))
    refine ret_ev (fun k => ?_)
    rw [ubody, if_neg k1, if_neg k2]
    by_cases a1 : u.kind = w.kind
    · by_cases a2 : u.n = w.n
      · rw [if_neg (by simpa using a1), if_neg (by simpa using a2), if_pos (fun a3 => hn ⟨a1, a2, a3⟩)]
      · rw [if_neg (by simpa using a1), if_pos a2]
    · rw [if_pos a1]
  | @args m p x y u w st c m' p' h h1 h2 k1 k2 hn r ih =>
    intro sub hr hl hp hs hlen
    simp only [List.length_cons] at hlen
    obtain ⟨hx, hy⟩ := hs _ (.head _)
    have wu := wk_wf hr h1 hx
    have ww := wk_wf hr h2 hy
    have ha : u.args.length = w.args.length := args_same wu.1 ww.1 k1 hn
    have hb : u.args.length ≤ 2000 := args_few wu
    refine Ev.succ (fun k => l0_step k _ _ h _ _ _ (by omega)) (Ev.bind (wk_impl h1) (Ev.bind (wk_impl h2) ?_))
    have z : (u.args.zip w.args).drop u.args.length = [] := by rw [List.drop_eq_nil_iff, List.length_zip]; omega
    have e := l1_val (m := m) (r := (c, m')) h (st := st) (by omega) ha hb (ih sub hr (by omega) (by omega) (fun q hq => by
      rcases List.mem_append.1 hq with h | h
      · exact zip_ok wu ww q h
      · exact hs q (.tail _ h)) (by rw [List.length_append, List.length_zip]; omega)) u.args.length (Nat.le_refl _)
    rw [z, List.nil_append] at e
    exact Ev.of (fun k => by rw [ubody, if_neg k1, if_neg k2, if_neg (by simpa using hn.1), if_neg (by simpa using hn.2.1), if_neg (by simpa using hn.2.2), wrap_id (by omega) (by omega)]) e
end Go.Proofs.Ytognefkopbbdnaa
