import Derived.Test.YtognefkopbbdnaaPuUn12
namespace Go.Proofs.Ytognefkopbbdnaa
open Go.Sx Go.Sy
set_option linter.unusedVariables false
set_option linter.unusedSimpArgs false
set_option linter.unusedSectionVars false
set_option maxRecDepth 4000
/-! ### the program's expansion -/
theorem xt_walk {m : List (Int × Tm)} {t u : Tm} {r : List Cell} (h : Wk m t u) (hw : Wf t) (hm : ∀ v s, mget m v = some s → Wf s) (x : Xt m (flat t) r) : Xt m (flat u) r := by
  induction h with
  | stop _ => exact x
  | @step t s u h0 h _ ih =>
    apply ih (hm _ _ h)
    cases t with
    | mk k n z us =>
      have hk : k = 0 := h0
      have : us = [] := by simp only [Wf] at hw; exact hw.2.2.1 (by omega)
      subst this
      subst hk
      simp only [flat, flats] at x
      cases x with
      | cell h' _ => have e1 := h' rfl; have e2 : mget m n = some s := h; rw [e1] at e2; cases e2
      | var _ e a b =>
        have e2 : mget m n = some s := h
        rw [show (⟨0, n, z⟩ : Cell).n = n from rfl, e2] at e
        injection e with e
        subst e
        cases b
        rw [List.append_nil]; exact a
theorem xt_split {m : List (Int × Tm)} : ∀ (a b r : List Cell), Xt m (a ++ b) r → ∃ x y, r = x ++ y ∧ Xt m a x ∧ Xt m b y := by
  intro a
  induction a with
  | nil => exact fun b r h => ⟨[], r, rfl, .nil, h⟩
  | cons c a ih =>
    intro b r h
    rw [List.cons_append] at h
    cases h with
    | cell h t =>
      obtain ⟨x, y, e, h1, h2⟩ := ih b _ t
      exact ⟨c :: x, y, by rw [e]; rfl, .cell h h1, h2⟩
    | @var _ _ r' t z h0 e x t' =>
      obtain ⟨x', y, e', h1, h2⟩ := ih b _ t'
      exact ⟨z ++ x', y, by rw [e', List.append_assoc], .var h0 e x h1, h2⟩
theorem full_args {m : List (Int × Tm)} {N : Nat} (IH : ∀ (t : Tm) (r out : List Cell), r.length ≤ N → Wf t ∧ (flat t).length ≤ 2000 → Xt m (flat t) r → out.length ≤ 2000 → Ev (fun k => impl_full_2.f k m t out 2000) (upto out r)) (u : Tm) (hu : Wf u ∧ (flat u).length ≤ 2000) : ∀ (d j : Nat) (r out : List Cell), u.args.length - j = d → j ≤ u.args.length → r.length ≤ N → Xt m (flats (u.args.drop j)) r → out.length ≤ 2000 → Ev (fun k => impl_full_2.l1 k m 2000 u out (j : Int)) (upto out r) := by
  have hb := args_few hu
  intro d
  induction d with
  | zero =>
    intro j r out h1 h2 h3 x ho
    rw [List.drop_of_length_le (by omega)] at x
    cases x
    exact Ev.succ (fun k => by rw [impl_full_2.l1, if_neg (by omega)]) (ret_ev fun k => by rw [upto, if_pos (by simpa using ho), List.append_nil])
  | succ d ih =>
    intro j r out h1 h2 h3 x ho
    have hj : j < u.args.length := by omega
    rw [List.drop_eq_getElem_cons hj] at x
    obtain ⟨a, b, rfl, xa, xb⟩ := xt_split (flat u.args[j]) (flats (u.args.drop (j + 1))) r x
    rw [List.length_append] at h3
    have g1 : u.args.getD j (Tm.mk 0 0 [] []) = u.args[j] := by rw [List.getD_eq_getElem?_getD, List.getElem?_eq_getElem hj]; rfl
    have w1 : IntKind.i64.wrap ((j : Int) + 1) = ((j + 1 : Nat) : Int) := by rw [wrap_id (by omega) (by omega)]; omega
    have e1 := IH u.args[j] a out (by omega) (args_ok hu (List.getElem_mem hj)) xa ho
    refine Ev.succ (fun k => by rw [impl_full_2.l1, if_pos (by omega), if_pos (by omega), Int.toNat_natCast, g1, w1]) (Ev.bind e1 ?_)
    by_cases h5 : out.length + a.length ≤ 2000
    · have e5 : upto out a = (out ++ a, true) := if_pos h5
      rw [e5]
      refine Ev.of (fun k => if_neg (by simp)) ?_
      have := ih (j + 1) b (out ++ a) (by omega) (by omega) (by omega) xb (by simp; omega)
      have e6 : upto (out ++ a) b = upto out (a ++ b) := by
        unfold upto; simp only [List.length_append, List.append_assoc, Nat.add_assoc]
      rw [← e6]; exact this
    · have e5 : upto out a = ([], false) := if_neg h5
      rw [e5]
      exact ret_ev fun k => by rw [if_pos (by simp), upto, if_neg (by rw [List.length_append]; omega)]
end Go.Proofs.Ytognefkopbbdnaa
