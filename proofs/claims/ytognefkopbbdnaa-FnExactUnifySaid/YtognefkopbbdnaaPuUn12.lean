import Derived.Test.YtognefkopbbdnaaPuUn11
namespace Go.Proofs.Ytognefkopbbdnaa
open Go.Sx Go.Sy
set_option linter.unusedVariables false
set_option linter.unusedSimpArgs false
set_option linter.unusedSectionVars false
set_option maxRecDepth 4000
theorem l2copy_val (xs : List Cell) (k : Nat) (hl : xs.length ≤ 1000000) (ht : ∀ c, c ∈ xs → c.text.length ≤ 1000000) (hk : xs.length < k) : spec_l2copy.f k xs = some xs := by
  rw [spec_l2copy.f]
  have key : ∀ (m k i : Nat), xs.length - i = m → i ≤ xs.length → m < k → spec_l2copy.l0 k xs (xs.take i) (i : Int) = some xs := by
    intro m
    induction m with
    | zero =>
      intro k i h1 h2 h3
      obtain ⟨k, rfl⟩ : ∃ q, k = q + 1 := ⟨k - 1, by omega⟩
      rw [spec_l2copy.l0, if_neg (by omega), List.take_of_length_le (by omega)]
    | succ m ih =>
      intro k i h1 h2 h3
      obtain ⟨k, rfl⟩ : ∃ q, k = q + 1 := ⟨k - 1, by omega⟩
      have hi : i < xs.length := by omega
      have hlt := ht _ (List.getElem_mem hi)
      rw [spec_l2copy.l0, if_pos (by omega), if_pos (by omega), Int.toNat_natCast, getD_at hi, spec_l1copy.f, if_pos (by omega), Option.bind_some, if_pos (by rw [List.length_take]; omega), wrap_nat (by omega)]
      have e : xs.take i ++ [(⟨xs[i].kind, xs[i].n, xs[i].text⟩ : Cell)] = xs.take (i + 1) := by rw [List.take_add_one, List.getElem?_eq_getElem hi]; rfl
      rw [e]
      exact ih k (i + 1) (by omega) (by omega) (by omega)
  exact key xs.length k 0 rfl (by omega) hk
/-! ### the reference's expansion -/
def upto (out r : List Cell) : List Cell × Bool := if out.length + r.length ≤ 2000 then (out ++ r, true) else ([], false)
theorem whole_val {sub : List Binding} {m : List (Int × Tm)} (hr : Rel sub m) (hl : sub.length ≤ 1000000) (p : Int) {cs r : List Cell} (h : Xt m cs r) : ∀ (xs out : List Cell) (i : Nat), xs.drop i = cs → xs.length ≤ 2000 → (∀ c, c ∈ xs → c.text.length ≤ 1000000) → out.length ≤ 2000 →
    Ev (fun k => spec_l5whole_2.l0 k ⟨sub, p⟩ xs out (i : Int)) (upto out r) := by
  induction h with
  | nil =>
    intro xs out i hd hx ht ho
    have hi : xs.length ≤ i := by rw [List.drop_eq_nil_iff] at hd; exact hd
    exact Ev.succ (fun k => by rw [spec_l5whole_2.l0, if_neg (by omega)]) (ret_ev fun k => by rw [upto, if_pos (by simpa using ho), List.append_nil])
  | @cell c cs r h t ih =>
    intro xs out i hd hx ht ho
    have hi : i < xs.length := by
      rcases Nat.lt_or_ge i xs.length with q | q
      · exact q
      · rw [List.drop_of_length_le q] at hd; cases hd
    have hc : xs[i] = c ∧ xs.drop (i + 1) = cs := by
      rw [List.drop_eq_getElem_cons hi] at hd; injection hd with a b; exact ⟨a, b⟩
    have hg : xs.getD i z65 = c := by rw [List.getD_eq_getElem?_getD, List.getElem?_eq_getElem hi, hc.1]; rfl
    have w1 : IntKind.i64.wrap ((i : Int) + 1) = ((i + 1 : Nat) : Int) := by rw [wrap_id (by omega) (by omega)]; omega
    have hs : (xs.drop i).take (i + 1 - i) = [c] := by rw [hd]; simp
    have hmem : c ∈ xs := by rw [← hc.1]; exact List.getElem_mem hi
    have e1 : Ev (fun k => spec_l5whole_2.l1 k ⟨sub, p⟩ xs out (i : Int) (-1)) (upto out (c :: r)) := by
      refine Ev.succ (fun k => by rw [spec_l5whole_2.l1, if_neg (by decide), if_pos (by omega), w1, if_pos (by omega), if_pos (by omega), Int.toNat_natCast, Int.toNat_natCast, hs]) ?_
      refine Ev.bind (a := [c]) ⟨5, fun k hk => l2copy_val _ _ (by simp) (fun d hd => by rw [List.mem_singleton.1 hd]; exact ht c hmem) (by simp; omega)⟩ ?_
      refine Ev.of (fun k => if_pos (by simp; omega)) ?_
      by_cases h2 : out.length + 1 ≤ 2000
      · refine Ev.succ (fun k => by rw [spec_l5whole_2.l2, if_neg (by simp), if_neg (by simp; omega), w1]) ?_
        have := ih xs (out ++ [c]) (i + 1) hc.2 hx ht (by simp; omega)
        have e : upto (out ++ [c]) r = upto out (c :: r) := by
          unfold upto; simp only [List.length_append, List.length_cons, List.length_nil, List.append_assoc, List.singleton_append]
          rw [show out.length + (0 + 1) + r.length = out.length + (r.length + 1) by omega]
        rw [← e]; exact this
      · refine Ev.succ (fun k => by rw [spec_l5whole_2.l2, if_neg (by simp), if_pos (by simp; omega)]) (ret_ev fun k => by rw [upto, if_neg (by simp; omega)])
    by_cases k0 : c.kind = 0
    · rcases hr.idx hl c.n with ⟨_, e⟩ | ⟨s, j, hj, e, _⟩
      · exact Ev.succ (fun k => by rw [spec_l5whole_2.l0, if_pos (by omega), if_pos (by omega), Int.toNat_natCast, hg, if_pos k0]) (Ev.bind e e1)
      · rw [h k0] at e; cases e
    · exact Ev.succ (fun k => by rw [spec_l5whole_2.l0, if_pos (by omega), if_pos (by omega), Int.toNat_natCast, hg, if_neg k0]) e1
  | @var c cs r t a h e x y ihx ihy =>
    intro xs out i hd hx ht ho
    have hi : i < xs.length := by
      rcases Nat.lt_or_ge i xs.length with q | q
      · exact q
      · rw [List.drop_of_length_le q] at hd; cases hd
    have hc : xs[i] = c ∧ xs.drop (i + 1) = cs := by
      rw [List.drop_eq_getElem_cons hi] at hd; injection hd with a b; exact ⟨a, b⟩
    have hg : xs.getD i z65 = c := by rw [List.getD_eq_getElem?_getD, List.getElem?_eq_getElem hi, hc.1]; rfl
    have w1 : IntKind.i64.wrap ((i : Int) + 1) = ((i + 1 : Nat) : Int) := by rw [wrap_id (by omega) (by omega)]; omega
    rcases hr.idx hl c.n with ⟨e0, _⟩ | ⟨s, j, hj, e0, e2, e3, e4⟩
    · rw [e] at e0; cases e0
    · rw [e] at e0; injection e0 with e0
      subst e0
      obtain ⟨wt, lt⟩ := hr.wf _ _ e
      have f1 := ihx (flat t) out 0 (by simp) lt (fun d hd => Nat.le_trans (flat_ok _ wt d hd).text (by decide)) ho
      refine Ev.succ (fun k => by rw [spec_l5whole_2.l0, if_pos (by omega), if_pos (by omega), Int.toNat_natCast, hg, if_pos h]) (Ev.bind e2 ?_)
      refine Ev.succ (fun k => by rw [spec_l5whole_2.l1, if_pos (by omega), if_pos (by omega), if_pos (by simp; omega), Int.toNat_natCast, gd hj, e4]) ?_
      refine Ev.bind (a := upto out a) (Ev.succ (fun k => by rw [spec_l5whole_2.f]; rfl) f1) ?_
      by_cases h2 : out.length + a.length ≤ 2000
      · have e5 : upto out a = (out ++ a, true) := if_pos h2
        rw [e5]
        refine Ev.succ (fun k => by rw [spec_l5whole_2.l2, if_neg (by simp), if_neg (by simp; omega), w1]) ?_
        have := ihy xs (out ++ a) (i + 1) hc.2 hx ht (by simp; omega)
        have e6 : upto (out ++ a) r = upto out (a ++ r) := by
          unfold upto; simp only [List.length_append, List.append_assoc, Nat.add_assoc]
        rw [← e6]; exact this
      · have e5 : upto out a = ([], false) := if_neg h2
        rw [e5]
        refine Ev.succ (fun k => by rw [spec_l5whole_2.l2, if_pos (by simp)]) (ret_ev fun k => by rw [upto, if_neg (by rw [List.length_append]; omega)])
end Go.Proofs.Ytognefkopbbdnaa
