import Derived.Test.YtognefkopbbdnaaPuFu4
namespace Go.Proofs.Ytognefkopbbdnaa
open Go.Sx Go.Sy
set_option linter.unusedVariables false
set_option linter.unusedSimpArgs false
set_option linter.unusedSectionVars false
set_option maxRecDepth 4000
/-! ### drawn terms -/
def LT (n : Nat) (t : List Cell × GL4rd) : Prop := TB n t.1 ∧ t.1 ≠ [] ∧ RD t.2
theorem leaf_te {t : Int × GL4rd} (h0 : 0 ≤ t.1) (h : RD t.2) {n : Nat} (hn : 1 ≤ n) : TE (fun _ => if (Int.tmod t.1 5) = 0 then ((spec_l4int_2.f t.2).bind fun t24 => ((spec_l2num.f t24.1).bind fun t37 => some (t37, t24.2))) else (if (Int.tmod t.1 5) < 3 then ((spec_l4rd_next_2.f t.2).bind fun t51 => ((spec_l2var.f (Int.tmod t51.1 5)).bind fun t64 => some (t64, t51.2))) else ((spec_l4name.f t.2).bind fun t77 => some ([(⟨2, 0, t77.1⟩ : Cell)], t77.2)))) (LT n) := by
  refine TE.ite (fun c => TE.bind (int_te h) fun a ha => ?_) fun c => TE.ite (fun c => TE.bind (next_te h) fun a ha => ?_) fun c => TE.bind (name_te h) fun a ha => ?_
  · exact TE.of (fun k => by rw [spec_l2num.f]; rfl) (TE.ret ⟨(TB.one (Nat.zero_le _)).le hn, by simp, ha⟩)
  · exact TE.of (fun k => by rw [spec_l2var.f]; rfl) (TE.ret ⟨(TB.one (Nat.zero_le _)).le hn, by simp, ha.2.2⟩)
  · exact TE.ret ⟨(TB.one (by have := ha.1; show a.1.length ≤ 1000; omega)).le hn, by simp, ha.2⟩
theorem term_te (d : Nat) (hd : d ≤ 20) (B : Nat) (hB : 1 ≤ B) (hB2 : B ≤ 20000) (IH : ∀ (r : GL4rd), RD r → ∀ x : Int, x ≤ (d : Int) → TE (fun k => spec_l4term.f k r x) (LT B)) : ∀ (r : GL4rd), RD r → ∀ x : Int, x ≤ ((d + 1 : Nat) : Int) → TE (fun k => spec_l4term.f k r x) (LT (4 * B + 4)) := by
  intro r hr x hx
  have hlist : ∀ (t9 : Int × GL4rd) (n : Nat), 0 ≤ t9.1 → 0 < x → IntKind.i64.wrap (1 + (Int.tmod t9.1 3)) = (n : Int) → n ≤ 3 → ∀ (m i : Nat) (acc : List (List Cell)) (q : GL4rd), n - i = m → i ≤ n → acc.length = i → (∀ t, t ∈ acc → TB B t) → RD q → TE (fun k => spec_l4term.l0 k x t9 acc (i : Int) q.b_ q.i_) (LT (4 * B + 4)) := by
    intro t9 n h0 hx0 hw hn m
    induction m with
    | zero =>
      intro i acc q h1 h2 h3 h4 h5
      refine TE.succ (fun k => by rw [spec_l4term.l0, hw, if_neg (by omega)]) (TE.bind (atom_te (by simp)) fun z hz => ?_)
      have fin : ∀ (z : List Cell) (q : GL4rd), TB B z → z ≠ [] → RD q → TE (fun k => spec_l4term.l1 k acc z q.b_ q.i_) (LT (4 * B + 4)) := by
        intro z q hz hz0 hq
        refine TE.succ (fun k => by rw [spec_l4term.l1]) (TE.bind (list_te acc z B (by omega) (by omega) h4 hz hz0) fun t ht => TE.ret ⟨ht.1.le ?_, ht.2, hq⟩)
        have h9 : acc.length * (B + 1) ≤ 3 * (B + 1) := Nat.mul_le_mul_right _ (by omega)
        omega
      refine TE.ite (fun c => ?_) fun c => fin z q (hz.1.le hB) hz.2 h5
      rw [wrap_id (n := x - 2) (by omega) (by omega)]
      exact TE.bind (IH q h5 (x - 2) (by omega)) fun t ht => fin t.1 t.2 ht.1 ht.2.1 ht.2.2
    | succ m ih =>
      intro i acc q h1 h2 h3 h4 h5
      refine TE.succ (fun k => by rw [spec_l4term.l0, hw, if_pos (by omega), wrap_id (n := x - 1) (by omega) (by omega)]) (TE.bind (IH q h5 (x - 1) (by omega)) fun t ht => ?_)
      refine TE.pos (by omega) (TE.of (fun k => by rw [wrap_nat (by omega)]) (ih (i + 1) (acc ++ [t.1]) t.2 (by omega) (by omega) (by simp [h3]) (fun u hu => ?_) ht.2.2))
      rcases List.mem_append.1 hu with hu | hu
      · exact h4 u hu
      · rw [List.mem_singleton.1 hu]; exact ht.1
  have hcomp : ∀ (t9 : Int × GL4rd) (n : Nat), 0 ≤ t9.1 → 0 < x → IntKind.i64.wrap (1 + (Int.tmod t9.1 4)) = (n : Int) → n ≤ 4 → ∀ (m i : Nat) (acc : List (List Cell)) (q : GL4rd), n - i = m → i ≤ n → acc.length = i → (∀ t, t ∈ acc → TB B t) → RD q → TE (fun k => spec_l4term.l2 k x t9 acc (i : Int) q.b_ q.i_) (LT (4 * B + 4)) := by
    intro t9 n h0 hx0 hw hn m
    induction m with
    | zero =>
      intro i acc q h1 h2 h3 h4 h5
      refine TE.succ (fun k => by rw [spec_l4term.l2, hw, if_neg (by omega)]) (TE.bind (name_te h5) fun z hz => ?_)
      refine TE.bind (comp_te (by have := hz.1; omega) acc B (by omega) (by omega) h4) fun t ht => TE.ret ⟨ht.1.le ?_, ht.2, hz.2⟩
      have : acc.length * B ≤ 4 * B := Nat.mul_le_mul_right _ (by omega)
      omega
    | succ m ih =>
      intro i acc q h1 h2 h3 h4 h5
      refine TE.succ (fun k => by rw [spec_l4term.l2, hw, if_pos (by omega), wrap_id (n := x - 1) (by omega) (by omega)]) (TE.bind (IH q h5 (x - 1) (by omega)) fun t ht => ?_)
      refine TE.pos (by omega) (TE.of (fun k => by rw [wrap_nat (by omega)]) (ih (i + 1) (acc ++ [t.1]) t.2 (by omega) (by omega) (by simp [h3]) (fun u hu => ?_) ht.2.2))
      rcases List.mem_append.1 hu with hu | hu
      · exact h4 u hu
      · rw [List.mem_singleton.1 hu]; exact ht.1
  refine TE.succ (fun k => by rw [spec_l4term.f]) (TE.bind (next_te hr) fun t9 ⟨h1, h2, h3⟩ => ?_)
  refine TE.ite (fun c => leaf_te h1 h3 (by omega)) fun c => ?_
  refine TE.of (fun k => by rw [spec_l4rd_left.f, Option.bind_some]) (TE.ite (fun c => leaf_te h1 h3 (by omega)) fun c2 => TE.ite (fun c => leaf_te h1 h3 (by omega)) fun c3 => ?_)
  have m3 := tmod_rng h1 (show (0 : Int) < 3 by omega)
  have m4 := tmod_rng h1 (show (0 : Int) < 4 by omega)
  refine TE.ite (fun c4 => ?_) fun c4 => TE.ite (fun c5 => ?_) fun c5 => TE.ite (fun c6 => ?_) fun c6 => ?_
  · exact hlist t9 (1 + Int.tmod t9.1 3).toNat h1 (by omega) (by rw [wrap_id (by omega) (by omega)]; omega) (by omega) _ 0 [] t9.2 rfl (Nat.zero_le _) rfl (fun t ht => by cases ht) h3
  · rw [wrap_id (n := x - 1) (by omega) (by omega)]
    refine TE.bind (next_te h3) fun a ⟨a1, a2, a3⟩ => ?_
    have m17 := tmod_rng a1 (show (0 : Int) < 17 by omega)
    refine TE.pos m17.1 (TE.pos (by omega) (TE.bind (IH _ a3 _ (by omega)) fun u hu => TE.bind (IH _ hu.2.2 _ (by omega)) fun v hv => ?_))
    exact TE.bind (pair_te (getD_len (by decide)) hu.1 hv.1 (by omega)) fun t ht => TE.ret ⟨ht.1.le (by omega), ht.2, hv.2.2⟩
  · rw [wrap_id (n := x - 1) (by omega) (by omega)]
    refine TE.bind (next_te h3) fun a ⟨a1, a2, a3⟩ => ?_
    have m12 := tmod_rng a1 (show (0 : Int) < 12 by omega)
    refine TE.pos m12.1 (TE.pos (by omega) (TE.bind (IH _ a3 _ (by omega)) fun u hu => ?_))
    exact TE.bind (comp_te (getD_len (by decide)) [u.1] B (by simp) (by omega) (fun t ht => by rw [List.mem_singleton.1 ht]; exact hu.1)) fun t ht => TE.ret ⟨ht.1.le (by simp; omega), ht.2, hu.2.2⟩
  · exact hcomp t9 (1 + Int.tmod t9.1 4).toNat h1 (by omega) (by rw [wrap_id (by omega) (by omega)]; omega) (by omega) _ 0 [] t9.2 rfl (Nat.zero_le _) rfl (fun t ht => by cases ht) h3
theorem term0_te (r : GL4rd) (hr : RD r) (x : Int) (hx : x ≤ 0) : TE (fun k => spec_l4term.f k r x) (LT 1) :=
  TE.succ (fun k => by rw [spec_l4term.f]) (TE.bind (next_te hr) fun t9 ⟨h1, h2, h3⟩ => TE.pos hx (leaf_te h1 h3 (Nat.le_refl _)))
theorem term4_te (r : GL4rd) (hr : RD r) : TE (fun k => spec_l4term.f k r 4) (LT 2000) := by
  have h1 := term_te 0 (by omega) 1 (by omega) (by omega) (fun r hr x hx => term0_te r hr x hx)
  have h2 := term_te 1 (by omega) 8 (by omega) (by omega) h1
  have h3 := term_te 2 (by omega) 36 (by omega) (by omega) h2
  have h4 := term_te 3 (by omega) 148 (by omega) (by omega) h3
  exact (h4 r hr 4 (by simp)).imp fun t ht => ⟨ht.1.le (by omega), ht.2⟩
theorem fill_te (c : UInt8) (n : Nat) (hn : n ≤ 1000) : TE (fun k => spec_l4fill.f k c (n : Int)) (fun s => s.length = n) := by
  refine TE.of (fun k => by rw [spec_l4fill.f]) ?_
  have key : ∀ (m i : Nat) (acc : List UInt8), n - i = m → i ≤ n → acc.length = i → TE (fun k => spec_l4fill.l0 k c (n : Int) acc (i : Int)) (fun s => s.length = n) := by
    intro m
    induction m with
    | zero =>
      intro i acc h1 h2 h3
      exact TE.succ (fun k => by rw [spec_l4fill.l0, if_neg (by omega)]) (TE.ret (by omega))
    | succ m ih =>
      intro i acc h1 h2 h3
      exact TE.succ (fun k => by rw [spec_l4fill.l0, if_pos (by omega), if_pos (by omega), wrap_nat (by omega)]) (ih (i + 1) _ (by omega) (by omega) (by simp [h3]))
  exact key n 0 [] rfl (Nat.zero_le _) rfl
theorem TB.set {n : Nat} {t : List Cell} (h : TB n t) (i : Nat) {c : Cell} (hc : c.text.length ≤ 1000) : TB n (t.set i c) :=
  ⟨by rw [List.length_set]; exact h.1, fun d hd => (List.mem_or_eq_of_mem_set hd).elim (h.2 d) fun e => e ▸ hc⟩
theorem TB.getD {n : Nat} {t : List Cell} (h : TB n t) (i : Nat) : (t.getD i z65).text.length ≤ 1000 := by
  rw [List.getD_eq_getElem?_getD]
  cases e : t[i]? with
  | none => simp [z65]
  | some c => exact h.2 c (List.mem_of_getElem? e)
theorem spoil_te (t : List Cell) (n : Nat) (h : TB n t) (h0 : t ≠ []) (hn : n ≤ 10000) (r : GL4rd) (hr : RD r) : TE (fun k => spec_l4spoil_2.f k t r) (fun u => TB 12000 u.1 ∧ RD u.2) := by
  have hl : 0 < t.length := List.length_pos_iff.2 h0
  have hl2 := h.1
  have big : ∀ (a : Int × GL4rd) (q : Nat), 0 ≤ a.1 → RD a.2 → IntKind.i64.wrap (1999 + (Int.tmod a.1 3)) = (q : Int) → q ≤ 2001 → 1999 ≤ q → ∀ (m i : Nat) (acc : List Cell), (q - 1) / 2 - i = m → i ≤ (q - 1) / 2 → TB (2 * i) acc → TE (fun k => spec_l4spoil_2.l0 k a acc (i : Int)) (fun u => TB 12000 u.1 ∧ RD u.2) := by
    intro a q ha hq hw hq2 hq3 m
    have hw2 : IntKind.i64.wrap (Int.tdiv (IntKind.i64.wrap ((q : Int) - 1)) 2) = (((q - 1) / 2 : Nat) : Int) := by
      rw [wrap_id (n := (q : Int) - 1) (by omega) (by omega), Int.tdiv_eq_ediv_of_nonneg (by omega), wrap_id (by omega) (by omega)]; omega
    induction m with
    | zero =>
      intro i acc h1 h2 h3
      have h31 := h3.1
      refine TE.succ (fun k => by rw [spec_l4spoil_2.l0, hw, hw2, if_neg (by omega)]) (TE.ite (fun c => TE.pos (by omega) (TE.bind (atom_te (by simp)) fun z hz => ?_)) fun c => TE.bind (atom_te (by simp)) fun z hz => ?_)
      · have h4 := (h3.app (TB.one (c := (⟨3, 1, [(102 : UInt8)]⟩ : Cell)) (by simp))).app hz.1
        exact TE.pos (by have := h4.1; rw [List.length_append] at this; omega) (TE.ret ⟨h4.le (by omega), hq⟩)
      · have h4 := h3.app hz.1
        exact TE.pos (by have := h4.1; rw [List.length_append] at this; omega) (TE.ret ⟨h4.le (by omega), hq⟩)
    | succ m ih =>
      intro i acc h1 h2 h3
      have h31 := h3.1
      refine TE.succ (fun k => by rw [spec_l4spoil_2.l0, hw, hw2, if_pos (by omega), if_pos (by omega), wrap_nat (by omega)]) (ih (i + 1) _ (by omega) (by omega) ?_)
      exact (h3.app (m := 2) ⟨by simp, fun c hc => by
        rcases List.mem_cons.1 hc with rfl | hc
        · simp
        · rw [List.mem_singleton.1 hc]; simp⟩).le (by omega)
  refine TE.of (fun k => by rw [spec_l4spoil_2.f]) (TE.bind (next_te hr) fun a ⟨a1, a2, a3⟩ => TE.bind (next_te a3) fun b ⟨b1, b2, b3⟩ => TE.pos (by omega) ?_)
  have hm := tmod_rng b1 (show (0 : Int) < (t.length : Int) by omega)
  have set_ok : ∀ (c : Cell) (q : GL4rd), c.text.length ≤ 1000 → RD q → TE (fun _ => if 0 ≤ (Int.tmod b.1 (t.length : Int)) then (if (Int.tmod b.1 (t.length : Int)) < (t.length : Int) then some (t.set ((Int.tmod b.1 (t.length : Int))).toNat c, q) else none) else none) (fun u => TB 12000 u.1 ∧ RD u.2) :=
    fun c q hc hq => TE.pos hm.1 (TE.pos hm.2 (TE.ret ⟨(h.set _ hc).le (by omega), hq⟩))
  refine TE.ite (fun c => TE.bind (next_te b3) fun e he => set_ok _ _ (h.getD _) he.2.2) fun c => ?_
  refine TE.ite (fun c => set_ok _ _ (h.getD _) b3) fun c => ?_
  refine TE.ite (fun c => set_ok _ _ (h.getD _) b3) fun c => ?_
  refine TE.ite (fun c => ?_) fun c => ?_
  · rw [wrap_id (n := (t.length : Int) - 1) (by omega) (by omega)]
    exact TE.pos (by omega) (TE.pos (by omega) (TE.ret ⟨⟨by rw [List.length_take]; omega, fun c hc => h.2 c (List.mem_of_mem_take hc)⟩, b3⟩))
  refine TE.ite (fun c => TE.pos (by omega) (TE.ret ⟨(h.app (TB.one (by simp))).le (by omega), b3⟩)) fun c => ?_
  refine TE.ite (fun c => TE.bind (next_te b3) fun e ⟨e1, e2, e3⟩ => ?_) fun c => ?_
  · have m2 := tmod_rng e1 (show (0 : Int) < 2 by omega)
    have hw : IntKind.i64.wrap (100 + Int.tmod e.1 2) = ((100 + Int.tmod e.1 2).toNat : Int) := by rw [wrap_id (by omega) (by omega)]; omega
    rw [hw]
    refine TE.bind (fill_te 116 (100 + Int.tmod e.1 2).toNat (by omega)) fun s hs => set_ok _ _ (by show s.length ≤ 1000; omega) e3
  refine TE.ite (fun c => TE.bind (next_te b3) fun e he => set_ok _ _ (h.getD _) he.2.2) fun c => ?_
  refine TE.ite (fun c => TE.bind (next_te b3) fun e ⟨e1, e2, e3⟩ => ?_) fun c => TE.bind (next_te b3) fun e he => set_ok _ _ (by simp) he.2.2
  have m3 := tmod_rng e1 (show (0 : Int) < 3 by omega)
  exact big e (1999 + Int.tmod e.1 3).toNat e1 e3 (by rw [wrap_id (by omega) (by omega)]; omega) (by omega) (by omega) _ 0 [] rfl (Nat.zero_le _) ⟨by simp, fun c hc => by cases hc⟩
theorem any_te (r : GL4rd) (hr : RD r) : TE (fun k => spec_l4any.f k r) (fun u => TB 12000 u.1 ∧ RD u.2) := by
  refine TE.of (fun k => by rw [spec_l4any.f]) (TE.bind (next_te hr) fun a ⟨a1, a2, a3⟩ => TE.bind (term4_te _ a3) fun t ht => ?_)
  exact TE.ite (fun c => TE.bind (spoil_te t.1 2000 ht.1 ht.2.1 (by omega) t.2 ht.2.2) fun u hu => TE.ret hu) fun c => TE.ret ⟨ht.1.le (by omega), ht.2.2⟩
end Go.Proofs.Ytognefkopbbdnaa
