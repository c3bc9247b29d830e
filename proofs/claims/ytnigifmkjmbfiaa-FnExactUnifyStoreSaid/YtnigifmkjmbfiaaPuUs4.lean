import Derived.Test.YtnigifmkjmbfiaaPuUs3
namespace Go.Proofs.Ytnigifmkjmbfiaa
open Go.Sx Go.Sy
set_option linter.unusedVariables false
set_option linter.unusedSimpArgs false
set_option linter.unusedSectionVars false
set_option maxRecDepth 4000
/-! ### FnExactUnifyStore -/
theorem copyCell_val (u : Cell) (h : u.text.length ≤ 1000) : impl_copyCell.f u = some u := by rw [impl_copyCell.f, if_pos (by omega)]; rfl
theorem VSt.text {s : Store} (v : VSt s) : ∀ c, c ∈ s.cells → c.text.length ≤ 100 := fun c hc => by
  obtain ⟨i, hi, rfl⟩ := List.getElem_of_mem hc
  by_cases hk : kd s.cells i = 3
  · have := (v.good.f i hi hk).1.2.2
    rw [getD_at hi] at this; exact this
  · have := Okw.text (v.good.w i hi hk)
    rw [getD_at hi] at this; exact this
theorem VSt.size {s : Store} (v : VSt s) : wStore s ≤ 4194304 := by
  have := wts_bound (fun x : Cell => x.text.length) (n := 100) (xs := s.cells) v.text
  have := v.cl; have := v.tl
  unfold wStore wCells; omega
theorem unifyStore_eq (s : Store) (x y : Cell) : ∃ (K : Nat) (r : Store × Int), wStore r.1 ≤ 4194304 ∧ ∀ k, K < k → impl_UnifyStore.f k s x y = some r ∧ spec_UnifyStore.f k s x y = some r := by
  have w0 : wStore ⟨[], []⟩ ≤ 4194304 := by simp [wStore, wCells, wts]
  have iv : ∀ k z, 1000000 < k → impl_ValidStore.f k s z = some (if okS s = true then decide (Okw s.cells z) else false) := fun k z hk => by
    rw [impl_ValidStore.f, ok_val s k hk, Option.bind_some]
    cases q : okS s with
    | false => rfl
    | true => rw [if_pos rfl, points_val]; rfl
  have sv : ∀ k z, 1000000 < k → spec_ValidStore.f k s z = some (if okS s = true then decide (Okw s.cells z) else false) := fun k z hk => by
    rw [spec_ValidStore.f, va_val s k hk, Option.bind_some]
    cases q : okS s with
    | false => rfl
    | true => rw [if_pos rfl, l10word_val]; rfl
  by_cases hx : okS s = true ∧ Okw s.cells x
  · by_cases hy : Okw s.cells y
    · obtain ⟨h1, h2⟩ := hx
      have v := okS_v h1
      have hcl := v.cl
      have htl := v.tl
      have hxt := Okw.text h2
      have hyt := Okw.text hy
      have htx : ∀ c, c ∈ s.cells → c.text.length ≤ 1000000 := fun c hc => by have := v.text c hc; omega
      obtain ⟨r, s', p', K, d, v', gr, _, e1, e2⟩ := unify_sim 20000 s 0 x y x y v (by omega) (by omega) h2 hy h2 hy (Same.refl _ _) (Same.refl _ _)
      have hcl' := v'.cl
      have htl' := v'.tl
      have htx' : ∀ c, c ∈ s'.cells → c.text.length ≤ 1000000 := fun c hc => by have := v'.text c hc; omega
      refine ⟨K + d + 2000000, (s', r), v'.size, fun k hk => ⟨?_, ?_⟩⟩
      · have im := e2 [] (k - d) (by simp) (by omega)
        have im : impl_Store_unify_2.l0 (k - d + d) [⟨x, y⟩] ((0 : Nat) : Int) s.cells s.trail = _ := im
        rw [show k - d + d = k by omega] at im
        have im2 : impl_Store_unify_2.f k s x y = some (r, s') := by
          rw [impl_Store_unify_2.f]
          show impl_Store_unify_2.l0 k [⟨x, y⟩] ((0 : Nat) : Int) s.cells s.trail = _
          rw [im]
          by_cases h : r = 0
          · rw [if_pos h, h]
            obtain ⟨j, hj⟩ : ∃ j, k - d = j + 1 := ⟨k - d - 1, by omega⟩
            rw [hj, impl_Store_unify_2.l0, if_neg (by simp)]
          · rw [if_neg h]
        rw [impl_UnifyStore.f, iv k x (by omega), Option.bind_some, if_pos h1, decide_eq_true h2, if_neg (by simp), points_val, Option.bind_some, decide_eq_true hy, if_neg (by simp), copyStore_val s k (by omega) htx (by omega) (by omega), Option.bind_some, copyCell_val x (by omega), Option.bind_some, copyCell_val y (by omega), Option.bind_some, im2, Option.bind_some]
        show ((impl_copyStore.f k s').bind _) = _
        rw [copyStore_val s' k (by omega) htx' (by omega) (by omega)]; rfl
      · have sp : spec_l10unify_2.f k ⟨s.cells, s.trail, 0⟩ x y = _ := e1 k (by omega)
        have hc : spec_l10close.f k ⟨s'.cells, s'.trail, (p' : Int)⟩ = some s' := close_val _ _ _ _ (by omega) htx' (by omega) (by omega)
        rw [spec_UnifyStore.f, sv k x (by omega), Option.bind_some, if_pos h1, decide_eq_true h2, if_neg (by simp), sv k y (by omega), Option.bind_some, if_pos h1, decide_eq_true hy, if_neg (by simp), open_val s v, Option.bind_some, sp, Option.bind_some]
        show ((spec_l10close.f k ⟨s'.cells, s'.trail, (p' : Int)⟩).bind _) = _
        rw [hc]; rfl
    · refine ⟨2000000, (⟨[], []⟩, 1), w0, fun k hk => ⟨?_, ?_⟩⟩
      · rw [impl_UnifyStore.f, iv k x (by omega), Option.bind_some, if_pos hx.1, decide_eq_true hx.2, if_neg (by simp), points_val, Option.bind_some, decide_eq_false hy, if_pos (by simp)]
      · rw [spec_UnifyStore.f, sv k x (by omega), Option.bind_some, if_pos hx.1, decide_eq_true hx.2, if_neg (by simp), sv k y (by omega), Option.bind_some, if_pos hx.1, decide_eq_false hy, if_pos (by simp)]
  · have hf : (if okS s = true then decide (Okw s.cells x) else false) = false := by
      by_cases q : okS s = true
      · rw [if_pos q]; exact decide_eq_false fun z => hx ⟨q, z⟩
      · rw [if_neg q]
    refine ⟨2000000, (⟨[], []⟩, 1), w0, fun k hk => ⟨?_, ?_⟩⟩
    · rw [impl_UnifyStore.f, iv k x (by omega), hf, Option.bind_some, if_pos (by simp)]
    · rw [spec_UnifyStore.f, sv k x (by omega), hf, Option.bind_some, if_pos (by simp)]
theorem heldStore_val (s : Store) (k : Nat) (n m l : Int) (h1 : s.cells.length ≤ 4194304) (h2 : s.trail.length ≤ 4194304) (hk : 8388611 < k) (h0 : 0 ≤ n) (hl : l ≤ 9000000000000000000) (hc : HL PC n m s.cells) (ht : HL PI m l s.trail) : laws_heldStore.f k s n = some l ∧ n ≤ l := by
  obtain ⟨a1, a2⟩ := heldCellS_val s.cells k n m h1 hk h0 hc
  obtain ⟨b1, b2⟩ := heldIntS_val s.trail k m l h2 (by omega) (by omega) hl ht
  rw [laws_heldStore.f, a1, Option.bind_some, if_neg (by omega), b1, Option.bind_some, if_neg (by omega)]
  exact ⟨rfl, by omega⟩
theorem unifyStore_true (s : Store) (x y : Cell) (hl : s.cells.length ≤ 9223372036854775807) (ht : ∀ c, c ∈ s.cells → c.text.length ≤ 9223372036854775807) (hl2 : s.trail.length ≤ 9223372036854775807) (hx : x.text.length ≤ 9223372036854775807) (hy : y.text.length ≤ 9223372036854775807) : ∃ k, laws_FnExactUnifyStore.f k s x y = some true := by
  obtain ⟨K, r, e0, e1⟩ := unifyStore_eq s x y
  refine ⟨K + 10000000, ?_⟩
  obtain ⟨e1, e2⟩ := e1 (K + 10000000) (by omega)
  have hk : 10000000 ≤ K + 10000000 := by omega
  generalize K + 10000000 = k at hk e1 e2
  obtain ⟨⟨rcs, rtr⟩, rc⟩ := r
  have e0 : wStore ⟨rcs, rtr⟩ ≤ 4194304 := e0
  rw [laws_FnExactUnifyStore.f, szStore_val s _ _ (by omega) (by omega) hl ht hl2 (by omega), Option.bind_some]
  by_cases h : left 1048576 (wStore s) < 0
  · rw [if_pos h]
  have hq := left_le h
  rw [if_neg h, szCell_val x _ hq.2.1 (by omega) hx, Option.bind_some]
  by_cases h2 : left (left 1048576 (wStore s)) x.text.length < 0
  · rw [if_pos h2]
  have hq2 := left_le h2
  rw [if_neg h2, szCell_val y _ hq2.2.1 (by omega) hy, Option.bind_some]
  by_cases h3 : left (left (left 1048576 (wStore s)) x.text.length) y.text.length < 0
  · rw [if_pos h3]
  have hq3 := left_le h3
  rw [if_neg h3]
  obtain ⟨m, cs, tr, m1, m2, m3, m4, m5, m6, m7, m8⟩ := markStore_val s k 1 (by omega) (by omega) (by omega) (by omega)
  obtain ⟨ys, n1, n2, n3⟩ := markByteS_val x.text k (1 + (wts (fun x : Cell => 2 + x.text.length) s.cells : Int) + (s.trail.length : Int)) (by omega) (by omega) (by omega) (by unfold wStore at hq; omega)
  have hxl : x.text.length ≤ 1048576 := by omega
  have hsum : 1 + (wts (fun x : Cell => 2 + x.text.length) s.cells : Int) + (s.trail.length : Int) ≤ 4000000000000000000 := by unfold wStore at hq; omega
  obtain ⟨zs, o1, o2, o3⟩ := markByteS_val y.text k (1 + (wts (fun x : Cell => 2 + x.text.length) s.cells : Int) + (s.trail.length : Int) + (x.text.length : Int)) (by omega) (by omega) (by omega) (by omega)
  obtain ⟨p, ds, ur, p1, p2, p3, p4, p5, p6, p7, p8⟩ := markStore_val ⟨rcs, rtr⟩ k 1 e0 (by omega) (by omega) (by omega)
  have e0' : wCells rcs + rtr.length ≤ 4194304 := e0
  have hwl := wCells_len (n := 4194304) (xs := rcs) (by omega)
  have hrt : rtr.length ≤ 4194304 := by omega
  obtain ⟨q1, q2⟩ := heldStore_val ⟨ds, ur⟩ k 1 p (p + (rtr.length : Int)) (by show ds.length ≤ _; rw [p2]; exact hwl) (by show ur.length ≤ _; rw [p3]; exact hrt) (by omega) (by omega) (by omega) p5 p6
  rw [p4] at q1 q2
  have c1 := toStore_id s k (by omega) (by omega)
  have c2 := toCell_id x k (by omega) (by omega)
  have c2' := toCell_id y k (by omega) (by omega)
  have c3 := eqStore_id s k (by omega) (by omega)
  have c4 := eqCell_id x k (by omega) (by omega)
  have c4' := eqCell_id y k (by omega) (by omega)
  have c5 := eqStore_id ⟨rcs, rtr⟩ k e0 (by omega)
  have p1 : laws_markStore_2.f k ⟨rcs, rtr⟩ 1 = some (1 + (wts (fun x : Cell => 2 + x.text.length) rcs : Int) + (rtr.length : Int), ds, ur) := p1
  have q1 : laws_heldStore.f k ⟨ds, ur⟩ 1 = some (1 + (wts (fun x : Cell => 2 + x.text.length) rcs : Int) + (rtr.length : Int)) := q1
  have q2 : 1 ≤ 1 + (wts (fun x : Cell => 2 + x.text.length) rcs : Int) + (rtr.length : Int) := q2
  have hm1 : 0 ≤ 1 + (wts (fun x : Cell => 2 + x.text.length) s.cells : Int) + (s.trail.length : Int) + (x.text.length : Int) + (y.text.length : Int) := by omega
  generalize 1 + (wts (fun x : Cell => 2 + x.text.length) rcs : Int) + (rtr.length : Int) = M3 at p1 q1 q2
  generalize 1 + (wts (fun x : Cell => 2 + x.text.length) s.cells : Int) + (s.trail.length : Int) = M at m1 n1 o1 hm1
  generalize M + (x.text.length : Int) = M1 at n1 o1 hm1
  generalize M1 + (y.text.length : Int) = M2 at o1 hm1
  have d1 : laws_markCell_2.f k x M = some (M1, ys) := by rw [laws_markCell_2.f, n1]; rfl
  have d2 : laws_markCell_2.f k y M1 = some (M2, zs) := by rw [laws_markCell_2.f, o1]; rfl
  clear e0 e0' hwl hrt hq hq2 hq3 h h2 h3 ht hl hl2 hx hy m3 m4 m5 m6 m7 m8 n2 n3 o2 o3 p2 p3 p4 p5 p6 p7 p8 n1 o1 hk
  rw [c1, Option.bind_some, c2, Option.bind_some, c2', Option.bind_some, e2, Option.bind_some, laws_FnExactUnifyStore.l0, c1, Option.bind_some, c2, Option.bind_some, c2', Option.bind_some, e1, Option.bind_some]
  show ((laws_eqStore.f k ⟨rcs, rtr⟩ ⟨rcs, rtr⟩).bind _) = _
  rw [c5, Option.bind_some, if_neg (by simp), if_neg (by simp), Option.bind_some, c3, Option.bind_some, if_neg (by simp), Option.bind_some, c4, Option.bind_some, if_neg (by simp), Option.bind_some, c4', Option.bind_some, if_neg (by simp), m1, Option.bind_some]
  show ((laws_markCell_2.f k x M).bind _) = _
  rw [d1, Option.bind_some]
  show ((laws_markCell_2.f k y M1).bind _) = _
  rw [d2, Option.bind_some, if_neg (show ¬ M2 < 0 by omega), Option.bind_some, if_neg (by simp)]
  show ((laws_markStore_2.f k ⟨rcs, rtr⟩ 1).bind _) = _
  rw [p1, Option.bind_some]
  show ((laws_heldStore.f k ⟨ds, ur⟩ 1).bind _) = _
  rw [q1, Option.bind_some, if_neg (show ¬ M3 < 0 by omega), if_neg (by simp), Option.bind_some, Option.bind_some, Option.bind_some, e1, Option.bind_some, laws_FnExactUnifyStore.l1]
  show ((laws_eqStore.f k ⟨rcs, rtr⟩ ⟨rcs, rtr⟩).bind _) = _
  rw [c5, Option.bind_some, if_neg (by simp), if_neg (by simp)]
  show ((laws_heldStore.f k ⟨ds, ur⟩ 1).bind _) = _
  rw [q1, Option.bind_some, if_neg (show ¬ M3 < 0 by omega), if_neg (by simp)]
end Go.Proofs.Ytnigifmkjmbfiaa
