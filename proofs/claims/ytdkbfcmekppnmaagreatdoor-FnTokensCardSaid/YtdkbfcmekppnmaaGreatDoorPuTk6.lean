import Derived.Test.YtdkbfcmekppnmaaGreatDoorPuTk2
namespace Go.Proofs.YtdkbfcmekppnmaaGreatDoor
open Go.Sx Go.Sy
set_option linter.unusedVariables false
set_option linter.unusedSimpArgs false
set_option linter.unusedSectionVars false
set_option maxRecDepth 4000
def Le {β : Type} (a b : Option β) : Prop := ∀ r, a = some r → b = some r
section
variable {α β : Type}
theorem Le.refl (a : Option β) : Le a a := fun _ h => h
theorem Le.none (b : Option β) : Le none b := fun _ h => by cases h
theorem Le.ite {c : Prop} [Decidable c] {a b a' b' : Option β} (h1 : Le a a') (h2 : Le b b') : Le (if c then a else b) (if c then a' else b') := by
 by_cases h : c
 ·rw [if_pos h, if_pos h]; exact h1
 ·rw [if_neg h, if_neg h]; exact h2
theorem Le.bind {o o' : Option α} {f f' : α → Option β} (h1 : Le o o') (h2 : ∀ t, Le (f t) (f' t)) : Le (o.bind f) (o'.bind f') := by
 intro r h
 obtain ⟨t, e1, e2⟩ := Option.bind_eq_some_iff.1 h
 rw [h1 t e1]; exact h2 t r e2
theorem Ev.mono {g : Nat → Option β} {r : β} (hm : ∀ k, Le (g k) (g (k + 1))) {K : Nat} (h : g K = some r) : Ev g r := by
 refine ⟨K, fun k hk => ?_⟩
 obtain ⟨d, rfl⟩ : ∃ d, k = K + d := ⟨k - K, by omega⟩
 clear hk
 induction d with
 | zero => exact h
 | succ d ih => exact hm _ _ ih
end
theorem words_mono : ∀ (k : Nat) (a : List UInt8) (b : List (List UInt8)) (c : List UInt8) (i : Int), Le (spec_l3words.l0 k a b c i) (spec_l3words.l0 (k + 1) a b c i) := by
 intro k
 induction k with
 | zero => intro a b c i; rw [spec_l3words.l0]; exact Le.none _
 | succ k ih =>
  intro a b c i
  rw [spec_l3words.l0, spec_l3words.l0]
  repeat' first | exact ih _ _ _ _ | exact Le.refl _ | apply Le.ite
theorem put_mono : ∀ k : Nat, (∀ a b c d e, Le (spec_l3put.l0 k a b c d e) (spec_l3put.l0 (k + 1) a b c d e)) ∧ (∀ a b c d e, Le (spec_l3put.l1 k a b c d e) (spec_l3put.l1 (k + 1) a b c d e)) ∧ (∀ a b c d e, Le (spec_l3put.l2 k a b c d e) (spec_l3put.l2 (k + 1) a b c d e)) := by
 intro k
 induction k with
 | zero => exact ⟨fun a b c d e => by rw [spec_l3put.l0]; exact Le.none _, fun a b c d e => by rw [spec_l3put.l1]; exact Le.none _, fun a b c d e => by rw [spec_l3put.l2]; exact Le.none _⟩
 | succ k ih =>
  refine ⟨fun a b c d e => ?_, fun a b c d e => ?_, fun a b c d e => ?_⟩
  ·rw [spec_l3put.l0, spec_l3put.l0]
   repeat' first | exact ih.1 _ _ _ _ _ | exact ih.2.1 _ _ _ _ _ | exact ih.2.2 _ _ _ _ _ | exact Le.refl _ | apply Le.ite | (refine Le.bind (Le.refl _) fun t => ?_)
  ·rw [spec_l3put.l1, spec_l3put.l1]
   exact Le.ite (ih.1 _ _ _ _ _) (Le.refl _)
  ·rw [spec_l3put.l2, spec_l3put.l2]
   exact Le.ite (ih.1 _ _ _ _ _) (Le.refl _)
theorem default_mono : ∀ k : Nat, (∀ a i, Le (spec_DefaultOps.l0 k a i) (spec_DefaultOps.l0 (k + 1) a i)) ∧ ∀ i t a j, Le (spec_DefaultOps.l1 k i t a j) (spec_DefaultOps.l1 (k + 1) i t a j) := by
 intro k
 induction k with
 | zero => exact ⟨fun a i => by rw [spec_DefaultOps.l0]; exact Le.none _, fun i t a j => by rw [spec_DefaultOps.l1]; exact Le.none _⟩
 | succ k ih =>
  refine ⟨fun a i => ?_, fun i t a j => ?_⟩
  ·rw [spec_DefaultOps.l0, spec_DefaultOps.l0]
   refine Le.ite (Le.ite (Le.bind (words_mono k _ _ _ _) (fun t => ih.2 _ _ _ _)) (Le.refl _)) (Le.refl _)
  ·rw [spec_DefaultOps.l1, spec_DefaultOps.l1]
   exact Le.ite (Le.ite (Le.ite (Le.bind ((put_mono k).1 _ _ _ _ _) (fun t => ih.2 _ _ _ _)) (Le.refl _)) (Le.refl _)) (ih.1 _ _)
theorem vops_mono : ∀ k : Nat, (∀ a i j, Le (spec_ValidOps.l0 k a i j) (spec_ValidOps.l0 (k + 1) a i j)) ∧ ∀ a i j, Le (spec_ValidOps.l1 k a i j) (spec_ValidOps.l1 (k + 1) a i j) := by
 intro k
 induction k with
 | zero => exact ⟨fun a i j => by rw [spec_ValidOps.l0]; exact Le.none _, fun a i j => by rw [spec_ValidOps.l1]; exact Le.none _⟩
 | succ k ih =>
  refine ⟨fun a i j => ?_, fun a i j => ?_⟩
  ·rw [spec_ValidOps.l0, spec_ValidOps.l0]
   repeat' first | exact ih.1 _ _ _ | exact ih.2 _ _ _ | exact Le.refl _ | apply Le.ite | (refine Le.bind (Le.refl _) fun t => ?_)
  ·rw [spec_ValidOps.l1, spec_ValidOps.l1]
   repeat' first | exact ih.1 _ _ _ | exact ih.2 _ _ _ | exact Le.refl _ | apply Le.ite | (refine Le.bind (Le.refl _) fun t => ?_)
instance (ops : List Sy.Op) : Decidable (OPS ops) := by unfold OPS; infer_instance
theorem default_te : TE (fun k => spec_DefaultOps.f k) (fun d => OPS d ∧ TE (fun k => spec_ValidOps.f k d) (fun _ => True)) := by
 have h : (match spec_DefaultOps.f 4000 with | some d => decide (OPS d) && (spec_ValidOps.f 4000 d).isSome | none => false) = true := by decide +kernel
 cases e : spec_DefaultOps.f 4000 with
 | none => rw [e] at h; cases h
 | some d =>
  rw [e] at h
  simp only [Bool.and_eq_true, decide_eq_true_eq] at h
  obtain ⟨b, hb⟩ := Option.isSome_iff_exists.1 h.2
  refine ⟨d, Ev.mono (fun k => (default_mono k).1 _ _) e, h.1, b, Ev.mono (fun k => ?_) hb, trivial⟩
  rw [spec_ValidOps.f, spec_ValidOps.f]
  exact Le.ite (Le.refl _) ((vops_mono k).1 _ _ _)
theorem len_two {α : Type} : ∀ {l : List α}, l.length = 2 → ∃ a b, l = [a, b]
 | [a, b], _ => ⟨a, b, rfl⟩
def WT (ops : List Sy.Op) (t : Tm) : Prop := ∀ p : Int, TE (fun k => spec_l3out_text.f k ⟨ops, [], true⟩ (flat t) p) (fun s => s.length ≤ 1000 * (flat t).length)
theorem items_te : ∀ (N : Nat) (t : Tm) (acc : List Tm), (flat t).length ≤ N → Wf t → (flat t).length ≤ 2000 → acc.length + (flat t).length ≤ 100000 → TE (fun k => spec_l2items.l0 k (flat t) (acc.map flat)) (fun r => ∃ (us : List Tm) (e : Tm), r = ((acc ++ us).map flat, flat e) ∧ Wfs us ∧ Wf e ∧ (flats us).length + (flat e).length + us.length = (flat t).length ∧ ((t.text = [46] ∧ t.kind = 3 ∧ t.n = 2) → us ≠ [])) := by
 intro N
 induction N with
 | zero => intro t acc h1; have := flat_pos t; omega
 | succ N ih =>
  intro t acc h1 hw hl ha
  refine TE.succ (fun k => by rw [spec_l2items.l0, l2is_val t _ 2 (by decide), Option.bind_some]) (TE.ite (fun c => ?_) fun c => ?_)
  ·have c := of_decide_eq_true c
   obtain ⟨w1, w2, w3⟩ := wf_sub hw
   have hn := w2 c.2.1
   cases t with
   | mk a n s us =>
    have c1 : s = [46] := c.1
    have c2 : a = 3 := c.2.1
    have c3 : n = 2 := c.2.2
    have hn : (us.length : Int) = n := hn
    obtain ⟨x, y, rfl⟩ := len_two (show us.length = 2 by omega)
    have w1 : Wfs [x, y] := w1
    simp only [Wfs] at w1
    have hf : flat (.mk a n s [x, y]) = ⟨a, n, s⟩ :: (flat x ++ flat y) := by simp [flat, flats]
    have hlen : (flat (.mk a n s [x, y])).length = 1 + (flat x).length + (flat y).length := by rw [hf]; simp; omega
    have px := flat_pos x
    have hd : (flat (.mk a n s [x, y])).drop 1 = flat x ++ flat y := by rw [hf]; rfl
    have hnx : TE (fun k => spec_l2next.f k (flat (.mk a n s [x, y])) 1) (fun j => j = ((1 + (flat x).length : Nat) : Int)) := ⟨_, ⟨2002, fun k hk => next_at (flat (.mk a n s [x, y])) x 1 k (flat y) hl w1.1 hd (by omega)⟩, rfl⟩
    have hcut : ((flat (.mk a n s [x, y])).drop (1 : Int).toNat).take (((1 + (flat x).length : Nat) : Int).toNat - (1 : Int).toNat) = flat x := by
     show ((flat (.mk a n s [x, y])).drop 1).take (1 + (flat x).length - 1) = flat x
     rw [hd, Nat.add_sub_cancel_left, List.take_left']
     rfl
    have hrest : (flat (.mk a n s [x, y])).drop (((1 + (flat x).length : Nat) : Int).toNat) = flat y := by
     rw [Int.toNat_natCast, ← List.drop_drop, hd, List.drop_left']
     rfl
    refine TE.bind hnx fun j hj => ?_
    subst hj
    rw [hcut, hrest]
    refine TE.pos (by omega) (TE.pos (by omega) (TE.pos (by rw [List.length_map]; omega) (TE.pos (by omega) ?_)))
    have := ih y (acc ++ [x]) (by omega) w1.2.1 (by omega) (by simp; omega)
    rw [List.map_append] at this
    refine TE.imp this fun r hr => ?_
    obtain ⟨vs, e, r1, r2, r3, r4, _⟩ := hr
    refine ⟨x :: vs, e, by rw [r1]; simp, by simp only [Wfs]; exact ⟨w1.1, r2⟩, r3, ?_, fun _ => by simp⟩
    simp only [flats, List.length_append, List.length_cons]
    omega
  ·refine TE.ret ⟨[], t, by simp, by simp [Wfs], hw, by simp [flats], fun h => absurd (decide_eq_true h) c⟩
abbrev par2 (s : List UInt8) : Option (List UInt8) := (if ([40] : List UInt8).length + s.length ≤ 9223372036854775807 then (if (([40] : List UInt8) ++ s).length + ([41] : List UInt8).length ≤ 9223372036854775807 then some ((([40] : List UInt8) ++ s) ++ ([41] : List UInt8)) else none) else none)
theorem par_te {s : List UInt8} {n : Nat} (h : s.length ≤ n) (hn : n ≤ 1000000000) : TE (fun _ => par2 s) (fun r => r.length ≤ n + 2) :=
 TE.of (fun k => by rw [par2]) (TE.pos (by simp; omega) (TE.pos (by simp; omega) (TE.ret (by simp; omega))))
section
variable {ops : List Sy.Op} (hO : OPS ops)
include hO
theorem optop_te {t : Tm} (ht : Wf t) {s : List UInt8} {n : Nat} (hs : s.length ≤ n) (hn : n ≤ 1000000000) (b : Bool) (p : Int) (op : Sy.Op) : TE (fun k => (spec_l3out_top.f k ⟨ops, [], true⟩ (flat t)).bind fun t85 => (if b = true then (if t85 ≥ 0 then (if 0 ≤ t85 then (if t85 < (ops.length : Int) then (if ((ops.getD ((t85).toNat) z86).pri) = op.pri then (if p = op.pri then (if ((ops.getD ((t85).toNat) z86).typ) = 1 then par2 s else (if ((ops.getD ((t85).toNat) z86).typ) = 3 then par2 s else some s)) else some s) else some s) else none) else none) else some s) else some s)) (fun r => r.length ≤ n + 2) := by
 have hs2 : TE (fun _ : Nat => some s) (fun r => r.length ≤ n + 2) := TE.ret (by omega)
 exact TE.bind (top_te ops hO.1 t ht) fun i hi => TE.ite (fun _ => TE.ite (fun h0 => TE.pos h0 (TE.pos hi.1 (TE.ite (fun _ => TE.ite (fun _ => TE.ite (fun _ => par_te hs hn) fun _ => TE.ite (fun _ => par_te hs hn) fun _ => hs2) fun _ => hs2) fun _ => hs2))) fun _ => hs2) fun _ => hs2
theorem operand_te {t : Tm} (ht : Wf t) (hl : (flat t).length ≤ 2000) (hW : WT ops t) (p : Int) (b : Bool) (op : Sy.Op) : TE (fun k => spec_l3out_operand.f k ⟨ops, [], true⟩ (flat t) p b op) (fun r => r.length ≤ 1000 * (flat t).length + 2) := by
 have hl0 : (0 : Int) < ((flat t).length : Int) := by have := flat_pos t; omega
 refine TE.succ (fun k => by rw [spec_l3out_operand.f]) (TE.bind (hW p) fun s hs => TE.pos hl0 ?_)
 refine TE.of (fun k => by rw [flat0]) (TE.ite (fun _ => TE.bind (ofind_te ops hO.1 _ true) fun i _ => TE.ite (fun _ => par_te hs (by omega)) fun _ => TE.bind (ofind_te ops hO.1 _ false) fun j _ => TE.ite (fun _ => par_te hs (by omega)) fun _ => optop_te hO ht hs (by omega) b p op) fun _ => optop_te hO ht hs (by omega) b p op)
theorem right_te (op : Sy.Op) : TE (fun _ => spec_l3right.f op) (fun _ => True) := TE.of (fun k => by rw [spec_l3right.f]) (TE.ite (fun _ => TE.ret trivial) fun _ => TE.ite (fun _ => TE.ret trivial) fun _ => TE.ret trivial)
theorem left_te (op : Sy.Op) : TE (fun _ => spec_l3left.f op) (fun _ => True) := TE.of (fun k => by rw [spec_l3left.f]) (TE.ite (fun _ => TE.ret trivial) fun _ => TE.ite (fun _ => TE.ret trivial) fun _ => TE.ret trivial)
theorem l2_te (p i : Int) {nm gap a : List UInt8} {n : Nat} (h : nm.length + gap.length + a.length ≤ n) (hn : n ≤ 1000000000) : TE (fun k => spec_l3out_compound.l2 k ⟨ops, [], true⟩ p i nm a gap) (fun r => r.length ≤ n + 2) := by
 have e : (nm ++ gap ++ a).length ≤ n := by simp; omega
 refine TE.succ (fun k => by rw [spec_l3out_compound.l2]) (TE.pos (by omega) (TE.pos (by simp; omega) (TE.ite (fun _ => par_te e hn) fun _ => TE.ret (by omega))))
theorem l1_te (p : Int) {i : Int} (h0 : 0 ≤ i) (h1 : i < (ops.length : Int)) {nm gap a : List UInt8} {n : Nat} (h : nm.length + a.length ≤ n) (hg : gap.length ≤ 1) (hn : n ≤ 100000000) : TE (fun k => spec_l3out_compound.l1 k ⟨ops, [], true⟩ p i nm a gap) (fun r => r.length ≤ n + 3) := by
 refine TE.succ (fun k => by rw [spec_l3out_compound.l1]) (TE.bind (spaced_te _ (ops_at hO h0 h1)) fun x _ => TE.ite (fun _ => ?_) fun _ => ?_)
 ·exact (l2_te hO p i (nm := nm) (gap := [32]) (a := a) (n := n + 1) (by simp; omega) (by omega)).imp fun r hr => by omega
 ·exact (l2_te hO p i (nm := nm) (gap := gap) (a := a) (n := n + 1) (by omega) (by omega)).imp fun r hr => by omega
theorem l4_te (p i : Int) {nm g1 g2 a b : List UInt8} {n : Nat} (h : nm.length + g1.length + g2.length + a.length + b.length ≤ n) (hn : n ≤ 1000000000) : TE (fun k => spec_l3out_compound.l4 k ⟨ops, [], true⟩ p i nm a g1 b g2) (fun r => r.length ≤ n + 2) := by
 have e : (a ++ g1 ++ nm ++ (g2 ++ b)).length ≤ n := by simp; omega
 refine TE.succ (fun k => by rw [spec_l3out_compound.l4]) (TE.pos (by omega) (TE.pos (by simp; omega) (TE.ite (fun _ => par_te e hn) fun _ => TE.ret (by omega))))
theorem l3_te (p : Int) {i : Int} (h0 : 0 ≤ i) (h1 : i < (ops.length : Int)) {us : List Tm} (hu : ∀ u, u ∈ us → Wf u ∧ (flat u).length ≤ 2000 ∧ WT ops u) (hi : (ops.getD i.toNat z86).typ ≤ 2 → 2 ≤ us.length) {nm g a : List UInt8} {n : Nat} (h : nm.length + a.length ≤ n) (hg : g.length ≤ 1) (hn : n ≤ 100000000) :
  TE (fun k => spec_l3out_compound.l3 k ⟨ops, [], true⟩ p (us.map flat) i nm a g) (fun r => r.length ≤ n + 6 + 1000 * (flat (us.getD 1 (.mk 0 0 [] []))).length) := by
 have e : (a ++ g ++ nm).length ≤ n + 1 := by simp; omega
 refine TE.succ (fun k => by rw [spec_l3out_compound.l3]) (TE.pos (by omega) (TE.pos (by simp; omega) (TE.of (fun k => by rw [spec_l3infix.f, Option.bind_some]) (TE.ite (fun c => ?_) fun _ => TE.ite (fun _ => (par_te e (by omega)).imp fun r hr => by omega) fun _ => TE.ret (by omega)))))
 have h2 := hi (of_decide_eq_true c)
 refine TE.pos (by rw [List.length_map]; omega) (TE.bind (right_te hO _) fun q _ => ?_)
 have hm : us[1]'(by omega) ∈ us := List.getElem_mem _
 obtain ⟨w1, w2, w3⟩ := hu _ hm
 have hgd : (us.map flat).getD 1 ([] : List Cell) = flat (us[1]'(by omega)) := by rw [List.getD_eq_getElem?_getD, List.getElem?_map, List.getElem?_eq_getElem (by omega)]; rfl
 have hgt : us.getD 1 (.mk 0 0 [] []) = us[1]'(by omega) := by rw [List.getD_eq_getElem?_getD, List.getElem?_eq_getElem (by omega)]; rfl
 rw [hgd, hgt]
 refine TE.bind (operand_te hO w1 w2 w3 q false _) fun b hb => TE.bind (gap_te nm b (by omega)) fun g2 hg2 => TE.bind (spaced_te _ (ops_at hO h0 h1)) fun x _ => TE.ite (fun _ => ?_) fun _ => ?_
 ·exact (l4_te hO p i (nm := nm) (g1 := g) (g2 := [32]) (a := a) (b := b) (n := n + 4 + 1000 * (flat (us[1]'(by omega))).length) (by simp; omega) (by omega)).imp fun r hr => by omega
 ·exact (l4_te hO p i (nm := nm) (g1 := g) (g2 := g2) (a := a) (b := b) (n := n + 4 + 1000 * (flat (us[1]'(by omega))).length) (by omega) (by omega)).imp fun r hr => by omega
theorem l0_te (p : Int) {i : Int} (h0 : 0 ≤ i) (h1 : i < (ops.length : Int)) {us : List Tm} (hu : ∀ u, u ∈ us → Wf u ∧ (flat u).length ≤ 2000 ∧ WT ops u) (h3 : 1 ≤ us.length) (hi : (ops.getD i.toNat z86).typ ≤ 2 → 2 ≤ us.length) {nm : List UInt8} (hn : nm.length ≤ 502) :
  TE (fun k => spec_l3out_compound.l0 k ⟨ops, [], true⟩ p (us.map flat) i nm) (fun r => r.length ≤ 520 + 1000 * (flat (us.getD 0 (.mk 0 0 [] []))).length + 1000 * (if 2 ≤ us.length then (flat (us.getD 1 (.mk 0 0 [] []))).length else 0)) := by
 obtain ⟨w1, w2, w3⟩ := hu _ (List.getElem_mem (show 0 < us.length by omega))
 have hgd : (us.map flat).getD 0 ([] : List Cell) = flat (us[0]'(by omega)) := by rw [List.getD_eq_getElem?_getD, List.getElem?_map, List.getElem?_eq_getElem (by omega)]; rfl
 have hgt : us.getD 0 (.mk 0 0 [] []) = us[0]'(by omega) := by rw [List.getD_eq_getElem?_getD, List.getElem?_eq_getElem (by omega)]; rfl
 rw [hgt]
 refine TE.succ (fun k => by rw [spec_l3out_compound.l0, prefix_val, Option.bind_some, hgd]) (TE.ite (fun _ => TE.pos (by rw [List.length_map]; omega) (TE.bind (right_te hO _) fun q _ => TE.bind (operand_te hO w1 w2 w3 q false _) fun a ha => TE.bind (gap_te nm a (by omega)) fun g hg => ?_)) fun c => TE.pos (by rw [List.length_map]; omega) (TE.bind (left_te hO _) fun q _ => TE.bind (operand_te hO w1 w2 w3 q true _) fun a ha => TE.bind (gap_te a nm (by omega)) fun g hg => TE.bind (spaced_te _ (ops_at hO h0 h1)) fun x _ => ?_))
 ·have L : ∀ gg : List UInt8, gg.length ≤ 1 → TE (fun k => spec_l3out_compound.l1 k ⟨ops, [], true⟩ p i nm a gg) (fun r => r.length ≤ 520 + 1000 * (flat (us[0]'(by omega))).length + 1000 * (if 2 ≤ us.length then (flat (us.getD 1 (.mk 0 0 [] []))).length else 0)) := fun gg hgg => (l1_te hO p h0 h1 (nm := nm) (gap := gg) (a := a) (n := 504 + 1000 * (flat (us[0]'(by omega))).length) (by omega) hgg (by omega)).imp fun r hr => by omega
  refine TE.ite (fun hne => TE.pos (by have := List.length_pos_iff.2 hne; omega) (TE.ite (fun _ => L [32] (by simp)) fun _ => TE.ite (fun _ => ?_) fun _ => L g hg)) fun _ => L g hg
  exact TE.bind (R := fun _ => True) ⟨_, ⟨0, fun _ _ => digitB_val _⟩, trivial⟩ fun x _ => TE.ite (fun _ => L [32] (by simp)) fun _ => L g hg
 ·have L : ∀ gg : List UInt8, gg.length ≤ 1 → TE (fun k => spec_l3out_compound.l3 k ⟨ops, [], true⟩ p (us.map flat) i nm a gg) (fun r => r.length ≤ 520 + 1000 * (flat (us[0]'(by omega))).length + 1000 * (if 2 ≤ us.length then (flat (us.getD 1 (.mk 0 0 [] []))).length else 0)) := fun gg hgg => by
   by_cases h2 : 2 ≤ us.length
   ·rw [if_pos h2]
    exact (l3_te hO p h0 h1 hu hi (nm := nm) (g := gg) (a := a) (n := 504 + 1000 * (flat (us[0]'(by omega))).length) (by omega) hgg (by omega)).imp fun r hr => by omega
   ·rw [if_neg h2]
    have e : (a ++ gg ++ nm).length ≤ 505 + 1000 * (flat (us[0]'(by omega))).length := by simp; omega
    refine TE.succ (fun k => by rw [spec_l3out_compound.l3]) (TE.pos (by omega) (TE.pos (by simp; omega) (TE.of (fun k => by rw [spec_l3infix.f, Option.bind_some]) (TE.neg (fun c => h2 (hi (of_decide_eq_true c))) (TE.ite (fun _ => (par_te e (by omega)).imp fun r hr => by omega) fun _ => TE.ret (by omega))))))
  exact TE.ite (fun _ => L [32] (by simp)) fun _ => L g hg
end
theorem flats_take {us : List Tm} {i : Nat} (hi : i < us.length) : (flats (us.take (i + 1))).length = (flats (us.take i)).length + (flat us[i]).length := by
 rw [List.take_add_one, List.getElem?_eq_getElem hi, flats_append]; simp [flats]
theorem flats_take_le (us : List Tm) (i : Nat) : (flats (us.take i)).length ≤ (flats us).length := by
 have := flats_append (us.take i) (us.drop i)
 rw [List.take_append_drop] at this
 have := congrArg List.length this
 rw [List.length_append] at this; omega
theorem map_flat_at {us : List Tm} {i : Nat} (hi : i < us.length) : (us.map flat).getD i ([] : List Cell) = flat us[i] := by
 rw [List.getD_eq_getElem?_getD, List.getElem?_map, List.getElem?_eq_getElem hi]; rfl
section
variable {ops : List Sy.Op} (hO : OPS ops)
include hO
theorem plain_te {us : List Tm} (hu : ∀ u, u ∈ us → WT ops u) (hl : (flats us).length ≤ 2000) (hn : us.length ≤ 2000) {nm : List UInt8} (h0 : nm.length ≤ 504) : TE (fun k => spec_l3out_plain.l0 k ⟨ops, [], true⟩ (us.map flat) nm) (fun r => r.length ≤ 510 + 1000 * (flats us).length + us.length) := by
 have key : ∀ (m i : Nat) (acc : List UInt8), us.length - i = m → i ≤ us.length → acc.length ≤ 505 + 1000 * (flats (us.take i)).length + i → TE (fun k => spec_l3out_plain.l1 k ⟨ops, [], true⟩ (us.map flat) acc (i : Int)) (fun r => r.length ≤ 510 + 1000 * (flats us).length + us.length) := by
  intro m
  induction m with
  | zero =>
   intro i acc h1 h2 h3
   have := flats_take_le us i
   exact TE.succ (fun k => by rw [spec_l3out_plain.l1, if_neg (by rw [List.length_map]; omega)]) (TE.pos (by simp; omega) (TE.ret (by simp; omega)))
  | succ m ih =>
   intro i acc h1 h2 h3
   have hi : i < us.length := by omega
   have ht := flats_take hi
   have htl := flats_take_le us (i + 1)
   have next : ∀ acc2 : List UInt8, acc2.length ≤ 506 + 1000 * (flats (us.take i)).length + i → TE (fun k => spec_l3out_plain.l2 k ⟨ops, [], true⟩ (us.map flat) (i : Int) acc2) (fun r => r.length ≤ 510 + 1000 * (flats us).length + us.length) := fun acc2 ha =>
    TE.succ (fun k => by rw [spec_l3out_plain.l2, if_pos (by omega), Int.toNat_natCast, map_flat_at hi, wrap_nat (by omega)]) (TE.bind (hu _ (List.getElem_mem hi) 999) fun s hs => TE.pos (by omega) (ih (i + 1) (acc2 ++ s) (by omega) (by omega) (by rw [List.length_append]; omega)))
   refine TE.succ (fun k => by rw [spec_l3out_plain.l1, if_pos (by rw [List.length_map]; omega)]) (TE.ite (fun _ => TE.pos (by simp; omega) (next _ (by simp; omega))) fun _ => next _ (by omega))
 refine TE.succ (fun k => by rw [spec_l3out_plain.l0]) (TE.pos (by simp; omega) ?_)
 exact key us.length 0 (nm ++ [40]) rfl (Nat.zero_le _) (by simp [flats]; omega)
theorem list2_te {us : List Tm} (hu : ∀ u, u ∈ us → WT ops u) {e : Tm} (he : WT ops e) (hl : (flats us).length + (flat e).length ≤ 2000) (hn : us.length ≤ 2000) : TE (fun k => spec_l3out_text.l0 k ⟨ops, [], true⟩ (us.map flat, flat e) [91] 0) (fun r => r.length ≤ 10 + 1000 * (flats us).length + us.length + 1000 * (flat e).length) := by
 have fin : ∀ acc : List UInt8, acc.length ≤ 9 + 1000 * (flats us).length + us.length + 1000 * (flat e).length → TE (fun k => spec_l3out_text.l3 k acc) (fun r => r.length ≤ 10 + 1000 * (flats us).length + us.length + 1000 * (flat e).length) := fun acc ha =>
  TE.succ (fun k => by rw [spec_l3out_text.l3]) (TE.pos (by simp; omega) (TE.ret (by simp; omega)))
 have key : ∀ (m i : Nat) (acc : List UInt8), us.length - i = m → i ≤ us.length → acc.length ≤ 1 + 1000 * (flats (us.take i)).length + i → TE (fun k => spec_l3out_text.l0 k ⟨ops, [], true⟩ (us.map flat, flat e) acc (i : Int)) (fun r => r.length ≤ 10 + 1000 * (flats us).length + us.length + 1000 * (flat e).length) := by
  intro m
  induction m with
  | zero =>
   intro i acc h1 h2 h3
   have := flats_take_le us i
   refine TE.succ (fun k => by rw [spec_l3out_text.l0, if_neg (by show ¬ (i : Int) < ((us.map flat).length : Int); rw [List.length_map]; omega)]) (TE.bind (l2is_te e _) fun x _ => TE.ite (fun _ => TE.bind (he 999) fun s hs => TE.pos (by simp; omega) (TE.pos (by simp; omega) (fin _ (by simp; omega)))) fun _ => fin _ (by omega))
  | succ m ih =>
   intro i acc h1 h2 h3
   have hi : i < us.length := by omega
   have ht := flats_take hi
   have htl := flats_take_le us (i + 1)
   have next : ∀ acc2 : List UInt8, acc2.length ≤ 2 + 1000 * (flats (us.take i)).length + i → TE (fun k => spec_l3out_text.l2 k ⟨ops, [], true⟩ (us.map flat, flat e) (i : Int) acc2) (fun r => r.length ≤ 10 + 1000 * (flats us).length + us.length + 1000 * (flat e).length) := fun acc2 ha => by
    refine TE.succ (fun k => by rw [spec_l3out_text.l2, if_pos (by omega), Int.toNat_natCast]) ?_
    show TE (fun k => (spec_l3out_text.f k ⟨ops, [], true⟩ ((us.map flat).getD i ([] : List Cell)) 999).bind _) _
    rw [map_flat_at hi]
    refine TE.bind (hu _ (List.getElem_mem hi) 999) fun s hs => TE.pos (by omega) (TE.succ (fun k => by rw [spec_l3out_text.l1, wrap_nat (by omega)]) (ih (i + 1) (acc2 ++ s) (by omega) (by omega) (by rw [List.length_append]; omega)))
   refine TE.succ (fun k => by rw [spec_l3out_text.l0, if_pos (by show (i : Int) < ((us.map flat).length : Int); rw [List.length_map]; omega)]) (TE.ite (fun _ => TE.pos (by simp; omega) (next _ (by simp; omega))) fun _ => next _ (by omega))
 exact key us.length 0 [91] rfl (Nat.zero_le _) (by simp)
theorem args_sum {t : Tm} : 1000 * (flat (t.args.getD 0 (.mk 0 0 [] []))).length + 1000 * (if 2 ≤ t.args.length then (flat (t.args.getD 1 (.mk 0 0 [] []))).length else 0) + 1000 ≤ 1000 * (flat t).length ∨ t.args = [] := by
 rw [flat_eq t]
 cases h : t.args with
 | nil => exact .inr rfl
 | cons a vs =>
  left
  cases vs with
  | nil => simp [flats]; omega
  | cons b bs => simp [flats]; omega
theorem compound_te {t : Tm} (ht : Wf t) (hl : (flat t).length ≤ 2000) (k3 : t.kind = 3) (hu : ∀ u, u ∈ t.args → WT ops u) (p : Int) : TE (fun k => spec_l3out_compound.f k ⟨ops, [], true⟩ (flat t) p) (fun r => r.length ≤ 1000 * (flat t).length) := by
 obtain ⟨w1, w2, w3⟩ := wf_sub ht
 have hfl := congrArg List.length (flat_eq t)
 rw [List.length_cons] at hfl
 have htx : t.text.length ≤ 100 := w3.text
 have hus : ∀ u, u ∈ t.args → Wf u ∧ (flat u).length ≤ 2000 ∧ WT ops u := fun u h => ⟨(wfs_mem h w1).1, by have := (wfs_mem h w1).2; omega, hu u h⟩
 have hr := w3.n3 k3
 have hr : 1 ≤ t.n ∧ t.n ≤ 20 := hr
 have hlen := w2 k3
 refine TE.succ (fun k => by rw [spec_l3out_compound.f]) (TE.bind (R := fun a => a = t.args.map flat) ⟨_, args_ev ⟨ht, hl⟩, rfl⟩ fun a ha => ?_)
 subst ha
 refine TE.bind (top_te ops hO.1 t ht) fun i hi => TE.ite (fun _ => ?_) fun h0 => ?_
 ·have L : ∀ nm : List UInt8, nm.length ≤ 504 → TE (fun k => spec_l3out_plain.l0 k ⟨ops, [], true⟩ (t.args.map flat) nm) (fun r => r.length ≤ 1000 * (flat t).length) := fun nm hnm => (plain_te hO hu (by omega) (by omega) hnm).imp fun r hr => by omega
  refine TE.bind (R := fun r => r.length ≤ 1000 * (flat t).length) (TE.succ (fun k => by rw [spec_l3out_plain.f, if_pos (by have := flat_pos t; omega), flat0]) (TE.bind (oatom_te ops t.text (by omega)) fun nm hnm => TE.pos rfl (TE.ite (fun _ => TE.pos (by simp; omega) (TE.pos (by simp; omega) (L _ (by simp; omega)))) fun _ => TE.ite (fun _ => TE.pos (by simp; omega) (TE.pos (by simp; omega) (L _ (by simp; omega)))) fun _ => L _ (by omega)))) fun r hr => TE.ret hr
 ·have h0 : 0 ≤ i := by omega
  obtain ⟨_, i2, i3⟩ := hi.2 h0
  have hs := args_sum hO (t := t)
  have hne : t.args ≠ [] := fun h => by rw [h] at i2; simp at i2
  have L : ∀ nm : List UInt8, nm.length ≤ 502 → TE (fun k => spec_l3out_compound.l0 k ⟨ops, [], true⟩ p (t.args.map flat) i nm) (fun r => r.length ≤ 1000 * (flat t).length) := fun nm hnm => (l0_te hO p h0 hi.1 hus i2 i3 hnm).imp fun r hr => by
   rcases hs with hs | hs
   ·omega
   ·exact absurd hs hne
  exact TE.pos h0 (TE.pos hi.1 (TE.bind (oatom_te ops _ (Nat.le_trans (ops_at hO h0 hi.1) (by decide))) fun nm hnm => TE.ite (fun _ => L [44] (by simp)) fun _ => L nm hnm))
theorem text_te : ∀ (N : Nat) (t : Tm), (flat t).length ≤ N → Wf t → (flat t).length ≤ 2000 → WT ops t := by
 intro N
 induction N with
 | zero => intro t h; have := flat_pos t; omega
 | succ N ih =>
  intro t h1 ht hl p
  obtain ⟨w1, w2, w3⟩ := wf_sub ht
  have hfl := congrArg List.length (flat_eq t)
  rw [List.length_cons] at hfl
  have hp := flat_pos t
  have hu : ∀ u, u ∈ t.args → WT ops u := fun u h => ih u (by have := (wfs_mem h w1).2; omega) (wfs_mem h w1).1 (by have := (wfs_mem h w1).2; omega)
  have hnum : (t.kind = 0 ∨ t.kind = 1) → TE (fun k => spec_l3dec.f k t.n) (fun s => s.length ≤ 17) := fun hk => by
   refine dec_te 15 t.n ?_ (by omega)
   have : -1000000000000000 ≤ t.n ∧ t.n ≤ 1000000000000000 := by
    rcases w3 with ⟨_, h1, h2, _⟩ | ⟨_, h1, h2, _⟩ | ⟨h, _⟩ | ⟨h, _⟩
    ·have h1 : 0 ≤ t.n := h1; have h2 : t.n ≤ 1000000 := h2; omega
    ·exact ⟨h1, h2⟩
    ·have h : t.kind = 2 := h; omega
    ·have h : t.kind = 3 := h; omega
   omega
  have htx : t.text.length ≤ 100 := w3.text
  refine TE.succ (fun k => by rw [spec_l3out_text.f, if_pos (by omega), flat0, l2is_val t _ 2 (by decide), l2is_val t _ 1 (by decide), Option.bind_some, Option.bind_some]) ?_
  refine TE.ite (fun k0 => ?_) fun k0 => ?_
  rotate_left
  refine TE.ite (fun k1 => ?_) fun k1 => ?_
  rotate_left
  refine TE.ite (fun k2 => ?_) fun k2 => ?_
  rotate_left
  refine TE.ite (fun c => ?_) fun c => ?_
  rotate_left
  refine TE.ite (fun c2 => ?_) fun c2 => ?_
  rotate_right
  rotate_right
  rotate_right
  rotate_right
  ·have k0 : t.kind = 0 := k0
   have hn0 : 0 ≤ t.n := (by
    rcases w3 with ⟨_, h1, _⟩ | ⟨h, _⟩ | ⟨h, _⟩ | ⟨h, _⟩
    ·exact h1
    ·have h : t.kind = 1 := h; omega
    ·have h : t.kind = 2 := h; omega
    ·have h : t.kind = 3 := h; omega)
   refine TE.neg (by show ¬ t.n < (([] : List (List UInt8)).length : Int); simp; omega) (TE.bind (hnum (.inl k0)) fun s hs => TE.pos (by simp; omega) (TE.ret (by simp; omega)))
  ·exact TE.bind (hnum (.inr k1)) fun s hs => TE.ret (by omega)
  ·exact TE.bind (oatom_te ops t.text (by omega)) fun s hs => TE.ret (by omega)
  ·have c := of_decide_eq_true c
   refine TE.bind (TE.of (fun k => by rw [spec_l2items.f]; rfl) (items_te _ t [] (Nat.le_refl _) ht hl (by simp; omega))) fun r hr => ?_
   obtain ⟨us, e, rfl, r2, r3, r4, r5⟩ := hr
   have hne := List.length_pos_iff.2 (r5 c)
   have hue : ∀ u, u ∈ us → WT ops u := fun u h => ih u (by have := (wfs_mem h r2).2; omega) (wfs_mem h r2).1 (by have := (wfs_mem h r2).2; omega)
   exact (list2_te hO hue (ih e (by omega) r3 (by omega)) (by omega) (by omega)).imp fun r hr => by omega
  ·have c2 := of_decide_eq_true c2
   have hlen := w2 c2.2.1
   obtain ⟨a, ha⟩ : ∃ a, t.args = [a] := List.length_eq_one_iff.1 (by omega)
   have hd : (flat t).drop (1 : Int).toNat = flat a := by rw [flat_eq t, ha]; simp [flats]
   have hfa : (flat t).length = 1 + (flat a).length := by rw [hfl, ha]; simp [flats]; omega
   rw [hd]
   exact TE.pos (by omega) (TE.bind (hu a (by rw [ha]; exact .head _) 1200) fun s hs => TE.pos (by simp; omega) (TE.pos (by simp; omega) (TE.ret (by simp; omega))))
  ·have k3 : t.kind = 3 := by
    have k0 : ¬ t.kind = 0 := k0
    have k1 : ¬ t.kind = 1 := k1
    have k2 : ¬ t.kind = 2 := k2
    rcases w3 with ⟨h, _⟩ | ⟨h, _⟩ | ⟨h, _⟩ | ⟨h, _⟩
    ·exact absurd h k0
    ·exact absurd h k1
    ·exact absurd h k2
    ·exact h
   exact TE.bind (compound_te hO ht hl k3 hu p) fun s hs => TE.ret hs
end
theorem write_te {d : List Sy.Op} (hd : OPS d) (hv : TE (fun k => spec_ValidOps.f k d) (fun _ => True)) (xs : List Cell) (hl : xs.length ≤ 1000000) : TE (fun k => spec_WriteTerm.f k d xs [] true) (fun s => s.length ≤ 3000000) := by
 have h0 : TE (fun _ : Nat => some ([] : List UInt8)) (fun s => s.length ≤ 3000000) := TE.ret (by simp)
 refine TE.of (fun k => by rw [spec_WriteTerm.f]) (TE.bind hv fun b _ => TE.ite (fun _ => h0) fun _ => TE.bind (R := fun b => b = okT xs) ⟨_, ⟨1000001, fun k hk => valid_val xs k (by omega) (by omega)⟩, rfl⟩ fun v hv => ?_)
 refine TE.ite (fun _ => h0) fun c => ?_
 obtain ⟨b1, t, rfl, b3⟩ := (okT_iff xs).1 (by rw [← hv]; simpa using c)
 exact TE.bind (text_te hd _ t (Nat.le_refl _) b3 b1 1200) fun s hs => TE.pos (by omega) (TE.ret (by omega))
def LS (n : Nat) (t : List UInt8 × GL4rd) : Prop := t.1.length ≤ n ∧ RD t.2
theorem token_te {r : GL4rd} (h : RD r) : TE (fun _ => spec_l4token_2.f r) (LS 100) := by
 refine TE.of (fun k => by rw [spec_l4token_2.f]) (TE.bind (next_te h) fun t ⟨h1, h2, h3⟩ => ?_)
 have a := tmod_rng h1 (show (0 : Int) < 32 by omega)
 exact TE.pos a.1 (TE.pos (by omega) (TE.ret ⟨getD_len (by decide), h3⟩))
theorem soup_te {r : GL4rd} (h : RD r) : TE (fun k => spec_l4soup.f k r) (LS 2000) := by
 refine TE.of (fun k => by rw [spec_l4soup.f]) (TE.bind (next_te h) fun t ⟨h1, h2, h3⟩ => ?_)
 have a := tmod_rng h1 (show (0 : Int) < 14 by omega)
 obtain ⟨n, hn⟩ : ∃ n : Nat, Int.tmod t.1 14 = (n : Int) := ⟨(Int.tmod t.1 14).toNat, by omega⟩
 have key : ∀ (m i : Nat) (acc : List UInt8) (q : GL4rd), n - i = m → i ≤ n → acc.length ≤ 100 * i → RD q → TE (fun k => spec_l4soup.l0 k t acc (i : Int) q.b_ q.i_) (LS 2000) := by
  intro m
  induction m with
  | zero =>
   intro i acc q q1 q2 q3 q4
   exact TE.succ (fun k => by rw [spec_l4soup.l0, hn, if_neg (by omega)]) (TE.pos (by omega) (TE.ret ⟨by show acc.length ≤ 2000; omega, q4⟩))
  | succ m ih =>
   intro i acc q q1 q2 q3 q4
   refine TE.succ (fun k => by rw [spec_l4soup.l0, hn, if_pos (by omega), wrap_nat (by omega)]) (TE.bind (token_te (r := q) q4) fun s hs => TE.pos (by have := hs.1; omega) (ih (i + 1) _ s.2 (by omega) (by omega) (by have := hs.1; rw [List.length_append]; omega) hs.2))
 exact key n 0 [] t.2 rfl (Nat.zero_le _) (by simp) h3
theorem odd_te {r : GL4rd} (h : RD r) : TE (fun _ => spec_l4oddText.f r) (LS 1000) := by
 refine TE.of (fun k => by rw [spec_l4oddText.f]) (TE.bind (next_te h) fun t ⟨h1, h2, h3⟩ => ?_)
 have a := tmod_rng h1 (show (0 : Int) < 84 by omega)
 exact TE.pos a.1 (TE.pos (by omega) (TE.pos (Nat.le_trans (getD_len (n := 1000) (by decide)) (by decide)) (TE.ret ⟨getD_len (by decide), h3⟩)))
theorem source_te {r : GL4rd} (h : RD r) : TE (fun k => spec_l4source.f k r) (LS 5000000) := by
 refine TE.of (fun k => by rw [spec_l4source.f]) (TE.bind (next_te h) fun a ⟨a1, a2, a3⟩ => ?_)
 refine TE.ite (fun _ => TE.bind (soup_te a3) fun s hs => TE.ret ⟨by have := hs.1; show s.1.length ≤ _; omega, hs.2⟩) fun _ => ?_
 refine TE.ite (fun _ => TE.bind (odd_te a3) fun s hs => TE.ret ⟨by have := hs.1; show s.1.length ≤ _; omega, hs.2⟩) fun _ => ?_
 refine TE.ite (fun _ => TE.bind (next_te a3) fun b ⟨b1, b2, b3⟩ => ?_) fun _ => ?_
 ·have m3 := tmod_rng b1 (show (0 : Int) < 3 by omega)
  have hw : IntKind.i64.wrap (99 + Int.tmod b.1 3) = ((99 + Int.tmod b.1 3).toNat : Int) := by rw [wrap_id (by omega) (by omega)]; omega
  rw [hw]
  refine TE.bind (fill_te 97 _ (by omega)) fun s hs => TE.pos (by simp; omega) (TE.bind (next_te b3) fun c ⟨c1, c2, c3⟩ => ?_)
  have hc : c.1 = ((c.1.toNat : Nat) : Int) := by omega
  rw [hc]
  refine TE.bind (fill_te 32 _ (by omega)) fun u hu => TE.pos (by simp; omega) (TE.ret ⟨?_, c3⟩)
  simp; omega
 refine TE.ite (fun _ => TE.bind (next_te a3) fun b ⟨b1, b2, b3⟩ => ?_) fun _ => ?_
 ·have m3 := tmod_rng b1 (show (0 : Int) < 3 by omega)
  have hw : IntKind.i64.wrap (9997 + Int.tmod b.1 3) = ((9997 + Int.tmod b.1 3).toNat : Int) := by rw [wrap_id (by omega) (by omega)]; omega
  rw [hw]
  refine TE.bind (fill_te 32 _ (by omega)) fun s hs => TE.pos (by omega) (TE.ret ⟨?_, b3⟩)
  simp; omega
 refine TE.ite (fun _ => TE.bind (next_te a3) fun b ⟨b1, b2, b3⟩ => ?_) fun _ => ?_
 ·have m3 := tmod_rng b1 (show (0 : Int) < 3 by omega)
  obtain ⟨n, hn, hn2⟩ : ∃ n : Nat, IntKind.i64.wrap (18 + Int.tmod b.1 3) = (n : Int) ∧ n ≤ 30 := ⟨(18 + Int.tmod b.1 3).toNat, by rw [wrap_id (by omega) (by omega)]; omega, by omega⟩
  have key : ∀ (m i : Nat) (acc : List UInt8), n - i = m → i ≤ n → acc.length ≤ 3 + 2 * i → TE (fun k => spec_l4source.l0 k b acc (i : Int)) (LS 5000000) := by
   intro m
   induction m with
   | zero =>
    intro i acc q1 q2 q3
    exact TE.succ (fun k => by rw [spec_l4source.l0, hn, if_neg (by omega)]) (TE.pos (by simp; omega) (TE.ret ⟨by simp; omega, b3⟩))
   | succ m ih =>
    intro i acc q1 q2 q3
    exact TE.succ (fun k => by rw [spec_l4source.l0, hn, if_pos (by omega), wrap_nat (by omega)]) (TE.pos (by simp; omega) (ih (i + 1) _ (by omega) (by omega) (by simp; omega)))
  exact key n 0 _ rfl (Nat.zero_le _) (by simp)
 refine TE.ite (fun _ => TE.bind (next_te a3) fun b ⟨b1, b2, b3⟩ => ?_) fun _ => ?_
 ·have m3 := tmod_rng b1 (show (0 : Int) < 2 by omega)
  obtain ⟨n, hn, hn2⟩ : ∃ n : Nat, IntKind.i64.wrap (1000 + Int.tmod b.1 2) = (n : Int) ∧ n ≤ 1010 := ⟨(1000 + Int.tmod b.1 2).toNat, by rw [wrap_id (by omega) (by omega)]; omega, by omega⟩
  have key : ∀ (m i : Nat) (acc : List UInt8), n - i = m → i ≤ n → acc.length ≤ 3 + 2 * i → TE (fun k => spec_l4source.l1 k b acc (i : Int)) (LS 5000000) := by
   intro m
   induction m with
   | zero =>
    intro i acc q1 q2 q3
    exact TE.succ (fun k => by rw [spec_l4source.l1, hn, if_neg (by omega)]) (TE.pos (by simp; omega) (TE.ret ⟨by simp; omega, b3⟩))
   | succ m ih =>
    intro i acc q1 q2 q3
    exact TE.succ (fun k => by rw [spec_l4source.l1, hn, if_pos (by omega), wrap_nat (by omega)]) (TE.pos (by simp; omega) (ih (i + 1) _ (by omega) (by omega) (by simp; omega)))
  exact key n 0 _ rfl (Nat.zero_le _) (by simp)
 refine TE.bind (term4_te _ a3) fun t ht => TE.bind (R := fun _ => True) ⟨_, ⟨2001, fun k hk => valid_val t.1 k (by have := ht.1.1; omega) (by have := ht.1.1; omega)⟩, trivial⟩ fun v _ => ?_
 have W : ∀ xs : List Cell, xs.length ≤ 1000000 → TE (fun k => (spec_DefaultOps.f k).bind fun d => ((spec_WriteTerm.f k d xs [] true).bind fun s => (if s.length + ([32, 46, 10] : List UInt8).length ≤ 140737488355328 then some ((s ++ ([32, 46, 10] : List UInt8)), t.2) else none))) (LS 5000000) := fun xs hx =>
  TE.bind default_te fun d hd => TE.bind (write_te hd.1 hd.2 xs hx) fun s hs => TE.pos (by simp; omega) (TE.ret ⟨by simp; omega, ht.2.2⟩)
 exact TE.ite (fun _ => TE.bind (atom_te (by simp)) fun z hz => W z (by have := hz.1.1; omega)) fun _ => W t.1 (by have := ht.1.1; omega)
theorem drawLex_te (x : List UInt8) (h : x.length ≤ 1048576) : TE (fun k => spec_DrawLex.f k x) (fun s => s.length ≤ 5000000) :=
 TE.of (fun k => by rw [spec_DrawLex.f]) (TE.bind (open_te x h) fun r hr => TE.bind (source_te hr) fun s hs => TE.ret hs.1)
theorem drawQ_te (x : List UInt8) (h : x.length ≤ 1048576) : TE (fun k => spec_DrawQuoteAtom.f k x) (fun s => s.length ≤ 1000) := by
 have h1 : TE (fun k => spec_DrawIsPlain.f k x) (fun s => s.length ≤ 1000) := by
  refine TE.of (fun k => by rw [spec_DrawIsPlain.f]) (TE.bind (open_te x h) fun r hr => TE.bind (next_te hr) fun a ⟨a1, a2, a3⟩ => TE.bind (name_te a3) fun s hs => ?_)
  have hs1 := hs.1
  refine TE.ite (fun _ => TE.bind (name_te hs.2) fun u hu => TE.pos (by have := hu.1; omega) (TE.ret (by have := hu.1; rw [List.length_append]; omega))) fun _ => TE.ite (fun _ => TE.bind (next_te hs.2) fun b ⟨b1, b2, b3⟩ => ?_) fun _ => TE.ite (fun _ => TE.bind (next_te hs.2) fun b _ => TE.pos (by omega) (TE.ret (by simp; omega))) fun _ => TE.ret (by omega)
  have m3 := tmod_rng b1 (show (0 : Int) < 3 by omega)
  have hw : IntKind.i64.wrap (99 + Int.tmod b.1 3) = ((99 + Int.tmod b.1 3).toNat : Int) := by rw [wrap_id (by omega) (by omega)]; omega
  rw [hw]
  exact TE.bind (fill_te 97 _ (by omega)) fun u hu => TE.ret (by omega)
 exact TE.of (fun k => by rw [spec_DrawQuoteAtom.f]) (TE.bind h1 fun s hs => TE.ret hs)
end Go.Proofs.YtdkbfcmekppnmaaGreatDoor
