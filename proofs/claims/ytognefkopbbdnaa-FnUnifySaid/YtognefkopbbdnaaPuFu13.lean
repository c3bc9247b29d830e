import Derived.Test.YtognefkopbbdnaaPuFu12
namespace Go.Proofs.Ytognefkopbbdnaa
open Go.Sx Go.Sy
set_option linter.unusedVariables false
set_option linter.unusedSimpArgs false
set_option linter.unusedSectionVars false
set_option maxRecDepth 4000
/-! ### same terms -/
theorem sameB_self (s : List UInt8) (hl : s.length ≤ 1000000) : Ev (fun k => laws_sameB.f k s s) true := by
  refine Ev.of (fun k => by rw [laws_sameB.f, if_neg (by simp)]) ?_
  have key : ∀ (m i : Nat), s.length - i = m → i ≤ s.length → Ev (fun k => laws_sameB.l0 k s s (i : Int)) true := by
    intro m
    induction m with
    | zero =>
      intro i h1 h2
      exact Ev.succ (h := fun _ => some true) (fun k => by rw [laws_sameB.l0, if_neg (by omega)]) (Ev.ret _)
    | succ m ih =>
      intro i h1 h2
      exact Ev.succ (fun k => by rw [laws_sameB.l0, if_pos (by omega), if_pos (by omega), if_pos (by omega), if_neg (by simp), wrap_nat (by omega)]) (ih (i + 1) (by omega) (by omega))
  exact key s.length 0 rfl (Nat.zero_le _)
theorem sameT_self (s : List Cell) (hl : s.length ≤ 1000000) (ht : ∀ c, c ∈ s → c.text.length ≤ 1000000) : Ev (fun k => laws_sameT.f k s s) true := by
  refine Ev.of (fun k => by rw [laws_sameT.f, if_neg (by simp)]) ?_
  have key : ∀ (m i : Nat), s.length - i = m → i ≤ s.length → Ev (fun k => laws_sameT.l0 k s s (i : Int)) true := by
    intro m
    induction m with
    | zero =>
      intro i h1 h2
      exact Ev.succ (h := fun _ => some true) (fun k => by rw [laws_sameT.l0, if_neg (by omega)]) (Ev.ret _)
    | succ m ih =>
      intro i h1 h2
      have hi : i < s.length := by omega
      have hc : Ev (fun k => laws_sameCell.f k s[i] s[i]) true := Ev.of (fun k => by rw [laws_sameCell.f, if_pos rfl, if_pos rfl]) (Ev.bind (sameB_self _ (ht _ (List.getElem_mem hi))) (Ev.ret _))
      refine Ev.succ (fun k => by rw [laws_sameT.l0, if_pos (by omega), if_pos (by omega), if_pos (by omega), Int.toNat_natCast, getD_at hi, wrap_nat (by omega)]) (Ev.bind hc ?_)
      exact Ev.of (fun k => if_neg (by simp)) (ih (i + 1) (by omega) (by omega))
  exact key s.length 0 rfl (Nat.zero_le _)
/-! ### what unification answers -/
structure Uni (bs : List Binding) (θ : Int → List Cell) : Prop where
  th : Th θ
  len : bs.length ≤ 1000
  ok : OkSub bs
  got : ∀ v, (lk bs v = none ∧ θ v = [⟨0, v, []⟩]) ∨ lk bs v = some (θ v)
  idem : ∀ t, Wf t → sx θ (sx θ (flat t)) = sx θ (flat t)
theorem fin_code : ∀ (rs : List (Int × List Cell)) (acc : List Binding), ((∀ q, q ∈ rs → q.2.length ≤ 2000) ∧ fin rs acc = (acc ++ rs.map (fun q => (⟨q.1, q.2⟩ : Binding)), 0)) ∨ fin rs acc = ([], 3)
  | [], acc => .inl ⟨fun q hq => (by cases hq), by simp [fin]⟩
  | (v, r) :: t, acc => by
    rw [fin]
    by_cases h : r.length ≤ 2000
    · rw [if_pos h]
      rcases fin_code t (acc ++ [⟨v, r⟩]) with ⟨h1, h2⟩ | h1
      · refine .inl ⟨fun q hq => ?_, by rw [h2]; simp⟩
        rcases List.mem_cons.1 hq with rfl | hq
        · exact h
        · exact h1 q hq
      · exact .inr h1
    · rw [if_neg h]; exact .inr rfl
theorem lk_map (θ : Int → List Cell) (v : Int) : ∀ sub : List Binding, lk (sub.map fun b => (⟨b.var, θ b.var⟩ : Binding)) v = if v ∈ sub.map (·.var) then some (θ v) else none
  | [] => rfl
  | b :: sub => by
    rw [List.map_cons, lk, lk_map θ v sub, List.map_cons]
    by_cases h : b.var = v
    · rw [if_pos h, if_pos (by simp [h]), ← h]
    · rw [if_neg h]
      by_cases h2 : v ∈ sub.map (·.var)
      · rw [if_pos h2, if_pos (.tail _ h2)]
      · rw [if_neg h2, if_neg (fun q => (List.mem_cons.1 q).elim (fun e => h e.symm) h2)]
theorem uni_of {x y : Tm} (hx : Wf x ∧ (flat x).length ≤ 2000) (hy : Wf y ∧ (flat y).length ≤ 2000) {c : Int} {m : List (Int × Tm)} {p : Nat} (h : Run [] 0 [(x, y)] c m p) {sub : List Binding} (hr : Rel sub m) {r : List Binding × Int} (ha : Ans c m sub r) : (r.2 = c ∧ c ≠ 0) ∨ (c = 0 ∧ r.2 = 3) ∨ (c = 0 ∧ r.2 = 0 ∧ ∃ θ, Uni r.1 θ ∧ sx θ (flat x) = sx θ (flat y)) := by
  rcases ha with ⟨hc, rfl⟩ | ⟨hc, _, rfl⟩ | ⟨hc, hl, rs, hlen, hrs, rfl⟩
  · exact .inl ⟨rfl, hc⟩
  · exact .inr (.inl ⟨hc, rfl⟩)
  rcases fin_code rs [] with ⟨h1, h2⟩ | h1
  rotate_left
  · exact .inr (.inl ⟨hc, by rw [h1]⟩)
  refine .inr (.inr ⟨hc, by rw [h2], ?_⟩)
  have hs : ∀ q, q ∈ [(x, y)] → Ok2 q := fun q hq => by rw [List.mem_singleton.1 hq]; exact ⟨hx, hy⟩
  have hm : Wm m := run_wm h (fun v t e => by cases e) hs
  obtain ⟨θ, t1, t2⟩ := sx_ex hr
  have hE : ∀ v t, mget m v = some t → θ v = sx θ (flat t) := fun v t e => xt_fun (t2 v t e) _ (xt_sx t1 t2 (flat t) (vt_ok (flat_ok t (hm v t e).1.1)))
  have hth : Th θ := fun v h0 h1 => by
    cases e : mget m v with
    | none => exact ⟨.mk 0 v [] [], by simp only [Wf, Wfs]; exact ⟨.inl ⟨rfl, h0, h1, rfl⟩, by simp, by simp, trivial⟩, by rw [t1 v e]; simp [flat, flats]⟩
    | some t =>
      obtain ⟨ts, a1, a2, a3⟩ := xt_tree hm (t2 v t e) [t] (by simp [flats]) (by simp only [Wfs]; exact ⟨(hm v t e).1.1, trivial⟩)
      match ts, a1, a2, a3 with
      | [τ], a1, a2, _ => exact ⟨τ, by simp only [Wfs] at a2; exact a2.1, by rw [← a1]; simp [flats]⟩
  have hrsm : rs.map (fun q => (⟨q.1, q.2⟩ : Binding)) = sub.map fun b => (⟨b.var, θ b.var⟩ : Binding) := by
    apply List.ext_getElem (by simp [hlen])
    intro j g1 g2
    rw [List.length_map] at g1 g2
    obtain ⟨q1, q2⟩ := hrs j g2
    obtain ⟨t, et, ef⟩ := hr.term _ (List.getElem_mem g2)
    rw [ef] at q2
    rw [List.getElem_map, List.getElem_map, q1, xt_fun q2 _ (t2 _ t et)]
  rw [List.nil_append, hrsm] at h2
  refine ⟨θ, ?_, run_eq h hc (fun v t e => by cases e) hs hE (x, y) (.head _)⟩
  rw [h2]
  have hin : ∀ v, v ∈ sub.map (·.var) ↔ ∃ t, mget m v = some t := fun v => by
    rw [← hr.keys.mem_iff]
    constructor
    · intro hv
      cases e : mget m v with
      | none => exact absurd hv (mget_none.1 e)
      | some t => exact ⟨t, rfl⟩
    · rintro ⟨t, e⟩
      exact Classical.byContradiction fun hn => by rw [mget_none.2 hn] at e; cases e
  refine ⟨hth, by simpa using hl, fun j hj => ?_, fun v => ?_, fun t ht => ?_⟩
  · rw [List.length_map] at hj
    have hmem : sub[j].var ∈ sub.map (·.var) := List.mem_map_of_mem (List.getElem_mem hj)
    obtain ⟨t, et⟩ := (hin _).1 hmem
    obtain ⟨τ, w1, w2⟩ := hth _ (hm _ _ et).2.1 (hm _ _ et).2.2
    have hlen2 : (θ sub[j].var).length ≤ 2000 := by
      have hjr : j < rs.length := by omega
      have := h1 _ (List.getElem_mem hjr)
      obtain ⟨q1, q2⟩ := hrs j hj
      obtain ⟨t', et', ef⟩ := hr.term _ (List.getElem_mem hj)
      rw [ef] at q2
      rw [xt_fun q2 _ (t2 _ t' et')] at this
      exact this
    simp only [List.getElem_map]
    refine ⟨by rw [w2] at hlen2 ⊢; exact okT_flat ⟨w1, hlen2⟩, (hm _ _ et).2.1, (hm _ _ et).2.2, fun i hi => ?_⟩
    exact List.pairwise_iff_getElem.1 hr.srt i j (by omega) hj hi
  · rw [lk_map]
    by_cases hv : v ∈ sub.map (·.var)
    · rw [if_pos hv]; exact .inr rfl
    · rw [if_neg hv]
      refine .inl ⟨rfl, t1 v ?_⟩
      cases e : mget m v with
      | none => rfl
      | some t => exact absurd ((hin v).2 ⟨t, e⟩) hv
  · apply sx_self
    have hxt := xt_sx t1 t2 (flat t) (vt_ok (flat_ok t ht))
    intro c hc h0
    rw [t1 _ (xt_unb hxt c hc h0)]
    obtain ⟨t', w1, w2⟩ := sx_tree hth t ht
    rw [← w2] at hc
    rw [← vt_ok (flat_ok t' w1) c hc h0]
/-! ### what Apply answers -/
theorem sub_valid_true (xs : List Binding) (ho : OkSub xs) (hl : xs.length ≤ 1000) : Ev (fun k => impl_validSub.f k xs) true := by
  refine Ev.of (fun k => by rw [impl_validSub.f, if_neg (by omega)]) ?_
  have key : ∀ (m i : Nat), xs.length - i = m → i ≤ xs.length → Ev (fun k => impl_validSub.l0 k xs (i : Int)) true := by
    intro m
    induction m with
    | zero =>
      intro i h1 h2
      exact Ev.succ (h := fun _ => some true) (fun k => by rw [impl_validSub.l0, if_neg (by omega)]) (Ev.ret _)
    | succ m ih =>
      intro i h1 h2
      have hi : i < xs.length := by omega
      obtain ⟨o1, o2, o3, o4⟩ := ho i hi
      have htl := ((okT_iff _).1 o1).1
      have hv : Ev (fun k => impl_ValidTerm.f k xs[i].term) true := ⟨2001, fun k hk => by show impl_ValidTerm.f k xs[i].term = _; rw [valid_val' _ _ (by omega) (by omega), o1]⟩
      have hend : Ev (fun k => (impl_ValidTerm.f k xs[i].term).bind fun t69 => (if ¬ (t69 = true) then some false else (impl_validSub.l0 k xs ((i + 1 : Nat) : Int)))) true :=
        Ev.bind hv (Ev.of (fun k => if_neg (by simp)) (ih (i + 1) (by omega) (by omega)))
      refine Ev.succ (fun k => by rw [impl_validSub.l0, if_pos (by omega), if_pos (by omega), Int.toNat_natCast, getD_at hi, wrap_nat (by omega), if_neg (by omega), if_neg (by omega)]) ?_
      by_cases c3 : (i : Int) > 0
      · have hw : IntKind.i64.wrap ((i : Int) - 1) = ((i - 1 : Nat) : Int) := by rw [wrap_id (by omega) (by omega)]; omega
        have hi1 : i - 1 < xs.length := by omega
        have := o4 (i - 1) (by omega)
        exact Ev.of (fun k => by rw [if_pos c3, hw, if_pos (by omega), if_pos (by omega), Int.toNat_natCast, getD_at hi1, if_neg (by omega)]) hend
      · exact Ev.of (fun k => by rw [if_neg c3]) hend
  exact key xs.length 0 rfl (Nat.zero_le _)
theorem apl_val {bs : List Binding} {θ : Int → List Cell} (hU : Uni bs θ) : ∀ (cs out : List Cell), Vt cs → out.length ≤ 2000 → apl bs cs out = if out.length + (sx θ cs).length ≤ 2000 then (out ++ sx θ cs, 0) else ([], 3)
  | [], out, _, ho => by rw [apl, sx_nil, if_pos (by simpa using ho), List.append_nil]
  | c :: cs, out, hv, ho => by
    have hrep : rep bs c = if c.kind = 0 then θ c.n else [c] := by
      unfold rep
      by_cases h0 : c.kind = 0
      · rw [if_pos h0, if_pos h0]
        rcases hU.got c.n with ⟨h1, h2⟩ | h1
        · rw [h1, h2, Option.getD_none, ← hv c (.head _) h0]
        · rw [h1, Option.getD_some]
      · rw [if_neg h0, if_neg h0]
    rw [apl, sx_cons, ← hrep]
    by_cases h : ((out ++ rep bs c).length : Int) > 2000
    · rw [if_pos h, if_neg (by simp only [List.length_append] at h ⊢; omega)]
    · rw [if_neg h, apl_val hU cs _ (fun d hd => hv d (.tail _ hd)) (by omega)]
      simp only [List.length_append, List.append_assoc, Nat.add_assoc]
theorem apply_val {bs : List Binding} {θ : Int → List Cell} (hU : Uni bs θ) {t : Tm} (ht : Wf t ∧ (flat t).length ≤ 2000) : ∃ r : List Cell × Int, r = (if (sx θ (flat t)).length ≤ 2000 then (sx θ (flat t), 0) else ([], 3)) ∧ Ev (fun k => impl_Apply.f k bs (flat t)) r ∧ Ev (fun k => spec_Apply.f k bs (flat t)) r := by
  have hb : ∀ x, x ∈ bs → x.term.length ≤ 1048576 := fun x hx => by
    obtain ⟨j, hj, rfl⟩ := List.getElem_of_mem hx
    have := ((okT_iff _).1 (hU.ok j hj).1).1
    omega
  obtain ⟨K, hK⟩ := sub_valid_true bs hU.ok hU.len
  have hval : ∀ k, K + 3000001 ≤ k → impl_Apply.f k bs (flat t) = some (apl bs (flat t) []) := fun k hk => by
    have hl := hU.len
    have hl2 := ht.2
    rw [impl_Apply.f, show impl_validSub.f k bs = some true from hK k (by omega), Option.bind_some, if_neg (by simp), valid_val' _ k (by omega) (by omega), okT_flat ht, Option.bind_some, if_neg (by simp)]
    obtain ⟨M', f1, f2⟩ := impl_map bs (flat t) hU.len hU.ok bs.length k 0 [] rfl (by omega) (by omega) (fun v => by simp [mget, lk])
    have g1 := impl_apply bs (flat t) M' hU.ok f2 ht.2 (flat_ok t ht.1) (flat t).length (k - bs.length - 1) 0 [] rfl (by omega) (by omega) (by simp)
    rw [show ((0 : Nat) : Int) = 0 from rfl] at f1 g1
    rw [List.drop_zero] at g1
    rw [f1, g1]
  have hap := apl_val hU (flat t) [] (vt_ok (flat_ok t ht.1)) (by simp)
  rw [List.length_nil, Nat.zero_add, List.nil_append] at hap
  rw [hap] at hval
  refine ⟨_, rfl, ⟨K + 3000001, hval⟩, K + 3000001, fun k hk => ?_⟩
  have hl2 := ht.2
  obtain ⟨r, e1, e2, _⟩ := apply_eq bs (flat t) k hb (by omega) (by omega)
  rw [hval k hk] at e1
  injection e1 with e1
  rw [e1]; exact e2
end Go.Proofs.Ytognefkopbbdnaa
