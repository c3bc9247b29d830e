import Derived.Test.YtdkbfcmekppnmaaGreatDoorY8
namespace Go.Sy
open Go.Sx
set_option linter.unusedVariables false
set_option linter.unusedSimpArgs false
set_option linter.unusedSectionVars false
section
variable {P : Program} {ops : Array Oper} {Q : Exit → Act → World → Prop} {S : Array Bool → World → Prop} {n m : Nat} {f : Nat → Value} {o : Oper} {v : Value} {L : Array Bool} {w : World} {rest : List Oper}
def wpX1 (P : Program) (ops : Array Oper) (Q : Exit → Act → World → Prop) (S : Array Bool → World → Prop) (m : Nat) (L : Array Bool) (i : Nat) (a : Act) (w : World) : Prop :=
  Shut ops L → wpOp P ops (NP Q) i (fun a' w' => S (L.setIfInBounds i true) w' ∧ wpX P ops (NP Q) S m (L.setIfInBounds i true) a' w') a w
def okR (ops : Array Oper) (L : Array Bool) (rs : List Nat) : Bool := Region.ready .any ops L == rs
theorem xall (rs : List Nat) {a : Act} (hk : okR ops L rs = true) (hne : rs ≠ []) (hc : Shut ops L) (h : ∀ i ∈ rs, wpX1 P ops Q S m L i a w) : wpX P ops (NP Q) S (m + 1) L a w := by
  have hr : Region.ready .any ops L = rs := by simpa [okR] using hk
  exact ⟨fun h0 => absurd (hr.symm.trans h0) hne, fun i hi => h i (hr ▸ hi) hc⟩
def okI (ops : Array Oper) (L : Array Bool) (i : Nat) : Bool := (Region.ready .any ops L).contains i
theorem y_w {i : Nat} (hi : ops[i]? = some o) (hw : Region.wanted o (yielded ops (mk n f).tmps) = true) (hk : okI ops L i = true)
    (h : Shut ops (L.setIfInBounds i true) → o.wp P (mk n f) w (fun a' w' => S (L.setIfInBounds i true) w' ∧ wpX P ops (NP Q) S m (L.setIfInBounds i true) a' w') (NP Q)) : wpX1 P ops Q S m L i (mk n f) w := by
  intro hc
  have hr : i ∈ Region.ready .any ops L := by simpa [okI] using hk
  unfold wpOp
  simp only [hi]
  rw [if_pos hw]
  exact .inl (h (hc.set hr))
theorem ye {i d : Nat} {R : Value → World → Prop} (hi : ops[i]? = some o) (hd : o.dst = some d) (hw : Region.wanted o (yielded ops (mk n f).tmps) = true) (hf : fits n o = true) (hk : okI ops L i = true)
    (hr : ∃ v w', (execOp (ev f) o).run P w = .ok (.value v) w' ∧ R v w')
    (h : Shut ops (L.setIfInBounds i true) → ∀ v w', R v w' → S (L.setIfInBounds i true) w' ∧ (S (L.setIfInBounds i true) w' → wpX P ops (NP Q) S m (L.setIfInBounds i true) (mk n (upd f d v)) w')) : wpX1 P ops Q S m L i (mk n f) w := by
  refine y_w hi hw hk (fun hc' => ?_)
  obtain ⟨v, w', hr, hR⟩ := hr
  unfold Oper.wp
  rw [exec_ev hf, hr]
  have := And.intro (h hc' v w' hR).1 ((h hc' v w' hR).2 (h hc' v w' hR).1)
  show _ ∧ wpX P ops (NP Q) S m _ ((mk n f).put o.dst v) w'
  rw [mk_put, hd]
  exact this
theorem ys {i : Nat} {R : World → Prop} (hi : ops[i]? = some o) (hd : o.dst = none) (hw : Region.wanted o (yielded ops (mk n f).tmps) = true) (hf : fits n o = true) (hk : okI ops L i = true)
    (hr : ∃ w', (execOp (ev f) o).run P w = .ok .skip w' ∧ R w')
    (h : Shut ops (L.setIfInBounds i true) → ∀ w', R w' → S (L.setIfInBounds i true) w' ∧ (S (L.setIfInBounds i true) w' → wpX P ops (NP Q) S m (L.setIfInBounds i true) (mk n f) w')) : wpX1 P ops Q S m L i (mk n f) w := by
  refine y_w hi hw hk (fun hc' => ?_)
  obtain ⟨w', hr, hR⟩ := hr
  unfold Oper.wp
  rw [exec_ev hf, hr]
  have := And.intro (h hc' w' hR).1 ((h hc' w' hR).2 (h hc' w' hR).1)
  show _ ∧ wpX P ops (NP Q) S m _ ((mk n f).put o.dst undef) w'
  rw [mk_put, hd]
  exact this
theorem yc {i : Nat} {g : FuncId} {args : Array Value} {R : Ending → World → Prop} (hi : ops[i]? = some o) (hw : Region.wanted o (yielded ops (mk n f).tmps) = true) (hf : fits n o = true) (hk : okI ops L i = true)
    (hr : (execOp (ev f) o).run P w = .ok (.enter g args) w) (hC : Calls P g args w R)
    (h : Shut ops (L.setIfInBounds i true) → ∀ e w', R e w' → ∃ v, e = .returned v ∧ S (L.setIfInBounds i true) w' ∧ (S (L.setIfInBounds i true) w' → wpX P ops (NP Q) S m (L.setIfInBounds i true) (mk n (updo f o.dst v)) w')) : wpX1 P ops Q S m L i (mk n f) w := by
  refine y_w hi hw hk (fun hc' => ?_)
  unfold Oper.wp
  rw [exec_ev hf, hr]
  refine hC.mono fun e w' hR => ?_
  obtain ⟨v, rfl, h2⟩ := h hc' e w' hR
  show _ ∧ wpX P ops (NP Q) S m _ ((mk n f).put o.dst v) w'
  rw [mk_put]
  exact ⟨h2.1, h2.2 h2.1⟩
theorem yo {i d : Nat} (hi : ops[i]? = some o) (hd : o.dst = some d) (hw : Region.wanted o (yielded ops (mk n f).tmps) = true) (hf : fits n o = true) (hk : okI ops L i = true) (hS : ∀ L w, S (L.setIfInBounds i true) w ↔ S L w) (hs : S L w)
    (hr : (execOp (ev f) o).run P w = .ok (.value v) w)
    (h : Shut ops (L.setIfInBounds i true) → S (L.setIfInBounds i true) w → wpX P ops (NP Q) S m (L.setIfInBounds i true) (mk n (upd f d v)) w) : wpX1 P ops Q S m L i (mk n f) w :=
  ye (R := fun u w' => u = v ∧ w' = w) hi hd hw hf hk ⟨v, w, hr, rfl, rfl⟩ (fun hc' u w' hR => by
    obtain ⟨rfl, rfl⟩ := hR
    exact ⟨(hS L w').2 hs, h hc'⟩)
theorem xone {i : Nat} {a : Act} (hk : okE ops L i = true) (hc : Shut ops L) (h : wpX1 P ops Q S m L i a w) : wpX P ops (NP Q) S (m + 1) L a w :=
  xall [i] hk (by simp) hc (fun j hj => by
    have : j = i := by simpa using hj
    subst this; exact h)
theorem wp_cut {c : Code} {a : Act} (I : Act → World → Prop) (h1 : c.wp P (fun e a w => e = .normal ∧ I a w) a w) (h2 : ∀ a w, I a w → Q .normal a w) : c.wp P Q a w :=
  wp_mono h1 fun e a w ⟨he, hI⟩ => by subst he; exact h2 a w hI
end
section
variable {P : Program} {w : World} {ρ : Operand → Value} {d : Option Tmp} {ty : TypeId} {pos : String} {af : Array Edge} {gd : Option (Nat × Bool)} {x : Operand}
theorem e_callv {f : FuncId} {fn : Func} {l : List Operand} {ts : Array TypeId} {vs cs : List Value} (hf : P.funcs[f]? = some fn) (hname : (fn.name == "runtime.NumGoroutine") = false) (hb : fn.body.isSome = true) (ha : l.map ρ = vs) (hx : ρ x = .func (.func f) #[] cs.toArray) :
    (execOp ρ ⟨d, .call { callee := .value x, args := l.toArray, argTypes := ts }, ty, pos, af, gd⟩).run P w = .ok (.enter f (vs ++ cs).toArray) w := by
  have h1 : fn.name ≠ "runtime.NumGoroutine" := by simpa using hname
  obtain ⟨c, hc⟩ := Option.isSome_iff_exists.1 hb
  have he : (callFunc f (vs ++ cs).toArray).run P w = .ok (.enter f (vs ++ cs).toArray) w := by simp [callFunc, hf, h1, hc]
  have ha2 : l.toArray.map ρ = vs.toArray := by rw [← ha]; simp
  have ha3 : vs.toArray ++ cs.toArray = (vs ++ cs).toArray := by simp
  unfold execOp
  simp [resolve, Deferred.ofValue, invoke, hx, ha2, ha3, he]
end
section
variable {P : Program} {w : World} {ρ : Operand → Value} {d : Option Tmp} {T T2 ty : TypeId} {pos : String} {af : Array Edge} {gd : Option (Nat × Bool)} {x y : Operand} {k : IntKind} {a b : Int}
theorem retST {fn : Func} {R : Ending → World → Prop} {n : Nat} {f : Nat → Value} {t t1 g : Nat} {ty T : TypeId} {D : TypeDesc} {cur : Array Value} {fr : Nat × Nat} {v1 : Value} (h : fn.results = #[.cell t ty, .tmp t1]) (ht : Nat.blt t n = true) (ht1 : Nat.blt t1 n = true) (hv : f t = .pointer (some ⟨g, 0, none⟩)) (hb : w.heap[g]? = some (.cells cur T fr))
    (hu : P.underlying ty = some D) (hD : (match D with | .struct _ | .array _ _ => true | _ => false) = true) (hi : (P.info? ty).map (·.size) = some cur.size) (hv1 : f t1 = v1) (hR : R (.returned (.tuple #[.agg cur, v1])) w) : bodyPost P fn R .ret (mk n f) w := by
  have hl : (loadCells ⟨g, 0, none⟩ cur.size).run P w = .ok cur w := by
    have := run_loadCells_list (P := P) w ⟨g, 0, none⟩ cur.toList (fun j u hj => by
      rw [addr_add]
      exact blk_cells hb rfl j u hj)
    simpa using this
  have hagg : (isAgg ty).run P w = .ok true w := by
    unfold isAgg
    rw [Sem.run_bind, run_underlying hu w]
    cases D <;> simp_all
  have hr : (results fn (mk n f).tmps).run P w = .ok (.tuple #[.agg cur, v1]) w := by
    cases hq : P.info? ty with
    | none => simp [hq] at hi
    | some i =>
      have hs : i.size = cur.size := by simpa [hq] using hi
      have hg : (mk n f).tmps[t]?.getD undef = .pointer (some ⟨g, 0, none⟩) := by rw [← Array.getD_eq_getD_getElem?, mk_getD ht, hv]
      have hg1 : (mk n f).tmps[t1]?.getD undef = v1 := by rw [← Array.getD_eq_getD_getElem?, mk_getD ht1, hv1]
      simp [results, h, hg, hg1, loadVar, Sem.run_bind, hagg, sizeOf, typeInfo, hq, hs, hl, asAddr]
  exact bodyPost_ret hr rfl hR
end
end Go.Sy
