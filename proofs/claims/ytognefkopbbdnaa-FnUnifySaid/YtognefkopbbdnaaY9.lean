import Derived.Test.YtognefkopbbdnaaY8
namespace Go.Sy
open Go.Sx
set_option linter.unusedVariables false
set_option linter.unusedSimpArgs false
set_option linter.unusedSectionVars false
section
variable {P : Program} {ops : Array Oper} {Q : Exit → Act → World → Prop} {S : Array Bool → World → Prop} {n m : Nat} {f : Nat → Value} {o : Oper} {v : Value} {L : Array Bool} {w : World} {rest : List Oper}
theorem wanted_t {j d : Nat} {b : Bool} (hg : o.guard = some (j, b)) (hj : (ops[j]?).bind (·.dst) = some d) (hd : Nat.blt d n = true) (hb : f d = .bool b) : Region.wanted o (yielded ops (mk n f).tmps) = true := by
  rw [wanted_some hg hj hd hb]; simp
/-! a guarded step that changes the world -/
theorem lveg {d : Nat} {R : Value → World → Prop} (hw : Region.wanted o (yielded ops (mk n f).tmps) = true) (hd : o.dst = some d) (hf : fits n o = true) (hr : ∃ v w', (execOp (ev f) o).run P w = .ok (.value v) w' ∧ R v w') (h : ∀ v w', R v w' → wpList P ops Q rest (mk n (upd f d v)) w') :
    wpList P ops Q (o :: rest) (mk n f) w := by
  obtain ⟨v, w', hr, hR⟩ := hr
  exact lv_w hw hf hr (by rw [hd]; exact h v w' hR)
/-! in a region whose order is open: one of those that may come up -/
def wpX1 (P : Program) (ops : Array Oper) (Q : Exit → Act → World → Prop) (S : Array Bool → World → Prop) (m : Nat) (L : Array Bool) (i : Nat) (a : Act) (w : World) : Prop :=
  Shut ops L → wpOp P ops (NP Q) i (fun a' w' => S (L.setIfInBounds i true) w' ∧ wpX P ops (NP Q) S m (L.setIfInBounds i true) a' w') a w
def okR (ops : Array Oper) (L : Array Bool) (rs : List Nat) : Bool := Region.ready .any ops L == rs
theorem xall (rs : List Nat) {a : Act} (hk : okR ops L rs = true) (hne : rs ≠ []) (hc : Shut ops L) (h : ∀ i ∈ rs, wpX1 P ops Q S m L i a w) : wpX P ops (NP Q) S (m + 1) L a w := by
  have hr : Region.ready .any ops L = rs := by simpa [okR] using hk
  exact ⟨fun h0 => absurd (hr.symm.trans h0) hne, fun i hi => h i (hr ▸ hi) hc⟩
def okI (ops : Array Oper) (L : Array Bool) (i : Nat) : Bool := (Region.ready .any ops L).contains i
theorem y_w {i : Nat} (hi : ops[i]? = some o) (hw : Region.wanted o (yielded ops (mk n f).tmps) = true) (hk : okI ops L i = true)
    (h : Shut ops (L.setIfInBounds i true) → o.wp P (mk n f) w (fun a' w' => S (L.setIfInBounds i true) w' ∧ wpX P ops (NP Q) S m (L.setIfInBounds i true) a' w') (NP Q)) : wpX1 P ops Q S m L i (mk n f) w := by
  intro hc
  have hr : i ∈ Region.ready .any ops L := by simpa [okI] using hk
  unfold wpOp
  simp only [hi]
  rw [if_pos hw]
  exact .inl (h (hc.set hr))
theorem ye {i d : Nat} {R : Value → World → Prop} (hi : ops[i]? = some o) (hd : o.dst = some d) (hw : Region.wanted o (yielded ops (mk n f).tmps) = true) (hf : fits n o = true) (hk : okI ops L i = true)
    (hr : ∃ v w', (execOp (ev f) o).run P w = .ok (.value v) w' ∧ R v w')
    (h : Shut ops (L.setIfInBounds i true) → ∀ v w', R v w' → S (L.setIfInBounds i true) w' ∧ (S (L.setIfInBounds i true) w' → wpX P ops (NP Q) S m (L.setIfInBounds i true) (mk n (upd f d v)) w')) : wpX1 P ops Q S m L i (mk n f) w := by
  refine y_w hi hw hk (fun hc' => ?_)
  obtain ⟨v, w', hr, hR⟩ := hr
  unfold Oper.wp
  rw [exec_ev hf, hr]
  have := And.intro (h hc' v w' hR).1 ((h hc' v w' hR).2 (h hc' v w' hR).1)
  show _ ∧ wpX P ops (NP Q) S m _ ((mk n f).put o.dst v) w'
  rw [mk_put, hd]
  exact this
theorem ys {i : Nat} {R : World → Prop} (hi : ops[i]? = some o) (hd : o.dst = none) (hw : Region.wanted o (yielded ops (mk n f).tmps) = true) (hf : fits n o = true) (hk : okI ops L i = true)
    (hr : ∃ w', (execOp (ev f) o).run P w = .ok .skip w' ∧ R w')
    (h : Shut ops (L.setIfInBounds i true) → ∀ w', R w' → S (L.setIfInBounds i true) w' ∧ (S (L.setIfInBounds i true) w' → wpX P ops (NP Q) S m (L.setIfInBounds i true) (mk n f) w')) : wpX1 P ops Q S m L i (mk n f) w := by
  refine y_w hi hw hk (fun hc' => ?_)
  obtain ⟨w', hr, hR⟩ := hr
  unfold Oper.wp
  rw [exec_ev hf, hr]
  have := And.intro (h hc' w' hR).1 ((h hc' w' hR).2 (h hc' w' hR).1)
  show _ ∧ wpX P ops (NP Q) S m _ ((mk n f).put o.dst undef) w'
  rw [mk_put, hd]
  exact this
theorem yc {i : Nat} {g : FuncId} {args : Array Value} {R : Ending → World → Prop} (hi : ops[i]? = some o) (hw : Region.wanted o (yielded ops (mk n f).tmps) = true) (hf : fits n o = true) (hk : okI ops L i = true)
    (hr : (execOp (ev f) o).run P w = .ok (.enter g args) w) (hC : Calls P g args w R)
    (h : Shut ops (L.setIfInBounds i true) → ∀ e w', R e w' → ∃ v, e = .returned v ∧ S (L.setIfInBounds i true) w' ∧ (S (L.setIfInBounds i true) w' → wpX P ops (NP Q) S m (L.setIfInBounds i true) (mk n (updo f o.dst v)) w')) : wpX1 P ops Q S m L i (mk n f) w := by
  refine y_w hi hw hk (fun hc' => ?_)
  unfold Oper.wp
  rw [exec_ev hf, hr]
  refine hC.mono fun e w' hR => ?_
  obtain ⟨v, rfl, h2⟩ := h hc' e w' hR
  show _ ∧ wpX P ops (NP Q) S m _ ((mk n f).put o.dst v) w'
  rw [mk_put]
  exact ⟨h2.1, h2.2 h2.1⟩
theorem yo {i d : Nat} (hi : ops[i]? = some o) (hd : o.dst = some d) (hw : Region.wanted o (yielded ops (mk n f).tmps) = true) (hf : fits n o = true) (hk : okI ops L i = true) (hS : ∀ L w, S (L.setIfInBounds i true) w ↔ S L w) (hs : S L w)
    (hr : (execOp (ev f) o).run P w = .ok (.value v) w)
    (h : Shut ops (L.setIfInBounds i true) → S (L.setIfInBounds i true) w → wpX P ops (NP Q) S m (L.setIfInBounds i true) (mk n (upd f d v)) w) : wpX1 P ops Q S m L i (mk n f) w :=
  ye (R := fun u w' => u = v ∧ w' = w) hi hd hw hf hk ⟨v, w, hr, rfl, rfl⟩ (fun hc' u w' hR => by
    obtain ⟨rfl, rfl⟩ := hR
    exact ⟨(hS L w').2 hs, h hc'⟩)
theorem xone {i : Nat} {a : Act} (hk : okE ops L i = true) (hc : Shut ops L) (h : wpX1 P ops Q S m L i a w) : wpX P ops (NP Q) S (m + 1) L a w :=
  xall [i] hk (by simp) hc (fun j hj => by
    have : j = i := by simpa using hj
    subst this; exact h)
end
section
variable {P : Program} {w : World} {ρ : Operand → Value} {d : Option Tmp} {ty : TypeId} {pos : String} {af : Array Edge} {gd : Option (Nat × Bool)} {x : Operand}
/-- a call of a function value -/
theorem e_callv {f : FuncId} {fn : Func} {l : List Operand} {ts : Array TypeId} {vs cs : List Value} (hf : P.funcs[f]? = some fn) (hname : (fn.name == "runtime.NumGoroutine") = false) (hb : fn.body.isSome = true) (ha : l.map ρ = vs) (hx : ρ x = .func (.func f) #[] cs.toArray) :
    (execOp ρ ⟨d, .call { callee := .value x, args := l.toArray, argTypes := ts }, ty, pos, af, gd⟩).run P w = .ok (.enter f (vs ++ cs).toArray) w := by
  have h1 : fn.name ≠ "runtime.NumGoroutine" := by simpa using hname
  obtain ⟨c, hc⟩ := Option.isSome_iff_exists.1 hb
  have he : (callFunc f (vs ++ cs).toArray).run P w = .ok (.enter f (vs ++ cs).toArray) w := by simp [callFunc, hf, h1, hc]
  have ha2 : l.toArray.map ρ = vs.toArray := by rw [← ha]; simp
  have ha3 : vs.toArray ++ cs.toArray = (vs ++ cs).toArray := by simp
  unfold execOp
  simp [resolve, Deferred.ofValue, invoke, hx, ha2, ha3, he]
end
section
variable {P : Program} {w : World} {ρ : Operand → Value} {d : Option Tmp} {T T2 ty : TypeId} {pos : String} {af : Array Edge} {gd : Option (Nat × Bool)} {x y : Operand} {k : IntKind} {a b : Int}
theorem some_getD {α : Type} {o : Option α} (h : o.isSome = true) (z : α) : o = some (o.getD z) := by cases o with
  | none => cases h
  | some a => rfl
theorem is_none {α : Type} {o : Option α} (h : ¬ o.isSome = true) : o = none := by cases o with
  | none => rfl
  | some a => exact absurd rfl h
end
end Go.Sy
