import Derived.Test.YtdkbfcmekppnmaaGreatDoorY15
namespace Go.Sy
open Go.Sx
set_option linter.unusedVariables false
set_option linter.unusedSimpArgs false
set_option linter.unusedSectionVars false
theorem upd_self {f : Nat → Value} {t : Nat} {v : Value} (h : f t = v) : upd f t v = f := by
  funext i
  rw [upd_eq]
  by_cases hi : i = t
  · rw [if_pos hi, hi, h]
  · rw [if_neg hi]
theorem hdc {F G : Nat → Value} {t : Nat} {v : Value} (hG : G = F) (h : F t = v) : upd G t v = F := by subst hG; exact upd_self h
theorem hdw {n : Nat} {F G : Nat → Value} (h : G = F) : mk n F = mk n G := by rw [h]
def kn : List (Nat × Bool) → Nat → Value → Option Bool
  | [], _, v => match v with
    | .bool c => some c
    | _ => none
  | p :: fa, t, v => cond (Nat.beq p.1 t) (some p.2) (kn fa t v)
def isU (v : Value) : Bool := match v with
  | .tuple vs => match vs.toList with
    | [] => true
    | _ => false
  | _ => false
def beqB (a b : Bool) : Bool := match a, b with
  | true, true => true
  | false, false => true
  | _, _ => false
section
variable (P : Program) (ops : Array Oper) (n : Nat)
def gd (fa : List (Nat × Bool)) (f : Nat → Value) (o : Oper) : Option Bool :=
  match o.guard with
  | none => some true
  | some (j, b) => match (ops[j]?).bind (·.dst) with
    | none => none
    | some t => cond (Nat.blt t n) (cond (isU (f t)) (some false) (match kn fa t (f t) with
      | some c => some (beqB c b)
      | none => none)) none
def pk (fa : List (Nat × Bool)) (f : Nat → Value) (o : Oper) : Option Value :=
  match o.op with
  | .pick (.tmp z) x y => match kn fa z (f z) with
    | some true => some (ev f x)
    | some false => some (ev f y)
    | none => none
  | _ => none
def dropK : List (Nat × Bool) → Nat → List (Nat × Bool)
  | [], _ => []
  | p :: fa, d => cond (Nat.beq p.1 d) (dropK fa d) (p :: dropK fa d)
def goS (w : World) : Nat → List Oper → List (Nat × Bool) → (Nat → Value) → Option ((Nat → Value) × List World)
  | 0, _, _, f => some (f, [])
  | _ + 1, [], _, _ => none
  | m + 1, o :: l, fa, f => match o.dst with
    | none => none
    | some d => match gd ops n fa f o with
      | none => none
      | some false => goS w m l (dropK fa d) (upd f d undef)
      | some true => match fits n o with
        | false => none
        | true => match pk fa f o with
          | some v => goS w m l (dropK fa d) (upd f d v)
          | none => match (execOp (ev f) o).run P w with
            | .ok (.value v) w' => match goS w m l (dropK fa d) (upd f d v) with
              | some q => some (q.1, w' :: q.2)
              | none => none
            | _ => none
def runS (w : World) (m : Nat) (l : List Oper) (fa : List (Nat × Bool)) (f : Nat → Value) : Nat → Value := match goS P ops n w m l fa f with
  | some q => q.1
  | none => f
def wsS (w : World) (m : Nat) (l : List Oper) (fa : List (Nat × Bool)) (f : Nat → Value) : Option (List World) := match goS P ops n w m l fa f with
  | some q => some q.2
  | none => none
end
def KN (fa : List (Nat × Bool)) (f : Nat → Value) : Prop := ∀ p, p ∈ fa → f p.1 = .bool p.2
theorem kn_val {fa : List (Nat × Bool)} {f : Nat → Value} (h : KN fa f) {t : Nat} {c : Bool} (e : kn fa t (f t) = some c) : f t = .bool c := by
  induction fa with
  | nil =>
    unfold kn at e
    split at e
    · rename_i h2; injection e with e; rw [h2, e]
    · cases e
  | cons p fa ih =>
    unfold kn at e
    cases hb : Nat.beq p.1 t with
    | true =>
      rw [hb] at e
      have ht := Nat.eq_of_beq_eq_true hb
      have := h p (.head _)
      rw [ht] at this
      injection e with e
      rw [this, e]
    | false => rw [hb] at e; exact ih (fun q hq => h q (.tail _ hq)) e
theorem isU_val {v : Value} (h : isU v = true) : v = undef := by
  unfold isU at h
  split at h
  · split at h
    · rename_i vs h2
      unfold undef
      congr 1
      exact Array.toList_inj.1 (by rw [h2])
    · cases h
  · cases h
theorem beqB_eq (a b : Bool) : beqB a b = (a == b) := by cases a <;> cases b <;> rfl
theorem kn_drop {fa : List (Nat × Bool)} {f : Nat → Value} (h : KN fa f) (d : Nat) (v : Value) : KN (dropK fa d) (upd f d v) := by
  induction fa with
  | nil => exact fun p hp => by cases hp
  | cons q fa ih =>
    have ih := ih fun p hp => h p (.tail _ hp)
    unfold dropK
    cases hb : Nat.beq q.1 d with
    | true => exact ih
    | false =>
      intro p hp
      rcases List.mem_cons.1 hp with rfl | hp
      · rw [upd_eq, if_neg (fun e => by rw [e] at hb; simp at hb)]
        exact h p (.head _)
      · exact ih p hp
section
variable {P : Program} {ops : Array Oper} {n : Nat} {fa : List (Nat × Bool)} {f : Nat → Value} {w w' : World} {o : Oper} {v : Value}
theorem gd_val (h : KN fa f) {b : Bool} (e : gd ops n fa f o = some b) : Region.wanted o (yielded ops (mk n f).tmps) = b := by
  unfold gd at e
  split at e
  · rename_i hg; injection e with e; rw [wanted_none hg, e]
  · rename_i j b' hg
    split at e
    · cases e
    · rename_i t hj
      cases hl : Nat.blt t n with
      | false => rw [hl] at e; cases e
      | true =>
        rw [hl] at e
        cases hu : isU (f t) with
        | true =>
          rw [hu] at e
          injection e with e
          rw [wanted_undef hg hj hl (isU_val hu), e]
        | false =>
          rw [hu] at e
          simp only [cond_true, cond_false] at e
          split at e
          · rename_i c hc
            injection e with e
            rw [wanted_some hg hj hl (kn_val h hc), ← beqB_eq, e]
          · cases e
theorem pk_val (h : KN fa f) (e : pk fa f o = some v) : (execOp (ev f) o).run P w = .ok (.value v) w := by
  obtain ⟨dst, op, ty, pos, af, gd⟩ := o
  unfold pk at e
  split at e
  · rename_i z x y ho
    have ho : op = .pick (.tmp z) x y := ho
    subst ho
    split at e
    · rename_i hk
      injection e with e
      exact e_pick_t (show ev f (.tmp z) = _ from kn_val h hk) e
    · rename_i hk
      injection e with e
      exact e_pick_f (show ev f (.tmp z) = _ from kn_val h hk) e
    · cases e
  · cases e
end
section
variable {P : Program} {ops : Array Oper} {n : Nat}
theorem goS_run (w : World) : ∀ (m : Nat) (l : List Oper) (fa : List (Nat × Bool)) (f : Nat → Value) (f' : Nat → Value) (ws : List World) (R : List Oper → (Nat → Value) → Prop), KN fa f → goS P ops n w m l fa f = some (f', ws) → ws = List.replicate ws.length w →
    (∀ o l f v, Region.wanted o (yielded ops (mk n f).tmps) = true → fits n o = true → (execOp (ev f) o).run P w = .ok (.value v) w → R l (updo f o.dst v) → R (o :: l) f) →
    (∀ o l f, Region.wanted o (yielded ops (mk n f).tmps) = false → R l (updo f o.dst undef) → R (o :: l) f) → R (l.drop m) f' → R l f := by
  intro m
  induction m with
  | zero =>
    intro l fa f f' ws R hk h hw h1 h2 h3
    simp only [goS] at h
    injection h with h
    injection h with ha hb
    subst ha
    exact h3
  | succ m ih =>
    intro l fa f f' ws R hk h hw h1 h2 h3
    cases l with
    | nil => simp only [goS] at h; cases h
    | cons o l =>
      rw [goS] at h
      split at h
      · cases h
      · rename_i d hd
        have hup : ∀ v, updo f o.dst v = upd f d v := fun v => by rw [hd]; rfl
        split at h
        · cases h
        · rename_i hg
          refine h2 o l f (gd_val hk hg) ?_
          rw [hup]
          exact ih l _ _ f' ws R (kn_drop hk d undef) h hw h1 h2 h3
        · rename_i hg
          split at h
          · cases h
          · rename_i hf
            split at h
            · rename_i v hv
              refine h1 o l f v (gd_val hk hg) hf (pk_val hk hv) ?_
              rw [hup]
              exact ih l _ _ f' ws R (kn_drop hk d v) h hw h1 h2 h3
            · split at h
              · rename_i v w2 hr
                split at h
                · rename_i q hq
                  injection h with h
                  injection h with ha hb
                  subst ha; subst hb
                  rw [List.length_cons, List.replicate_succ] at hw
                  obtain ⟨e1, e2⟩ := List.cons.inj hw
                  subst e1
                  refine h1 o l f v (gd_val hk hg) hf hr ?_
                  rw [hup]
                  exact ih l _ _ q.1 q.2 R (kn_drop hk d v) hq e2 h1 h2 h3
                · cases h
              · cases h
end
section
variable {P : Program} {ops : Array Oper} {n : Nat} {l : List Oper} {f : Nat → Value} {w : World}
theorem goS_w {m : Nat} {fa : List (Nat × Bool)} (h : wsS P ops n w m l fa f = some (List.replicate ((wsS P ops n w m l fa f).getD []).length w)) : ∃ ws, goS P ops n w m l fa f = some (runS P ops n w m l fa f, ws) ∧ ws = List.replicate ws.length w := by
  unfold wsS at h
  unfold runS
  cases e : goS P ops n w m l fa f with
  | none => rw [e] at h; cases h
  | some q =>
    rw [e] at h
    injection h with h
    exact ⟨q.2, rfl, by rw [h]; simp⟩
theorem lPs {Q : Exit → Act → World → Prop} (m : Nat) (fa : List (Nat × Bool)) (hk : KN fa f) (h : wsS P ops n w m l fa f = some (List.replicate ((wsS P ops n w m l fa f).getD []).length w)) (k : wpList P ops Q (l.drop m) (mk n (runS P ops n w m l fa f)) w) : wpList P ops Q l (mk n f) w := by
  obtain ⟨ws, e1, e2⟩ := goS_w h
  refine goS_run w m l fa f _ ws (fun l f => wpList P ops Q l (mk n f) w) hk e1 e2 (fun o l f v hw hf hr h => lv_w hw hf hr h) (fun o l f hw h => ?_) k
  unfold wpList
  rw [if_neg (by rw [hw]; simp), mk_put]
  exact h
theorem sPs {Q : Act → Prop} (m : Nat) (fa : List (Nat × Bool)) (hk : KN fa f) (h : wsS P ops n w m l fa f = some (List.replicate ((wsS P ops n w m l fa f).getD []).length w)) (k : wpStill P ops w Q (l.drop m) (mk n (runS P ops n w m l fa f))) : wpStill P ops w Q l (mk n f) := by
  obtain ⟨ws, e1, e2⟩ := goS_w h
  refine goS_run w m l fa f _ ws (fun l f => wpStill P ops w Q l (mk n f)) hk e1 e2 (fun o l f v hw hf hr h => still_w hw hf hr h) (fun o l f hw h => ?_) k
  unfold wpStill
  rw [if_neg (by rw [hw]; simp), mk_put]
  exact h
theorem kn0 : KN [] f := fun p hp => by cases hp
theorem kn1 {t : Nat} {b : Bool} (h : f t = .bool b) {fa : List (Nat × Bool)} (hk : KN fa f) : KN ((t, b) :: fa) f := fun p hp => by
  rcases List.mem_cons.1 hp with rfl | hp
  · exact h
  · exact hk p hp
theorem lP {Q : Exit → Act → World → Prop} (m : Nat) (k : wpList P ops Q (l.drop m) (mk n (runS P ops n w m l [] f)) w) (h : wsS P ops n w m l [] f = some (List.replicate ((wsS P ops n w m l [] f).getD []).length w) := by kernel_rfl) : wpList P ops Q l (mk n f) w := lPs m _ kn0 h k
theorem lP1 {Q : Exit → Act → World → Prop} (m : Nat) (t0 : Nat) {b0 : Bool} (h0 : f t0 = .bool b0) (k : wpList P ops Q (l.drop m) (mk n (runS P ops n w m l [(t0, b0)] f)) w) (h : wsS P ops n w m l [(t0, b0)] f = some (List.replicate ((wsS P ops n w m l [(t0, b0)] f).getD []).length w) := by kernel_rfl) : wpList P ops Q l (mk n f) w := lPs m _ (kn1 h0 kn0) h k
theorem lP2 {Q : Exit → Act → World → Prop} (m : Nat) (t0 : Nat) {b0 : Bool} (h0 : f t0 = .bool b0) (t1 : Nat) {b1 : Bool} (h1 : f t1 = .bool b1) (k : wpList P ops Q (l.drop m) (mk n (runS P ops n w m l [(t0, b0), (t1, b1)] f)) w) (h : wsS P ops n w m l [(t0, b0), (t1, b1)] f = some (List.replicate ((wsS P ops n w m l [(t0, b0), (t1, b1)] f).getD []).length w) := by kernel_rfl) : wpList P ops Q l (mk n f) w := lPs m _ (kn1 h0 (kn1 h1 kn0)) h k
theorem lP3 {Q : Exit → Act → World → Prop} (m : Nat) (t0 : Nat) {b0 : Bool} (h0 : f t0 = .bool b0) (t1 : Nat) {b1 : Bool} (h1 : f t1 = .bool b1) (t2 : Nat) {b2 : Bool} (h2 : f t2 = .bool b2) (k : wpList P ops Q (l.drop m) (mk n (runS P ops n w m l [(t0, b0), (t1, b1), (t2, b2)] f)) w) (h : wsS P ops n w m l [(t0, b0), (t1, b1), (t2, b2)] f = some (List.replicate ((wsS P ops n w m l [(t0, b0), (t1, b1), (t2, b2)] f).getD []).length w) := by kernel_rfl) : wpList P ops Q l (mk n f) w := lPs m _ (kn1 h0 (kn1 h1 (kn1 h2 kn0))) h k
theorem sP {Q : Act → Prop} (m : Nat) (k : wpStill P ops w Q (l.drop m) (mk n (runS P ops n w m l [] f))) (h : wsS P ops n w m l [] f = some (List.replicate ((wsS P ops n w m l [] f).getD []).length w) := by kernel_rfl) : wpStill P ops w Q l (mk n f) := sPs m _ kn0 h k
theorem sP1 {Q : Act → Prop} (m : Nat) (t0 : Nat) {b0 : Bool} (h0 : f t0 = .bool b0) (k : wpStill P ops w Q (l.drop m) (mk n (runS P ops n w m l [(t0, b0)] f))) (h : wsS P ops n w m l [(t0, b0)] f = some (List.replicate ((wsS P ops n w m l [(t0, b0)] f).getD []).length w) := by kernel_rfl) : wpStill P ops w Q l (mk n f) := sPs m _ (kn1 h0 kn0) h k
theorem sP2 {Q : Act → Prop} (m : Nat) (t0 : Nat) {b0 : Bool} (h0 : f t0 = .bool b0) (t1 : Nat) {b1 : Bool} (h1 : f t1 = .bool b1) (k : wpStill P ops w Q (l.drop m) (mk n (runS P ops n w m l [(t0, b0), (t1, b1)] f))) (h : wsS P ops n w m l [(t0, b0), (t1, b1)] f = some (List.replicate ((wsS P ops n w m l [(t0, b0), (t1, b1)] f).getD []).length w) := by kernel_rfl) : wpStill P ops w Q l (mk n f) := sPs m _ (kn1 h0 (kn1 h1 kn0)) h k
end
section
variable {P : Program} {ops : Array Oper} {n : Nat}
def vsS (P : Program) (ops : Array Oper) (n : Nat) (w : World) : Nat → List Oper → List (Nat × Bool) → (Nat → Value) → List Value
  | 0, _, _, _ => []
  | _ + 1, [], _, _ => []
  | m + 1, o :: l, fa, f => match o.dst with
    | none => []
    | some d => match gd ops n fa f o with
      | none => []
      | some false => vsS P ops n w m l (dropK fa d) (upd f d undef)
      | some true => match pk fa f o with
          | some v => vsS P ops n w m l (dropK fa d) (upd f d v)
          | none => match (execOp (ev f) o).run P w with
            | .ok (.value v) _ => v :: vsS P ops n w m l (dropK fa d) (upd f d v)
            | _ => []
theorem goS_f {w : World} {m : Nat} {o : Oper} {l : List Oper} {fa : List (Nat × Bool)} {f : Nat → Value} {d : Nat} (hd : o.dst = some d) (hg : gd ops n fa f o = some false) : goS P ops n w (m + 1) (o :: l) fa f = goS P ops n w m l (dropK fa d) (upd f d undef) := by
  rw [goS, hd]; simp only [hg]
theorem goS_p {w : World} {m : Nat} {o : Oper} {l : List Oper} {fa : List (Nat × Bool)} {f : Nat → Value} {d : Nat} {v : Value} (hd : o.dst = some d) (hg : gd ops n fa f o = some true) (hf : fits n o = true) (hp : pk fa f o = some v) : goS P ops n w (m + 1) (o :: l) fa f = goS P ops n w m l (dropK fa d) (upd f d v) := by
  rw [goS, hd]; simp only [hg, hf, hp]
theorem goS_v {w w' : World} {m : Nat} {o : Oper} {l : List Oper} {fa : List (Nat × Bool)} {f f' : Nat → Value} {d : Nat} {v : Value} {ws : List World} (hd : o.dst = some d) (hg : gd ops n fa f o = some true) (hf : fits n o = true) (hp : pk fa f o = none) (hr : (execOp (ev f) o).run P w = .ok (.value v) w') (h : goS P ops n w m l (dropK fa d) (upd f d v) = some (f', ws)) : goS P ops n w (m + 1) (o :: l) fa f = some (f', w' :: ws) := by
  rw [goS, hd]; simp only [hg, hf, hp, hr, h]
theorem goQ_run (w : World) (C : World → Prop) (hC : C w) : ∀ (m : Nat) (l : List Oper) (fa : List (Nat × Bool)) (f : Nat → Value) (V : List Value) (R : List Oper → (Nat → Value) → Prop), KN fa f →
    (∀ w', C w' → ∃ f' ws, goS P ops n w' m l fa f = some (f', ws) ∧ ws = List.replicate ws.length w' ∧ vsS P ops n w' m l fa f = V) →
    (∀ o l f v, Region.wanted o (yielded ops (mk n f).tmps) = true → fits n o = true → (∀ w', C w' → (execOp (ev f) o).run P w' = .ok (.value v) w') → R l (updo f o.dst v) → R (o :: l) f) →
    (∀ o l f, Region.wanted o (yielded ops (mk n f).tmps) = false → R l (updo f o.dst undef) → R (o :: l) f) → R (l.drop m) (runS P ops n w m l fa f) → R l f := by
  intro m
  induction m with
  | zero =>
    intro l fa f V R hk H h1 h2 h3
    exact h3
  | succ m ih =>
    intro l fa f V R hk H h1 h2 h3
    cases l with
    | nil => obtain ⟨f', ws, e, _⟩ := H w hC; simp only [goS] at e; cases e
    | cons o l =>
      cases hd : o.dst with
      | none => obtain ⟨f', ws, e, _⟩ := H w hC; rw [goS, hd] at e; cases e
      | some d =>
        have hup : ∀ v, updo f o.dst v = upd f d v := fun v => by rw [hd]; rfl
        cases hg : gd ops n fa f o with
        | none => obtain ⟨f', ws, e, _⟩ := H w hC; rw [goS, hd] at e; simp only [hg] at e; cases e
        | some b =>
          cases b with
          | false =>
            refine h2 o l f (gd_val hk hg) ?_
            rw [hup]
            refine ih l _ _ V R (kn_drop hk d undef) (fun w' hw' => ?_) h1 h2 ?_
            · obtain ⟨f', ws, e, e2, e3⟩ := H w' hw'
              rw [goS, hd] at e; simp only [hg] at e
              rw [vsS, hd] at e3; simp only [hg] at e3
              exact ⟨f', ws, e, e2, e3⟩
            · have : runS P ops n w (m + 1) (o :: l) fa f = runS P ops n w m l (dropK fa d) (upd f d undef) := by obtain ⟨f0, ws0, e0, _⟩ := H w hC; rw [goS_f hd hg] at e0; unfold runS; rw [goS_f hd hg, e0]
              rw [← this]; exact h3
          | true =>
            cases hf : fits n o with
            | false => obtain ⟨f', ws, e, _⟩ := H w hC; rw [goS, hd] at e; simp only [hg, hf] at e; cases e
            | true =>
              cases hp : pk fa f o with
              | some v =>
                refine h1 o l f v (gd_val hk hg) hf (fun w' _ => pk_val hk hp) ?_
                rw [hup]
                refine ih l _ _ V R (kn_drop hk d v) (fun w' hw' => ?_) h1 h2 ?_
                · obtain ⟨f', ws, e, e2, e3⟩ := H w' hw'
                  rw [goS, hd] at e; simp only [hg, hf, hp] at e
                  rw [vsS, hd] at e3; simp only [hg, hp] at e3
                  exact ⟨f', ws, e, e2, e3⟩
                · have : runS P ops n w (m + 1) (o :: l) fa f = runS P ops n w m l (dropK fa d) (upd f d v) := by obtain ⟨f0, ws0, e0, _⟩ := H w hC; rw [goS_p hd hg hf hp] at e0; unfold runS; rw [goS_p hd hg hf hp, e0]
                  rw [← this]; exact h3
              | none =>
                have one : ∀ w', C w' → ∃ v f' ws, (execOp (ev f) o).run P w' = .ok (.value v) w' ∧ goS P ops n w' m l (dropK fa d) (upd f d v) = some (f', ws) ∧ ws = List.replicate ws.length w' ∧ V = v :: vsS P ops n w' m l (dropK fa d) (upd f d v) := by
                  intro w' hw'
                  obtain ⟨f', ws, e, e2, e3⟩ := H w' hw'
                  rw [goS, hd] at e; simp only [hg, hf, hp] at e
                  rw [vsS, hd] at e3; simp only [hg, hp] at e3
                  split at e
                  · rename_i v w2 hr
                    rw [hr] at e3
                    split at e
                    · rename_i q hq
                      injection e with e
                      injection e with ea eb
                      subst ea; subst eb
                      rw [List.length_cons, List.replicate_succ] at e2
                      obtain ⟨x1, x2⟩ := List.cons.inj e2
                      subst x1
                      exact ⟨v, q.1, q.2, hr, hq, x2, e3.symm⟩
                    · cases e
                  · cases e
                obtain ⟨v, f0, ws0, r0, g0, x0, y0⟩ := one w hC
                refine h1 o l f v (gd_val hk hg) hf (fun w' hw' => ?_) ?_
                · obtain ⟨v', f', ws, r, g, x, y⟩ := one w' hw'
                  have : v = v' := (List.cons.inj (y0.symm.trans y)).1
                  rw [this]; exact r
                · rw [hup]
                  refine ih l _ _ (vsS P ops n w m l (dropK fa d) (upd f d v)) R (kn_drop hk d v) (fun w' hw' => ?_) h1 h2 ?_
                  · obtain ⟨v', f', ws, r, g, x, y⟩ := one w' hw'
                    have z := List.cons.inj (y0.symm.trans y)
                    have : v = v' := z.1
                    subst this
                    exact ⟨f', ws, g, x, z.2.symm⟩
                  · have : runS P ops n w (m + 1) (o :: l) fa f = runS P ops n w m l (dropK fa d) (upd f d v) := by unfold runS; rw [goS_v hd hg hf hp r0 g0, g0]
                    rw [← this]; exact h3
theorem qPs {Q : Act → Prop} {l : List Oper} {f : Nat → Value} {w : World} (m : Nat) (fa : List (Nat × Bool)) (hk : KN fa f) (h : ∀ w', wsS P ops n w' m l fa f = some (List.replicate ((wsS P ops n w' m l fa f).getD []).length w')) (h2 : ∀ w', vsS P ops n w' m l fa f = vsS P ops n w m l fa f) (k : wpQuiet P ops (fun w' => Chg no w w') Q (l.drop m) (mk n (runS P ops n w m l fa f))) : wpQuiet P ops (fun w' => Chg no w w') Q l (mk n f) := by
  refine goQ_run w (fun w' => Chg no w w') (Chg.refl _ _) m l fa f (vsS P ops n w m l fa f) (fun l f => wpQuiet P ops (fun w' => Chg no w w') Q l (mk n f)) hk (fun w' hw' => ?_) (fun o l f v hw hf hr h => quiet_w hw hf hr h) (fun o l f hw h => ?_) k
  · obtain ⟨ws, e1, e2⟩ := goS_w (h w')
    exact ⟨_, ws, e1, e2, h2 w'⟩
  · unfold wpQuiet
    rw [if_neg (by rw [hw]; simp), mk_put]
    exact h
theorem qP {Q : Act → Prop} {l : List Oper} {f : Nat → Value} {w : World} (m : Nat) (k : wpQuiet P ops (fun w' => Chg no w w') Q (l.drop m) (mk n (runS P ops n w m l [] f))) (h : ∀ w', wsS P ops n w' m l [] f = some (List.replicate ((wsS P ops n w' m l [] f).getD []).length w') := by intro w_; kernel_rfl) (hv : ∀ w', vsS P ops n w' m l [] f = vsS P ops n w m l [] f := by intro w_; kernel_rfl) : wpQuiet P ops (fun w' => Chg no w w') Q l (mk n f) := qPs m _ kn0 h hv k
theorem qP1 {Q : Act → Prop} {l : List Oper} {f : Nat → Value} {w : World} (m : Nat) (t0 : Nat) {b0 : Bool} (h0 : f t0 = .bool b0) (k : wpQuiet P ops (fun w' => Chg no w w') Q (l.drop m) (mk n (runS P ops n w m l [(t0, b0)] f))) (h : ∀ w', wsS P ops n w' m l [(t0, b0)] f = some (List.replicate ((wsS P ops n w' m l [(t0, b0)] f).getD []).length w') := by intro w_; kernel_rfl) (hv : ∀ w', vsS P ops n w' m l [(t0, b0)] f = vsS P ops n w m l [(t0, b0)] f := by intro w_; kernel_rfl) : wpQuiet P ops (fun w' => Chg no w w') Q l (mk n f) := qPs m _ (kn1 h0 kn0) h hv k
end
section
variable {α : Type} {c : Prop} [Decidable c] {a b r : Option α}
theorem ifc (M : (if c then a else b) = r) : (c ∧ a = r) ∨ (¬ c ∧ b = r) := by
  by_cases h : c
  · rw [if_pos h] at M; exact .inl ⟨h, M⟩
  · rw [if_neg h] at M; exact .inr ⟨h, M⟩
theorem ifd (M : (if c then a else b) = r) : (¬ c ∧ b = r) ∨ (c ∧ a = r) := (ifc M).symm
end
def capV (v : Value) : Nat := match v with
  | .slice _ _ c => c
  | _ => 0
def kindV (v : Value) : IntKind := match v with
  | .int k _ => k
  | _ => .i64
def eszT (P : Program) (e : TypeId) : Nat := ((P.info? e).map (·.size)).getD 0
def cellAt (cur : Array Value) (i : Nat) : Value := (cur[i]?).getD undef
def nAgg (o : Option TypeDesc) : Bool := match o with
  | some (.struct _) => false
  | some (.array _ _) => false
  | some _ => true
  | none => false
theorem nAgg_val {o : Option TypeDesc} (h : nAgg o = true) : ∃ D, o = some D ∧ (match D with | .struct _ | .array _ _ => false | _ => true) = true := by
  unfold nAgg at h
  split at h
  · cases h
  · cases h
  · rename_i D h1 h2
    refine ⟨D, rfl, ?_⟩
    cases D <;> first | rfl | exact absurd rfl (h1 _) | exact absurd rfl (h2 _ _)
  · cases h
section
variable {P : Program} {w : World} {ρ : Operand → Value} {d : Option Tmp} {T ty : TypeId} {pos : String} {af : Array Edge} {gd : Option (Nat × Bool)} {x y : Operand}
theorem eK {ad : Addr} {v : Value} {D : TypeDesc} (ht : P.underlying T = some D) (hc : w.cell? ad = some v) (hx : ρ x = .pointer (some ad) := by kernel_rfl) (hD : (match D with | .struct _ | .array _ _ => false | _ => true) = true := by exact rfl) :
    (execOp ρ ⟨d, .load T x, ty, pos, af, gd⟩).run P w = .ok (.value v) w := e_load1 ht hD hx hc
theorem eB (i : Nat) {g : Nat} {cur : Array Value} {t : TypeId} {fr : Nat × Nat} (hb : w.heap[g]? = some (.cells cur t fr)) (hc : cur[i]? = some (cellAt cur i) := by kernel_rfl) (hx : ρ x = .pointer (some ⟨g, 0 + i, none⟩) := by kernel_rfl) (hD : nAgg (P.underlying T) = true := by kernel_rfl) :
    (execOp ρ ⟨d, .load T x, ty, pos, af, gd⟩).run P w = .ok (.value (cellAt cur i)) w := by
  obtain ⟨D, h1, h2⟩ := nAgg_val hD
  have hw : w.cell? ⟨g, 0 + i, none⟩ = some (cellAt cur i) := by rw [Nat.zero_add]; exact blk_cell hb hc
  cases D <;> first | exact e_load1 h1 rfl hx hw | cases h2
theorem eJ {b off n : Nat} {i : Int} {e : TypeId} (ht : P.underlying T = some (.slice e)) {A : Option Addr} (hA : A = some ⟨b, off, none⟩) (h0 : 0 ≤ i) (h1 : i < n) (hz : (P.info? e).map (·.size) = some (eszT P e) := by kernel_rfl) (hx : ρ x = .slice A n (capV (ρ x)) := by kernel_rfl) (hy : ρ y = .int (kindV (ρ y)) i := by kernel_rfl) :
    (execOp ρ ⟨d, .indexAddr T x y, ty, pos, af, gd⟩).run P w = .ok (.value (.pointer (some ⟨b, off + i.toNat * eszT P e, none⟩))) w := e_indexAddr ht hA hz hx hy h0 h1
theorem eE {l : List Operand} {vs : List Value} {f : FuncId} {fn : Func} {ts : Array TypeId} (hf : P.funcs[f]? = some fn) (hname : (fn.name == "runtime.NumGoroutine") = false := by kernel_rfl) (hb : fn.body.isSome = true := by exact rfl) (ha : l.map ρ = vs := by kernel_rfl) (hρ : ρ (.func f) = .func (.func f) #[] #[] := by exact rfl) :
    (execOp ρ ⟨d, .call { callee := .value (.func f), args := l.toArray, argTypes := ts }, ty, pos, af, gd⟩).run P w = .ok (.enter f vs.toArray) w := e_call hf hname hb ha hρ
end
section
variable {Fs : List Foot} {w w' : World} {F : Foot}
theorem Kp.a (K : Kp Fs w w') (i : Nat) (h : Fs[i]? = some F := by exact rfl) : ∀ b, F b → hp w' b = hp w b := K.at i h
theorem Kp.b {g : Nat} {o : Obj} (K : Kp Fs w w') (i : Nat) (hb : w.heap[g]? = some o) (h : Fs[i]? = some (is g) := by exact rfl) : w'.heap[g]? = some o := K.blk i h hb
end
end Go.Sy
