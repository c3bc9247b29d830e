import Derived.WalkKit
import Derived.KernelRfl
import Derived.Deep.Quiet
import Derived.Deep.Draws
import Derived.Still
namespace Go.Sx

def upd (f : Nat → Value) (d : Nat) (v : Value) : Nat → Value := fun i => cond (Nat.beq i d) v (f i)
theorem upd_eq (f : Nat → Value) (d : Nat) (v : Value) (i : Nat) : upd f d v i = if i = d then v else f i := by
  unfold upd
  by_cases h : i = d
  · subst h; simp
  · have h2 : Nat.beq i d = false := by cases hb : Nat.beq i d with
      | false => rfl
      | true => exact absurd (Nat.eq_of_beq_eq_true hb) h
    rw [if_neg h, h2]; rfl
def updo (f : Nat → Value) (d : Option Nat) (v : Value) : Nat → Value := match d with | some d => upd f d v | none => f
def mk (n : Nat) (f : Nat → Value) : Act := { tmps := ((List.range n).map f).toArray, defers := [] }
def ini (l : List Value) : Nat → Value := fun i => l.getD i undef

theorem mk_get (n : Nat) (f : Nat → Value) (d : Nat) : (mk n f).tmps[d]? = if d < n then some (f d) else none := by
  simp only [mk, List.getElem?_toArray, List.getElem?_map]
  by_cases h : d < n
  · simp [h]
  · simp [h]
theorem mk_size (n : Nat) (f : Nat → Value) : (mk n f).tmps.size = n := by simp [mk]

theorem mk_put (n : Nat) (f : Nat → Value) (d : Option Nat) (v : Value) : (mk n f).put d v = mk n (updo f d v) := by
  cases d with
  | none => rfl
  | some d =>
    have h : ((mk n f).put (some d) v).tmps = (mk n (upd f d v)).tmps := by
      apply Array.ext_getElem?
      intro i
      simp only [Act.put]
      rw [Array.getElem?_setIfInBounds, mk_get, mk_get, mk_size]
      by_cases h1 : d = i
      · subst h1
        by_cases h2 : d < n <;> simp [h2, upd_eq]
      · have h3 : ¬ i = d := fun h => h1 h.symm
        by_cases h2 : i < n <;> simp [h1, h2, h3, upd_eq]
    show Act.mk ((mk n f).put (some d) v).tmps [] = Act.mk (mk n (upd f d v)).tmps []
    rw [h]

def ev (f : Nat → Value) : Operand → Value
  | .tmp t => f t
  | .const v => v
  | .global g => .pointer (some ⟨g, 0, none⟩)
  | .func g => .func (.func g) #[] #[]
def fitsO (n : Nat) : Operand → Bool
  | .tmp t => Nat.blt t n
  | _ => true
def fits (n : Nat) (o : Oper) : Bool := (match o.op with | .select _ _ => false | _ => true) && o.op.operands.toList.all (fitsO n)

theorem mk_eval (n : Nat) (f : Nat → Value) (x : Operand) (h : fitsO n x = true) : (mk n f).eval x = ev f x := by
  cases x with
  | tmp t =>
    have ht : t < n := by simpa [fitsO, Nat.blt_eq] using h
    simp only [Act.eval, ev]
    rw [Array.getD_eq_getD_getElem?, mk_get, if_pos ht]
    rfl
  | _ => rfl
theorem exec_ev {n : Nat} {f : Nat → Value} {o : Oper} (h : fits n o = true) : execOp (mk n f).eval o = execOp (ev f) o := by
  simp only [fits, Bool.and_eq_true, List.all_eq_true] at h
  refine execOp_congr o (fun cs b hh => ?_) (fun x hx => mk_eval n f x (h.2 x (by simpa using hx)))
  have h1 := h.1
  rw [hh] at h1
  cases h1

theorem init_eq (l : List Value) (n : Nat) (h : l.length ≤ n) : l.toArray ++ Array.replicate (n - l.toArray.size) undef = ((List.range n).map (ini l)).toArray := by
  apply Array.ext_getElem?
  intro i
  have h2 : (((List.range n).map (ini l)).toArray)[i]? = if i < n then some (ini l i) else none := mk_get n (ini l) i
  rw [h2]
  by_cases h1 : i < l.length
  · have h3 : i < n := by omega
    rw [Array.getElem?_append_left (by simpa using h1)]
    simp [h1, h3, ini]
  · rw [Array.getElem?_append_right (by simpa using h1)]
    by_cases h3 : i < n
    · rw [if_pos h3, Array.getElem?_replicate]
      have : i - l.toArray.size < n - l.toArray.size := by simp; omega
      rw [if_pos this]
      simp [ini, List.getD_eq_getElem?_getD, List.getElem?_eq_none (show l.length ≤ i by omega)]
    · rw [if_neg h3, Array.getElem?_replicate, if_neg (by simp; omega)]

theorem enter {P : Program} {f : FuncId} {fn : Func} {c : Code} {l : List Value} {w : World} {R : Ending → World → Prop} (n : Nat)
    (hf : P.funcs[f]? = some fn) (hb : fn.body = some c) (hn : fn.ntmps = n) (hl : Nat.ble l.length n = true)
    (h : c.wp P (bodyPost P fn R) (mk n (ini l)) w) : Calls P f l.toArray w R := by
  refine calls_of_wp hf hb ?_
  subst hn
  rw [init_eq l fn.ntmps (Nat.le_of_ble_eq_true hl)]
  exact h

section
variable {P : Program} {Q : Exit → Act → World → Prop} {K : Act → World → Prop} {a : Act} {w : World} {id id' : Nat}
theorem inb_n (h : Q .normal a w) : Exit.inBlock id Q .normal a w := h
theorem inb_r (h : Q .ret a w) : Exit.inBlock id Q .ret a w := h
theorem inb_hit (h : Q .normal a w) : Exit.inBlock id Q (.exit id) a w := by simpa [Exit.inBlock] using h
theorem inb_miss (hne : Nat.beq id' id = false) (h : Q (.exit id') a w) : Exit.inBlock id Q (.exit id') a w := by
  have : ¬ id' = id := fun e => by subst e; simp at hne
  simpa [Exit.inBlock, this] using h
end

theorem wp_loop_g {P : Program} {Q : Exit → Act → World → Prop} {c : Code} {a : Act} {w : World} (I : Nat → Act → World → Prop) (k : Nat) (h0 : I k a w)
    (round : ∀ k a w, I k a w → c.wp P (Exit.then (fun a' w' => ∃ k', k' < k ∧ I k' a' w') Q) a w) : (Code.loop c).wp P Q a w := by
  intro b ks cs
  have key : ∀ k a w, I k a w → ∃ e a' w', Q e a' w' ∧ Arrives P (lone (b.at a (.code c :: .inLoop c :: ks)) cs w) b ks cs e a' w' := by
    intro k
    induction k using Nat.strongRecOn with
    | _ k ih =>
      intro a w hI
      obtain ⟨e, a₁, w₁, hq, harr⟩ := round k a w hI b (.inLoop c :: ks) cs
      cases e with
      | normal =>
        obtain ⟨k', hlt, hI₁⟩ := hq
        obtain ⟨e₂, a₂, w₂, hq₂, harr₂⟩ := ih k' hlt a₁ w₁ hI₁
        exact ⟨e₂, a₂, w₂, hq₂, .of_steps (Steps.trans harr (.one step_inLoop)) harr₂⟩
      | exit id => exact ⟨_, a₁, w₁, hq, .pass (x := .inLoop c) rfl (fun _ _ => .inl (by simp)) harr⟩
      | goto l => exact ⟨_, a₁, w₁, hq, .pass (x := .inLoop c) rfl (fun _ _ => .inl (by simp)) harr⟩
      | ret => exact ⟨_, a₁, w₁, hq, .pass (x := .inLoop c) rfl (fun _ _ => .inl (by simp)) harr⟩
      | panic ch => exact ⟨_, a₁, w₁, hq, .pass (x := .inLoop c) rfl (fun _ _ => .inl (by simp)) harr⟩
      | outgrown => exact ⟨_, a₁, w₁, hq, .pass (x := .inLoop c) rfl (fun _ _ => .inl (by simp)) harr⟩
  obtain ⟨e, a', w', hq, harr⟩ := key k a w h0
  exact ⟨e, a', w', hq, .of_steps (.one step_loop) harr⟩

theorem wp_seq_cut {P : Program} {Q : Exit → Act → World → Prop} {x y : Code} {a : Act} {w : World} (I : Act → World → Prop)
    (h1 : x.wp P (Exit.then I Q) a w) (h2 : ∀ a w, I a w → y.wp P Q a w) : (Code.seq x y).wp P Q a w := by
  refine wp_seq (wp_mono h1 fun e a w q => ?_)
  cases e <;> first | exact h2 _ _ q | exact q

theorem cond_t {P : Program} {Q : Exit → Act → World → Prop} {n : Nat} {f : Nat → Value} {w : World} {c : Operand} {x y : Code} (hf : fitsO n c = true) (hc : ev f c = .bool true) (h : x.wp P Q (mk n f) w) : (Code.cond c x y).wp P Q (mk n f) w :=
  wp_cond_true ((mk_eval n f c hf).trans hc) h
theorem cond_f {P : Program} {Q : Exit → Act → World → Prop} {n : Nat} {f : Nat → Value} {w : World} {c : Operand} {x y : Code} (hf : fitsO n c = true) (hc : ev f c = .bool false) (h : y.wp P Q (mk n f) w) : (Code.cond c x y).wp P Q (mk n f) w :=
  wp_cond_false ((mk_eval n f c hf).trans hc) h

section
variable {P : Program} {ops : Array Oper} {Q : Exit → Act → World → Prop} {n : Nat} {f : Nat → Value} {w w' : World} {rest : List Oper} {o : Oper} {v : Value}

theorem wanted_none (hg : o.guard = none) (y : Nat → Option Bool) : Region.wanted o y = true := by simp [Region.wanted, hg]
theorem wanted_some {j d : Nat} {b c : Bool} (hg : o.guard = some (j, b)) (hj : (ops[j]?).bind (·.dst) = some d) (hd : Nat.blt d n = true) (hb : f d = .bool c) :
    Region.wanted o (yielded ops (mk n f).tmps) = (c == b) := by
  have hd' : d < n := by simpa [Nat.blt_eq] using hd
  simp only [Region.wanted, hg, yielded, hj, Option.bind_some]
  rw [mk_get, if_pos hd', hb]
  cases c <;> cases b <;> rfl

theorem lv_w (hw : Region.wanted o (yielded ops (mk n f).tmps) = true) (hf : fits n o = true) (hr : (execOp (ev f) o).run P w = .ok (.value v) w') (h : wpList P ops Q rest (mk n (updo f o.dst v)) w') :
    wpList P ops Q (o :: rest) (mk n f) w := by
  unfold wpList
  rw [if_pos hw]
  refine .inl ?_
  unfold Oper.wp
  rw [exec_ev hf, hr]
  show wpList P ops Q rest ((mk n f).put o.dst v) w'
  rw [mk_put]
  exact h
theorem lv {d : Nat} (hg : o.guard = none) (hd : o.dst = some d) (hf : fits n o = true) (hr : (execOp (ev f) o).run P w = .ok (.value v) w') (h : wpList P ops Q rest (mk n (upd f d v)) w') :
    wpList P ops Q (o :: rest) (mk n f) w := lv_w (wanted_none hg _) hf hr (by rw [hd]; exact h)
theorem lvg {d j t : Nat} {b : Bool} (hg : o.guard = some (j, b)) (hj : (ops[j]?).bind (·.dst) = some t) (ht : Nat.blt t n = true) (hb : f t = .bool b) (hd : o.dst = some d) (hf : fits n o = true) (hr : (execOp (ev f) o).run P w = .ok (.value v) w')
    (h : wpList P ops Q rest (mk n (upd f d v)) w') : wpList P ops Q (o :: rest) (mk n f) w := lv_w (by rw [wanted_some hg hj ht hb]; simp) hf hr (by rw [hd]; exact h)
theorem ls (hg : o.guard = none) (hd : o.dst = none) (hf : fits n o = true) (hr : (execOp (ev f) o).run P w = .ok .skip w') (h : wpList P ops Q rest (mk n f) w') :
    wpList P ops Q (o :: rest) (mk n f) w := by
  unfold wpList
  rw [if_pos (wanted_none hg _)]
  refine .inl ?_
  unfold Oper.wp
  rw [exec_ev hf, hr]
  show wpList P ops Q rest ((mk n f).put o.dst undef) w'
  rw [hd]
  exact h
theorem lcall_w {g : FuncId} {args : Array Value} {R : Ending → World → Prop} (hw : Region.wanted o (yielded ops (mk n f).tmps) = true) (hf : fits n o = true)
    (hr : (execOp (ev f) o).run P w = .ok (.enter g args) w) (hc : Calls P g args w R)
    (h : ∀ e w', R e w' → ∃ v, e = .returned v ∧ wpList P ops Q rest (mk n (updo f o.dst v)) w') : wpList P ops Q (o :: rest) (mk n f) w := by
  unfold wpList
  rw [if_pos hw]
  refine .inl ?_
  unfold Oper.wp
  rw [exec_ev hf, hr]
  refine hc.mono fun e w' hR => ?_
  obtain ⟨v, rfl, h'⟩ := h e w' hR
  show wpList P ops Q rest ((mk n f).put o.dst v) w'
  rw [mk_put]
  exact h'
theorem lcall {d : Nat} {g : FuncId} {args : Array Value} {R : Ending → World → Prop} (hg : o.guard = none) (hd : o.dst = some d) (hf : fits n o = true)
    (hr : (execOp (ev f) o).run P w = .ok (.enter g args) w) (hc : Calls P g args w R)
    (h : ∀ e w', R e w' → ∃ v, e = .returned v ∧ wpList P ops Q rest (mk n (upd f d v)) w') : wpList P ops Q (o :: rest) (mk n f) w := lcall_w (wanted_none hg _) hf hr hc (by rw [hd]; exact h)
theorem lcallg {d j t : Nat} {b : Bool} {g : FuncId} {args : Array Value} {R : Ending → World → Prop} (hg : o.guard = some (j, b)) (hj : (ops[j]?).bind (·.dst) = some t) (ht : Nat.blt t n = true) (hb : f t = .bool b) (hd : o.dst = some d) (hf : fits n o = true)
    (hr : (execOp (ev f) o).run P w = .ok (.enter g args) w) (hc : Calls P g args w R)
    (h : ∀ e w', R e w' → ∃ v, e = .returned v ∧ wpList P ops Q rest (mk n (upd f d v)) w') : wpList P ops Q (o :: rest) (mk n f) w := lcall_w (by rw [wanted_some hg hj ht hb]; simp) hf hr hc (by rw [hd]; exact h)
end

theorem bt {c : Prop} [Decidable c] {x : Value} (h : c) (he : x = .bool (decide c)) : x = .bool true := by rw [he, decide_eq_true h]
theorem bf {c : Prop} [Decidable c] {x : Value} (h : ¬ c) (he : x = .bool (decide c)) : x = .bool false := by rw [he, decide_eq_false h]
theorem bvt {t : Bool} {x : Value} (h : t = true) (he : x = .bool t) : x = .bool true := by rw [he, h]
theorem bvf {t : Bool} {x : Value} (h : ¬ t = true) (he : x = .bool t) : x = .bool false := by rw [he]; cases t <;> simp_all

theorem ifp {γ : Type} {c : Prop} [Decidable c] {a b : Option γ} {r : γ} (h : c) (H : (if c then a else b) = some r) : a = some r := by rwa [if_pos h] at H
theorem chk {γ : Type} {c : Prop} [Decidable c] {a : Option γ} {r : γ} (H : (if c then a else none) = some r) : c ∧ a = some r := by
  by_cases h : c
  · exact ⟨h, ifp h H⟩
  · rw [if_neg h] at H; cases H
theorem bnd {γ δ : Type} {o : Option γ} {f : γ → Option δ} {r : δ} (H : o.bind f = some r) : ∃ t, o = some t ∧ f t = some r := Option.bind_eq_some_iff.1 H

section
variable {P : Program} {fn : Func} {R : Ending → World → Prop} {n : Nat} {f : Nat → Value} {w : World} {v v1 v2 : Value} {t t1 t2 : Tmp}
theorem mk_getD {t : Nat} (ht : Nat.blt t n = true) : (mk n f).tmps.getD t undef = f t := by
  have : t < n := by simpa [Nat.blt_eq] using ht
  rw [Array.getD_eq_getD_getElem?, mk_get, if_pos this]; rfl
theorem ret1 (h : fn.results = #[.tmp t]) (ht : Nat.blt t n = true) (hv : f t = v) (hR : R (.returned v) w) : bodyPost P fn R .ret (mk n f) w :=
  bodyPost_ret (results_tmp h _ P w) rfl (by rw [mk_getD ht, hv]; exact hR)
theorem ret2 (h : fn.results = #[.tmp t, .tmp t1]) (ht : Nat.blt t n = true) (ht1 : Nat.blt t1 n = true) (hv : f t = v) (hv1 : f t1 = v1) (hR : R (.returned (.tuple #[v, v1])) w) : bodyPost P fn R .ret (mk n f) w :=
  bodyPost_ret (results_tmp2 h _ P w) rfl (by rw [mk_getD ht, mk_getD ht1, hv, hv1]; exact hR)
theorem results_tmp3' {fn : Func} {t u x : Tmp} (h : fn.results = #[.tmp t, .tmp u, .tmp x]) (tmps : Array Value) (P : Program) (w : World) :
    (results fn tmps).run P w = .ok (.tuple #[tmps.getD t undef, tmps.getD u undef, tmps.getD x undef]) w := by
  simp [results, h]
theorem ret3 (h : fn.results = #[.tmp t, .tmp t1, .tmp t2]) (ht : Nat.blt t n = true) (ht1 : Nat.blt t1 n = true) (ht2 : Nat.blt t2 n = true) (hv : f t = v) (hv1 : f t1 = v1) (hv2 : f t2 = v2) (hR : R (.returned (.tuple #[v, v1, v2])) w) : bodyPost P fn R .ret (mk n f) w :=
  bodyPost_ret (results_tmp3' h _ P w) rfl (by rw [mk_getD ht, mk_getD ht1, mk_getD ht2, hv, hv1, hv2]; exact hR)
theorem ret0 (h : fn.results = #[]) (hR : R (.returned (.tuple #[])) w) : bodyPost P fn R .ret (mk n f) w := bodyPost_ret (results_none h _ P w) rfl hR
theorem end0 (h : fn.results = #[]) (hR : R (.returned (.tuple #[])) w) : bodyPost P fn R .normal (mk n f) w := bodyPost_end (results_none h _ P w) rfl hR
end

end Go.Sx
