import Derived.Test.YtdkbfcmekppnmaaGreatDoorY6
import Derived.OrdersHeld
namespace Go.Sy
open Go.Sx
set_option linter.unusedVariables false
set_option linter.unusedSimpArgs false
set_option linter.unusedSectionVars false
section
variable {P : Program} {ops : Array Oper} {Q : Exit → Act → World → Prop} {S : Array Bool → World → Prop}
structure Shut (ops : Array Oper) (L : Array Bool) : Prop where
  size : L.size = ops.size
  need : ∀ j o, ops[j]? = some o → L.getD j false = true → ∀ e ∈ o.after, Region.binds .any e = true → L.getD e.on false = true
def wpX (P : Program) (ops : Array Oper) (Q : Exit → Act → World → Prop) (S : Array Bool → World → Prop) : Nat → Array Bool → Act → World → Prop
  | 0, L, a, w => Region.ready .any ops L = [] ∧ Q .normal a w
  | n + 1, L, a, w => (Region.ready .any ops L = [] → Q .normal a w) ∧
    ∀ i ∈ Region.ready .any ops L, wpOp P ops Q i (fun a' w' => S (L.setIfInBounds i true) w' ∧ wpX P ops Q S n (L.setIfInBounds i true) a' w') a w
theorem wpX_any : ∀ (n : Nat) (L : Array Bool) (a : Act) (w : World), wpX P ops Q S n L a w → wpAny P .any ops Q n L a w
  | 0, _, _, _, h => h
  | n + 1, _, _, _, h => ⟨h.1, fun i hi => wpOp_mono (fun a' w' h' => wpX_any n _ a' w' h'.2) (h.2 i hi)⟩
theorem Shut.set {L : Array Bool} {i : Nat} (h : Shut ops L) (hi : i ∈ Region.ready .any ops L) : Shut ops (L.setIfInBounds i true) := by
  obtain ⟨_, oi, hoi, hall⟩ := mem_ready.1 hi
  refine ⟨by simp [h.size], fun j o hj hl e he hb => ?_⟩
  by_cases hij : i = j
  · subst hij
    have : oi = o := Option.some.inj (hoi.symm.trans hj)
    subst this
    exact getD_set_true (hall e he hb)
  · rw [getD_set_ne false hij] at hl
    exact getD_set_true (h.need j o hj hl e he hb)
theorem unl_need {L : Array Bool} (h : Shut ops L) {i : Nat} (hu : L.getD i true = false) : L.getD i false = false := by
  rcases Nat.lt_or_ge i L.size with h' | h'
  · simp [h'] at hu ⊢; exact hu
  · simp [Array.getElem?_eq_none h']
theorem wpX_first {i : Nat} {oi : Oper} {v : Value} (hi : ops[i]? = some oi) (hsel : ∀ (j : Nat) (o : Oper) cs b, ops[j]? = some o → o.op ≠ .select cs b)
    (hQ : ∀ c a w, Q (.panic c) (a.put oi.dst v) w → Q (.panic c) a w) (hS : ∀ L w, S (L.setIfInBounds i true) w ↔ S L w) :
    ∀ (n : Nat) (L : Array Bool) (a : Act) (w : World), Shut ops L →
      (∀ j oj, ops[j]? = some oj → j ≠ i → L.getD j true = false → (∀ e ∈ oj.after, Region.binds .any e = true → e.on ≠ i) → oi.apart ops oj = true) →
      i ∈ Region.ready .any ops L → YieldsIf P ops (fun w' => ∃ L', Shut ops L' ∧ L'.getD i true = false ∧ S L' w') oi v a → S L w →
      wpX P ops Q S n (L.setIfInBounds i true) (a.put oi.dst v) w → wpX P ops Q S (n + 1) L a w := by
  intro n
  induction n with
  | zero =>
    intro L a w hsh _ hr hy hs H
    refine ⟨fun h => (by rw [h] at hr; cases hr), fun j hj => ?_⟩
    by_cases hji : j = i
    · subst hji
      exact hy.wpOp hi ⟨L, hsh, (mem_ready.1 hr).1, hs⟩ ⟨(hS L w).2 hs, H⟩
    · have := ready_mono hj hji
      rw [H.1] at this
      cases this
  | succ n ih =>
    intro L a w hsh hfree hr hy hs H
    refine ⟨fun h => (by rw [h] at hr; cases hr), fun j hj => ?_⟩
    by_cases hji : j = i
    · subst hji
      exact hy.wpOp hi ⟨L, hsh, (mem_ready.1 hr).1, hs⟩ ⟨(hS L w).2 hs, H⟩
    · have h1 := H.2 j (ready_mono hj hji)
      obtain ⟨hju, oj, hoj, hall⟩ := mem_ready.1 hj
      have hiu := (mem_ready.1 hr).1
      have hno : ∀ e ∈ oj.after, Region.binds .any e = true → e.on ≠ i := fun e he hb heq => by
        have h2 := hall e he hb
        rw [heq, unl_need hsh hiu] at h2
        cases h2
      have h2 := wpOp_putIf hoj (hfree j oj hoj hji hju hno) (fun cs b => hsel i oi cs b hi) (fun cs b => hsel j oj cs b hoj) hQ hy h1
      refine wpOp_mono (fun a' w' h3 => ?_) h2
      obtain ⟨h3, h4, h5⟩ := h3
      rw [Array.setIfInBounds_comm _ _ (Ne.symm hji)] at h4 h5
      have h6 := (hS _ w').1 h4
      refine ⟨h6, ih (L.setIfInBounds j true) a' w' (hsh.set hj) (fun k ok hk hki hun hno' => ?_) (ready_mono hr (Ne.symm hji)) h3 h6 h5⟩
      refine hfree k ok hk hki ?_ hno'
      by_cases hjk : j = k
      · subst hjk; exact hju
      · rw [getD_set_ne true hjk] at hun; exact hun
def reach (ops : Array Oper) : Nat → Nat → Nat → Bool
  | 0, _, _ => false
  | n + 1, f, i => match ops[f]? with
    | some o => o.after.toList.any fun e => Region.binds .any e && (Nat.beq e.on i || reach ops n e.on i)
    | none => false
theorem unl : ∀ (n f i : Nat) {L : Array Bool}, Shut ops L → L.getD i true = false → reach ops n f i = true → L.getD f true = false
  | 0, _, _, _, _, _, h => by cases h
  | n + 1, f, i, L, hs, hu, h => by
    unfold reach at h
    cases ho : ops[f]? with
    | none => simp [ho] at h
    | some o =>
      simp only [ho, List.any_eq_true, Bool.and_eq_true, Bool.or_eq_true] at h
      obtain ⟨e, he, hb, h⟩ := h
      have hf : f < L.size := by rw [hs.size]; exact (Array.getElem?_eq_some_iff.1 ho).1
      have he2 : L.getD e.on true = false := by
        rcases h with h | h
        · rw [Nat.eq_of_beq_eq_true h]; exact hu
        · exact unl n e.on i hs hu h
      cases hl : L.getD f true with
      | false => rfl
      | true =>
        have h2 : L.getD f false = true := by simp [hf] at hl ⊢; exact hl
        have h3 := hs.need f o ho h2 e (by simpa using he) hb
        rw [unl_need hs he2] at h3
        cases h3
def NP (Q : Exit → Act → World → Prop) : Exit → Act → World → Prop
  | .panic _, _, _ => False
  | e, a, w => Q e a w
def okX (ops : Array Oper) (L : Array Bool) (i : Nat) : Bool := Region.noSelect ops && Region.free .any ops L i && (Region.ready .any ops L).contains i
def okE (ops : Array Oper) (L : Array Bool) (i : Nat) : Bool := Region.ready .any ops L == [i]
def okN (ops : Array Oper) (L : Array Bool) : Bool := Region.ready .any ops L == []
variable {P0 : Foot} {H0 H : Hp} {w0 w w' : World} {Fs : List Foot} {n m : Nat} {f : Nat → Value} {o : Oper} {v : Value} {L : Array Bool}
theorem region_mix {id : Nat} {l : List Oper} {a : Act} (hm : P.follows .mixedOrders = true) (T : St P0 H0 w0 Fs H w)
    (h : ∀ w1, St P0 H0 w0 Fs H w1 → Kp Fs w w1 → Shut l.toArray (Array.replicate l.length false) → wpX P l.toArray (NP Q) S l.length (Array.replicate l.length false) a w1) : (Code.region id l.toArray true).wp P Q a w := by
  obtain ⟨a1, b1⟩ := T.still (Chg.drewN w 1)
  have h1 := h _ a1 b1 ⟨by simp, fun j o _ hl => by
    rcases Nat.lt_or_ge j l.length with h' | h'
    · simp [h'] at hl
    · simp [h'] at hl⟩
  have h2 := wpX_any _ _ _ _ h1
  have h3 : (Code.region id l.toArray true).wp P (NP Q) a w := wp_region_any hm (by rw [show l.toArray.size = l.length by simp]; exact h2)
  refine wp_mono h3 (fun e a w q => ?_)
  cases e <;> first | exact q | exact q.elim
theorem xn (hk : okN ops L = true) (h : Q .normal (mk n f) w) : ∀ m, wpX P ops (NP Q) S m L (mk n f) w
  | 0 => ⟨by simpa [okN] using hk, h⟩
  | m + 1 => ⟨fun _ => h, fun i hi => by
    have : Region.ready .any ops L = [] := by simpa [okN] using hk
    rw [this] at hi; cases hi⟩
theorem xv_w {i : Nat} (hi : ops[i]? = some o) (hk : okX ops L i = true) (hS : ∀ L w, S (L.setIfInBounds i true) w ↔ S L w) (hc : Shut ops L) (hs : S L w)
    (hy : YieldsIf P ops (fun w' => ∃ L', Shut ops L' ∧ L'.getD i true = false ∧ S L' w') o v (mk n f))
    (h : Shut ops (L.setIfInBounds i true) → S (L.setIfInBounds i true) w → wpX P ops (NP Q) S m (L.setIfInBounds i true) (mk n (updo f o.dst v)) w) : wpX P ops (NP Q) S (m + 1) L (mk n f) w := by
  simp only [okX, Bool.and_eq_true] at hk
  obtain ⟨⟨h1, h2⟩, h3⟩ := hk
  have hr : i ∈ Region.ready .any ops L := by simpa using h3
  exact wpX_first hi (Region.noSelect_spec h1) (fun _ _ _ h => h) hS m L (mk n f) w hc (Region.free_spec hi h2) hr hy hs (by rw [mk_put]; exact h (hc.set hr) ((hS L w).2 hs))
theorem xv {i d : Nat} (hi : ops[i]? = some o) (hd : o.dst = some d) (hg : o.guard = none) (hf : fits n o = true) (hk : okX ops L i = true) (hS : ∀ L w, S (L.setIfInBounds i true) w ↔ S L w) (hc : Shut ops L) (hs : S L w)
    (hy : ∀ L' w', Shut ops L' → L'.getD i true = false → S L' w' → (execOp (ev f) o).run P w' = .ok (.value v) w')
    (h : Shut ops (L.setIfInBounds i true) → S (L.setIfInBounds i true) w → wpX P ops (NP Q) S m (L.setIfInBounds i true) (mk n (upd f d v)) w) : wpX P ops (NP Q) S (m + 1) L (mk n f) w := by
  refine xv_w hi hk hS hc hs (.inl ⟨wanted_none hg _, fun w' ⟨L', h1, h2, h3⟩ => ?_⟩) (by rw [hd]; exact h)
  rw [exec_ev hf]
  exact hy L' w' h1 h2 h3
theorem xe_w {i : Nat} (hi : ops[i]? = some o) (hw : Region.wanted o (yielded ops (mk n f).tmps) = true) (hk : okE ops L i = true) (hc : Shut ops L)
    (h : Shut ops (L.setIfInBounds i true) → o.wp P (mk n f) w (fun a' w' => S (L.setIfInBounds i true) w' ∧ wpX P ops (NP Q) S m (L.setIfInBounds i true) a' w') (NP Q)) : wpX P ops (NP Q) S (m + 1) L (mk n f) w := by
  have hr : Region.ready .any ops L = [i] := by simpa [okE] using hk
  refine ⟨fun h0 => (by rw [hr] at h0; cases h0), fun j hj => ?_⟩
  rw [hr] at hj
  have hj : j = i := by simpa using hj
  subst hj
  unfold wpOp
  simp only [hi]
  rw [if_pos hw]
  exact .inl (h (hc.set (by rw [hr]; simp)))
theorem xs {i : Nat} {R : World → Prop} (hi : ops[i]? = some o) (hd : o.dst = none) (hg : o.guard = none) (hf : fits n o = true) (hk : okE ops L i = true) (hc : Shut ops L)
    (hr : ∃ w', (execOp (ev f) o).run P w = .ok .skip w' ∧ R w')
    (h : Shut ops (L.setIfInBounds i true) → ∀ w', R w' → S (L.setIfInBounds i true) w' ∧ (S (L.setIfInBounds i true) w' → wpX P ops (NP Q) S m (L.setIfInBounds i true) (mk n f) w')) : wpX P ops (NP Q) S (m + 1) L (mk n f) w := by
  refine xe_w hi (wanted_none hg _) hk hc (fun hc' => ?_)
  obtain ⟨w', hr, hR⟩ := hr
  unfold Oper.wp
  rw [exec_ev hf, hr]
  have := And.intro (h hc' w' hR).1 ((h hc' w' hR).2 (h hc' w' hR).1)
  show _ ∧ wpX P ops (NP Q) S m _ ((mk n f).put o.dst undef) w'
  rw [mk_put, hd]
  exact this
end
section
variable {α : Type} {d : Ty α} {e : TypeId} {H X : Hp} {w : World} {F : Foot} {xs : List α} {A : Option Addr} {cap b : Nat}
theorem Rd.bytesE {xs : List UInt8} (hE : Ext H (hp w)) (h : Rd tByte H A xs) : Bytes w A xs := by
  obtain ⟨_, h2⟩ := h
  refine h2.imp id ?_
  rintro ⟨b, off, inner, rfl, hc, he⟩
  refine ⟨b, off, rfl, fun j u hj => hpx (hE.cell (hc j u ?_))⟩
  rw [elsR_bytes he]; exact hj
end
end Go.Sy
