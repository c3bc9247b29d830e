import Derived.Test.YtognefkopbbdnaaY15
import Derived.LaidEqlPtr
namespace Go.Sy
open Go.Sx
set_option linter.unusedVariables false
set_option linter.unusedSimpArgs false
set_option linter.unusedSectionVars false
/-! ### interfaces that hold a map; calls through them -/
section
variable {P : Program} {w w' : World} {ρ : Operand → Value} {d : Option Tmp} {T T2 ty : TypeId} {pos : String} {af : Array Edge} {gd : Option (Nat × Bool)} {x y z : Operand} {v u : Value}
theorem e_makeInterface {k e : TypeId} (ht : P.underlying T = some (.map k e)) (hx : ρ x = v) : (execOp ρ ⟨d, .makeInterface T x, ty, pos, af, gd⟩).run P w = .ok (.value (.iface T v)) w := by
  simp [execOp, Instr.makeInterface, run_underlying ht, hx]
theorem e_makeFuncM {n : String} (hx : ρ x = v) : (execOp ρ ⟨d, .makeFunc (.method n) #[x] #[], ty, pos, af, gd⟩).run P w = .ok (.value (.func (.method n) #[v] #[])) w := by
  simp [execOp, Instr.makeFunc, hx]
theorem e_nilCheckM {n : String} {t : TypeId} (hx : ρ x = .func (.method n) #[.iface t v] #[]) (hn : (nilAhead (P.types.size + Made.depth) t v n).run P w = .ok (some false) w) : (execOp ρ ⟨d, .nilCheck x, ty, pos, af, gd⟩).run P w = .ok (.value (.func (.method n) #[.iface t v] #[])) w := by
  simp [execOp, hx, hn]
theorem e_invoke {f : FuncId} {t : TypeId} {n : String} {l : List Operand} {ts : Array TypeId} {vs : List Value} (hx : ρ x = .iface t v) (ha : l.map ρ = vs)
    (hm : (callMethod (.iface t v) n vs.toArray).run P w = .ok (.enter f (v :: vs).toArray) w) :
    (execOp ρ ⟨d, .call { callee := .invoke x n, args := l.toArray, argTypes := ts }, ty, pos, af, gd⟩).run P w = .ok (.enter f (v :: vs).toArray) w := by
  have ha2 : l.toArray.map ρ = vs.toArray := by rw [← ha]; simp
  unfold execOp
  simp [resolve, invoke, hx, ha2]
  simpa using hm
end
end Go.Sy
namespace Go.Sy
open Go.Sx
set_option linter.unusedVariables false
set_option linter.unusedSimpArgs false
/-! ### a set of nodes: a map whose keys are their pointers -/
def encP : Nat → Value := fun g => .pointer (some ⟨g, 0, none⟩)
def Seen (T : TypeId) (H X : Hp) (g : Nat) (ps : List Nat) : Prop := ∃ es c, X g = some (.map es c) ∧ es.toList.map (fun e => (e.key, e.val)) = ps.map (fun p => (encP p, Value.bool true)) ∧ ∀ p, p ∈ ps → ∃ t, NodeR T H t (encP p)
section
variable {T : TypeId} {H H' X X' : Hp} {g : Nat} {ps : List Nat}
theorem Seen.ext (hs : Ext H H') (h : Seen T H X g ps) : Seen T H' X g ps := by
  obtain ⟨es, c, h1, h2, h3⟩ := h
  exact ⟨es, c, h1, h2, fun p hp => by obtain ⟨t, ht⟩ := h3 p hp; exact ⟨t, NodeR.ext' hs ht⟩⟩
theorem Seen.move (hs : ∀ b, is g b → X' b = X b) (h : Seen T H X g ps) : Seen T H X' g ps := by
  obtain ⟨es, c, h1, h2⟩ := h
  exact ⟨es, c, (hs g rfl).trans h1, h2⟩
theorem Seen.of {α : Type} {d : Ty α} (h : MapO encP d H X g ([] : List (Nat × α))) : Seen T H X g [] := by
  obtain ⟨es, c, h1, h2, _⟩ := h
  have h3 : es.toList = [] := by
    generalize es.toList = l at h2
    cases l with
    | nil => rfl
    | cons a b => exact h2.elim
  exact ⟨es, c, h1, by rw [h3]; rfl, by simp⟩
end
section
variable {P : Program} {P0 : Foot} {H0 H : Hp} {w0 w : World} {Fs : List Foot} {ρ : Operand → Value} {dst : Option Tmp} {T M kt te ty : TypeId} {pos : String} {af : Array Edge} {gd : Option (Nat × Bool)} {x y z : Operand} {g p : Nat} {ps : List Nat} {t : Tm}
theorem run_asks {i : TypeInfo} {X0 : Hp} (hp : P.underlying kt = some (.pointer te)) (hte : P.info? te = some i) (hsz : i.size ≠ 0) (hn : ∃ t, NodeR T H t (encP p)) (hi : Ext H X0) (hw : ∀ b, X0 b = w.heap[b]?) : ∀ (es : List MapEntry) (ps : List Nat) (j : Nat), es.map (fun e => (e.key, e.val)) = ps.map (fun p => (encP p, Value.bool true)) → (∀ p, p ∈ ps → ∃ t, NodeR T H t (encP p)) →
    ∃ r, (Instr.findAsking kt (encP p) es j).run P w = .ok r w ∧ ((p ∈ ps ∧ ∃ q, r = some (q, .bool true)) ∨ (p ∉ ps ∧ r = none))
  | [], [], j, _, _ => ⟨none, by simp [Instr.findAsking], .inr ⟨by simp, rfl⟩⟩
  | [], _ :: _, _, h, _ => by simp at h
  | _ :: _, [], _, h, _ => by simp at h
  | e :: es, q :: ps, j, h, hall => by
    have h1 : e.key = encP q ∧ e.val = .bool true := by
      have := (List.cons.inj h).1
      exact ⟨congrArg Prod.fst this, congrArg Prod.snd this⟩
    have h2 := (List.cons.inj h).2
    obtain ⟨r, e1, e2⟩ := run_asks hp hte hsz hn hi hw es ps (j + 1) h2 (fun p hp => hall p (.tail _ hp))
    by_cases hpq : p = q
    · subst hpq
      have e3 : (Op.equal kt (encP p) (encP p)).run P w = .ok true w := by
        have h : ∀ d : Nat, (Op.equalIn (d + 1) kt (encP p) (encP p)).run P w = .ok true w := fun d => by
          simp [encP, Op.equalIn, run_underlying hp, sizeOf, typeInfo, hte, hsz, run_sameAddr_same]
        exact h 9999
      exact ⟨some (j, .bool true), by simp [Instr.findAsking, h1.1, h1.2, e3], .inl ⟨.head _, j, rfl⟩⟩
    · obtain ⟨t1, n1⟩ := hn
      obtain ⟨t2, n2⟩ := hall q (.head _)
      obtain ⟨c1, b1⟩ := node_blk n1
      obtain ⟨c2, b2⟩ := node_blk n2
      have b1' : w.heap[(⟨p, 0, none⟩ : Addr).block]? = some (.cells c1 T (0, 0)) := (hw p).symm.trans (hi _ _ b1)
      have b2' : w.heap[(⟨q, 0, none⟩ : Addr).block]? = some (.cells c2 T (0, 0)) := (hw q).symm.trans (hi _ _ b2)
      have hne : (⟨p, 0, none⟩ : Addr) ≠ ⟨q, 0, none⟩ := fun h => hpq (by injection h)
      have e3 : (Op.equal kt (encP p) (encP q)).run P w = .ok false w := by
        have h : ∀ d : Nat, (Op.equalIn (d + 1) kt (encP p) (encP q)).run P w = .ok false w := fun d => by
          simp [encP, Op.equalIn, run_underlying hp, sizeOf, typeInfo, hte, hsz, run_sameAddr_other w hne b1' b2']
        exact h 9999
      refine ⟨r, by simp [Instr.findAsking, h1.1, e3, e1], ?_⟩
      rcases e2 with ⟨a, b⟩ | ⟨a, b⟩
      · exact .inl ⟨.tail _ a, b⟩
      · exact .inr ⟨fun h => (List.mem_cons.1 h).elim hpq a, b⟩
theorem run_findP {i : TypeInfo} {es : Array MapEntry} (hp : P.underlying kt = some (.pointer te)) (hte : P.info? te = some i) (hsz : i.size ≠ 0) (hn : ∃ t, NodeR T H t (encP p)) (hi : Ext H (Go.Sy.hp w)) (h2 : es.toList.map (fun e => (e.key, e.val)) = ps.map (fun p => (encP p, Value.bool true))) (h3 : ∀ p, p ∈ ps → ∃ t, NodeR T H t (encP p)) :
    ∃ r, (Instr.findKey kt (encP p) es.toList).run P w = .ok r w ∧ ((p ∈ ps ∧ ∃ q, r = some (q, .bool true)) ∨ (p ∉ ps ∧ r = none)) := by
  obtain ⟨r, e1, e2⟩ := run_asks (kt := kt) (p := p) hp hte hsz hn hi (fun _ => rfl) es.toList ps 0 h2 h3
  refine ⟨r, ?_, e2⟩
  unfold Instr.findKey
  rw [Sem.run_bind, run_underlying hp w]
  simp only [Result.andThen]
  cases he : es.toList with
  | nil =>
    rw [he] at e1
    simpa [Instr.findNow, Instr.findAsking] using e1
  | cons a b =>
    rw [he] at e1 h2
    cases ps with
    | nil => simp at h2
    | cons q ps =>
      have h1 : a.key = encP q := congrArg Prod.fst (List.cons.inj h2).1
      have : Instr.findNow (.pointer te) (encP p) (a :: b) 0 = none := by
        unfold Instr.findNow
        rw [h1]; rfl
      rw [this]; exact e1
theorem keyPlain (e : Bool) (hp : P.underlying kt = some (.pointer te)) : (Instr.checkKey e 10000 kt (encP p)).run P w = .ok () w := by
  show (Instr.checkKey e (9999 + 1) kt (encP p)).run P w = _
  unfold Instr.checkKey
  rw [Sem.run_bind, run_underlying hp w]
  rfl
/-- is a node in the set? -/
theorem e_seenP {i : TypeInfo} {et : TypeId} (h : Seen T H (hp w) g ps) (hi : Ext H (hp w)) (hm : P.underlying M = some (.map kt et)) (hk : P.underlying kt = some (.pointer te)) (hte : P.info? te = some i) (hsz : i.size ≠ 0) (hn : NodeR T H t (encP p)) (hx : ρ x = .map (some g)) (hy : ρ y = encP p) (hz : (P.info? et).bind (·.zero) = some (.bool false)) :
    (execOp ρ ⟨dst, .lookup M x y false, ty, pos, af, gd⟩).run P w = .ok (.value (.bool (decide (p ∈ ps)))) w := by
  obtain ⟨es, c, h1, h2, h3⟩ := h
  have hb : w.heap[g]? = some (.map es c) := h1
  obtain ⟨r, e1, e2⟩ := run_findP (w := w) hk hte hsz ⟨t, hn⟩ hi h2 h3
  have e3 : (Instr.lookup M (.map (some g)) (encP p) false).run P w = .ok (.bool (decide (p ∈ ps))) w := by
    unfold Instr.lookup
    rw [Sem.run_bind, run_underlying hm w]
    simp only [Result.andThen, Sem.run_bind, run_getObj_of hb, Sem.run_pure, keyPlain _ hk, e1]
    rcases e2 with ⟨a, q, rfl⟩ | ⟨a, rfl⟩
    · simp [a, Sem.run_bind, Result.andThen]
    · simp [a, run_zero (P := P) (w := w) hz, Sem.run_bind, Result.andThen]
  simp [execOp, hx, hy, e3]
/-- a node put into the set -/
theorem e_markP {i : TypeInfo} {et : TypeId} (S : St P0 H0 w0 (is g :: Fs) H w) (h : Seen T H (hp w) g ps) (hm : P.underlying M = some (.map kt et)) (hk : P.underlying kt = some (.pointer te)) (hte : P.info? te = some i) (hsz : i.size ≠ 0) (hn : NodeR T H t (encP p)) (hnew : p ∉ ps) (hx : ρ x = .map (some g)) (hy : ρ y = encP p) (hz : ρ z = .bool true) :
    ∃ w', (execOp ρ ⟨dst, .mapUpdate M x y z, ty, pos, af, gd⟩).run P w = .ok .skip w' ∧ Seen T H (hp w') g (ps ++ [p]) ∧ St P0 H0 w0 (is g :: Fs) H w' ∧ Kp Fs w w' := by
  obtain ⟨es, c, h1, h2, h3⟩ := h
  have hb : w.heap[g]? = some (.map es c) := h1
  have hlt := heap_lt hb
  obtain ⟨r, e1, e2⟩ := run_findP (w := w) hk hte hsz ⟨t, hn⟩ S.inv h2 h3
  have e2' : r = none := by
    rcases e2 with ⟨a, _⟩ | ⟨_, b⟩
    · exact absurd a hnew
    · exact b
  subst e2'
  have key : ∀ o : Obj, (setObj g o).run P w = .ok () (setMap w g o) := fun o => by
    simp [setObj, Sem.run, hb, setMap]
  have chg : ∀ o : Obj, Chg (is g) w (setMap w g o) := fun o => ⟨rfl, rfl, rfl, by simp [setMap], fun b hb hn => by
    simp only [setMap]
    rw [Array.getElem?_setIfInBounds_ne (fun h => hn h.symm)]⟩
  have new : ∀ o : Obj, hp (setMap w g o) g = some o := fun o => by
    simp [hp, setMap, hlt]
  have st : ∀ o : Obj, St P0 H0 w0 (is g :: Fs) H (setMap w g o) ∧ Kp Fs w (setMap w g o) := fun o => S.step (G := is g) (chg o) (fun b hb2 => ⟨by
    have := (S.own (is g) (.head _) b hb2).1
    simpa [setMap] using this, .inl hb2⟩)
  refine ⟨setMap w g (.map (es.push { key := encP p, val := .bool true, born := c }) (c + 1)), ?_, ⟨_, _, new _, ?_, ?_⟩, st _⟩
  · have hr : (Instr.mapUpdate M (.map (some g)) (encP p) (.bool true)).run P w = .ok () (setMap w g (.map (es.push { key := encP p, val := .bool true, born := c }) (c + 1))) := by
      unfold Instr.mapUpdate
      rw [Sem.run_bind, run_underlying hm w]
      simp only [Result.andThen, Sem.run_bind, run_getObj_of hb, keyPlain _ hk, e1]
      exact key _
    simp [execOp, hx, hy, hz, hr]
  · rw [Array.toList_push, List.map_append, List.map_append, h2]; rfl
  · intro q hq
    rcases List.mem_append.1 hq with hq | hq
    · exact h3 q hq
    · have : q = p := by simpa using hq
      rw [this]; exact ⟨t, hn⟩
end
end Go.Sy
