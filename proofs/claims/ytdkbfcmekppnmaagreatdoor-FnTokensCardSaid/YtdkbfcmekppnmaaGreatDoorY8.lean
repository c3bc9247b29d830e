import Derived.Test.YtdkbfcmekppnmaaGreatDoorY7
import Derived.MapKept
namespace Go.Sy
open Go.Sx
set_option linter.unusedVariables false
set_option linter.unusedSimpArgs false
set_option linter.unusedSectionVars false
section
variable {κ : Type} [DecidableEq κ] {α : Type}
def mget (m : List (κ × α)) (k : κ) : Option α := match m with
  | [] => none
  | p :: m => if p.1 = k then some p.2 else mget m k
def mset (m : List (κ × α)) (k : κ) (x : α) : List (κ × α) := match m with
  | [] => [(k, x)]
  | p :: m => if p.1 = k then (k, x) :: m else p :: mset m k x
structure KeyOK (enc : κ → Value) (D : TypeDesc) : Prop where
  same : ∀ a b, Instr.sameNow D (enc a) (enc b) = some (decide (a = b))
  bits : ∀ a, Instr.sameBits 10000 (enc a) (enc a) = true
  plain : ∀ (P : Program) (w : World) (T : TypeId) (a : κ) (e : Bool), P.underlying T = some D → (Instr.checkKey e 10000 T (enc a)).run P w = .ok () w
def encB : UInt8 → Value := fun b => .int .u8 (b.toNat : Int)
theorem keyB : KeyOK encB (.int .u8) where
  same := fun a b => by
    have : ((a.toNat : Int) == (b.toNat : Int)) = decide (a = b) := by
      by_cases h : a = b
      · simp [h]
      · have h2 : ¬ (a.toNat : Int) = (b.toNat : Int) := fun e => h (UInt8.toNat_inj.1 (by omega))
        simp [h]
        intro e; exact h (UInt8.toNat_inj.1 (by omega))
    simp only [Instr.sameNow, encB, if_true, this]
  bits := fun a => by simp [Instr.sameBits, encB]
  plain := fun P w T a e h => by
    show (Instr.checkKey e (9999 + 1) T (encB a)).run P w = _
    unfold Instr.checkKey
    rw [Sem.run_bind, run_underlying h w]
    rfl
def Es (enc : κ → Value) (d : Ty α) (H : Hp) : List MapEntry → List (κ × α) → Prop
  | [], [] => True
  | e :: es, p :: m => e.key = enc p.1 ∧ d.R H p.2 [e.val] ∧ Es enc d H es m
  | _, _ => False
def Bo (es : List MapEntry) (c : Nat) : Prop := (es.map (·.born)).Nodup ∧ ∀ e, e ∈ es → e.born < c
def MapO (enc : κ → Value) (d : Ty α) (H X : Hp) (g : Nat) (m : List (κ × α)) : Prop := ∃ es clock, X g = some (.map es clock) ∧ Es enc d H es.toList m ∧ Bo es.toList clock
variable {enc : κ → Value} {d : Ty α} {H H' X X' : Hp} {g : Nat} {m : List (κ × α)}
theorem Es.ext (hs : Ext H H') : ∀ {es : List MapEntry} {m : List (κ × α)}, Es enc d H es m → Es enc d H' es m
  | [], [], h => h
  | e :: es, p :: m, ⟨h1, h2, h3⟩ => ⟨h1, d.R_ext hs h2, Es.ext hs h3⟩
  | [], _ :: _, h => h
  | _ :: _, [], h => h
theorem MapO.ext (hs : Ext H H') (h : MapO enc d H X g m) : MapO enc d H' X g m := by
  obtain ⟨es, c, h1, h2, h3⟩ := h
  exact ⟨es, c, h1, h2.ext hs, h3⟩
theorem MapO.move (hs : ∀ b, is g b → X' b = X b) (h : MapO enc d H X g m) : MapO enc d H X' g m := by
  obtain ⟨es, c, h1, h2⟩ := h
  exact ⟨es, c, (hs g rfl).trans h1, h2⟩
theorem find_none {D : TypeDesc} (hk : KeyOK enc D) (k : κ) : ∀ {es : List MapEntry} {m : List (κ × α)} (i : Nat), Es enc d H es m → mget m k = none → Instr.findNow D (enc k) es i = some none
  | [], [], i, _, _ => rfl
  | e :: es, p :: m, i, ⟨h1, h2, h3⟩, hn => by
    unfold mget at hn
    by_cases hp : p.1 = k
    · rw [if_pos hp] at hn; cases hn
    · rw [if_neg hp] at hn
      have : Instr.sameNow D (enc k) e.key = some false := by rw [h1, hk.same]; simp [Ne.symm hp]
      unfold Instr.findNow
      rw [this]
      exact find_none hk k (i + 1) h3 hn
  | [], _ :: _, _, h, _ => h.elim
  | _ :: _, [], _, h, _ => h.elim
theorem find_some {D : TypeDesc} (hk : KeyOK enc D) (k : κ) {x : α} : ∀ {es : List MapEntry} {m : List (κ × α)} (i : Nat), Es enc d H es m → mget m k = some x →
    ∃ j v, Instr.findNow D (enc k) es i = some (some (i + j, v)) ∧ d.R H x [v] ∧ (∃ e, es[j]? = some e ∧ e.key = enc k) ∧
      ∀ y v' e', d.R H y [v'] → e'.key = enc k → e'.val = v' → Es enc d H (es.set j e') (mset m k y)
  | [], [], _, _, h => by cases h
  | e :: es, p :: m, i, ⟨h1, h2, h3⟩, hn => by
    unfold mget at hn
    by_cases hp : p.1 = k
    · rw [if_pos hp] at hn
      injection hn with hn
      subst hn
      have : Instr.sameNow D (enc k) e.key = some true := by rw [h1, hk.same]; simp [hp]
      refine ⟨0, e.val, ?_, h2, ⟨e, rfl, by rw [h1, hp]⟩, fun y v' e' hy he hv => ?_⟩
      · unfold Instr.findNow
        rw [this]; rfl
      · unfold mset
        rw [if_pos hp]
        exact ⟨he, by rw [hv]; exact hy, h3⟩
    · rw [if_neg hp] at hn
      have : Instr.sameNow D (enc k) e.key = some false := by rw [h1, hk.same]; simp [Ne.symm hp]
      obtain ⟨j, v, f1, f2, ⟨e2, f3, f4⟩, f5⟩ := find_some hk k (i + 1) h3 hn
      refine ⟨j + 1, v, ?_, f2, ⟨e2, by simpa using f3, f4⟩, fun y v' e' hy he hv => ?_⟩
      · unfold Instr.findNow
        rw [this]
        show Instr.findNow D (enc k) es (i + 1) = _
        rw [f1]; congr 3; omega
      · unfold mset
        rw [if_neg hp]
        exact ⟨h1, h2, f5 y v' e' hy he hv⟩
  | [], _ :: _, _, h, _ => h.elim
  | _ :: _, [], _, h, _ => h.elim
theorem es_push {k : κ} {y : α} {e' : MapEntry} (hy : d.R H y [e'.val]) (he : e'.key = enc k) : ∀ {es : List MapEntry} {m : List (κ × α)}, Es enc d H es m → mget m k = none → Es enc d H (es ++ [e']) (mset m k y)
  | [], [], _, _ => ⟨he, hy, trivial⟩
  | e :: es, p :: m, ⟨h1, h2, h3⟩, hn => by
    unfold mget at hn
    unfold mset
    by_cases hp : p.1 = k
    · rw [if_pos hp] at hn; cases hn
    · rw [if_neg hp] at hn ⊢
      exact ⟨h1, h2, es_push hy he h3 hn⟩
  | [], _ :: _, h, _ => h.elim
  | _ :: _, [], h, _ => h.elim
end
section
variable {κ : Type} [DecidableEq κ] {α : Type} {enc : κ → Value} {d : Ty α} {P : Program} {P0 F F2 : Foot} {H0 H : Hp} {w0 w w' : World} {Fs : List Foot} {ρ : Operand → Value} {dst : Option Tmp} {T T2 ty kt et : TypeId} {pos : String} {af : Array Edge} {gd : Option (Nat × Bool)} {x y z : Operand} {v u : Value} {D : TypeDesc} {g : Nat} {m : List (κ × α)} {k : κ} {a : α}
theorem e_makeMap (S : St P0 H0 w0 Fs H w) (enc : κ → Value) (d : Ty α) : ∃ u w', (execOp ρ ⟨dst, .makeMap T none, ty, pos, af, gd⟩).run P w = .ok (.value u) w' ∧ ∃ g, u = .map (some g) ∧ MapO enc d H (hp w') g [] ∧ St P0 H0 w0 (is g :: Fs) H w' ∧ Kp Fs w w' := by
  obtain ⟨a, b⟩ := S.alloc (.map #[] 0)
  exact ⟨_, _, rfl, w.heap.size, rfl, ⟨#[], 0, heap_alloc_new w _, trivial, by simp [Bo]⟩, a, b⟩
theorem run_getObj_of {g : Nat} {es : Array MapEntry} {c : Nat} (h : w.heap[g]? = some (.map es c)) : (getObj g).run P w = .ok (.map es c) w := Go.MapKept.run_getObj_map h
theorem run_look {ok : Bool} {r : Option (Nat × Value)} {es : Array MapEntry} {c : Nat} {zv : Value} (hk : KeyOK enc D) (hm : P.underlying T = some (.map kt et)) (hkt : P.underlying kt = some D) (hb : w.heap[g]? = some (.map es c)) (hf : Instr.findNow D (enc k) es.toList 0 = some r)
    (hz : (zeroValue et).run P w = .ok zv w) : (Instr.lookup T (.map (some g)) (enc k) ok).run P w = .ok (match r with
      | some (_, v) => if ok then .tuple #[v, .bool true] else v
      | none => if ok then .tuple #[zv, .bool false] else zv) w := by
  have h1 := hk.plain P w kt k es.isEmpty hkt
  have h2 := Go.MapKept.run_findKey (P := P) (w := w) hkt hf
  unfold Instr.lookup
  rw [Sem.run_bind, run_underlying hm w]
  simp only [Result.andThen, Sem.run_bind, run_getObj_of hb, Sem.run_pure, h1, h2]
  cases r with
  | none => simp only [Sem.run_bind, hz, Result.andThen, Sem.run_pure]
  | some p => simp only [Sem.run_pure, Sem.run_bind, Result.andThen]
theorem run_zero {zv : Value} (hz : (P.info? et).bind (·.zero) = some zv) : (zeroValue et).run P w = .ok zv w := by
  obtain ⟨i, h1, h2⟩ := Option.bind_eq_some_iff.1 hz
  simp [zeroValue, typeInfo, h1, h2]
theorem e_look1_t (h : MapO enc d H (hp w) g m) (hk : KeyOK enc D) (hm : P.underlying T = some (.map kt et)) (hkt : P.underlying kt = some D) (hx : ρ x = .map (some g)) (hy : ρ y = enc k) (hg : mget m k = some a) (zv : Value) (hz : (P.info? et).bind (·.zero) = some zv) :
    ∃ u w', (execOp ρ ⟨dst, .lookup T x y false, ty, pos, af, gd⟩).run P w = .ok (.value u) w' ∧ w = w' ∧ d.R H a [u] := by
  obtain ⟨es, c, hb, he, hB⟩ := h
  obtain ⟨j, v, hf, hr, _⟩ := find_some hk k 0 he hg
  refine ⟨_, w, ?_, rfl, hr⟩
  have := run_look (ok := false) hk hm hkt hb hf (run_zero (P := P) (w := w) hz)
  simp [execOp, hx, hy, this]
theorem e_look1_f (h : MapO enc d H (hp w) g m) (hk : KeyOK enc D) (hm : P.underlying T = some (.map kt et)) (hkt : P.underlying kt = some D) (hx : ρ x = .map (some g)) (hy : ρ y = enc k) (hg : mget m k = none) (zv : Value) (hz : (P.info? et).bind (·.zero) = some zv) :
    (execOp ρ ⟨dst, .lookup T x y false, ty, pos, af, gd⟩).run P w = .ok (.value zv) w := by
  obtain ⟨es, c, hb, he, hB⟩ := h
  have := run_look (ok := false) hk hm hkt hb (find_none hk k 0 he hg) (run_zero (P := P) (w := w) hz)
  simp [execOp, hx, hy, this]
theorem e_look1_s {β : Type} {enc2 : β → Value} {h1 : ∀ x, (enc2 x).oneCell' = true} {m : List (κ × β)} (z0 : β) (h : MapO enc (scal enc2 h1) H (hp w) g m) (hk : KeyOK enc D) (hm : P.underlying T = some (.map kt et)) (hkt : P.underlying kt = some D) (hx : ρ x = .map (some g)) (hy : ρ y = enc k) (hz : (P.info? et).bind (·.zero) = some (enc2 z0)) :
    (execOp ρ ⟨dst, .lookup T x y false, ty, pos, af, gd⟩).run P w = .ok (.value (enc2 ((mget m k).getD z0))) w := by
  cases hg : mget m k with
  | none => exact e_look1_f h hk hm hkt hx hy hg _ hz
  | some a =>
    obtain ⟨u, w', hr, rfl, hR⟩ := e_look1_t (dst := dst) (ty := ty) (pos := pos) (af := af) (gd := gd) h hk hm hkt hx hy hg _ hz
    have : u = enc2 a := List.cons.inj hR |>.1
    rw [this] at hr; exact hr
def setMap (w : World) (g : Nat) (o : Obj) : World := { w with heap := w.heap.setIfInBounds g o }
theorem e_mapUpdate (S : St P0 H0 w0 (is g :: Fs) H w) (h : MapO enc d H (hp w) g m) (hk : KeyOK enc D) (hm : P.underlying T = some (.map kt et)) (hkt : P.underlying kt = some D) (hx : ρ x = .map (some g)) (hy : ρ y = enc k) (hz : ρ z = v) (hv : d.R H a [v]) :
    ∃ w', (execOp ρ ⟨dst, .mapUpdate T x y z, ty, pos, af, gd⟩).run P w = .ok .skip w' ∧ MapO enc d H (hp w') g (mset m k a) ∧ St P0 H0 w0 (is g :: Fs) H w' ∧ Kp Fs w w' := by
  obtain ⟨es, c, hb, he, hB⟩ := h
  have hb' : w.heap[g]? = some (.map es c) := hb
  have hlt := heap_lt hb'
  have key : ∀ o : Obj, (setObj g o).run P w = .ok () (setMap w g o) := fun o => by
    simp [setObj, Sem.run, hb', setMap]
  have chg : ∀ o : Obj, Chg (is g) w (setMap w g o) := fun o => ⟨rfl, rfl, rfl, by simp [setMap], fun b hb hn => by
    simp only [setMap]
    rw [Array.getElem?_setIfInBounds_ne (fun h => hn h.symm)]⟩
  have new : ∀ o : Obj, hp (setMap w g o) g = some o := fun o => by
    simp [hp, setMap, hlt]
  have st : ∀ o : Obj, St P0 H0 w0 (is g :: Fs) H (setMap w g o) ∧ Kp Fs w (setMap w g o) := fun o => S.step (G := is g) (chg o) (fun b hb2 => ⟨by
    have := (S.own (is g) (.head _) b hb2).1
    simpa [setMap] using this, .inl hb2⟩)
  have h1 := hk.plain P w kt k false hkt
  cases hg : mget m k with
  | none =>
    have h2 := Go.MapKept.run_findKey (P := P) (w := w) hkt (find_none hk k 0 he hg)
    refine ⟨setMap w g (.map (es.push { key := enc k, val := v, born := c }) (c + 1)), ?_, ⟨_, _, new _, ?_, ?_⟩, st _⟩
    · have hr : (Instr.mapUpdate T (.map (some g)) (enc k) v).run P w = .ok () (setMap w g (.map (es.push { key := enc k, val := v, born := c }) (c + 1))) := by
        unfold Instr.mapUpdate
        rw [Sem.run_bind, run_underlying hm w]
        simp only [Result.andThen, Sem.run_bind, run_getObj_of hb', h1, h2]
        exact key _
      simp [execOp, hx, hy, hz, hr]
    · rw [Array.toList_push]
      exact es_push (k := k) (e' := { key := enc k, val := v, born := c }) hv rfl he hg
    · rw [Array.toList_push]
      refine ⟨?_, fun e h => ?_⟩
      · rw [List.map_append, List.nodup_append]
        refine ⟨hB.1, by simp, fun a ha b hb2 => ?_⟩
        obtain ⟨e, h1, rfl⟩ := List.mem_map.1 ha
        have h2 : b = c := by simpa using hb2
        have := hB.2 e h1
        omega
      · rcases List.mem_append.1 h with h | h
        · have := hB.2 e h; omega
        · have h2 : e = { key := enc k, val := v, born := c } := by simpa using h
          rw [h2]; show c < c + 1; omega
  | some x0 =>
    obtain ⟨j, v0, hf, hr0, ⟨e0, he0, hek⟩, hset⟩ := find_some hk k 0 he hg
    have h2 := Go.MapKept.run_findKey (P := P) (w := w) hkt hf
    have hje : es[j]? = some e0 := by simpa using he0
    refine ⟨setMap w g (.map (es.modify j fun e => { e with key := enc k, val := v }) c), ?_, ⟨_, _, new _, ?_, ?_⟩, st _⟩
    · have hr : (Instr.mapUpdate T (.map (some g)) (enc k) v).run P w = .ok () (setMap w g (.map (es.modify j fun e => { e with key := enc k, val := v }) c)) := by
        unfold Instr.mapUpdate
        rw [Sem.run_bind, run_underlying hm w]
        simp only [Result.andThen, Sem.run_bind, run_getObj_of hb', h1, h2, Nat.zero_add, hje, Option.map_some, Option.getD_some, Instr.keyThatStays, hek, hk.bits, if_true, Sem.run_pure]
        exact key _
      simp [execOp, hx, hy, hz, hr]
    · have e1 : (es.modify j fun e => { e with key := enc k, val := v }).toList = es.toList.set j { e0 with key := enc k, val := v } := by
        apply List.ext_getElem?
        intro i
        rw [Array.getElem?_toList, Array.getElem?_modify, List.getElem?_set]
        by_cases hij : j = i
        · subst hij
          have hl : j < es.toList.length := (List.getElem?_eq_some_iff.1 he0).1
          rw [if_pos rfl, if_pos rfl, if_pos hl, hje]; rfl
        · rw [if_neg hij, if_neg hij, Array.getElem?_toList]
      rw [e1]
      exact hset a v _ hv rfl rfl
    · have e1 : (es.modify j fun e => { e with key := enc k, val := v }).toList = es.toList.set j { e0 with key := enc k, val := v } := by
        apply List.ext_getElem?
        intro i
        rw [Array.getElem?_toList, Array.getElem?_modify, List.getElem?_set]
        by_cases hij : j = i
        · subst hij
          have hl : j < es.toList.length := (List.getElem?_eq_some_iff.1 he0).1
          rw [if_pos rfl, if_pos rfl, if_pos hl, hje]; rfl
        · rw [if_neg hij, if_neg hij, Array.getElem?_toList]
      rw [e1]
      have hl : j < es.toList.length := (List.getElem?_eq_some_iff.1 he0).1
      have h3 : es.toList[j] = e0 := by
        exact (List.getElem?_eq_some_iff.1 he0).2
      have hm2 : (es.toList.set j { e0 with key := enc k, val := v }).map (·.born) = es.toList.map (·.born) := by
        apply List.ext_getElem?
        intro i
        rw [List.getElem?_map, List.getElem?_map, List.getElem?_set]
        by_cases hij : j = i
        · subst hij
          rw [if_pos rfl, if_pos hl, List.getElem?_eq_getElem hl, h3]; rfl
        · rw [if_neg hij]
      refine ⟨by rw [hm2]; exact hB.1, fun e h => ?_⟩
      have h4 : e.born ∈ (es.toList.set j { e0 with key := enc k, val := v }).map (·.born) := List.mem_map.2 ⟨e, h, rfl⟩
      rw [hm2] at h4
      obtain ⟨e', h5, h6⟩ := List.mem_map.1 h4
      have h7 : e'.born = e.born := h6
      rw [← h7]; exact hB.2 e' h5
end
end Go.Sy
