import Derived.Test.YtdkbfcmekppnmaaGreatDoorY14
import Derived.KernelRfl
namespace Go.Sy
open Go.Sx
set_option linter.unusedVariables false
set_option linter.unusedSimpArgs false
set_option linter.unusedSectionVars false
theorem sj {α : Type} {a b : α} (h : some a = some b) : a = b := Option.some.inj h
theorem kr {p : Prop} (h : p := by kernel_rfl) : p := h
section
variable {P : Program} {Q : Exit → Act → World → Prop} {K : Act → World → Prop} {a : Act} {w : World} {id : Nat} {x y : Code}
theorem tN (h : K a w) : Exit.then K Q .normal a w := h
theorem tE (h : Q (.exit id) a w) : Exit.then K Q (.exit id) a w := h
theorem tR (h : Q .ret a w) : Exit.then K Q .ret a w := h
theorem wQ (h : x.wp P (Exit.then (y.wp P Q) Q) a w) : (Code.seq x y).wp P Q a w := wp_seq h
theorem wT (h : Q .ret a w) : Code.ret.wp P Q a w := wp_ret h
theorem wK (h : Q .normal a w) : Code.skip.wp P Q a w := wp_skip h
end
theorem bT {c : Prop} [Decidable c] {x : Value} (h : c) (he : x = .bool (decide c) := by kernel_rfl) : x = .bool true := bt h he
theorem bF {c : Prop} [Decidable c] {x : Value} (h : ¬ c) (he : x = .bool (decide c) := by kernel_rfl) : x = .bool false := bf h he
section
variable {P : Program} {w w' : World} {ρ : Operand → Value} {d : Option Tmp} {T T2 ty : TypeId} {pos : String} {af : Array Edge} {gd : Option (Nat × Bool)} {x y z : Operand}
theorem eM (v : Value) (hx : ρ x = v := by kernel_rfl) : (execOp ρ ⟨d, .move x, ty, pos, af, gd⟩).run P w = .ok (.value v) w := e_move hx
theorem eA (v : Value) (hx : ρ x = v := by kernel_rfl) : (execOp ρ ⟨d, .assign x, ty, pos, af, gd⟩).run P w = .ok (.value v) w := e_assign hx
theorem eT (v : Value) (hc : ρ z = .bool true := by kernel_rfl) (hx : ρ x = v := by kernel_rfl) : (execOp ρ ⟨d, .pick z x y, ty, pos, af, gd⟩).run P w = .ok (.value v) w := e_pick_t hc hx
theorem eF (v : Value) (hc : ρ z = .bool false := by kernel_rfl) (hx : ρ y = v := by kernel_rfl) : (execOp ρ ⟨d, .pick z x y, ty, pos, af, gd⟩).run P w = .ok (.value v) w := e_pick_f hc hx
theorem eN (ad : Addr) (hx : ρ x = .pointer (some ad) := by kernel_rfl) : (execOp ρ ⟨d, .nilCheck x, ty, pos, af, gd⟩).run P w = .ok (.value (.pointer (some ad))) w := e_nilCheck hx
theorem eAdd (k : IntKind) (a b : Int) (hx : ρ x = .int k a := by kernel_rfl) (hy : ρ y = .int k b := by kernel_rfl) : (execOp ρ ⟨d, .binOp .add T x y T2, ty, pos, af, gd⟩).run P w = .ok (.value (.int k (k.wrap (a + b)))) w := e_add hx hy
theorem eEq (k : IntKind) (a b : Int) (hx : ρ x = .int k a := by kernel_rfl) (hy : ρ y = .int k b := by kernel_rfl) : (execOp ρ ⟨d, .binOp .eql T x y T2, ty, pos, af, gd⟩).run P w = .ok (.value (.bool (decide (a = b)))) w := e_eql hx hy
theorem eNe (k : IntKind) (a b : Int) (hx : ρ x = .int k a := by kernel_rfl) (hy : ρ y = .int k b := by kernel_rfl) : (execOp ρ ⟨d, .binOp .neq T x y T2, ty, pos, af, gd⟩).run P w = .ok (.value (.bool (decide (a ≠ b)))) w := e_neq hx hy
theorem eLt (k : IntKind) (a b : Int) (hx : ρ x = .int k a := by kernel_rfl) (hy : ρ y = .int k b := by kernel_rfl) : (execOp ρ ⟨d, .binOp .lss T x y T2, ty, pos, af, gd⟩).run P w = .ok (.value (.bool (decide (a < b)))) w := e_lss hx hy
theorem eL (ad : Addr) (v : Value) {D : TypeDesc} (ht : P.underlying T = some D) (hc : w.cell? ad = some v) (hx : ρ x = .pointer (some ad) := by kernel_rfl) (hD : (match D with | .struct _ | .array _ _ => false | _ => true) = true := by exact rfl) :
    (execOp ρ ⟨d, .load T x, ty, pos, af, gd⟩).run P w = .ok (.value v) w := e_load1 ht hD hx hc
theorem eD (b off o sz : Nat) {i : Nat} {fs : Array Field} {F : Field} (ht : P.underlying T = some (.struct fs)) (hx : ρ x = .pointer (some ⟨b, off, none⟩) := by kernel_rfl) (hf : fs[i]? = some F := by exact rfl) (ho : F.offset = o := by exact rfl) (hz : (P.info? F.type).map (·.size) = some sz := by kernel_rfl) (h0 : sz ≠ 0 := by decide) :
    (execOp ρ ⟨d, .fieldAddr T x i, ty, pos, af, gd⟩).run P w = .ok (.value (.pointer (some ⟨b, off + o, none⟩))) w := e_fieldAddr ht hf ho hz h0 hx
theorem eI (b off n c sz : Nat) (i : Int) (k : IntKind) {e : TypeId} (ht : P.underlying T = some (.slice e)) {A : Option Addr} (hA : A = some ⟨b, off, none⟩) (h0 : 0 ≤ i) (h1 : i < n) (hz : (P.info? e).map (·.size) = some sz := by kernel_rfl) (hx : ρ x = .slice A n c := by kernel_rfl) (hy : ρ y = .int k i := by kernel_rfl) :
    (execOp ρ ⟨d, .indexAddr T x y, ty, pos, af, gd⟩).run P w = .ok (.value (.pointer (some ⟨b, off + i.toNat * sz, none⟩))) w := e_indexAddr ht hA hz hx hy h0 h1
end
section
variable {P : Program} {P0 F F2 : Foot} {H0 H : Hp} {w0 w w' : World} {Fs : List Foot} {ρ : Operand → Value} {dst : Option Tmp} {T T2 ty e : TypeId} {pos : String} {af : Array Edge} {gd : Option (Nat × Bool)} {x y z : Operand} 
theorem eS (g o : Nat) (v : Value) {cur : Array Value} (cur' : Array Value) {t : TypeId} (vs : List Value) (S : St P0 H0 w0 (is g :: Fs) H w) (hb : w.heap[g]? = some (.cells cur t (0, 0))) (hx : ρ x = .pointer (some ⟨g, o, none⟩) := by kernel_rfl) (hy : ρ y = v := by kernel_rfl) (hv : v.cells.toList = vs := by exact rfl) (hz : (P.info? T).map (·.size) = some vs.length := by kernel_rfl)
    (hl : o + vs.length ≤ cur.size := by exact Nat.le_of_ble_eq_true rfl) (h1 : ∀ u ∈ vs, u.oneCell' = true := by ((repeat refine List.forall_mem_cons.2 ⟨rfl, ?_⟩); exact fun _ h_ => by cases h_)) (hc : (cur.toList.take o ++ vs ++ cur.toList.drop (o + vs.length)).toArray = cur' := by exact rfl) :
    ∃ w', (execOp ρ ⟨dst, .store T x y, ty, pos, af, gd⟩).run P w = .ok .skip w' ∧ w'.heap[g]? = some (.cells cur' t (0, 0)) ∧ St P0 H0 w0 (is g :: Fs) H w' ∧ Kp Fs w w' := e_store S hx hy hv hz hb hl h1 hc
theorem eSa (g o : Nat) {cur : Array Value} {t : TypeId} (vs : List Value) (S : St P0 H0 w0 (is g :: Fs) H w) (hb : w.heap[g]? = some (.cells cur t (0, 0))) (hx : ρ x = .pointer (some ⟨g, o, none⟩) := by kernel_rfl) (hy : ρ y = .agg vs.toArray := by kernel_rfl) (hv : (Value.agg vs.toArray).cells.toList = vs := by exact rfl) (hz : (P.info? T).map (·.size) = some vs.length := by kernel_rfl)
    (hl : o + vs.length ≤ cur.size := by exact Nat.le_of_ble_eq_true rfl) (h1 : ∀ u ∈ vs, u.oneCell' = true := by ((repeat refine List.forall_mem_cons.2 ⟨rfl, ?_⟩); exact fun _ h_ => by cases h_)) (hc : (cur.toList.take o ++ vs ++ cur.toList.drop (o + vs.length)).toArray = vs.toArray := by exact rfl) :
    ∃ w', (execOp ρ ⟨dst, .store T x y, ty, pos, af, gd⟩).run P w = .ok .skip w' ∧ w'.heap[g]? = some (.cells vs.toArray t (0, 0)) ∧ St P0 H0 w0 (is g :: Fs) H w' ∧ Kp Fs w w' := e_store S hx hy hv hz hb hl h1 hc
theorem nB {s : Sem Next} (cs : Array Value) (t : TypeId) (S : St P0 H0 w0 Fs H w) (h : s.run P w = .ok (.value (.pointer (some ⟨w.heap.size, 0, none⟩))) (w.alloc (.cells cs t)) := by kernel_rfl) :
    ∃ u w', s.run P w = .ok (.value u) w' ∧ ∃ g, u = .pointer (some ⟨g, 0, none⟩) ∧ w'.heap[g]? = some (.cells cs t (0, 0)) ∧ St P0 H0 w0 (is g :: Fs) H w' ∧ Kp Fs w w' := new_blk (v := fun g_ => .pointer (some ⟨g_, 0, none⟩)) S h
def pl : List Foot → List Nat → Option (List Foot)
  | Fs, [] => some Fs
  | Fs, i :: is => match Fs[i]? with
    | some F => pl (F :: Fs.eraseIdx i) is
    | none => none
theorem St.pulls (S : St P0 H0 w0 Fs H w) (Fr : List Foot) (l : List Nat) (h : pl Fs l = some Fr) : St P0 H0 w0 Fr H w := by
  induction l generalizing Fs with
  | nil => simp only [pl] at h; injection h with h; subst h; exact S
  | cons i l ih =>
    simp only [pl] at h
    cases hF : Fs[i]? with
    | none => simp [hF] at h
    | some F => rw [hF] at h; exact ih (S.pull i hF rfl) h
end
section
variable {P : Program} {ops : Array Oper} {n : Nat} {f : Nat → Value} {w w' : World} {rest : List Oper} {o : Oper} {v : Value}
section
variable {Q : Exit → Act → World → Prop}
theorem cT {c : Operand} {x y : Code} (hc : ev f c = .bool true) (h : x.wp P Q (mk n f) w) (hf : fitsO n c = true := by exact rfl) : (Code.cond c x y).wp P Q (mk n f) w := cond_t hf hc h
theorem cF {c : Operand} {x y : Code} (hc : ev f c = .bool false) (h : y.wp P Q (mk n f) w) (hf : fitsO n c = true := by exact rfl) : (Code.cond c x y).wp P Q (mk n f) w := cond_f hf hc h
theorem lV (d : Nat) (hr : (execOp (ev f) o).run P w = .ok (.value v) w') (h : wpList P ops Q rest (mk n (upd f d v)) w') (hg : o.guard = none := by exact rfl) (hd : o.dst = some d := by exact rfl) (hf : fits n o = true := by kernel_rfl) :
    wpList P ops Q (o :: rest) (mk n f) w := lv hg hd hf hr h
theorem lG (d t : Nat) {j : Nat} {b : Bool} (hb : f t = .bool b) (hr : (execOp (ev f) o).run P w = .ok (.value v) w') (h : wpList P ops Q rest (mk n (upd f d v)) w')
    (hg : o.guard = some (j, b) := by exact rfl) (hj : (ops[j]?).bind (·.dst) = some t := by kernel_rfl) (ht : Nat.blt t n = true := by exact rfl) (hd : o.dst = some d := by exact rfl) (hf : fits n o = true := by kernel_rfl) : wpList P ops Q (o :: rest) (mk n f) w := lvg hg hj ht hb hd hf hr h
theorem lH (d t : Nat) {j : Nat} {b : Bool} (hr : (execOp (ev f) o).run P w = .ok (.value v) w') (h : wpList P ops Q rest (mk n (upd f d v)) w')
    (hg : o.guard = some (j, b) := by exact rfl) (hb : f t = .bool b := by kernel_rfl) (hj : (ops[j]?).bind (·.dst) = some t := by kernel_rfl) (ht : Nat.blt t n = true := by exact rfl) (hd : o.dst = some d := by exact rfl) (hf : fits n o = true := by kernel_rfl) : wpList P ops Q (o :: rest) (mk n f) w := lvg hg hj ht hb hd hf hr h
theorem lC (d : Nat) {g : FuncId} {args : Array Value} {R : Ending → World → Prop} (hr : (execOp (ev f) o).run P w = .ok (.enter g args) w) (hc : Calls P g args w R)
    (h : ∀ e w', R e w' → ∃ v, e = .returned v ∧ wpList P ops Q rest (mk n (upd f d v)) w') (hg : o.guard = none := by exact rfl) (hd : o.dst = some d := by exact rfl) (hf : fits n o = true := by kernel_rfl) : wpList P ops Q (o :: rest) (mk n f) w := lcall hg hd hf hr hc h
theorem lE {R : World → Prop} (hr : ∃ w', (execOp (ev f) o).run P w = .ok .skip w' ∧ R w') (h : ∀ w', R w' → wpList P ops Q rest (mk n f) w') (hg : o.guard = none := by exact rfl) (hd : o.dst = none := by exact rfl) (hf : fits n o = true := by kernel_rfl) :
    wpList P ops Q (o :: rest) (mk n f) w := lse hg hd hf hr h
end
section
variable {Q : Act → Prop}
theorem sV (d : Nat) (hr : (execOp (ev f) o).run P w = .ok (.value v) w) (h : wpStill P ops w Q rest (mk n (upd f d v))) (hg : o.guard = none := by exact rfl) (hd : o.dst = some d := by exact rfl) (hf : fits n o = true := by kernel_rfl) :
    wpStill P ops w Q (o :: rest) (mk n f) := sv hg hd hf hr h
theorem sG (d t : Nat) {j : Nat} {b : Bool} (hb : f t = .bool b) (hr : (execOp (ev f) o).run P w = .ok (.value v) w) (h : wpStill P ops w Q rest (mk n (upd f d v)))
    (hg : o.guard = some (j, b) := by exact rfl) (hj : (ops[j]?).bind (·.dst) = some t := by kernel_rfl) (ht : Nat.blt t n = true := by exact rfl) (hd : o.dst = some d := by exact rfl) (hf : fits n o = true := by kernel_rfl) : wpStill P ops w Q (o :: rest) (mk n f) := svg hg hj ht hb hd hf hr h
theorem qV (d : Nat) (hr : ∀ w', Chg no w w' → (execOp (ev f) o).run P w' = .ok (.value v) w') (h : wpQuiet P ops (fun w' => Chg no w w') Q rest (mk n (upd f d v))) (hg : o.guard = none := by exact rfl) (hd : o.dst = some d := by exact rfl) (hf : fits n o = true := by kernel_rfl) :
    wpQuiet P ops (fun w' => Chg no w w') Q (o :: rest) (mk n f) := qv hg hd hf hr h
theorem qG (d t : Nat) {j : Nat} {b : Bool} (hb : f t = .bool b) (hr : ∀ w', Chg no w w' → (execOp (ev f) o).run P w' = .ok (.value v) w') (h : wpQuiet P ops (fun w' => Chg no w w') Q rest (mk n (upd f d v)))
    (hg : o.guard = some (j, b) := by exact rfl) (hj : (ops[j]?).bind (·.dst) = some t := by kernel_rfl) (ht : Nat.blt t n = true := by exact rfl) (hd : o.dst = some d := by exact rfl) (hf : fits n o = true := by kernel_rfl) : wpQuiet P ops (fun w' => Chg no w w') Q (o :: rest) (mk n f) := qvg hg hj ht hb hd hf hr h
end
end
section
variable {P : Program} {ops : Array Oper} {Q : Exit → Act → World → Prop} {n m : Nat} {f : Nat → Value} {o : Oper} {v : Value} {L : Array Bool} {w : World} {rest : List Oper} {a : Act}
theorem wR {id : Nat} {l : List Oper} (h : wpList P l.toArray Q l a w) : (Code.region id l.toArray false).wp P Q a w := wp_region_lit h
theorem wN (h : Q .normal a w) : wpList P ops Q [] a w := wpList_nil h
theorem lW (d : Nat) {R : Value → World → Prop} (hr : ∃ v w', (execOp (ev f) o).run P w = .ok (.value v) w' ∧ R v w') (h : ∀ v w', R v w' → wpList P ops Q rest (mk n (upd f d v)) w') (hg : o.guard = none := by exact rfl) (hd : o.dst = some d := by exact rfl) (hf : fits n o = true := by kernel_rfl) :
    wpList P ops Q (o :: rest) (mk n f) w := lve hg hd hf hr h
variable {S : Array Bool → World → Prop}
theorem xW (i d : Nat) (hi : ops[i]? = some o) (hS : ∀ L w, S (L.setIfInBounds i true) w ↔ S L w) (hc : Shut ops L) (hs : S L w)
    (hy : ∀ L' w', Shut ops L' → L'.getD i true = false → S L' w' → (execOp (ev f) o).run P w' = .ok (.value v) w')
    (h : Shut ops (L.setIfInBounds i true) → S (L.setIfInBounds i true) w → wpX P ops (NP Q) S m (L.setIfInBounds i true) (mk n (upd f d v)) w)
    (hd : o.dst = some d := by exact rfl) (hg : o.guard = none := by exact rfl) (hf : fits n o = true := by kernel_rfl) (hk : okX ops L i = true := by kernel_rfl) : wpX P ops (NP Q) S (m + 1) L (mk n f) w := xv hi hd hg hf hk hS hc hs hy h
theorem xV (i d : Nat) (hi : ops[i]? = some o) (hc : Shut ops L) (hs : S L w)
    (hy : ∀ L' w', Shut ops L' → L'.getD i true = false → S L' w' → (execOp (ev f) o).run P w' = .ok (.value v) w')
    (h : Shut ops (L.setIfInBounds i true) → S (L.setIfInBounds i true) w → wpX P ops (NP Q) S m (L.setIfInBounds i true) (mk n (upd f d v)) w)
    (hd : o.dst = some d := by exact rfl) (hg : o.guard = none := by exact rfl) (hf : fits n o = true := by kernel_rfl) (hk : okX ops L i = true := by kernel_rfl) (hS : ∀ L w, S (L.setIfInBounds i true) w ↔ S L w := by exact fun _ _ => Iff.rfl) : wpX P ops (NP Q) S (m + 1) L (mk n f) w := xv hi hd hg hf hk hS hc hs hy h
theorem yE (i d : Nat) (hi : ops[i]? = some o) {R : Value → World → Prop} 
    (hr : ∃ v w', (execOp (ev f) o).run P w = .ok (.value v) w' ∧ R v w')
    (h : Shut ops (L.setIfInBounds i true) → ∀ v w', R v w' → S (L.setIfInBounds i true) w' ∧ (S (L.setIfInBounds i true) w' → wpX P ops (NP Q) S m (L.setIfInBounds i true) (mk n (upd f d v)) w'))
    (hd : o.dst = some d := by exact rfl) (hg : o.guard = none := by exact rfl) (hf : fits n o = true := by kernel_rfl) (hk : okI ops L i = true := by kernel_rfl) : wpX1 P ops Q S m L i (mk n f) w := ye hi hd (wanted_none hg _) hf hk hr h
theorem yS (i : Nat) (hi : ops[i]? = some o) {R : World → Prop} 
    (hr : ∃ w', (execOp (ev f) o).run P w = .ok .skip w' ∧ R w')
    (h : Shut ops (L.setIfInBounds i true) → ∀ w', R w' → S (L.setIfInBounds i true) w' ∧ (S (L.setIfInBounds i true) w' → wpX P ops (NP Q) S m (L.setIfInBounds i true) (mk n f) w'))
    (hd : o.dst = none := by exact rfl) (hg : o.guard = none := by exact rfl) (hf : fits n o = true := by kernel_rfl) (hk : okI ops L i = true := by kernel_rfl) : wpX1 P ops Q S m L i (mk n f) w := ys hi hd (wanted_none hg _) hf hk hr h
theorem yC (i : Nat) (hi : ops[i]? = some o) {g : FuncId} {args : Array Value} {R : Ending → World → Prop} 
    (hr : (execOp (ev f) o).run P w = .ok (.enter g args) w) (hC : Calls P g args w R)
    (h : Shut ops (L.setIfInBounds i true) → ∀ e w', R e w' → ∃ v, e = .returned v ∧ S (L.setIfInBounds i true) w' ∧ (S (L.setIfInBounds i true) w' → wpX P ops (NP Q) S m (L.setIfInBounds i true) (mk n (updo f o.dst v)) w'))
    (hg : o.guard = none := by exact rfl) (hf : fits n o = true := by kernel_rfl) (hk : okI ops L i = true := by kernel_rfl) : wpX1 P ops Q S m L i (mk n f) w := yc hi (wanted_none hg _) hf hk hr hC h
theorem yO (i d : Nat) (hi : ops[i]? = some o) (hs : S L w)
    (hr : (execOp (ev f) o).run P w = .ok (.value v) w)
    (h : Shut ops (L.setIfInBounds i true) → S (L.setIfInBounds i true) w → wpX P ops (NP Q) S m (L.setIfInBounds i true) (mk n (upd f d v)) w)
    (hd : o.dst = some d := by exact rfl) (hg : o.guard = none := by exact rfl) (hf : fits n o = true := by kernel_rfl) (hk : okI ops L i = true := by kernel_rfl) (hS : ∀ L w, S (L.setIfInBounds i true) w ↔ S L w := by exact fun _ _ => Iff.rfl) : wpX1 P ops Q S m L i (mk n f) w :=
  yo hi hd (wanted_none hg _) hf hk hS hs hr h
theorem yP (i d : Nat) (hi : ops[i]? = some o) (hS : ∀ L w, S (L.setIfInBounds i true) w ↔ S L w) (hs : S L w)
    (hr : (execOp (ev f) o).run P w = .ok (.value v) w)
    (h : Shut ops (L.setIfInBounds i true) → S (L.setIfInBounds i true) w → wpX P ops (NP Q) S m (L.setIfInBounds i true) (mk n (upd f d v)) w)
    (hd : o.dst = some d := by exact rfl) (hg : o.guard = none := by exact rfl) (hf : fits n o = true := by kernel_rfl) (hk : okI ops L i = true := by kernel_rfl) : wpX1 P ops Q S m L i (mk n f) w :=
  yo hi hd (wanted_none hg _) hf hk hS hs hr h
theorem xO (i : Nat) (hc : Shut ops L) (h : wpX1 P ops Q S m L i a w) (hk : okE ops L i = true := by kernel_rfl) : wpX P ops (NP Q) S (m + 1) L a w := xone hk hc h
end
end Go.Sy
