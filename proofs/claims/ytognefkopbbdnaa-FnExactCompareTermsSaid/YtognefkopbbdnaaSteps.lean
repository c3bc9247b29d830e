import Derived.Test.YtognefkopbbdnaaWrow
namespace Go.Sx
set_option linter.unusedVariables false
section
variable {P : Program} {ops : Array Oper} {Q : Exit → Act → World → Prop} {n : Nat} {f : Nat → Value} {w w' : World} {rest : List Oper} {o : Oper} {v : Value} {C : World → Prop}

/-! ### regions whose order is open, nothing of which changes the world -/
theorem region_still {id : Nat} {l : List Oper} {a : Act} (hm : P.follows .mixedOrders = true) (hB : Region.lexB .any l.toArray = true)
    (h : ∀ w1, Chg [] w w1 → w1.heap = w.heap → wpStill P l.toArray w1 (fun a' => Q .normal a' w1) l a) : (Code.region id l.toArray true).wp P Q a w :=
  wp_region_still_lit hm hB (h _ (Chg.drewN w 1) rfl)
theorem still_w {Q : Act → Prop} (hw : Region.wanted o (yielded ops (mk n f).tmps) = true) (hf : fits n o = true) (hr : (execOp (ev f) o).run P w = .ok (.value v) w) (h : wpStill P ops w Q rest (mk n (updo f o.dst v))) :
    wpStill P ops w Q (o :: rest) (mk n f) := by
  unfold wpStill
  rw [if_pos hw]
  unfold Oper.still
  rw [exec_ev hf, hr, Oper.stillUpon_value, mk_put]
  exact h
theorem sv {Q : Act → Prop} {d : Nat} (hg : o.guard = none) (hd : o.dst = some d) (hf : fits n o = true) (hr : (execOp (ev f) o).run P w = .ok (.value v) w) (h : wpStill P ops w Q rest (mk n (upd f d v))) :
    wpStill P ops w Q (o :: rest) (mk n f) := still_w (wanted_none hg _) hf hr (by rw [hd]; exact h)
theorem svg {Q : Act → Prop} {d j t : Nat} {b : Bool} (hg : o.guard = some (j, b)) (hj : (ops[j]?).bind (·.dst) = some t) (ht : Nat.blt t n = true) (hb : f t = .bool b) (hd : o.dst = some d) (hf : fits n o = true) (hr : (execOp (ev f) o).run P w = .ok (.value v) w)
    (h : wpStill P ops w Q rest (mk n (upd f d v))) : wpStill P ops w Q (o :: rest) (mk n f) := still_w (by rw [wanted_some hg hj ht hb]; simp) hf hr (by rw [hd]; exact h)
theorem sskip {Q : Act → Prop} {d j t : Nat} {b c : Bool} (hg : o.guard = some (j, b)) (hj : (ops[j]?).bind (·.dst) = some t) (ht : Nat.blt t n = true) (hb : f t = .bool c) (hne : (c == b) = false) (hd : o.dst = some d)
    (h : wpStill P ops w Q rest (mk n (upd f d undef))) : wpStill P ops w Q (o :: rest) (mk n f) := by
  have hw : Region.wanted o (yielded ops (mk n f).tmps) = false := by rw [wanted_some hg hj ht hb, hne]
  unfold wpStill
  rw [if_neg (by rw [hw]; simp), mk_put, hd]
  exact h

/-! ### the same with calls that make memory at most -/
theorem region_quiet {id : Nat} {l : List Oper} {a : Act} (hm : P.follows .mixedOrders = true) (hB : Region.lexB .any l.toArray = true)
    (h : wpQuiet P l.toArray (fun w' => Chg [] w w') (fun a' => ∀ w', Chg [] w w' → Q .normal a' w') l a) : (Code.region id l.toArray true).wp P Q a w := by
  exact wp_region_quiet (C := fun w' => Chg [] w w') hm hB (Chg.drewN w 1) (by simpa using h)
theorem quiet_w {Q : Act → Prop} (hw : Region.wanted o (yielded ops (mk n f).tmps) = true) (hf : fits n o = true) (hr : ∀ w', Chg [] w w' → (execOp (ev f) o).run P w' = .ok (.value v) w') (h : wpQuiet P ops (fun w' => Chg [] w w') Q rest (mk n (updo f o.dst v))) :
    wpQuiet P ops (fun w' => Chg [] w w') Q (o :: rest) (mk n f) := by
  unfold wpQuiet
  rw [if_pos hw]
  refine ⟨v, fun w' hw' => ?_, by rw [mk_put]; exact h⟩
  unfold Oper.quietAt
  rw [exec_ev hf, hr w' hw']
  exact ⟨rfl, rfl⟩
theorem qv {Q : Act → Prop} {d : Nat} (hg : o.guard = none) (hd : o.dst = some d) (hf : fits n o = true) (hr : ∀ w', Chg [] w w' → (execOp (ev f) o).run P w' = .ok (.value v) w') (h : wpQuiet P ops (fun w' => Chg [] w w') Q rest (mk n (upd f d v))) :
    wpQuiet P ops (fun w' => Chg [] w w') Q (o :: rest) (mk n f) := quiet_w (wanted_none hg _) hf hr (by rw [hd]; exact h)
theorem qvg {Q : Act → Prop} {d j t : Nat} {b : Bool} (hg : o.guard = some (j, b)) (hj : (ops[j]?).bind (·.dst) = some t) (ht : Nat.blt t n = true) (hb : f t = .bool b) (hd : o.dst = some d) (hf : fits n o = true) (hr : ∀ w', Chg [] w w' → (execOp (ev f) o).run P w' = .ok (.value v) w')
    (h : wpQuiet P ops (fun w' => Chg [] w w') Q rest (mk n (upd f d v))) : wpQuiet P ops (fun w' => Chg [] w w') Q (o :: rest) (mk n f) := quiet_w (by rw [wanted_some hg hj ht hb]; simp) hf hr (by rw [hd]; exact h)
theorem qskip {Q : Act → Prop} {d j t : Nat} {b c : Bool} (hg : o.guard = some (j, b)) (hj : (ops[j]?).bind (·.dst) = some t) (ht : Nat.blt t n = true) (hb : f t = .bool c) (hne : (c == b) = false) (hd : o.dst = some d)
    (h : wpQuiet P ops C Q rest (mk n (upd f d undef))) : wpQuiet P ops C Q (o :: rest) (mk n f) := by
  have hw : Region.wanted o (yielded ops (mk n f).tmps) = false := by rw [wanted_some hg hj ht hb, hne]
  unfold wpQuiet
  rw [if_neg (by rw [hw]; simp), mk_put, hd]
  exact h
theorem qcall_w {Q : Act → Prop} {g : FuncId} {args : Array Value} (hw : Region.wanted o (yielded ops (mk n f).tmps) = true) (hf : fits n o = true) (hr : ∀ w', (execOp (ev f) o).run P w' = .ok (.enter g args) w')
    (hc : ∀ w', Chg [] w w' → Calls P g args w' fun e w'' => e = .returned v ∧ Chg [] w' w'') (h : wpQuiet P ops (fun w' => Chg [] w w') Q rest (mk n (updo f o.dst v))) :
    wpQuiet P ops (fun w' => Chg [] w w') Q (o :: rest) (mk n f) := by
  unfold wpQuiet
  rw [if_pos hw]
  refine ⟨v, fun w' hw' => ?_, by rw [mk_put]; exact h⟩
  unfold Oper.quietAt
  rw [exec_ev hf, hr w']
  exact ⟨rfl, (hc w' hw').mono fun e w'' ⟨he, hk⟩ => ⟨he, hw'.trans hk⟩⟩
theorem qcall {Q : Act → Prop} {d : Nat} {g : FuncId} {args : Array Value} (hg : o.guard = none) (hd : o.dst = some d) (hf : fits n o = true) (hr : ∀ w', (execOp (ev f) o).run P w' = .ok (.enter g args) w')
    (hc : ∀ w', Chg [] w w' → Calls P g args w' fun e w'' => e = .returned v ∧ Chg [] w' w'') (h : wpQuiet P ops (fun w' => Chg [] w w') Q rest (mk n (upd f d v))) :
    wpQuiet P ops (fun w' => Chg [] w w') Q (o :: rest) (mk n f) := qcall_w (wanted_none hg _) hf hr hc (by rw [hd]; exact h)
theorem qcallg {Q : Act → Prop} {d j t : Nat} {b : Bool} {g : FuncId} {args : Array Value} (hg : o.guard = some (j, b)) (hj : (ops[j]?).bind (·.dst) = some t) (ht : Nat.blt t n = true) (hb : f t = .bool b) (hd : o.dst = some d) (hf : fits n o = true) (hr : ∀ w', (execOp (ev f) o).run P w' = .ok (.enter g args) w')
    (hc : ∀ w', Chg [] w w' → Calls P g args w' fun e w'' => e = .returned v ∧ Chg [] w' w'') (h : wpQuiet P ops (fun w' => Chg [] w w') Q rest (mk n (upd f d v))) :
    wpQuiet P ops (fun w' => Chg [] w w') Q (o :: rest) (mk n f) := qcall_w (by rw [wanted_some hg hj ht hb]; simp) hf hr hc (by rw [hd]; exact h)
end

/-! ### new blocks; stores into blocks -/
section
variable {α : Type} {P : Program} {w w' : World} {ρ : Operand → Value} {dst : Option Tmp} {T T2 ty e : TypeId} {pos : String} {af : Array Edge} {gd : Option (Nat × Bool)} {x y z : Operand} {v : Value} {d : Ty α} {F F2 : Foot} {A : Option Addr} {cap : Nat} {xs : List α}

/-- a world with one new block -/
theorem new_blk {s : Sem Next} {v : Nat → Value} {cs : Array Value} {t : TypeId} (h : s.run P w = .ok (.value (v w.heap.size)) (w.alloc (.cells cs t))) :
    ∃ u w', s.run P w = .ok (.value u) w' ∧ ∃ g, u = v g ∧ w'.heap[g]? = some (.cells cs t (0, 0)) ∧ w.heap.size ≤ g ∧ Chg [] w w' :=
  ⟨_, w.alloc (.cells cs t), h, w.heap.size, rfl, heap_alloc_new w _, Nat.le_refl _, Chg.alloc w _⟩
theorem blk_cell {g : Nat} {cur : Array Value} {t : TypeId} {fr : Nat × Nat} {cs : List Value} (hb : w.heap[g]? = some (.cells cur t fr)) (hc : cur.toList = cs) : ∀ j u, cs[j]? = some u → w.cell? ⟨g, 0 + j, none⟩ = some u := fun j u hj => by
  rw [Nat.zero_add, cell_of_row w g j cur t fr hb]
  subst hc
  simpa using hj
theorem getD_some {xs : List α} {i : Nat} (z : α) (h : i < xs.length) : xs[i]? = some (xs.getD i z) := by
  rw [List.getD_eq_getElem?_getD, List.getElem?_eq_getElem h]; rfl

/-- A store into a block: whole values into cells. -/
theorem e_store {g o : Nat} {cur cur' : Array Value} {t : TypeId} {fr : Nat × Nat} {vs : List Value} (hx : ρ x = .pointer (some ⟨g, o, none⟩)) (hy : ρ y = v) (hv : v.cells.toList = vs) (hz : (P.info? T).map (·.size) = some vs.length)
    (hb : w.heap[g]? = some (.cells cur t fr)) (hfr : thaw fr cur.size) (hl : o + vs.length ≤ cur.size) (h1 : ∀ u ∈ vs, u.oneCell' = true) (hc : (cur.toList.take o ++ vs ++ cur.toList.drop (o + vs.length)).toArray = cur') :
    ∃ w', (execOp ρ ⟨dst, .store T x y, ty, pos, af, gd⟩).run P w = .ok .skip w' ∧ w'.heap[g]? = some (.cells cur' t fr) ∧ Chg [some g] w w' ∧ w'.heap.size = w.heap.size := by
  subst hc
  refine ⟨_, ?_, setRow_heap w g cur _ t fr hb, chg_setRow w g _, by simp⟩
  have hst := run_storeCells_fr (P := P) g o t fr vs 0 cur w hb hfr (by simpa using hl) h1
  simp only [Nat.add_zero] at hst
  have hvs : v.cells.size = vs.length := by rw [← hv]; simp
  cases hq : P.info? T with
  | none => simp [hq] at hz
  | some i =>
    have hs : i.size = vs.length := by simpa [hq] using hz
    simp [execOp, hx, hy, Instr.storeAt, Instr.sureAddr, storeVar, Sem.run_bind, sizeOf, typeInfo, hq, hs, hvs, hv, hst]
theorem thaw0 (n : Nat) : thaw (0, 0) n := fun j _ h => by simp at h

theorem els_made {zx : α} {zc : List Value} (hl : zc.length = d.sz) (hpos : 0 < d.sz) (hzo : d.O w (fun _ => False) zx zc) : ∀ (n : Nat) (cs : List Value), cs.length = n * d.sz → (∀ j, j < n * d.sz → cs[j]? = zc[j % d.sz]?) → els d w (fun _ => False) (List.replicate n zx) cs := by
  intro n
  induction n with
  | zero =>
    intro cs h0 _
    have : cs = [] := List.eq_nil_of_length_eq_zero (by simpa using h0)
    subst this
    exact els_nil d w _
  | succ n ih =>
    intro cs h0 h1
    have e0 : (n + 1) * d.sz = d.sz + n * d.sz := by rw [Nat.add_mul]; omega
    have h2 : cs.take d.sz = zc := by
      apply List.ext_getElem?
      intro j
      rw [List.getElem?_take]
      by_cases hj : j < d.sz
      · rw [if_pos hj, h1 j (by omega), Nat.mod_eq_of_lt hj]
      · rw [if_neg hj, List.getElem?_eq_none (by omega)]
    have h3 : els d w (fun _ => False) (List.replicate n zx) (cs.drop d.sz) := by
      refine ih _ (by rw [List.length_drop, h0, e0]; omega) (fun j hj => ?_)
      rw [List.getElem?_drop, h1 _ (by omega)]
      congr 1
      rw [Nat.add_mod_left]
    rw [List.replicate_succ, ← List.take_append_drop d.sz cs, h2]
    have h4 := els_one (d := d) hzo
    exact els_append (xs := [zx]) h4 h3 (fun _ _ h => h.elim) (fun _ h => by cases h <;> assumption)
/-- make([]T, n) -/
theorem e_make {k k2 : IntKind} {n : Int} {i : TypeInfo} {z : Value} {zx : α} {bytes : Nat} (ht : P.underlying T = some (.slice e)) (hi : P.info? e = some i) (hz : i.zero = some z) (hsz : i.size = d.sz) (hby : i.bytes = bytes) (hzs : z.cells.size = d.sz) (hpos : 0 < d.sz)
    (hzo : ∀ w, d.O w (fun _ => False) zx z.cells.toList) (hx : ρ x = .int k n) (hy : ρ y = .int k2 n) (h0 : 0 ≤ n) (hb : n.toNat * bytes ≤ 281474976710656) (hm : n ≤ 9223372036854775807) :
    ∃ u w', (execOp ρ ⟨dst, .makeSlice T x y, ty, pos, af, gd⟩).run P w = .ok (.value u) w' ∧ ∃ A cap, u = .slice A (List.replicate n.toNat zx).length cap ∧ Row d e w' (fun b => w.heap.size ≤ b) A cap (List.replicate n.toNat zx) ∧ Chg [] w w' ∧ (∀ b, bk A = some b → w.heap.size ≤ b ∧ b < w'.heap.size) := by
  subst hby
  have hr := run_make (P := P) w T e i z ht hi hz k k2 n n h0 (Int.le_refl _) (by
    have h1 : (n.toNat : Int) = n := Int.toNat_of_nonneg h0
    have h2 : ((n.toNat * i.bytes : Nat) : Int) ≤ 281474976710656 := by omega
    rw [Int.natCast_mul, h1] at h2
    rw [Int.mul_comm]; exact h2) hm
  have hsize : (madeCells z.cells (n.toNat * i.size)).size = n.toNat * i.size := size_madeCells _ _
  refine ⟨_, w.alloc (.cells (madeCells z.cells (n.toNat * i.size)) e), ?_, some ⟨w.heap.size, 0, none⟩, n.toNat, rfl, .inr ⟨w.heap.size, _, (0, 0), rfl, Nat.le_refl _, heap_alloc_new w _, thaw0 _, by simp, by omega, by rw [hsize, hsz], ?_⟩, Chg.alloc w _, fun b hb => ?_⟩
  · simp only [List.length_replicate]
    simp [execOp, hx, hy, hr]
  · have hl : z.cells.toList.length = d.sz := by simpa using hzs
    have h1 := els_made (w := w.alloc (.cells (madeCells z.cells (n.toNat * i.size)) e)) hl hpos (hzo _) n.toNat (madeCells z.cells (n.toNat * i.size)).toList (by rw [Array.length_toList, hsize, hsz]) (fun j hj => by
      rw [hsz]
      simp only [madeCells, Array.toList_map, List.getElem?_map, Array.toList_range]
      rw [List.getElem?_range hj]
      have hjm : j % z.cells.size < z.cells.size := Nat.mod_lt _ (by omega)
      simp only [Option.map_some]
      rw [← hzs, getElem!_pos z.cells _ hjm]
      simp [hjm])
    rw [List.length_replicate, List.take_of_length_le (by rw [Array.length_toList, hsize, hsz]; omega)]
    exact els_mono (fun _ h => h.elim) h1
  · have : w.heap.size = b := by simpa [bk] using hb
    subst this
    exact ⟨Nat.le_refl _, heap_lt (heap_alloc_new w _)⟩
/-- append(v, ys...) -/
theorem e_append {i : TypeInfo} {z : Value} {bytes : Nat} {ys : List α} {A2 : Option Addr} {c2 : Nat} {news : List Value} (ht : P.underlying T = some (.slice e)) (hi : P.info? e = some i) (hz : i.zero = some z) (hsz : i.size = d.sz) (hby : i.bytes = bytes) (hzs : z.cells.size = d.sz) (hpos : 0 < d.sz)
    (hx : ρ x = .slice A xs.length cap) (hy : ρ y = .slice A2 ys.length c2)
    (HO : Row d e w F A cap xs) (hn : els d w F2 ys news) (hnews : ys = [] ∨ ∃ ad, A2 = some ad ∧ ∀ j u, news[j]? = some u → w.cell? (ad.add j) = some u) (hnA : A2 = none → ys = [])
    (hd : d.sep = true → ∀ b, F b → ¬ F2 b) (ha : ∀ g, bk A = some g → ¬ F2 g) (h63 : xs.length + ys.length ≤ 9223372036854775807) (hb : (xs.length + ys.length) * bytes ≤ 140737488355328) :
    ∃ u w', (execOp ρ ⟨dst, .call { callee := .builtin .append, args := #[x, y], argTypes := #[T, T] }, ty, pos, af, gd⟩).run P w = .ok (.value u) w' ∧
      ∃ A' cap', u = .slice A' (xs ++ ys).length cap' ∧ Row d e w' (fun b => F b ∨ F2 b ∨ w.heap.size ≤ b) A' cap' (xs ++ ys) ∧ Chg [bk A] w w' ∧ (bk A' = bk A ∨ ∃ b, bk A' = some b ∧ w.heap.size ≤ b) := by
  obtain ⟨A', cap', w', hr, h1, h2, h3⟩ := run_append_row (c2 := c2) ty i z bytes ht hi hz hsz hby hzs hpos HO hn hnews hnA hd ha h63 hb
  refine ⟨_, w', ?_, A', cap', by rw [List.length_append], h1, h2, h3⟩
  simp [execOp, hx, hy, resolve, invoke, builtin, hr]
end

/-! ### steps that change the world -/
section
variable {P : Program} {ops : Array Oper} {Q : Exit → Act → World → Prop} {n : Nat} {f : Nat → Value} {w : World} {rest : List Oper} {o : Oper}
theorem lve {d : Nat} {R : Value → World → Prop} (hg : o.guard = none) (hd : o.dst = some d) (hf : fits n o = true) (hr : ∃ v w', (execOp (ev f) o).run P w = .ok (.value v) w' ∧ R v w') (h : ∀ v w', R v w' → wpList P ops Q rest (mk n (upd f d v)) w') :
    wpList P ops Q (o :: rest) (mk n f) w := by
  obtain ⟨v, w', hr, hR⟩ := hr
  exact lv hg hd hf hr (h v w' hR)
theorem lse {R : World → Prop} (hg : o.guard = none) (hd : o.dst = none) (hf : fits n o = true) (hr : ∃ w', (execOp (ev f) o).run P w = .ok .skip w' ∧ R w') (h : ∀ w', R w' → wpList P ops Q rest (mk n f) w') :
    wpList P ops Q (o :: rest) (mk n f) w := by
  obtain ⟨w', hr, hR⟩ := hr
  exact ls hg hd hf hr (h w' hR)
end

/-! ### what stays of a row -/
section
variable {α : Type} {d : Ty α} {e : TypeId} {w w' : World} {F F2 : Foot} {A A' : Option Addr} {cap cap' : Nat} {xs : List α} {L L' : Foot} {hi n : Nat} {M N : List (Option Nat)}
/-- a row's new place: what avoided the old one avoids the new one -/
theorem fp_step (hst : bk A' = bk A ∨ ∃ b, bk A' = some b ∧ n ≤ b) (hM : bk A ∈ M) (hN : ∀ o, o ∈ N → o ∈ M ∨ o = bk A') (hi' : hi ≤ n) : ∀ b, FP L hi M b → FP L hi N b := fun b ⟨g1, g2, g3⟩ => ⟨g1, g2, fun hm => by
  rcases hN _ hm with h | h
  · exact g3 h
  · rcases hst with h2 | ⟨q, h2, h3⟩
    · rw [h2] at h; exact g3 (h ▸ hM)
    · rw [h2] at h; injection h with h; omega⟩
theorem row_canon (h : Row d e w' F A cap xs) (hF : ∀ b, F b → b < w'.heap.size → L b ∧ some b ∉ M) : Row d e w' (FP L w'.heap.size M) A cap xs :=
  h.lt.mono fun b hb => ⟨(hF b hb.1 hb.2).1, hb.2, (hF b hb.1 hb.2).2⟩
theorem rd_canon (hd : 0 < d.sz) (h : Rd d w F A xs) (hF : ∀ b, F b → some b ∉ M) : Rd d w (FP any w.heap.size M) A xs :=
  (h.lt hd).mono fun b hb => ⟨trivial, hb.2, hF b hb.1⟩
/-- a row is no block that it avoids -/
theorem row_ne {g : Nat} (h : Row d e w (FP L hi M) A cap xs) (hg : some g ∈ M) : some g ∉ [bk A] := fun hm => by
  have hb : bk A = some g := (List.mem_singleton.1 hm).symm
  exact (h.own g hb).1.2.2 hg
theorem row_lt (h : Row d e w F A cap xs) : ∀ b, bk A = some b → b < w.heap.size := fun b hb => (h.own b hb).2
theorem fp_none : ∀ b, FP L hi M b → FP L hi (bk none :: M) b := fun b ⟨g1, g2, g3⟩ => ⟨g1, g2, fun hm => by
  rcases List.mem_cons.1 hm with h | h
  · cases h
  · exact g3 h⟩
end
end Go.Sx
