import Derived.Test.YtdkbfcmekppnmaaGreatDoorY4
namespace Go.Sy
open Go.Sx
set_option linter.unusedVariables false
set_option linter.unusedSimpArgs false
set_option linter.unusedSectionVars false
section
variable {α : Type} {P : Program} {P0 F F1 F2 : Foot} {H0 H H' H2 : Hp} {w0 w w' : World} {Fs Fs' : List Foot} {d : Ty α} {e : TypeId} {A A2 : Option Addr} {cap c2 : Nat} {xs ys : List α}
theorem St.frzRow (S : St P0 H0 w0 (F :: Fs) H w) (h : Row d e H (hp w) F A cap xs) : ∃ H', St P0 H0 w0 Fs H' w ∧ Ext H H' ∧ Rd d H' A xs ∧ ∀ b o, F b → hp w b = some o → H' b = some o := by
  obtain ⟨H', S', hE, hz⟩ := S.freeze
  exact ⟨H', S', hE, h.frz hE hz, hz⟩
theorem St.frzBlk {g : Nat} {o : Obj} (S : St P0 H0 w0 (is g :: Fs) H w) (h : w.heap[g]? = some o) : ∃ H', St P0 H0 w0 Fs H' w ∧ Ext H H' ∧ H' g = some o ∧ ∀ b o, is g b → hp w b = some o → H' b = some o := by
  obtain ⟨H', S', hE, hz⟩ := S.freeze
  exact ⟨H', S', hE, hz g o rfl h, hz⟩
theorem St.share (S : St P0 H0 w0 (F :: Fs) H w) (h : Row d e H (hp w) F A cap xs) : ∃ H' F', St P0 H0 w0 (F' :: Fs) H' w ∧ Ext H H' ∧ Row (ro d) e H' (hp w) F' A cap xs := by
  rcases h with h | ⟨g, cur, fr, h1, h2, h3, h4, h5, h6, h7, h8⟩
  · exact ⟨H, no, S.sub (fun _ h => h.elim), Ext.refl _, .inl h⟩
  · have S2 := S.part (F1 := fun b => F b ∧ b ≠ g) (F2 := is g) (fun b hb hb2 => hb.2 hb2) (fun b hb => by
      rcases hb with hb | rfl
      · exact hb.1
      · exact h2)
    obtain ⟨H', S3, hE, hz⟩ := S2.freeze
    refine ⟨H', is g, S3, hE, .inr ⟨g, cur, fr, h1, rfl, h3, h4, h5, h6, h7, ?_⟩⟩
    have := elsO_frz hE (fun b o hb => hz b o hb) h8
    exact elsO_mono (fun _ h => h.elim) (elsO_RO (ro_ro d) (elsR_ro.2 this))
theorem Rd.news (hr : RO d) (S : St P0 H0 w0 Fs H w) (h : Rd d H A xs) : ∃ news, elsO d H (hp w) no xs news ∧ (xs = [] ∨ ∃ ad, A = some ad ∧ ∀ j u, news[j]? = some u → w.cell? (ad.add j) = some u) := by
  obtain ⟨_, h⟩ := h
  rcases h with rfl | ⟨b, off, inner, rfl, hc, he⟩
  · exact ⟨[], rfl, .inl rfl⟩
  · refine ⟨inner, elsO_RO hr he, .inr ⟨_, rfl, fun j u hj => ?_⟩⟩
    rw [addr_add]
    exact S.cell (hc j u hj)
theorem Row.news (h : Row d e H (hp w) F A cap xs) : ∃ news, elsO d H (hp w) F xs news ∧ (xs = [] ∨ ∃ ad, A = some ad ∧ ∀ j u, news[j]? = some u → w.cell? (ad.add j) = some u) := by
  rcases h with ⟨rfl, rfl, rfl⟩ | ⟨g, cur, fr, rfl, h2, h3, h4, h5, h6, h7, h8⟩
  · exact ⟨[], rfl, .inl rfl⟩
  · refine ⟨_, elsO_mono (fun b hb => hb.1) h8, .inr ⟨_, rfl, fun j u hj => ?_⟩⟩
    rw [addr_add]
    exact hpx (row_cell h3 hj)
theorem blk_news {g : Nat} {cur : Array Value} {t : TypeId} {fr : Nat × Nat} {cs : List Value} (hb : w.heap[g]? = some (.cells cur t fr)) (hc : cur.toList = cs) : ∃ ad, (some ⟨g, 0, none⟩ : Option Addr) = some ad ∧ ∀ j u, cs[j]? = some u → w.cell? (ad.add j) = some u :=
  ⟨_, rfl, fun j u hj => by
    rw [addr_add]
    exact blk_cells hb hc j u hj⟩
theorem row_lit {g : Nat} {cur : Array Value} {cs : List Value} (S : St P0 H0 w0 (is g :: F2 :: Fs) H w) (hb : w.heap[g]? = some (.cells cur e (0, 0))) (hc : cur.toList = cs) (hn : elsO d H (hp w) F2 xs cs) (h63 : xs.length ≤ 9223372036854775807) :
    Row d e H (hp w) (or2 (is g) F2) (some ⟨g, 0, none⟩) xs.length xs ∧ St P0 H0 w0 (or2 (is g) F2 :: Fs) H w := by
  have hl := elsO_len hn
  have hsz : cur.size = cs.length := by rw [← hc]; simp
  refine ⟨.inr ⟨g, cur, (0, 0), rfl, .inl rfl, hb, thaw0 _, Nat.le_refl _, h63, by rw [hsz, hl], ?_⟩, S.join⟩
  rw [hc, List.take_of_length_le (by rw [hl]; exact Nat.le_refl _)]
  exact elsO_mono (fun b hb2 => ⟨.inr hb2, fun he => S.dj b he hb2⟩) hn
theorem St.chg (S : St (anyOf []) H0 w0 Fs H w) : Chg no w0 w := ⟨S.os, S.tape, S.output, S.size, fun b hb _ => S.old b hb (fun ⟨_, h, _⟩ => by cases h)⟩
variable {ops : Array Oper} {Q : Exit → Act → World → Prop} {n : Nat} {f : Nat → Value} {rest : List Oper} {o : Oper} {v : Value}
theorem region_still {id : Nat} {l : List Oper} {a : Act} (hm : P.follows .mixedOrders = true) (hB : Region.lexB .any l.toArray = true) (S : St P0 H0 w0 Fs H w)
    (h : ∀ w1, St P0 H0 w0 Fs H w1 → Kp Fs w w1 → wpStill P l.toArray w1 (fun a' => Q .normal a' w1) l a) : (Code.region id l.toArray true).wp P Q a w := by
  obtain ⟨a, b⟩ := S.still (Chg.drewN w 1)
  exact wp_region_still_lit hm hB (h _ a b)
theorem region_quiet {id : Nat} {l : List Oper} {a : Act} (hm : P.follows .mixedOrders = true) (hB : Region.lexB .any l.toArray = true) 
    (h : wpQuiet P l.toArray (fun w' => Chg no w w') (fun a' => ∀ w', Chg no w w' → Q .normal a' w') l a) : (Code.region id l.toArray true).wp P Q a w := by
  exact wp_region_quiet (C := fun w' => Chg no w w') hm hB (Chg.drewN w 1) (by simpa using h)
section
variable {C : World → Prop}
theorem still_w {Q : Act → Prop} (hw : Region.wanted o (yielded ops (mk n f).tmps) = true) (hf : fits n o = true) (hr : (execOp (ev f) o).run P w = .ok (.value v) w) (h : wpStill P ops w Q rest (mk n (updo f o.dst v))) :
    wpStill P ops w Q (o :: rest) (mk n f) := by
  unfold wpStill
  rw [if_pos hw]
  unfold Oper.still
  rw [exec_ev hf, hr, Oper.stillUpon_value, mk_put]
  exact h
theorem sv {Q : Act → Prop} {d : Nat} (hg : o.guard = none) (hd : o.dst = some d) (hf : fits n o = true) (hr : (execOp (ev f) o).run P w = .ok (.value v) w) (h : wpStill P ops w Q rest (mk n (upd f d v))) :
    wpStill P ops w Q (o :: rest) (mk n f) := still_w (wanted_none hg _) hf hr (by rw [hd]; exact h)
theorem svg {Q : Act → Prop} {d j t : Nat} {b : Bool} (hg : o.guard = some (j, b)) (hj : (ops[j]?).bind (·.dst) = some t) (ht : Nat.blt t n = true) (hb : f t = .bool b) (hd : o.dst = some d) (hf : fits n o = true) (hr : (execOp (ev f) o).run P w = .ok (.value v) w)
    (h : wpStill P ops w Q rest (mk n (upd f d v))) : wpStill P ops w Q (o :: rest) (mk n f) := still_w (by rw [wanted_some hg hj ht hb]; simp) hf hr (by rw [hd]; exact h)
theorem quiet_w {Q : Act → Prop} (hw : Region.wanted o (yielded ops (mk n f).tmps) = true) (hf : fits n o = true) (hr : ∀ w', Chg no w w' → (execOp (ev f) o).run P w' = .ok (.value v) w') (h : wpQuiet P ops (fun w' => Chg no w w') Q rest (mk n (updo f o.dst v))) :
    wpQuiet P ops (fun w' => Chg no w w') Q (o :: rest) (mk n f) := by
  unfold wpQuiet
  rw [if_pos hw]
  refine ⟨v, fun w' hw' => ?_, by rw [mk_put]; exact h⟩
  unfold Oper.quietAt
  rw [exec_ev hf, hr w' hw']
  exact ⟨rfl, rfl⟩
theorem qv {Q : Act → Prop} {d : Nat} (hg : o.guard = none) (hd : o.dst = some d) (hf : fits n o = true) (hr : ∀ w', Chg no w w' → (execOp (ev f) o).run P w' = .ok (.value v) w') (h : wpQuiet P ops (fun w' => Chg no w w') Q rest (mk n (upd f d v))) :
    wpQuiet P ops (fun w' => Chg no w w') Q (o :: rest) (mk n f) := quiet_w (wanted_none hg _) hf hr (by rw [hd]; exact h)
theorem qvg {Q : Act → Prop} {d j t : Nat} {b : Bool} (hg : o.guard = some (j, b)) (hj : (ops[j]?).bind (·.dst) = some t) (ht : Nat.blt t n = true) (hb : f t = .bool b) (hd : o.dst = some d) (hf : fits n o = true) (hr : ∀ w', Chg no w w' → (execOp (ev f) o).run P w' = .ok (.value v) w')
    (h : wpQuiet P ops (fun w' => Chg no w w') Q rest (mk n (upd f d v))) : wpQuiet P ops (fun w' => Chg no w w') Q (o :: rest) (mk n f) := quiet_w (by rw [wanted_some hg hj ht hb]; simp) hf hr (by rw [hd]; exact h)
theorem qcall_w {Q : Act → Prop} {g : FuncId} {args : Array Value} (hw : Region.wanted o (yielded ops (mk n f).tmps) = true) (hf : fits n o = true) (hr : ∀ w', (execOp (ev f) o).run P w' = .ok (.enter g args) w')
    (hc : ∀ w', Chg no w w' → Calls P g args w' fun e w'' => e = .returned v ∧ Chg no w' w'') (h : wpQuiet P ops (fun w' => Chg no w w') Q rest (mk n (updo f o.dst v))) :
    wpQuiet P ops (fun w' => Chg no w w') Q (o :: rest) (mk n f) := by
  unfold wpQuiet
  rw [if_pos hw]
  refine ⟨v, fun w' hw' => ?_, by rw [mk_put]; exact h⟩
  unfold Oper.quietAt
  rw [exec_ev hf, hr w']
  exact ⟨rfl, (hc w' hw').mono fun e w'' ⟨he, hk⟩ => ⟨he, hw'.trans hk⟩⟩
theorem qcall {Q : Act → Prop} {d : Nat} {g : FuncId} {args : Array Value} (hg : o.guard = none) (hd : o.dst = some d) (hf : fits n o = true) (hr : ∀ w', (execOp (ev f) o).run P w' = .ok (.enter g args) w')
    (hc : ∀ w', Chg no w w' → Calls P g args w' fun e w'' => e = .returned v ∧ Chg no w' w'') (h : wpQuiet P ops (fun w' => Chg no w w') Q rest (mk n (upd f d v))) :
    wpQuiet P ops (fun w' => Chg no w w') Q (o :: rest) (mk n f) := qcall_w (wanted_none hg _) hf hr hc (by rw [hd]; exact h)
theorem qcallg {Q : Act → Prop} {d j t : Nat} {b : Bool} {g : FuncId} {args : Array Value} (hg : o.guard = some (j, b)) (hj : (ops[j]?).bind (·.dst) = some t) (ht : Nat.blt t n = true) (hb : f t = .bool b) (hd : o.dst = some d) (hf : fits n o = true) (hr : ∀ w', (execOp (ev f) o).run P w' = .ok (.enter g args) w')
    (hc : ∀ w', Chg no w w' → Calls P g args w' fun e w'' => e = .returned v ∧ Chg no w' w'') (h : wpQuiet P ops (fun w' => Chg no w w') Q rest (mk n (upd f d v))) :
    wpQuiet P ops (fun w' => Chg no w w') Q (o :: rest) (mk n f) := qcall_w (by rw [wanted_some hg hj ht hb]; simp) hf hr hc (by rw [hd]; exact h)
theorem lve {d : Nat} {R : Value → World → Prop} (hg : o.guard = none) (hd : o.dst = some d) (hf : fits n o = true) (hr : ∃ v w', (execOp (ev f) o).run P w = .ok (.value v) w' ∧ R v w') (h : ∀ v w', R v w' → wpList P ops Q rest (mk n (upd f d v)) w') :
    wpList P ops Q (o :: rest) (mk n f) w := by
  obtain ⟨v, w', hr, hR⟩ := hr
  exact lv hg hd hf hr (h v w' hR)
theorem lse {R : World → Prop} (hg : o.guard = none) (hd : o.dst = none) (hf : fits n o = true) (hr : ∃ w', (execOp (ev f) o).run P w = .ok .skip w' ∧ R w') (h : ∀ w', R w' → wpList P ops Q rest (mk n f) w') :
    wpList P ops Q (o :: rest) (mk n f) w := by
  obtain ⟨w', hr, hR⟩ := hr
  exact ls hg hd hf hr (h w' hR)
end
end

section
variable {α : Type} {P : Program} {P0 F F2 : Foot} {H0 H : Hp} {w0 w w' : World} {Fs : List Foot} {ρ : Operand → Value} {dst : Option Tmp} {T T2 ty e : TypeId} {pos : String} {af : Array Edge} {gd : Option (Nat × Bool)} {x y z : Operand} {k k2 : IntKind} {a b : Int} {v : Value} {d : Ty α} {A A2 : Option Addr} {cap c2 : Nat} {xs ys : List α}
def Bytes (w : World) (A : Option Addr) (xs : List UInt8) : Prop :=
  xs = [] ∨ ∃ b off, A = some ⟨b, off, none⟩ ∧ ∀ j u, (xs.map fun b => Value.int .u8 (b.toNat : Int))[j]? = some u → w.cell? ⟨b, off + j, none⟩ = some u
theorem elsR_bytes : ∀ {xs : List UInt8} {cs : List Value}, elsR tByte H xs cs → cs = xs.map fun b => Value.int .u8 (b.toNat : Int)
  | [], cs, h => h
  | x :: xs, cs, h => by
    obtain ⟨c, cs', rfl, h1, h2⟩ := h
    rw [elsR_bytes h2]
    have h3 : c = [Value.int .u8 (x.toNat : Int)] := h1
    rw [h3]; rfl
theorem elsO_bytes {X : Hp} : ∀ {xs : List UInt8} {F : Foot} {cs : List Value}, elsO tByte H X F xs cs → cs = xs.map fun b => Value.int .u8 (b.toNat : Int)
  | [], _, cs, h => h
  | x :: xs, _, cs, h => by
    obtain ⟨c, cs', F1, F2, rfl, h1, h2, _, _⟩ := h
    rw [elsO_bytes h2]
    have h3 : c = [Value.int .u8 (x.toNat : Int)] := h1
    rw [h3]; rfl
theorem Rd.bytes {xs : List UInt8} (S : St P0 H0 w0 Fs H w) (h : Rd tByte H A xs) : Bytes w A xs := by
  obtain ⟨_, h2⟩ := h
  refine h2.imp id ?_
  rintro ⟨b, off, inner, rfl, hc, he⟩
  refine ⟨b, off, rfl, fun j u hj => S.cell (hc j u ?_)⟩
  rw [elsR_bytes he]; exact hj
theorem Row.bytes {xs : List UInt8} (h : Row tByte e H (hp w) F A cap xs) : Bytes w A xs := by
  rcases h with ⟨rfl, rfl, rfl⟩ | ⟨g, cur, fr, rfl, h2, h3, h4, h5, h6, h7, h8⟩
  · exact .inl rfl
  · refine .inr ⟨g, 0, rfl, fun j u hj => hpx (row_cell h3 (n := xs.length * tByte.sz) ?_)⟩
    rw [elsO_bytes h8]; exact hj
theorem e_conv_bs {n c : Nat} {xs : List UInt8} (hs : P.underlying T = some (.slice e)) (he : P.underlying e = some (.int .u8)) (hd : P.underlying T2 = some .string) (hx : ρ x = .slice A n c) (hn : xs.length = n) (h : Bytes w A xs) :
    (execOp ρ ⟨dst, .convert T T2 x, ty, pos, af, gd⟩).run P w = .ok (.value (str xs)) w := by
  subst hn
  have h1 : (convert T T2 (.slice A xs.length c)).run P w = .ok (str xs) w := by
    rcases h with rfl | ⟨b, off, rfl, hc⟩
    · cases A with
      | none => exact run_convert_bytes_nil w T e hs he _ _ _ hd
      | some a => exact run_convert_bytes_back w T T2 e a c [] hs he hd (fun j hj => by simp at hj)
    · refine run_convert_bytes_back w T T2 e ⟨b, off, none⟩ c xs hs he hd (fun j hj => ?_)
      rw [addr_add]
      refine hc j _ ?_
      simp [hj]
  simp [execOp, hx, h1]
theorem els_bytes {X : Hp} {F : Foot} : ∀ (xs : List UInt8), elsO tByte H X F xs (xs.map fun b => Value.int .u8 (b.toNat : Int)) := by
  intro xs
  induction xs generalizing F with
  | nil => rfl
  | cons x xs ih => exact ⟨[_], _, no, F, rfl, rfl, ih, fun _ h => h.elim, fun _ h => h.elim False.elim id⟩
theorem e_conv_sb {xs : List UInt8} (S : St P0 H0 w0 Fs H w) (hs : P.underlying T = some .string) (hd : P.underlying T2 = some (.slice e)) (he : P.underlying e = some (.int .u8)) (hx : ρ x = str xs) (h63 : xs.length ≤ 9223372036854775807) :
    ∃ u w', (execOp ρ ⟨dst, .convert T T2 x, ty, pos, af, gd⟩).run P w = .ok (.value u) w' ∧ ∃ A cap F, u = .slice A xs.length cap ∧ Row tByte e H (hp w') F A cap xs ∧ St P0 H0 w0 (F :: Fs) H w' ∧ Kp Fs w w' := by
  have hr := run_bytes_of_string (P := P) w T T2 e ⟨xs.toArray⟩ hs hd he
  have hsz : (⟨xs.toArray⟩ : ByteArray).size = xs.length := by show xs.toArray.size = _; simp
  rw [hsz] at hr
  have h1 := grownCap_ge w xs.length 0 e
  have h2 := grownCap_le_maxLen w xs.length 0 e h63
  generalize grownCap w xs.length 0 e = cap at hr h1 h2
  have hrow : (bytesRow ⟨xs.toArray⟩ cap).toList = (xs.map fun b => Value.int .u8 (b.toNat : Int)) ++ List.replicate (cap - xs.length) (.int .u8 0) := by simp [bytesRow, hsz]
  have hsize : (bytesRow ⟨xs.toArray⟩ cap).size = cap := by rw [← Array.length_toList, hrow]; simp; omega
  obtain ⟨S1, K1⟩ := S.still (w' := w.drew) ⟨rfl, rfl, rfl, Nat.le_refl _, fun _ _ _ => rfl⟩
  obtain ⟨S2, K2⟩ := S1.alloc (.cells (bytesRow ⟨xs.toArray⟩ cap) e ((bytesRow ⟨xs.toArray⟩ cap).size, (bytesRow ⟨xs.toArray⟩ cap).size + 1))
  refine ⟨_, _, by simp only [execOp, hx, str]; simp [hr], some ⟨w.heap.size, 0, none⟩, cap, is w.heap.size, rfl, .inr ⟨w.heap.size, _, _, rfl, rfl, heap_alloc_new w.drew _, fun j hj hh => by omega, h1, h2, by rw [hsize]; simp [tByte, scal], ?_⟩, S2, fun F hF b hb => (K2 F hF b hb).trans (K1 F hF b hb)⟩
  have h3 : ((bytesRow ⟨xs.toArray⟩ cap).toList.take (xs.length * tByte.sz)) = xs.map fun b => Value.int .u8 (b.toNat : Int) := by
    have : xs.length * tByte.sz = (xs.map fun b => Value.int .u8 (b.toNat : Int)).length := by simp [tByte, scal]
    rw [hrow, this]
    exact List.take_left
  rw [h3]
  exact els_bytes xs
theorem Rd.sub {l h : Nat} (hR : Rd d H A xs) (hl : l ≤ h) (hh : h ≤ xs.length) (hc : xs.length ≤ cap) :
    ∃ A', sliced A l h cap d.sz = .slice A' (h - l) (cap - l) ∧ ((xs.drop l).take (h - l)).length ≤ cap - l ∧ Rd d H A' ((xs.drop l).take (h - l)) := by
  have hlen : ((xs.drop l).take (h - l)).length = h - l := by rw [List.length_take, List.length_drop]; omega
  refine ⟨if cap = l then A else A.map (·.add (l * d.sz)), rfl, by rw [hlen]; omega, ?_⟩
  obtain ⟨h63, hR⟩ := hR
  refine ⟨by rw [hlen]; omega, ?_⟩
  by_cases h0 : (xs.drop l).take (h - l) = []
  · exact .inl h0
  · rcases hR with rfl | ⟨b, off, inner, rfl, hcell, he⟩
    · exact absurd (by simp) h0
    · have hll : l < xs.length := by
        rcases Nat.lt_or_ge l xs.length with h1 | h1
        · exact h1
        · exact absurd (by rw [List.drop_of_length_le h1]; simp) h0
      refine .inr ⟨b, off + l * d.sz, (inner.drop (l * d.sz)).take ((h - l) * d.sz), ?_, fun j u hj => ?_, elsR_take (elsR_drop he l) (h - l)⟩
      · rw [if_neg (by omega)]
        simp [addr_add]
      · rw [List.getElem?_take] at hj
        split at hj
        · rw [List.getElem?_drop] at hj
          rw [Nat.add_assoc]
          exact hcell _ u hj
        · cases hj
theorem size_of {n : Nat} (hz : (P.info? (P.elem T)).map (·.size) = some n) : (sizeOf (P.elem T)).run P w = .ok n w := by
  cases hq : P.info? (P.elem T) with
  | none => simp [hq] at hz
  | some i =>
    have hs : i.size = n := by simpa [hq] using hz
    simp [sizeOf, typeInfo, hq, hs]
theorem Rd.sub2 {n m : Nat} (hm : d.sz = m) (hR : Rd d H A xs) (h0 : 0 ≤ a) (h1 : a ≤ b) (h2 : b ≤ n) (hn : xs.length = n) (hc : xs.length ≤ cap) :
    ∃ A', sliced A a.toNat b.toNat cap m = .slice A' ((xs.drop a.toNat).take (b.toNat - a.toNat)).length (cap - a.toNat) ∧ ((xs.drop a.toNat).take (b.toNat - a.toNat)).length ≤ cap - a.toNat ∧ Rd d H A' ((xs.drop a.toNat).take (b.toNat - a.toNat)) := by
  subst hm
  have hlen : ((xs.drop a.toNat).take (b.toNat - a.toNat)).length = b.toNat - a.toNat := by rw [List.length_take, List.length_drop]; omega
  obtain ⟨A', h3, h4, h5⟩ := hR.sub (l := a.toNat) (h := b.toNat) (by omega) (by omega) hc
  exact ⟨A', by rw [h3, hlen], h4, h5⟩
theorem Rd.sub1 {n m : Nat} (hm : d.sz = m) (hR : Rd d H A xs) (h0 : 0 ≤ a) (h1 : a ≤ n) (hn : xs.length = n) (hc : xs.length ≤ cap) :
    ∃ A', sliced A a.toNat n cap m = .slice A' (xs.drop a.toNat).length (cap - a.toNat) ∧ (xs.drop a.toNat).length ≤ cap - a.toNat ∧ Rd d H A' (xs.drop a.toNat) := by
  subst hm
  have hlen : (xs.drop a.toNat).length = n - a.toNat := by rw [List.length_drop]; omega
  obtain ⟨A', h3, h4, h5⟩ := hR.sub (l := a.toNat) (h := n) (by omega) (by omega) hc
  have he : (xs.drop a.toNat).take (n - a.toNat) = xs.drop a.toNat := List.take_of_length_le (by rw [hlen]; exact Nat.le_refl _)
  rw [he] at h4 h5
  exact ⟨A', by rw [h3, hlen], h4, h5⟩
theorem e_slice_lh {n m : Nat} (ht : P.underlying T = some (.slice (P.elem T))) (hz : (P.info? (P.elem T)).map (·.size) = some m) (hx : ρ x = .slice A n cap) (hy : ρ y = .int k a) (hw : ρ z = .int k2 b) (h0 : 0 ≤ a) (h1 : a ≤ b) (h2 : b ≤ n) (hc : n ≤ cap) (hs : sliced A a.toNat b.toNat cap m = v) :
    (execOp ρ ⟨dst, .slice T x (some y) (some z) none, ty, pos, af, gd⟩).run P w = .ok (.value v) w := by
  have hr := run_slice_lh (P := P) (w := w) T A n cap ht k k2 a b h0 h1 (by omega)
  have hr2 := run_sliceAt_slice (P := P) (w := w) T (.slice A n cap) (some (.int k a)) (some (.int k2 b)) none ht
  rw [size_of hz] at hr
  simp only [Result.andThen, hs] at hr
  simp [execOp, hx, hy, hw, hr2, hr]
theorem e_slice_l {n m : Nat} (ht : P.underlying T = some (.slice (P.elem T))) (hz : (P.info? (P.elem T)).map (·.size) = some m) (hx : ρ x = .slice A n cap) (hy : ρ y = .int k a) (h0 : 0 ≤ a) (h1 : a ≤ n) (hc : n ≤ cap) (hs : sliced A a.toNat n cap m = v) :
    (execOp ρ ⟨dst, .slice T x (some y) none none, ty, pos, af, gd⟩).run P w = .ok (.value v) w := by
  have hr := run_slice_l (P := P) (w := w) T A n cap ht k a h0 h1
  have hr2 := run_sliceAt_slice (P := P) (w := w) T (.slice A n cap) (some (.int k a)) none none ht
  rw [size_of hz] at hr
  simp only [Result.andThen, hs] at hr
  simp [execOp, hx, hy, hr2, hr]
theorem e_slice_h {n m : Nat} (ht : P.underlying T = some (.slice (P.elem T))) (hz : (P.info? (P.elem T)).map (·.size) = some m) (hx : ρ x = .slice A n cap) (hw : ρ z = .int k2 b) (h1 : 0 ≤ b) (h2 : b ≤ n) (hc : n ≤ cap) (hn : (xs.take b.toNat).length = b.toNat) :
    (execOp ρ ⟨dst, .slice T x none (some z) none, ty, pos, af, gd⟩).run P w = .ok (.value (.slice A (xs.take b.toNat).length cap)) w := by
  have hr := run_slice_h (P := P) (w := w) T A n cap ht k2 b h1 (by omega)
  have hr2 := run_sliceAt_slice (P := P) (w := w) T (.slice A n cap) none (some (.int k2 b)) none ht
  have hA : sliced A 0 b.toNat cap m = .slice A b.toNat cap := by
    unfold sliced
    have : A.map (·.add (0 * m)) = A := by
      cases A with
      | none => rfl
      | some p => obtain ⟨p1, p2, p3⟩ := p; cases p3 <;> simp [Addr.add]
    rw [this]
    split <;> simp
  rw [size_of hz] at hr
  simp only [Result.andThen, hA] at hr
  simp [execOp, hx, hw, hr2, hr, hn]
theorem take_len {n : Nat} (h1 : 0 ≤ b) (h2 : b ≤ n) (hn : xs.length = n) : (xs.take b.toNat).length = b.toNat := by rw [List.length_take]; omega
theorem Rd.take {n : Nat} (hR : Rd d H A xs) : Rd d H A (xs.take n) := by
  obtain ⟨h63, hR⟩ := hR
  refine ⟨by rw [List.length_take]; omega, ?_⟩
  rcases hR with rfl | ⟨b, off, inner, rfl, hcell, he⟩
  · exact .inl (by simp)
  · refine .inr ⟨b, off, inner.take (n * d.sz), rfl, fun j u hj => ?_, elsR_take he n⟩
    rw [List.getElem?_take] at hj
    split at hj
    · exact hcell j u hj
    · cases hj
end
structure Cell where
  kind : Int
  n : Int
  text : List UInt8
  deriving Inhabited, DecidableEq
end Go.Sy
