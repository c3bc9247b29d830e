import Derived.Test.YtminnekeekhjcaaY16
import Derived.Lib.ReflectliteSwap
namespace Go.Sy
open Go.Sx
set_option linter.unusedVariables false
set_option linter.unusedSimpArgs false
set_option linter.unusedSectionVars false
/-! ### elements as packs; two elements of a row change places -/
structure Pk (α : Type) where
  x : α
  c : List Value
  F : Foot
section
variable {α : Type} {d : Ty α} {H X X' : Hp} {F : Foot} {xs : List α} {cs : List Value}
theorem elsO_packs (h : elsO d H X F xs cs) : ∃ L : List (Pk α), L.map (·.x) = xs ∧ L.flatMap (·.c) = cs ∧ (∀ p, p ∈ L → d.O H X p.F p.x p.c) ∧ L.Pairwise (fun p q => Dj p.F q.F) ∧ ∀ p, p ∈ L → ∀ b, p.F b → F b := by
  induction xs generalizing cs F with
  | nil => cases h; exact ⟨[], rfl, rfl, by simp, .nil, by simp⟩
  | cons x xs ih =>
    obtain ⟨c, cs', F1, F2, rfl, h1, h2, h3, h4⟩ := h
    obtain ⟨L, a1, a2, a3, a4, a5⟩ := ih h2
    refine ⟨⟨x, c, F1⟩ :: L, by simp [a1], by simp [a2], ?_, ?_, ?_⟩
    · intro p hp
      rcases List.mem_cons.1 hp with rfl | hp
      · exact h1
      · exact a3 p hp
    · exact List.pairwise_cons.2 ⟨fun q hq b hb hb2 => h3 b hb (a5 q hq b hb2), a4⟩
    · intro p hp b hb
      rcases List.mem_cons.1 hp with rfl | hp
      · exact h4 b (.inl hb)
      · exact h4 b (.inr (a5 p hp b hb))
theorem packs_elsO : ∀ (L : List (Pk α)) (F : Foot), (∀ p, p ∈ L → d.O H X p.F p.x p.c) → L.Pairwise (fun p q => Dj p.F q.F) → (∀ p, p ∈ L → ∀ b, p.F b → F b) → elsO d H X F (L.map (·.x)) (L.flatMap (·.c))
  | [], F, _, _, _ => rfl
  | p :: L, F, h1, h2, h3 => by
    have h2' := List.pairwise_cons.1 h2
    refine ⟨p.c, L.flatMap (·.c), p.F, (fun b => ∃ q, q ∈ L ∧ q.F b), by simp, h1 p (.head _), packs_elsO L _ (fun q hq => h1 q (.tail _ hq)) h2'.2 (fun q hq b hb => ⟨q, hq, hb⟩), fun b hb hb2 => ?_, fun b hb => ?_⟩
    · obtain ⟨q, hq, hb2⟩ := hb2
      exact h2'.1 q hq b hb hb2
    · rcases hb with hb | ⟨q, hq, hb⟩
      · exact h3 p (.head _) b hb
      · exact h3 q (.tail _ hq) b hb
/-- where the k-th element's cells lie -/
theorem flat_at : ∀ (L : List (Pk α)) (n : Nat), (∀ p, p ∈ L → p.c.length = n) → ∀ k r, r < n → (L.flatMap (·.c))[k * n + r]? = (L[k]?).bind (fun p => p.c[r]?)
  | [], n, _, k, r, _ => by simp
  | p :: L, n, h, 0, r, hr => by
    have hl := h p (.head _)
    simp only [List.flatMap_cons, Nat.zero_mul, Nat.zero_add]
    rw [List.getElem?_append_left (by omega)]
    simp
  | p :: L, n, h, k + 1, r, hr => by
    have hl := h p (.head _)
    simp only [List.flatMap_cons]
    rw [List.getElem?_append_right (by rw [hl, Nat.add_mul]; omega)]
    have := flat_at L n (fun q hq => h q (.tail _ hq)) k r hr
    rw [show (k + 1) * n + r - p.c.length = k * n + r by rw [hl, Nat.add_mul]; omega, this]
    simp
theorem flat_len : ∀ (L : List (Pk α)) (n : Nat), (∀ p, p ∈ L → p.c.length = n) → (L.flatMap (·.c)).length = L.length * n
  | [], n, _ => by simp
  | p :: L, n, h => by
    have hl := h p (.head _)
    have := flat_len L n (fun q hq => h q (.tail _ hq))
    simp only [List.flatMap_cons, List.length_append, List.length_cons]
    rw [this, hl, Nat.add_mul]; omega
/-- two places of a list change -/
def swL (l : List α) (i j : Nat) : List α := match l[i]?, l[j]? with
  | some x, some y => (l.set i y).set j x
  | _, _ => l
theorem swL_eq {l : List α} {i j : Nat} {x y : α} (hi : l[i]? = some x) (hj : l[j]? = some y) : swL l i j = (l.set i y).set j x := by
  unfold swL; rw [hi, hj]
theorem swL_len (l : List α) (i j : Nat) : (swL l i j).length = l.length := by
  unfold swL
  split
  · simp
  · rfl
theorem swL_get {l : List α} {i j : Nat} (hi : i < l.length) (hj : j < l.length) (k : Nat) : (swL l i j)[k]? = if k = j then l[i]? else if k = i then l[j]? else l[k]? := by
  have e1 := List.getElem?_eq_getElem hi
  have e2 := List.getElem?_eq_getElem hj
  rw [swL_eq e1 e2, List.getElem?_set, List.getElem?_set, List.length_set, e1, e2]
  by_cases h1 : j = k
  · subst h1; simp [hj]
  · have h1' : ¬ k = j := fun h => h1 h.symm
    rw [if_neg h1, if_neg h1']
    by_cases h2 : i = k
    · subst h2; simp [hi]
    · have h2' : ¬ k = i := fun h => h2 h.symm
      rw [if_neg h2, if_neg h2']
theorem swL_perm {l : List α} {i j : Nat} (hi : i < l.length) (hj : j < l.length) : (swL l i j).Perm l := by
  rw [swL_eq (List.getElem?_eq_getElem hi) (List.getElem?_eq_getElem hj)]
  exact List.set_set_perm hi hj
theorem swL_map {β : Type} (f : α → β) (l : List α) (i j : Nat) : (swL l i j).map f = swL (l.map f) i j := by
  unfold swL
  simp only [List.getElem?_map]
  cases l[i]? <;> cases l[j]? <;> simp [List.map_set]
end
section
variable {P : Program} {w : World} {α : Type} {d : Ty α} {e : TypeId} {H : Hp} {F : Foot} {xs : List α} {A : Option Addr} {cap : Nat} {P0 : Foot} {H0 : Hp} {w0 : World} {Fs : List Foot}
theorem cell_setCells {b : Nat} : ∀ (vs : List Value) (o : Nat) (w : World) (cur : Array Value) (t : TypeId) (fr : Nat × Nat), w.heap[b]? = some (.cells cur t fr) → o + vs.length ≤ cur.size →
    ∃ cur', (w.setCells b o vs).heap[b]? = some (.cells cur' t fr) ∧ cur'.size = cur.size ∧ (∀ k : Nat, cur'[k]? = if o ≤ k ∧ k < o + vs.length then vs[k - o]? else cur[k]?) ∧ Chg (is b) w (w.setCells b o vs)
  | [], o, w, cur, t, fr, hb, hl => by
    refine ⟨cur, hb, rfl, fun k => ?_, Chg.refl _ _⟩
    rw [if_neg (by simp)]
  | v :: vs, o, w, cur, t, fr, hb, hl => by
    have hl' : o + 1 + vs.length ≤ cur.size := by simp at hl; omega
    have h0 : w.setCell ⟨b, o, none⟩ v = w.setRow b (cur.setIfInBounds o v) := setCell_eq_setRow w b o cur t fr v hb
    obtain ⟨cur', a1, a2, a3, a4⟩ := cell_setCells vs (o + 1) (w.setRow b (cur.setIfInBounds o v)) (cur.setIfInBounds o v) t fr (setRow_heap w b cur _ t _ hb) (by simpa using hl')
    refine ⟨cur', by rw [World.setCells, h0]; exact a1, by simpa using a2, fun k => ?_, by rw [World.setCells, h0]; exact (chg_setRow w b _).trans a4⟩
    rw [a3 k]
    by_cases hk : o + 1 ≤ k ∧ k < o + 1 + vs.length
    · rw [if_pos hk, if_pos (by simp; omega), show k - o = (k - (o + 1)) + 1 by omega, List.getElem?_cons_succ]
    · rw [if_neg hk]
      by_cases hk2 : k = o
      · subst hk2
        rw [if_pos (by simp), Nat.sub_self, List.getElem?_cons_zero]
        rw [Array.getElem?_setIfInBounds]
        simp at hl ⊢; omega
      · rw [if_neg (by simp; omega), Array.getElem?_setIfInBounds]
        simp [show ¬ o = k by omega]
theorem row_swap {i j n : Nat} {gS : Bool} {ie : TypeInfo} (hie : P.info? e = some ie) (hagg : ∀ w, (isAgg e).run P w = .ok true w) (hsz : d.sz = ie.size) (hpos : 0 < d.sz)
    (S : St P0 H0 w0 (F :: Fs) H w) (HO : Row d e H (hp w) F A cap xs) (hn : xs.length = n) (hi : i < n) (hj : j < n) :
    ∃ w', (Extern.ReflectliteSwapper.swap gS #[.int .i64 i, .int .i64 j, .slice A n cap, typeHandle P e]).run P w = .ok (.tuple #[]) w' ∧ Row d e H (hp w') F A cap (swL xs i j) ∧ St P0 H0 w0 (F :: Fs) H w' ∧ Kp Fs w w' := by
  rcases HO with ⟨rfl, rfl, rfl⟩ | ⟨b, cur, fr, rfl, hF, hX, hth, hle, h63, hcs, hel⟩
  · simp at hn; omega
  subst hn
  obtain ⟨L, l1, l2, l3, l4, l5⟩ := elsO_packs hel
  have ll : L.length = xs.length := by rw [← l1]; simp
  have lc : ∀ p, p ∈ L → p.c.length = d.sz := fun p hp => d.O_len (l3 p hp)
  have hiL : i < L.length := by omega
  have hjL : j < L.length := by omega
  have m1 : ∀ k, k < xs.length → (k + 1) * d.sz ≤ xs.length * d.sz := fun k hk => Nat.mul_le_mul_right _ hk
  have m2 : xs.length * d.sz ≤ cap * d.sz := Nat.mul_le_mul_right _ hle
  have lX : L[i].c.length = d.sz := lc _ (List.getElem_mem _)
  have lY : L[j].c.length = d.sz := lc _ (List.getElem_mem _)
  have cc : ∀ (k : Nat) (hk : k < L.length) (r : Nat), r < d.sz → cur[k * d.sz + r]? = L[k].c[r]? := fun k hk r hr => by
    have := flat_at L d.sz lc k r hr
    rw [l2, List.getElem?_take, if_pos (by have := m1 k (by omega); rw [Nat.add_mul] at this; omega), List.getElem?_eq_getElem hk] at this
    simpa using this
  have cell : ∀ (k : Nat) (hk : k < L.length) (r : Nat) v, L[k].c[r]? = some v → w.cell? ⟨b, 0 + k * ie.size + r, none⟩ = some v := fun k hk r v hv => by
    have hr : r < d.sz := by
      have := (List.getElem?_eq_some_iff.1 hv).1
      have := lc L[k] (List.getElem_mem _)
      omega
    rw [Nat.zero_add, ← hsz]
    exact blk_cell hX ((cc k hk r hr).trans hv)
  have frz : ∀ (k : Nat) (hk : k < L.length) (r : Nat), r < ie.size → w.frozen? ⟨b, 0 + k * ie.size + r, none⟩ = false := fun k hk r hr => by
    have hh : w.heap[b]? = some (.cells cur e fr) := hX
    have := hth (0 + k * ie.size + r) (by have := m1 k (by omega); rw [Nat.add_mul] at this; rw [← hsz] at hr ⊢; omega)
    simp only [World.frozen?, hh]
    simpa using this
  have run := Lib.run_swap_cells (P := P) gS e ie hie hagg b 0 xs.length cap i j hi hj L[i].c L[j].c (by omega) (by omega) (fun v hv => d.O_one (l3 _ (List.getElem_mem hiL)) v hv) (fun v hv => d.O_one (l3 _ (List.getElem_mem hjL)) v hv) w
    (fun k v hv => cell i hiL k v hv) (fun k v hv => cell j hjL k v hv) (fun k hk => frz i hiL k hk) (fun k hk => frz j hjL k hk)
  have bi := m1 i hi
  have bj := m1 j hj
  rw [Nat.add_mul] at bi bj
  obtain ⟨c1, e1, s1, g1, C1⟩ := cell_setCells (b := b) L[j].c (0 + i * ie.size) w cur e fr hX (by rw [lY, ← hsz]; omega)
  obtain ⟨c2, e2, s2, g2, C2⟩ := cell_setCells (b := b) L[i].c (0 + j * ie.size) _ c1 e fr e1 (by rw [lX, ← hsz]; omega)
  have C : Chg F w ((w.setCells b (0 + i * ie.size) L[j].c).setCells b (0 + j * ie.size) L[i].c) := (C1.trans C2).mono (fun q hq => by rw [show q = b from hq]; exact hF)
  have C3 : Chg (is b) w ((w.setCells b (0 + i * ie.size) L[j].c).setCells b (0 + j * ie.size) L[i].c) := C1.trans C2
  obtain ⟨S', K'⟩ := S.step (G := F) C (fun q hq => ⟨Nat.lt_of_lt_of_le (S.own F (.head _) q hq).1 C.size, .inl hq⟩)
  refine ⟨_, run, .inr ⟨b, c2, fr, rfl, hF, e2, by rw [s2, s1]; exact hth, by rw [swL_len]; exact hle, h63, by omega, ?_⟩, S', K'⟩
  have p1 := swL_perm hiL hjL
  have mv : ∀ q, (fun q => F q ∧ q ≠ b) q → hp ((w.setCells b (0 + i * ie.size) L[j].c).setCells b (0 + j * ie.size) L[i].c) q = hp w q := fun q hq => C3.block q (S.own F (.head _) q hq.1).1 hq.2
  have lc' : ∀ p, p ∈ swL L i j → p.c.length = d.sz := fun p hp => lc p (p1.mem_iff.1 hp)
  have E := packs_elsO (d := d) (H := H) (X := hp ((w.setCells b (0 + i * ie.size) L[j].c).setCells b (0 + j * ie.size) L[i].c)) (swL L i j) (fun q => F q ∧ q ≠ b)
    (fun p hp => d.O_move (fun q hq => mv q (l5 p (p1.mem_iff.1 hp) q hq)) (l3 p (p1.mem_iff.1 hp)))
    ((p1.pairwise_iff (fun {a b} h => Dj.symm h)).2 l4) (fun p hp => l5 p (p1.mem_iff.1 hp))
  rw [swL_map, l1] at E
  rw [swL_len]
  have ct : ∀ t : Nat, c2.toList[t]? = c2[t]? := fun t => by simp
  have FL : (swL L i j).flatMap (·.c) = c2.toList.take (xs.length * d.sz) := by
    have fl := flat_len (swL L i j) d.sz lc'
    rw [swL_len, ll] at fl
    refine List.ext_getElem? fun t => ?_
    by_cases ht : t < xs.length * d.sz
    · have hk : t / d.sz < xs.length := (Nat.div_lt_iff_lt_mul hpos).2 ht
      have hr : t % d.sz < d.sz := Nat.mod_lt _ hpos
      have ht2 : t / d.sz * d.sz + t % d.sz = t := by rw [Nat.mul_comm]; exact Nat.div_add_mod t d.sz
      generalize t / d.sz = k at *
      generalize t % d.sz = r at *
      subst ht2
      rw [flat_at _ d.sz lc' k r hr, swL_get hiL hjL, List.getElem?_take, if_pos ht, ct, g2, g1, lX, lY, ← hsz, Nat.zero_add, Nat.zero_add]
      have away : ∀ a, a ≠ k → ¬ (a * d.sz ≤ k * d.sz + r ∧ k * d.sz + r < a * d.sz + d.sz) := fun a ha hh => by
        rcases Nat.lt_or_gt_of_ne ha with h | h
        · have := Nat.mul_le_mul_right d.sz (show a + 1 ≤ k from h)
          rw [Nat.add_mul] at this; omega
        · have := Nat.mul_le_mul_right d.sz (show k + 1 ≤ a from h)
          rw [Nat.add_mul] at this; omega
      by_cases h1 : k = j
      · subst h1
        rw [if_pos rfl, if_pos (by omega), List.getElem?_eq_getElem hiL, show k * d.sz + r - k * d.sz = r by omega]
        rfl
      · rw [if_neg h1, if_neg (away j (fun h => h1 h.symm))]
        by_cases h2 : k = i
        · subst h2
          rw [if_pos rfl, if_pos (by omega), List.getElem?_eq_getElem hjL, show k * d.sz + r - k * d.sz = r by omega]
          rfl
        · rw [if_neg h2, if_neg (away i (fun h => h2 h.symm)), cc k (by omega) r hr, List.getElem?_eq_getElem (by omega)]
          rfl
    · rw [List.getElem?_eq_none (by omega), List.getElem?_eq_none (by rw [List.length_take]; omega)]
  rw [← FL]
  exact E
end
section
variable {P : Program} {w w' : World} {ρ : Operand → Value} {dst : Option Tmp} {ty : TypeId} {pos : String} {af : Array Edge} {gd : Option (Nat × Bool)} {x : Operand} {α : Type} {d : Ty α} {e : TypeId} {H : Hp} {F : Foot} {xs : List α} {A : Option Addr} {cap n : Nat} {P0 : Foot} {H0 : Hp} {w0 : World} {Fs : List Foot}
/-- what a swap literal does -/
def SwOK (P : Program) (d : Ty α) (e : TypeId) (sf : FuncId) (sb : Array Value) (A : Option Addr) (cap n : Nat) : Prop :=
  ∀ (P0 : Foot) (H0 : Hp) (w0 : World) (F : Foot) (Fs : List Foot) (H : Hp) (w : World) (xs : List α), St P0 H0 w0 (F :: Fs) H w → Row d e H (hp w) F A cap xs → xs.length = n → ∀ i j : Nat, i < n → j < n →
    ∃ w', (callFunc sf (#[.int .i64 i, .int .i64 j] ++ sb)).run P w = .ok (.value (.tuple #[])) w' ∧ Row d e H (hp w') F A cap (swL xs i j) ∧ St P0 H0 w0 (F :: Fs) H w' ∧ Kp Fs w w'
/-- data.Swap(i, j) -/
theorem e_swap {sf : FuncId} {sb : Array Value} {y z : Operand} {ts : Array TypeId} {a b : Int} (S : St P0 H0 w0 (F :: Fs) H w) (HO : Row d e H (hp w) F A cap xs) (hn : xs.length = n) (hS : SwOK P d e sf sb A cap n)
    (hx : ρ x = .func (.func sf) #[] sb) (hy : ρ y = .int .i64 a) (hz : ρ z = .int .i64 b) (a0 : 0 ≤ a) (a1 : a < n) (b0 : 0 ≤ b) (b1 : b < n) :
    ∃ v w', (execOp ρ ⟨dst, .call { callee := .value x, args := #[y, z], argTypes := ts }, ty, pos, af, gd⟩).run P w = .ok (.value v) w' ∧ v = .tuple #[] ∧ Row d e H (hp w') F A cap (swL xs a.toNat b.toNat) ∧ St P0 H0 w0 (F :: Fs) H w' ∧ Kp Fs w w' := by
  obtain ⟨w', h1, h2, h3, h4⟩ := hS P0 H0 w0 F Fs H w xs S HO hn a.toNat b.toNat (by omega) (by omega)
  refine ⟨_, w', ?_, rfl, h2, h3, h4⟩
  rw [Int.toNat_of_nonneg a0, Int.toNat_of_nonneg b0] at h1
  unfold execOp
  simp [resolve, Deferred.ofValue, invoke, hx, hy, hz, h1]
/-- the literal for two elements or more -/
theorem SwOK.of {sf : FuncId} {gS : Bool} {ie : TypeInfo} (hie : P.info? e = some ie) (hagg : ∀ w, (isAgg e).run P w = .ok true w) (hsz : d.sz = ie.size) (hpos : 0 < d.sz)
    (hx : ∀ args W, (callFunc sf args).run P W = ((Extern.ReflectliteSwapper.swap gS args).run P W).andThen fun v w' => .ok (.value v) w') : SwOK P d e sf #[.slice A n cap, typeHandle P e] A cap n := by
  intro P0 H0 w0 F Fs H w xs S HO hn i j hi hj
  obtain ⟨w', h1, h2, h3, h4⟩ := row_swap (gS := gS) hie hagg hsz hpos S HO hn hi hj
  refine ⟨w', ?_, h2, h3, h4⟩
  have : (#[.int .i64 i, .int .i64 j] ++ #[.slice A n cap, typeHandle P e] : Array Value) = #[.int .i64 i, .int .i64 j, .slice A n cap, typeHandle P e] := rfl
  rw [this, hx, h1]
  rfl
end
end Go.Sy
