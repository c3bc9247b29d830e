import Derived.Test.YtognefkopbbdnaaBase
import Derived.Laws.Slices
namespace Go.Sx
/-! ### slices of slices and strings -/
section
variable {α : Type} {P : Program} {w w' : World} {ρ : Operand → Value} {dst : Option Tmp} {T T2 ty e : TypeId} {pos : String} {af : Array Edge} {gd : Option (Nat × Bool)} {x y z : Operand} {k k2 : IntKind} {a b : Int} {v : Value} {d : Ty α} {F F2 : Foot} {A : Option Addr} {cap : Nat} {xs : List α}
theorem Rd.sub {l h : Nat} (hR : Rd d w F A xs) (hl : l ≤ h) (hh : h ≤ xs.length) (hc : xs.length ≤ cap) :
    ∃ A', sliced A l h cap d.sz = .slice A' ((xs.drop l).take (h - l)).length (cap - l) ∧ ((xs.drop l).take (h - l)).length ≤ cap - l ∧ Rd d w F A' ((xs.drop l).take (h - l)) := by
  have hlen : ((xs.drop l).take (h - l)).length = h - l := by rw [List.length_take, List.length_drop]; omega
  refine ⟨if cap = l then A else A.map (·.add (l * d.sz)), ?_, by rw [hlen]; omega, ?_⟩
  · rw [hlen]; rfl
  · obtain ⟨h63, hR⟩ := hR
    refine ⟨by rw [hlen]; omega, ?_⟩
    by_cases h0 : (xs.drop l).take (h - l) = []
    · exact .inl h0
    · rcases hR with rfl | ⟨b, off, inner, rfl, hb, hcell, he⟩
      · exact absurd (by simp) h0
      · have hll : l < xs.length := by
          rcases Nat.lt_or_ge l xs.length with h1 | h1
          · exact h1
          · exact absurd (by rw [List.drop_of_length_le h1]; simp) h0
        refine .inr ⟨b, off + l * d.sz, (inner.drop (l * d.sz)).take ((h - l) * d.sz), ?_, hb, fun j u hj => ?_, elsR_take (elsR_drop he l) (h - l)⟩
        · rw [if_neg (by omega)]
          have hadd : (⟨b, off, none⟩ : Addr).add (l * d.sz) = ⟨b, off + l * d.sz, none⟩ := by unfold Addr.add; split <;> simp_all
          simp [hadd]
        · rw [List.getElem?_take] at hj
          split at hj
          · rw [List.getElem?_drop] at hj
            rw [Nat.add_assoc]
            exact hcell _ u hj
          · cases hj
theorem e_slice_lh (ht : P.underlying T = some (.slice (P.elem T))) (hz : (P.info? (P.elem T)).map (·.size) = some d.sz) (hx : ρ x = .slice A xs.length cap) (hy : ρ y = .int k a) (hw : ρ z = .int k2 b) (h0 : 0 ≤ a) (h1 : a ≤ b) (h2 : b ≤ xs.length) (hc : xs.length ≤ cap) (hR : Rd d w F A xs) :
    ∃ u w', (execOp ρ ⟨dst, .slice T x (some y) (some z) none, ty, pos, af, gd⟩).run P w = .ok (.value u) w' ∧ w = w' ∧ ∃ A', u = .slice A' ((xs.drop a.toNat).take (b.toNat - a.toNat)).length (cap - a.toNat) ∧ ((xs.drop a.toNat).take (b.toNat - a.toNat)).length ≤ cap - a.toNat ∧ Rd d w F A' ((xs.drop a.toNat).take (b.toNat - a.toNat)) := by
  obtain ⟨A', h3, h4, h5⟩ := hR.sub (l := a.toNat) (h := b.toNat) (by omega) (by omega) hc
  refine ⟨_, w, ?_, rfl, A', rfl, h4, h5⟩
  have hr := run_slice_lh (P := P) (w := w) T A xs.length cap ht k k2 a b h0 h1 (by omega)
  have hr2 := run_sliceAt_slice (P := P) (w := w) T (.slice A xs.length cap) (some (.int k a)) (some (.int k2 b)) none ht
  cases hq : P.info? (P.elem T) with
  | none => simp [hq] at hz
  | some i =>
    have hs : i.size = d.sz := by simpa [hq] using hz
    have hso : (sizeOf (P.elem T)).run P w = .ok d.sz w := by simp [sizeOf, typeInfo, hq, hs]
    rw [hso] at hr
    simp only [Result.andThen, h3] at hr
    simp [execOp, hx, hy, hw, hr2, hr]
theorem e_slice_l (ht : P.underlying T = some (.slice (P.elem T))) (hz : (P.info? (P.elem T)).map (·.size) = some d.sz) (hx : ρ x = .slice A xs.length cap) (hy : ρ y = .int k a) (h0 : 0 ≤ a) (h1 : a ≤ xs.length) (hc : xs.length ≤ cap) (hR : Rd d w F A xs) :
    ∃ u w', (execOp ρ ⟨dst, .slice T x (some y) none none, ty, pos, af, gd⟩).run P w = .ok (.value u) w' ∧ w = w' ∧ ∃ A', u = .slice A' (xs.drop a.toNat).length (cap - a.toNat) ∧ (xs.drop a.toNat).length ≤ cap - a.toNat ∧ Rd d w F A' (xs.drop a.toNat) := by
  obtain ⟨A', h3, h4, h5⟩ := hR.sub (l := a.toNat) (h := xs.length) (by omega) (by omega) hc
  have he : (xs.drop a.toNat).take (xs.length - a.toNat) = xs.drop a.toNat := List.take_of_length_le (by rw [List.length_drop]; omega)
  rw [he] at h3 h4 h5
  refine ⟨_, w, ?_, rfl, A', rfl, h4, h5⟩
  have hr := run_slice_l (P := P) (w := w) T A xs.length cap ht k a h0 h1
  have hr2 := run_sliceAt_slice (P := P) (w := w) T (.slice A xs.length cap) (some (.int k a)) none none ht
  cases hq : P.info? (P.elem T) with
  | none => simp [hq] at hz
  | some i =>
    have hs : i.size = d.sz := by simpa [hq] using hz
    have hso : (sizeOf (P.elem T)).run P w = .ok d.sz w := by simp [sizeOf, typeInfo, hq, hs]
    rw [hso] at hr
    simp only [Result.andThen, h3] at hr
    simp [execOp, hx, hy, hr2, hr]
theorem e_slice_h0 (ht : P.underlying T = some (.slice (P.elem T))) (hz : (P.info? (P.elem T)).map (·.size) = some d.sz) (hx : ρ x = .slice A xs.length cap) (hw : ρ z = .int k2 b) (h1 : 0 ≤ b) (h2 : b ≤ xs.length) (hc : xs.length ≤ cap) :
    (execOp ρ ⟨dst, .slice T x none (some z) none, ty, pos, af, gd⟩).run P w = .ok (.value (.slice A (xs.take b.toNat).length cap)) w := by
  have hr := run_slice_h (P := P) (w := w) T A xs.length cap ht k2 b h1 (by omega)
  have hr2 := run_sliceAt_slice (P := P) (w := w) T (.slice A xs.length cap) none (some (.int k2 b)) none ht
  have hl : (xs.take b.toNat).length = b.toNat := by rw [List.length_take]; omega
  cases hq : P.info? (P.elem T) with
  | none => simp [hq] at hz
  | some i =>
    have hs : i.size = d.sz := by simpa [hq] using hz
    have hso : (sizeOf (P.elem T)).run P w = .ok d.sz w := by simp [sizeOf, typeInfo, hq, hs]
    have hA : sliced A 0 b.toNat cap d.sz = .slice A b.toNat cap := by
      unfold sliced
      have : A.map (·.add (0 * d.sz)) = A := by
        cases A with
        | none => rfl
        | some p => obtain ⟨p1, p2, p3⟩ := p; cases p3 <;> simp [Addr.add]
      rw [this]
      split <;> simp
    rw [hso] at hr
    simp only [Result.andThen, hA] at hr
    simp [execOp, hx, hw, hr2, hr, hl]
theorem Rd.take {n : Nat} (hR : Rd d w F A xs) : Rd d w F A (xs.take n) := by
  obtain ⟨h63, hR⟩ := hR
  refine ⟨by rw [List.length_take]; omega, ?_⟩
  rcases hR with rfl | ⟨b, off, inner, rfl, hb, hcell, he⟩
  · exact .inl (by simp)
  · refine .inr ⟨b, off, inner.take (n * d.sz), rfl, hb, fun j u hj => ?_, elsR_take he n⟩
    rw [List.getElem?_take] at hj
    split at hj
    · exact hcell j u hj
    · cases hj
end

/-! ### rows behind a change -/
section
variable {α : Type} {d : Ty α} {e : TypeId} {w w' : World} {F F2 : Foot} {A A' : Option Addr} {cap cap' : Nat} {xs : List α} {L L2 : Foot} {hi hi2 n : Nat} {M N M2 : List (Option Nat)}
theorem row_or (h : Row d e w' (fun q => FP L hi M q ∨ FP L2 hi2 M2 q) A cap xs) (hL : ∀ b, L2 b → L b) (h1 : ∀ o, o ∈ N → o ∈ M) (h2 : ∀ o, o ∈ N → o ∈ M2) : Row d e w' (FP L w'.heap.size N) A cap xs :=
  row_canon h fun b hb _ => by
    rcases hb with ⟨g1, _, g3⟩ | ⟨g1, _, g3⟩
    · exact ⟨g1, fun hm => g3 (h1 _ hm)⟩
    · exact ⟨hL b g1, fun hm => g3 (h2 _ hm)⟩
theorem row_or0 (h : Row d e w' (fun q => FP L hi M q ∨ False) A cap xs) (h1 : ∀ o, o ∈ N → o ∈ M) : Row d e w' (FP L w'.heap.size N) A cap xs :=
  row_canon h fun b hb _ => by
    rcases hb with ⟨g1, _, g3⟩ | hb
    · exact ⟨g1, fun hm => g3 (h1 _ hm)⟩
    · exact hb.elim
/-- behind an append: own or new -/
theorem row_or3 (h : Row d e w' (fun q => FP L hi M q ∨ FP L2 hi2 M2 q ∨ n ≤ q) A cap xs) (hL : ∀ b, L2 b → L b) (hn : ∀ b, n ≤ b → L b) (hN : Lt N n) (h1 : ∀ o, o ∈ N → o ∈ M) (h2 : ∀ o, o ∈ N → o ∈ M2) : Row d e w' (FP L w'.heap.size N) A cap xs :=
  row_canon h fun b hb _ => by
    rcases hb with ⟨g1, _, g3⟩ | ⟨g1, _, g3⟩ | hb
    · exact ⟨g1, fun hm => g3 (h1 _ hm)⟩
    · exact ⟨hL b g1, fun hm => g3 (h2 _ hm)⟩
    · exact ⟨hn b hb, fun hm => by have := hN _ hm b rfl; omega⟩
theorem row_or30 (h : Row d e w' (fun q => FP L hi M q ∨ False ∨ n ≤ q) A cap xs) (hn : ∀ b, n ≤ b → L b) (hN : Lt N n) (h1 : ∀ o, o ∈ N → o ∈ M) : Row d e w' (FP L w'.heap.size N) A cap xs :=
  row_canon h fun b hb _ => by
    rcases hb with ⟨g1, _, g3⟩ | hb | hb
    · exact ⟨g1, fun hm => g3 (h1 _ hm)⟩
    · exact hb.elim
    · exact ⟨hn b hb, fun hm => by have := hN _ hm b rfl; omega⟩
/-- elements that are only read, out of a slice -/
theorem Rd.els (hs : d.sep = false) (h : Rd d w F A xs) : ∃ news, els d w F xs news ∧ (xs = [] ∨ ∃ ad, A = some ad ∧ ∀ j u, news[j]? = some u → w.cell? (ad.add j) = some u) := by
  obtain ⟨_, h⟩ := h
  have hn : ¬ d.sep = true := by rw [hs]; simp
  rcases h with rfl | ⟨b, off, inner, rfl, hb, hc, he⟩
  · exact ⟨[], els_nil _ _ _, .inl rfl⟩
  · refine ⟨inner, by unfold Sx.els; rw [if_neg hn]; exact he, .inr ⟨_, rfl, fun j u hj => ?_⟩⟩
    have hadd : (⟨b, off, none⟩ : Addr).add j = ⟨b, off + j, none⟩ := by unfold Addr.add; split <;> simp_all
    rw [hadd]
    exact hc j u hj
theorem blk_news {g : Nat} {cur : Array Value} {t : TypeId} {fr : Nat × Nat} {cs : List Value} (hb : w.heap[g]? = some (.cells cur t fr)) (hc : cur.toList = cs) : ∃ ad, (some ⟨g, 0, none⟩ : Option Addr) = some ad ∧ ∀ j u, cs[j]? = some u → w.cell? (ad.add j) = some u :=
  ⟨_, rfl, fun j u hj => by
    have hadd : (⟨g, 0, none⟩ : Addr).add j = ⟨g, 0 + j, none⟩ := by unfold Addr.add; split <;> simp_all
    rw [hadd]
    exact blk_cell hb hc j u hj⟩
/-- A struct in a cell is handed back. -/
theorem retS {P : Program} {fn : Func} {R : Ending → World → Prop} {n : Nat} {f : Nat → Value} {t g : Nat} {ty T : TypeId} {D : TypeDesc} {cur : Array Value} {fr : Nat × Nat} (h : fn.results = #[.cell t ty]) (ht : Nat.blt t n = true) (hv : f t = .pointer (some ⟨g, 0, none⟩)) (hb : w.heap[g]? = some (.cells cur T fr))
    (hu : P.underlying ty = some D) (hD : (match D with | .struct _ | .array _ _ => true | _ => false) = true) (hi : (P.info? ty).map (·.size) = some cur.size) (hR : R (.returned (.agg cur)) w) : bodyPost P fn R .ret (mk n f) w := by
  have hl : (loadCells ⟨g, 0, none⟩ cur.size).run P w = .ok cur w := by
    have := run_loadCells_list (P := P) w ⟨g, 0, none⟩ cur.toList (fun j u hj => by
      have hadd : (⟨g, 0, none⟩ : Addr).add j = ⟨g, 0 + j, none⟩ := by unfold Addr.add; split <;> simp_all
      rw [hadd]
      exact blk_cell hb rfl j u hj)
    simpa using this
  have hagg : (isAgg ty).run P w = .ok true w := by
    unfold isAgg
    rw [Sem.run_bind, run_underlying hu w]
    cases D <;> simp_all
  have hr : (results fn (mk n f).tmps).run P w = .ok (.agg cur) w := by
    cases hq : P.info? ty with
    | none => simp [hq] at hi
    | some i =>
      have hs : i.size = cur.size := by simpa [hq] using hi
      have hg : (mk n f).tmps[t]?.getD undef = .pointer (some ⟨g, 0, none⟩) := by rw [← Array.getD_eq_getD_getElem?, mk_getD ht, hv]
      simp [results, h, hg, loadVar, Sem.run_bind, hagg, sizeOf, typeInfo, hq, hs, hl, asAddr]
  exact bodyPost_ret hr rfl hR
end
end Go.Sx
