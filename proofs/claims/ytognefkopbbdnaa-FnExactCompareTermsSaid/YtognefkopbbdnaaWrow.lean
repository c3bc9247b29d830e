import Derived.Test.YtognefkopbbdnaaOps
namespace Go.Sx
set_option linter.unusedVariables false
section
variable {α : Type} {P : Program} {d : Ty α} {e T : TypeId} {w w' : World} {F F' F2 : Foot} {xs ys : List α} {A A2 : Option Addr} {cap c2 : Nat}

theorem run_storeCells_fr (g o : Nat) (t : TypeId) (fr : Nat × Nat) : ∀ (vs : List Value) (i : Nat) (cur : Array Value) (w : World), w.heap[g]? = some (.cells cur t fr) → thaw fr cur.size → o + i + vs.length ≤ cur.size → (∀ v ∈ vs, v.oneCell' = true) →
    (storeCells ⟨g, o, none⟩ vs i).run P w = .ok () (w.setRow g (cur.toList.take (o + i) ++ vs ++ cur.toList.drop (o + i + vs.length)).toArray)
  | [], i, cur, w, hg, _, _, _ => by
    simp only [storeCells, List.append_nil, List.length_nil, Nat.add_zero, List.take_append_drop, Array.toArray_toList]
    rw [setRow_self w g cur t fr hg]
    rfl
  | v :: rest, i, cur, w, hg, hfr, hl, h1 => by
    have hi : o + i < cur.size := by simp at hl; omega
    have hadd : (⟨g, o, none⟩ : Addr).add i = ⟨g, o + i, none⟩ := by unfold Addr.add; split <;> simp_all
    have hcell : w.cell? ⟨g, o + i, none⟩ = some cur[o + i] := by simp [World.cell?, hg, hi]
    have hfro : w.frozen? ⟨g, o + i, none⟩ = false := by
      have := hfr (o + i) hi
      simp only [World.frozen?, hg]
      simpa using this
    have hst : (store ((⟨g, o, none⟩ : Addr).add i) v).run P w = .ok () (w.setRow g (cur.setIfInBounds (o + i) v)) := by
      rw [hadd, run_store P w _ v _ (h1 v (by simp)), hcell]
      simp [hfro, setCell_eq_setRow w g (o + i) cur t fr v hg]
    have ih := run_storeCells_fr g o t fr rest (i + 1) (cur.setIfInBounds (o + i) v) (w.setRow g (cur.setIfInBounds (o + i) v)) (setRow_heap w g cur _ t _ hg) (by simpa using hfr) (by simp at hl ⊢; omega) (fun x hx => h1 x (by simp [hx]))
    simp only [storeCells, Sem.run_bind, hst, Result.andThen_ok, ih, setRow_setRow]
    congr 3
    have e := list_seg_step cur.toList (o + i) v rest (by simp at hl ⊢; omega)
    simpa [Array.toList_setIfInBounds, Nat.add_assoc] using e

theorem chg_setRow (w : World) (g : Nat) (cs : Array Value) : Chg [some g] w (w.setRow g cs) :=
  ⟨rfl, rfl, rfl, by simp, fun b _ hn => setRow_other w g b cs (fun e => hn (by simp [e]))⟩

/-- append(v, ys...): v a row of one's own, ys' cells (news) lie at A2. -/
theorem run_append_row (ty : TypeId) (i : TypeInfo) (z : Value) (bytes : Nat) (ht : P.underlying T = some (.slice e)) (hi : P.info? e = some i) (hz : i.zero = some z) (hsz : i.size = d.sz) (hby : i.bytes = bytes) (hzs : z.cells.size = d.sz) (hpos : 0 < d.sz)
    (HO : Row d e w F A cap xs) {news : List Value} (hn : els d w F2 ys news) (hnews : ys = [] ∨ ∃ ad, A2 = some ad ∧ ∀ j u, news[j]? = some u → w.cell? (ad.add j) = some u) (hnA : A2 = none → ys = [])
    (hd : d.sep = true → ∀ b, F b → ¬ F2 b) (ha : ∀ g, bk A = some g → ¬ F2 g) (h63 : xs.length + ys.length ≤ 9223372036854775807) (hb : (xs.length + ys.length) * bytes ≤ 140737488355328) :
    ∃ A' cap' w', (Builtin.append_ #[T, T] ty #[.slice A xs.length cap, .slice A2 ys.length c2]).run P w = .ok (.slice A' (xs.length + ys.length) cap') w' ∧
      Row d e w' (fun b => F b ∨ F2 b ∨ w.heap.size ≤ b) A' cap' (xs ++ ys) ∧ Chg [bk A] w w' ∧ (bk A' = bk A ∨ ∃ b, bk A' = some b ∧ w.heap.size ≤ b) := by
  subst hby
  have hl : news.length = ys.length * i.size := by rw [hsz]; exact els_len hn
  have h1 := els_one' hn
  have hl2 : (xs ++ ys).length = xs.length + ys.length := List.length_append
  -- the appended cells, whatever the header's address
  have hfirst : ∀ w1 : World, w1.heap = w.heap → (Builtin.firstCells i.size ys.length (.slice A2 ys.length c2)).run P w1 = .ok news.toArray w1 := by
    intro w1 hw1
    cases A2 with
    | none =>
      have := hnA rfl
      subst this
      have : news = [] := List.eq_nil_of_length_eq_zero (by simpa using hl)
      subst this
      simp [Builtin.firstCells]
    | some ad =>
      refine run_firstCells_some (P := P) w1 i.size ys.length ad ys.length c2 news hl (fun j u hj => ?_)
      rcases hnews with rfl | ⟨ad', h1, h2⟩
      · have : news = [] := List.eq_nil_of_length_eq_zero (by simpa using hl)
        subst this
        simp at hj
      · injection h1 with h1
        subst h1
        have := h2 j u hj
        simpa [World.cell?, hw1] using this
  have grow : ∀ (olds : List Value) (A0 : Option Addr), els d w F xs olds → (Builtin.firstCells i.size xs.length (.slice A0 xs.length cap)).run P w.drew = .ok olds.toArray w.drew → A0 = A → ¬ (xs.length + ys.length ≤ cap) →
      ∃ A' cap' w', (Builtin.append_ #[T, T] ty #[.slice A xs.length cap, .slice A2 ys.length c2]).run P w = .ok (.slice A' (xs.length + ys.length) cap') w' ∧
      Row d e w' (fun b => F b ∨ F2 b ∨ w.heap.size ≤ b) A' cap' (xs ++ ys) ∧ Chg [bk A] w w' ∧ (bk A' = bk A ∨ ∃ b, bk A' = some b ∧ w.heap.size ≤ b) := by
    intro olds A0 holds hfo hA0 hroom
    subst hA0
    have h63' : ¬ (9223372036854775807 < ((xs.length : Int) + (ys.length : Int))) := by omega
    have h48 : Builtin.nextslicecap (xs.length + ys.length) cap * i.bytes ≤ 281474976710656 := by
      have h2 : Builtin.nextslicecap (xs.length + ys.length) cap ≤ 2 * (xs.length + ys.length) := nextslicecap_le (by omega)
      calc _ ≤ 2 * (xs.length + ys.length) * i.bytes := Nat.mul_le_mul_right _ h2
        _ = 2 * ((xs.length + ys.length) * i.bytes) := by rw [Nat.mul_assoc]
        _ ≤ _ := by omega
    have h48' : ¬ (281474976710656 < Builtin.nextslicecap (xs.length + ys.length) cap * i.bytes) := by omega
    have hcap := grownCap_ge w (xs.length + ys.length) cap e
    have hcm := grownCap_le_maxLen w (xs.length + ys.length) cap e (by simp only [maxLen]; omega)
    have hfn := hfirst w.drew rfl
    have hrun : (Builtin.append_ #[T, T] ty #[.slice A0 xs.length cap, .slice A2 ys.length c2]).run P w =
        .ok (.slice (some ⟨w.heap.size, 0, none⟩) (xs.length + ys.length) (grownCap w (xs.length + ys.length) cap e))
          (w.drew.alloc (.cells (olds.toArray ++ news.toArray ++ Builtin.zeroCells z.cells (grownCap w (xs.length + ys.length) cap e - (xs.length + ys.length))) e)) := by
      simp [Builtin.append_, run_underlying ht, sizeOf, typeInfo, zeroValue, hi, hz, Builtin.lenOf, hroom, h63', h48', Question.forced, hfn, hfo, newRow, grownCap]
      congr 2
      apply Array.ext'
      simp [List.append_assoc]
    have hol : olds.length = xs.length * d.sz := els_len holds
    have hnl : news.length = ys.length * d.sz := by rw [← hsz]; exact hl
    refine ⟨_, _, _, hrun, .inr ⟨w.heap.size, _, (0, 0), rfl, .inr (.inr (Nat.le_refl _)), heap_alloc_new w.drew _, fun j _ hj => by simp at hj, by rw [hl2]; exact hcap, by simpa [maxLen] using hcm, ?_, ?_⟩, ?_, .inr ⟨w.heap.size, rfl, Nat.le_refl _⟩⟩
    · simp only [Array.size_append, List.size_toArray, size_zeroCells, hzs, hol, hnl, ← Nat.add_mul]
      congr 1
      omega
    · have hall : els d w (fun b => (F b ∨ F2 b) ∧ b < w.heap.size) (xs ++ ys) (olds ++ news) :=
        els_append (els_lt holds) (els_lt hn) (fun hs b hb hb2 => hd hs b hb.1 hb2.1) (fun b hb => by
          rcases hb with hb | hb
          · exact ⟨.inl hb.1, hb.2⟩
          · exact ⟨.inr hb.1, hb.2⟩)
      have hmv := els_move (w := w) (w' := w.drew.alloc (.cells (olds.toArray ++ news.toArray ++ Builtin.zeroCells z.cells (grownCap w (xs.length + ys.length) cap e - (xs.length + ys.length))) e))
        (fun b (hb : (F b ∨ F2 b) ∧ b < w.heap.size) => Go.RowKit.Below.heap_alloc w.drew _ b hb.2) hall
      have htk : ((olds.toArray ++ news.toArray ++ Builtin.zeroCells z.cells (grownCap w (xs.length + ys.length) cap e - (xs.length + ys.length))).toList.take ((xs ++ ys).length * d.sz)) = olds ++ news := by
        have : (xs ++ ys).length * d.sz = (olds ++ news).length := by rw [List.length_append, List.length_append, hol, hnl, Nat.add_mul]
        rw [this]
        simp only [Array.toList_append, List.append_assoc]
        rw [← List.append_assoc]
        exact List.take_left
      rw [htk]
      refine els_mono (fun b hb => ⟨?_, by have := hb.2; intro h; omega⟩) hmv
      rcases hb.1 with h | h
      · exact .inl h
      · exact .inr (.inl h)
    · exact ⟨rfl, rfl, rfl, by simp, fun b hb _ => Go.RowKit.Below.heap_alloc w.drew _ b hb⟩
  rcases HO with ⟨rfl, rfl, rfl⟩ | ⟨g, cur, fr, rfl, hFg, hg, hfr, hle, hcm, hcs, hels⟩
  · by_cases hy : ys = []
    · subst hy
      have hnn : news = [] := List.eq_nil_of_length_eq_zero (by simpa using hl)
      subst hnn
      refine ⟨none, 0, w, ?_, Row.nil _ _ _ _, Chg.refl _ _, .inl rfl⟩
      have hf := hfirst w rfl
      simp only [List.length_nil] at hf
      simp [Builtin.append_, run_underlying ht, sizeOf, typeInfo, hi, Builtin.lenOf, hf]
    · refine grow [] none (els_nil d w F) (by simp [Builtin.firstCells]) rfl ?_
      have : ys.length ≠ 0 := fun h => hy (List.eq_nil_of_length_eq_zero h)
      simp only [List.length_nil]
      omega
  · have hels' : els d w F xs (cur.toList.take (xs.length * d.sz)) := els_mono (fun b hb => hb.1) hels
    by_cases hroom : xs.length + ys.length ≤ cap
    · have hnl : news.length = ys.length * d.sz := by rw [← hsz]; exact hl
      have hfit : xs.length * d.sz + news.length ≤ cur.size := by rw [hnl, hcs, ← Nat.add_mul]; exact Nat.mul_le_mul_right _ hroom
      have hst := run_storeCells_fr (P := P) g (xs.length * d.sz) e fr news 0 cur w hg hfr (by simpa using hfit) h1
      simp only [Nat.add_zero] at hst
      have hrun : (Builtin.append_ #[T, T] ty #[.slice (some ⟨g, 0, none⟩) xs.length cap, .slice A2 ys.length c2]).run P w =
          .ok (.slice (some ⟨g, 0, none⟩) (xs.length + ys.length) cap) (w.setRow g (cur.toList.take (xs.length * d.sz) ++ news ++ cur.toList.drop (xs.length * d.sz + news.length)).toArray) := by
        have hf := hfirst w rfl
        have hadd : (⟨g, 0, none⟩ : Addr).add (xs.length * d.sz) = ⟨g, xs.length * d.sz, none⟩ := by unfold Addr.add; split <;> simp_all
        rw [hsz] at hf
        simp [Builtin.append_, run_underlying ht, sizeOf, typeInfo, hi, hsz, Builtin.lenOf, hroom, hf, hadd, hst]
      refine ⟨_, _, _, hrun, .inr ⟨g, _, fr, rfl, .inl hFg, setRow_heap w g cur _ e fr hg, ?_, by rw [hl2]; exact hroom, hcm, ?_, ?_⟩, chg_setRow _ _ _, .inl rfl⟩
      · have : (cur.toList.take (xs.length * d.sz) ++ news ++ cur.toList.drop (xs.length * d.sz + news.length)).toArray.size = cur.size := by
          simp only [List.size_toArray, List.length_append, List.length_take, List.length_drop, Array.length_toList]
          omega
        rw [this]
        exact hfr
      · simp only [List.size_toArray, List.length_append, List.length_take, List.length_drop, Array.length_toList]
        omega
      · have hlt : (cur.toList.take (xs.length * d.sz)).length = xs.length * d.sz := els_len hels'
        have htk : ((cur.toList.take (xs.length * d.sz) ++ news ++ cur.toList.drop (xs.length * d.sz + news.length)).toArray.toList.take ((xs ++ ys).length * d.sz)) = cur.toList.take (xs.length * d.sz) ++ news := by
          have : (xs ++ ys).length * d.sz = (cur.toList.take (xs.length * d.sz) ++ news).length := by rw [List.length_append, List.length_append, hlt, hnl, Nat.add_mul]
          rw [this]
          exact List.take_left
        rw [htk]
        have hns : ∀ b, F2 b → b ≠ g := fun b hb hbg => ha g rfl (hbg ▸ hb)
        refine els_append (F1 := fun b => F b ∧ b ≠ g) (F2 := F2) (els_move (fun b hb => setRow_other w g b _ hb.2) hels) (els_move (fun b hb => setRow_other w g b _ (hns b hb)) hn) (fun hs b hb hb2 => hd hs b hb.1 hb2) (fun b hb => ?_)
        rcases hb with hb | hb
        · exact ⟨.inl hb.1, hb.2⟩
        · exact ⟨.inr (.inl hb), hns b hb⟩
    · refine grow _ (some ⟨g, 0, none⟩) hels' ?_ rfl hroom
      refine run_firstCells_some (P := P) w.drew i.size xs.length ⟨g, 0, none⟩ xs.length cap _ (by rw [hsz]; exact els_len hels') (fun j u hj => ?_)
      have hadd : (⟨g, 0, none⟩ : Addr).add j = ⟨g, j, none⟩ := by unfold Addr.add; split <;> simp_all
      rw [hadd]
      have : w.drew.cell? ⟨g, j, none⟩ = cur[j]? := cell_of_row w g j cur e fr hg
      rw [this]
      rw [List.getElem?_take] at hj
      split at hj
      · simpa using hj
      · cases hj
end
end Go.Sx
