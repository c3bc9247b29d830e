import Derived.Test.YtdkbfcmekppnmaaGreatDoorY2
namespace Go.Sy
open Go.Sx
set_option linter.unusedVariables false
set_option linter.unusedSimpArgs false
set_option linter.unusedSectionVars false
section
variable {α : Type} {P : Program} {d : Ty α} {e T ty : TypeId} {P0 F F2 : Foot} {H0 H : Hp} {w0 w w' : World} {Fs : List Foot} {xs ys : List α} {A A2 : Option Addr} {cap c2 : Nat}
theorem addr_add (b i j : Nat) : (⟨b, i, none⟩ : Addr).add j = ⟨b, i + j, none⟩ := by unfold Addr.add; split <;> simp_all
theorem St.cell {b i : Nat} {u : Value} (S : St P0 H0 w0 Fs H w) (h : H.cell b i = some u) : w.cell? ⟨b, i, none⟩ = some u := (hp_cell w b i).symm.trans (S.inv.cell h)
theorem St.blk {g : Nat} {o : Obj} (S : St P0 H0 w0 Fs H w) (h : H g = some o) : w.heap[g]? = some o := S.inv _ _ h
theorem St.lt {g : Nat} {o : Obj} (S : St P0 H0 w0 Fs H w) (h : H g = some o) : g < w.heap.size := heap_lt (S.inv _ _ h)
theorem hpx {w : World} {b i : Nat} {u : Value} (h : (hp w).cell b i = some u) : w.cell? ⟨b, i, none⟩ = some u := (hp_cell w b i).symm.trans h

theorem run_storeCells_fr (g o : Nat) (t : TypeId) (fr : Nat × Nat) : ∀ (vs : List Value) (i : Nat) (cur : Array Value) (w : World), w.heap[g]? = some (.cells cur t fr) → thaw fr cur.size → o + i + vs.length ≤ cur.size → (∀ v ∈ vs, v.oneCell' = true) →
    (storeCells ⟨g, o, none⟩ vs i).run P w = .ok () (w.setRow g (cur.toList.take (o + i) ++ vs ++ cur.toList.drop (o + i + vs.length)).toArray)
  | [], i, cur, w, hg, _, _, _ => by
    simp only [storeCells, List.append_nil, List.length_nil, Nat.add_zero, List.take_append_drop, Array.toArray_toList]
    rw [setRow_self w g cur t fr hg]
    rfl
  | v :: rest, i, cur, w, hg, hfr, hl, h1 => by
    have hi : o + i < cur.size := by simp at hl; omega
    have hadd : (⟨g, o, none⟩ : Addr).add i = ⟨g, o + i, none⟩ := by unfold Addr.add; split <;> simp_all
    have hcell : w.cell? ⟨g, o + i, none⟩ = some cur[o + i] := by simp [World.cell?, hg, hi]
    have hfro : w.frozen? ⟨g, o + i, none⟩ = false := by
      have := hfr (o + i) hi
      simp only [World.frozen?, hg]
      simpa using this
    have hst : (store ((⟨g, o, none⟩ : Addr).add i) v).run P w = .ok () (w.setRow g (cur.setIfInBounds (o + i) v)) := by
      rw [hadd, run_store P w _ v _ (h1 v (by simp)), hcell]
      simp [hfro, setCell_eq_setRow w g (o + i) cur t fr v hg]
    have ih := run_storeCells_fr g o t fr rest (i + 1) (cur.setIfInBounds (o + i) v) (w.setRow g (cur.setIfInBounds (o + i) v)) (setRow_heap w g cur _ t _ hg) (by simpa using hfr) (by simp at hl ⊢; omega) (fun x hx => h1 x (by simp [hx]))
    simp only [storeCells, Sem.run_bind, hst, Result.andThen_ok, ih, setRow_setRow]
    congr 3
    have e := list_seg_step cur.toList (o + i) v rest (by simp at hl ⊢; omega)
    simpa [Array.toList_setIfInBounds, Nat.add_assoc] using e

theorem chg_setRow (w : World) (g : Nat) (cs : Array Value) : Chg (is g) w (w.setRow g cs) :=
  ⟨rfl, rfl, rfl, by simp, fun b _ hn => setRow_other w g b cs hn⟩
theorem Chg.alloc (w : World) (o : Obj) : Chg no w (w.alloc o) := ⟨rfl, rfl, rfl, by simp, fun b hb _ => Go.RowKit.Below.heap_alloc w o b hb⟩
theorem Chg.drewN (w : World) (n : Nat) : Chg no w (w.drewN n) := ⟨rfl, rfl, rfl, Nat.le_refl _, fun _ _ _ => rfl⟩

theorem St.alloc (S : St P0 H0 w0 Fs H w) (o : Obj) : St P0 H0 w0 (is w.heap.size :: Fs) H (w.alloc o) ∧ Kp Fs w (w.alloc o) :=
  S.unit.step (Chg.alloc w o) (fun b hb => by
    have hb : b = w.heap.size := hb
    subst hb
    exact ⟨by simp, .inr (Nat.le_refl _)⟩)
theorem new_blk {s : Sem Next} {v : Nat → Value} {cs : Array Value} {t : TypeId} (S : St P0 H0 w0 Fs H w) (h : s.run P w = .ok (.value (v w.heap.size)) (w.alloc (.cells cs t))) :
    ∃ u w', s.run P w = .ok (.value u) w' ∧ ∃ g, u = v g ∧ w'.heap[g]? = some (.cells cs t (0, 0)) ∧ St P0 H0 w0 (is g :: Fs) H w' ∧ Kp Fs w w' := by
  obtain ⟨a, b⟩ := S.alloc (.cells cs t)
  exact ⟨_, _, h, w.heap.size, rfl, heap_alloc_new w _, a, b⟩
theorem blk_cell {g i : Nat} {cur : Array Value} {t : TypeId} {fr : Nat × Nat} {u : Value} (hb : w.heap[g]? = some (.cells cur t fr)) (hc : cur[i]? = some u) : w.cell? ⟨g, i, none⟩ = some u := by
  rw [cell_of_row w g i cur t fr hb]; exact hc
theorem blk_cells {g : Nat} {cur : Array Value} {t : TypeId} {fr : Nat × Nat} {cs : List Value} (hb : w.heap[g]? = some (.cells cur t fr)) (hc : cur.toList = cs) : ∀ j u, cs[j]? = some u → w.cell? ⟨g, 0 + j, none⟩ = some u := fun j u hj => by
  rw [Nat.zero_add, cell_of_row w g j cur t fr hb]
  subst hc
  simpa using hj
theorem getD_some {xs : List α} {i : Nat} (z : α) (h : i < xs.length) : xs[i]? = some (xs.getD i z) := by
  rw [List.getD_eq_getElem?_getD, List.getElem?_eq_getElem h]; rfl
end
section
variable {α : Type} {P : Program} {P0 F F2 : Foot} {H0 H : Hp} {w0 w w' : World} {Fs : List Foot} {ρ : Operand → Value} {dst : Option Tmp} {T T2 ty e : TypeId} {pos : String} {af : Array Edge} {gd : Option (Nat × Bool)} {x y z : Operand} {v : Value} {d : Ty α} {A A2 : Option Addr} {cap c2 : Nat} {xs ys : List α}
theorem run_store_blk {g o : Nat} {cur : Array Value} {t : TypeId} {fr : Nat × Nat} {vs : List Value} (hx : ρ x = .pointer (some ⟨g, o, none⟩)) (hy : ρ y = v) (hv : v.cells.toList = vs) (hz : (P.info? T).map (·.size) = some vs.length)
    (hb : w.heap[g]? = some (.cells cur t fr)) (hfr : thaw fr cur.size) (hl : o + vs.length ≤ cur.size) (h1 : ∀ u ∈ vs, u.oneCell' = true) :
    (execOp ρ ⟨dst, .store T x y, ty, pos, af, gd⟩).run P w = .ok .skip (w.setRow g (cur.toList.take o ++ vs ++ cur.toList.drop (o + vs.length)).toArray) := by
  have hst := run_storeCells_fr (P := P) g o t fr vs 0 cur w hb hfr (by simpa using hl) h1
  simp only [Nat.add_zero] at hst
  have hvs : v.cells.size = vs.length := by rw [← hv]; simp
  cases hq : P.info? T with
  | none => simp [hq] at hz
  | some i =>
    have hs : i.size = vs.length := by simpa [hq] using hz
    simp [execOp, hx, hy, Instr.storeAt, Instr.sureAddr, storeVar, Sem.run_bind, sizeOf, typeInfo, hq, hs, hvs, hv, hst]
theorem e_store {g o : Nat} {cur cur' : Array Value} {t : TypeId} {vs : List Value} (S : St P0 H0 w0 (is g :: Fs) H w) (hx : ρ x = .pointer (some ⟨g, o, none⟩)) (hy : ρ y = v) (hv : v.cells.toList = vs) (hz : (P.info? T).map (·.size) = some vs.length)
    (hb : w.heap[g]? = some (.cells cur t (0, 0))) (hl : o + vs.length ≤ cur.size) (h1 : ∀ u ∈ vs, u.oneCell' = true) (hc : (cur.toList.take o ++ vs ++ cur.toList.drop (o + vs.length)).toArray = cur') :
    ∃ w', (execOp ρ ⟨dst, .store T x y, ty, pos, af, gd⟩).run P w = .ok .skip w' ∧ w'.heap[g]? = some (.cells cur' t (0, 0)) ∧ St P0 H0 w0 (is g :: Fs) H w' ∧ Kp Fs w w' := by
  subst hc
  obtain ⟨a, b⟩ := S.step (G := is g) (chg_setRow w g (cur.toList.take o ++ vs ++ cur.toList.drop (o + vs.length)).toArray) (fun b hb2 => ⟨by
    have := (S.own (is g) (.head _) b hb2).1
    simpa using this, .inl hb2⟩)
  exact ⟨_, run_store_blk hx hy hv hz hb (thaw0 _) hl h1, setRow_heap w g cur _ t _ hb, a, b⟩

theorem e_append {z : Value} {bytes n : Nat} {news : List Value} (S : St P0 H0 w0 (F :: F2 :: Fs) H w) (ht : P.underlying T = some (.slice e)) (hi0 : (P.info? e).map (fun i => (i.size, i.bytes, i.zero)) = some (d.sz, bytes, some z)) (hzs : z.cells.size = d.sz) (hpos : 0 < d.sz)
    (hx : ρ x = .slice A n cap) (hn0 : xs.length = n) (hy : ρ y = .slice A2 ys.length c2) (HO : Row d e H (hp w) F A cap xs) (hn : elsO d H (hp w) F2 ys news) (hnews : ys = [] ∨ ∃ ad, A2 = some ad ∧ ∀ j u, news[j]? = some u → w.cell? (ad.add j) = some u)
    (hb : (n + ys.length) * bytes ≤ 140737488355328) (hpb : 0 < bytes) :
    ∃ u w', (execOp ρ ⟨dst, .call { callee := .builtin .append, args := #[x, y], argTypes := #[T, T] }, ty, pos, af, gd⟩).run P w = .ok (.value u) w' ∧
      ∃ A' cap' F', u = .slice A' (xs ++ ys).length cap' ∧ Row d e H (hp w') F' A' cap' (xs ++ ys) ∧ St P0 H0 w0 (F' :: Fs) H w' ∧ Kp Fs w w' := by
  subst hn0
  obtain ⟨i, hi, h2⟩ := Option.map_eq_some_iff.1 hi0
  injection h2 with hsz h4
  injection h4 with hby hz
  subst hby
  have h63 : xs.length + ys.length ≤ 9223372036854775807 := by
    have := Nat.le_trans (Nat.le_mul_of_pos_right (xs.length + ys.length) hpb) hb
    omega
  have hl : news.length = ys.length * i.size := by rw [hsz]; exact elsO_len hn
  have h1 := elsO_one hn
  have hl2 : (xs ++ ys).length = xs.length + ys.length := List.length_append
  have hd := S.dj
  have hJ := S.join
  have hFlt := fun b hb => (S.own F (.head _) b hb).1
  have hF2lt := fun b hb => (S.own F2 (.tail _ (.head _)) b hb).1
  -- the appended cells, whatever the header's address
  have hfirst : ∀ w1 : World, w1.heap = w.heap → (Builtin.firstCells i.size ys.length (.slice A2 ys.length c2)).run P w1 = .ok news.toArray w1 := by
    intro w1 hw1
    cases A2 with
    | none =>
      have : ys = [] := hnews.elim id fun ⟨_, h, _⟩ => by cases h
      subst this
      have : news = [] := List.eq_nil_of_length_eq_zero (by simpa using hl)
      subst this
      simp [Builtin.firstCells]
    | some ad =>
      refine run_firstCells_some (P := P) w1 i.size ys.length ad ys.length c2 news hl (fun j u hj => ?_)
      rcases hnews with rfl | ⟨ad', h1, h2⟩
      · have : news = [] := List.eq_nil_of_length_eq_zero (by simpa using hl)
        subst this
        simp at hj
      · injection h1 with h1
        subst h1
        have := h2 j u hj
        simpa [World.cell?, hw1] using this
  suffices key : ∃ A' cap' w' F', (Builtin.append_ #[T, T] ty #[.slice A xs.length cap, .slice A2 ys.length c2]).run P w = .ok (.slice A' (xs.length + ys.length) cap') w' ∧
      Row d e H (hp w') F' A' cap' (xs ++ ys) ∧ St P0 H0 w0 (F' :: Fs) H w' ∧ Kp Fs w w' by
    obtain ⟨A', cap', w', F', hr, k1, k2, k3⟩ := key
    refine ⟨_, w', ?_, A', cap', F', by rw [hl2], k1, k2, k3⟩
    simp [execOp, hx, hy, resolve, invoke, builtin, hr]
  have grow : ∀ (olds : List Value) (A0 : Option Addr), elsO d H (hp w) F xs olds → (Builtin.firstCells i.size xs.length (.slice A0 xs.length cap)).run P w.drew = .ok olds.toArray w.drew → A0 = A → ¬ (xs.length + ys.length ≤ cap) →
      ∃ A' cap' w' F', (Builtin.append_ #[T, T] ty #[.slice A xs.length cap, .slice A2 ys.length c2]).run P w = .ok (.slice A' (xs.length + ys.length) cap') w' ∧
      Row d e H (hp w') F' A' cap' (xs ++ ys) ∧ St P0 H0 w0 (F' :: Fs) H w' ∧ Kp Fs w w' := by
    intro olds A0 holds hfo hA0 hroom
    subst hA0
    have h63' : ¬ (9223372036854775807 < ((xs.length : Int) + (ys.length : Int))) := by omega
    have h48 : Builtin.nextslicecap (xs.length + ys.length) cap * i.bytes ≤ 281474976710656 := by
      have h2 : Builtin.nextslicecap (xs.length + ys.length) cap ≤ 2 * (xs.length + ys.length) := nextslicecap_le (by omega)
      calc _ ≤ 2 * (xs.length + ys.length) * i.bytes := Nat.mul_le_mul_right _ h2
        _ = 2 * ((xs.length + ys.length) * i.bytes) := by rw [Nat.mul_assoc]
        _ ≤ _ := by omega
    have h48' : ¬ (281474976710656 < Builtin.nextslicecap (xs.length + ys.length) cap * i.bytes) := by omega
    have hcap := grownCap_ge w (xs.length + ys.length) cap e
    have hcm := grownCap_le_maxLen w (xs.length + ys.length) cap e (by simp only [maxLen]; omega)
    have hfn := hfirst w.drew rfl
    have hrun : (Builtin.append_ #[T, T] ty #[.slice A0 xs.length cap, .slice A2 ys.length c2]).run P w =
        .ok (.slice (some ⟨w.heap.size, 0, none⟩) (xs.length + ys.length) (grownCap w (xs.length + ys.length) cap e))
          (w.drew.alloc (.cells (olds.toArray ++ news.toArray ++ Builtin.zeroCells z.cells (grownCap w (xs.length + ys.length) cap e - (xs.length + ys.length))) e)) := by
      simp [Builtin.append_, run_underlying ht, sizeOf, typeInfo, zeroValue, hi, hz, Builtin.lenOf, hroom, h63', h48', Question.forced, hfn, hfo, newRow, grownCap]
      congr 2
      apply Array.ext'
      simp [List.append_assoc]
    have hol : olds.length = xs.length * d.sz := elsO_len holds
    have hnl : news.length = ys.length * d.sz := by rw [← hsz]; exact hl
    generalize hw' : (w.drew.alloc (.cells (olds.toArray ++ news.toArray ++ Builtin.zeroCells z.cells (grownCap w (xs.length + ys.length) cap e - (xs.length + ys.length))) e)) = w' at hrun
    have hnew : w'.heap[w.heap.size]? = some (.cells (olds.toArray ++ news.toArray ++ Builtin.zeroCells z.cells (grownCap w (xs.length + ys.length) cap e - (xs.length + ys.length))) e) := by rw [← hw']; exact heap_alloc_new w.drew _
    have hsame : ∀ b, b < w.heap.size → hp w' b = hp w b := fun b hb => by rw [← hw']; exact Go.RowKit.Below.heap_alloc w.drew _ b hb
    have hsz' : w'.heap.size = w.heap.size + 1 := by rw [← hw']; simp
    have hC : Chg (or2 F F2) w w' := by rw [← hw']; exact ⟨rfl, rfl, rfl, by simp, fun b hb _ => Go.RowKit.Below.heap_alloc w.drew _ b hb⟩
    obtain ⟨S', K'⟩ := hJ.step (G := fun b => or2 F F2 b ∨ b = w.heap.size) hC (fun b hb => by
      rcases hb with hb | rfl
      · refine ⟨?_, .inl hb⟩
        have : b < w.heap.size := hb.elim (hFlt b) (hF2lt b)
        omega
      · exact ⟨by omega, .inr (Nat.le_refl _)⟩)
    refine ⟨_, _, w', _, hrun, .inr ⟨w.heap.size, _, (0, 0), rfl, .inr rfl, hnew, fun j _ hj => by simp at hj, by rw [hl2]; exact hcap, by simpa [maxLen] using hcm, ?_, ?_⟩, S', K'⟩
    · simp only [Array.size_append, List.size_toArray, size_zeroCells, hzs, hol, hnl, ← Nat.add_mul]
      congr 1
      omega
    · have hall : elsO d H (hp w) (or2 F F2) (xs ++ ys) (olds ++ news) := elsO_append holds hn hd (fun b hb => hb)
      have hmv := elsO_move (X' := hp w') (fun b hb => hsame b (hb.elim (hFlt b) (hF2lt b))) hall
      have htk : ((olds.toArray ++ news.toArray ++ Builtin.zeroCells z.cells (grownCap w (xs.length + ys.length) cap e - (xs.length + ys.length))).toList.take ((xs ++ ys).length * d.sz)) = olds ++ news := by
        have : (xs ++ ys).length * d.sz = (olds ++ news).length := by rw [List.length_append, List.length_append, hol, hnl, Nat.add_mul]
        rw [this]
        simp only [Array.toList_append, List.append_assoc]
        rw [← List.append_assoc]
        exact List.take_left
      rw [htk]
      refine elsO_mono (fun b hb => ⟨.inl hb, ?_⟩) hmv
      have : b < w.heap.size := hb.elim (hFlt b) (hF2lt b)
      omega
  rcases HO with ⟨rfl, rfl, rfl⟩ | ⟨g, cur, fr, rfl, hFg, hg, hfr, hle, hcm, hcs, hels⟩
  · by_cases hy : ys = []
    · subst hy
      have hnn : news = [] := List.eq_nil_of_length_eq_zero (by simpa using hl)
      subst hnn
      refine ⟨none, 0, w, F, ?_, Row.nil _ _ _ _ _, (S.pull 1 rfl rfl).drop, fun _ _ _ _ => rfl⟩
      have hf := hfirst w rfl
      simp only [List.length_nil] at hf
      simp [Builtin.append_, run_underlying ht, sizeOf, typeInfo, hi, Builtin.lenOf, hf]
    · refine grow [] none (elsO_nil d H _ F) (by simp [Builtin.firstCells]) rfl ?_
      have : ys.length ≠ 0 := fun h => hy (List.eq_nil_of_length_eq_zero h)
      simp only [List.length_nil]
      omega
  · have hels' : elsO d H (hp w) F xs (cur.toList.take (xs.length * d.sz)) := elsO_mono (fun b hb => hb.1) hels
    by_cases hroom : xs.length + ys.length ≤ cap
    · have hnl : news.length = ys.length * d.sz := by rw [← hsz]; exact hl
      have hfit : xs.length * d.sz + news.length ≤ cur.size := by rw [hnl, hcs, ← Nat.add_mul]; exact Nat.mul_le_mul_right _ hroom
      have hst := run_storeCells_fr (P := P) g (xs.length * d.sz) e fr news 0 cur w hg hfr (by simpa using hfit) h1
      simp only [Nat.add_zero] at hst
      have hrun : (Builtin.append_ #[T, T] ty #[.slice (some ⟨g, 0, none⟩) xs.length cap, .slice A2 ys.length c2]).run P w =
          .ok (.slice (some ⟨g, 0, none⟩) (xs.length + ys.length) cap) (w.setRow g (cur.toList.take (xs.length * d.sz) ++ news ++ cur.toList.drop (xs.length * d.sz + news.length)).toArray) := by
        have hf := hfirst w rfl
        rw [hsz] at hf
        simp [Builtin.append_, run_underlying ht, sizeOf, typeInfo, hi, hsz, Builtin.lenOf, hroom, hf, addr_add, hst]
      obtain ⟨S', K'⟩ := hJ.step (G := or2 F F2) ((chg_setRow w g (cur.toList.take (xs.length * d.sz) ++ news ++ cur.toList.drop (xs.length * d.sz + news.length)).toArray).mono (G := or2 F F2) (fun b hb => .inl ((show b = g from hb) ▸ hFg))) (fun b hb => ⟨by
        have : b < w.heap.size := hb.elim (hFlt b) (hF2lt b)
        simpa using this, .inl hb⟩)
      refine ⟨_, _, _, or2 F F2, hrun, .inr ⟨g, _, fr, rfl, .inl hFg, setRow_heap w g cur _ e fr hg, ?_, by rw [hl2]; exact hroom, hcm, ?_, ?_⟩, S', K'⟩
      · have : (cur.toList.take (xs.length * d.sz) ++ news ++ cur.toList.drop (xs.length * d.sz + news.length)).toArray.size = cur.size := by
          simp only [List.size_toArray, List.length_append, List.length_take, List.length_drop, Array.length_toList]
          omega
        rw [this]
        exact hfr
      · simp only [List.size_toArray, List.length_append, List.length_take, List.length_drop, Array.length_toList]
        omega
      · have hlt : (cur.toList.take (xs.length * d.sz)).length = xs.length * d.sz := elsO_len hels'
        have htk : ((cur.toList.take (xs.length * d.sz) ++ news ++ cur.toList.drop (xs.length * d.sz + news.length)).toArray.toList.take ((xs ++ ys).length * d.sz)) = cur.toList.take (xs.length * d.sz) ++ news := by
          have : (xs ++ ys).length * d.sz = (cur.toList.take (xs.length * d.sz) ++ news).length := by rw [List.length_append, List.length_append, hlt, hnl, Nat.add_mul]
          rw [this]
          exact List.take_left
        rw [htk]
        have hns : ∀ b, F2 b → b ≠ g := fun b hb hbg => hd g hFg (hbg ▸ hb)
        have mv : ∀ b, b ≠ g → hp (w.setRow g (cur.toList.take (xs.length * d.sz) ++ news ++ cur.toList.drop (xs.length * d.sz + news.length)).toArray) b = hp w b := fun b hb => setRow_other w g b _ hb
        refine elsO_append (F1 := fun b => F b ∧ b ≠ g) (F2 := F2) (elsO_move (fun b hb => mv b hb.2) hels) (elsO_move (fun b hb => mv b (hns b hb)) hn) (fun b hb hb2 => hd b hb.1 hb2) (fun b hb => ?_)
        rcases hb with hb | hb
        · exact ⟨.inl hb.1, hb.2⟩
        · exact ⟨.inr hb, hns b hb⟩
    · refine grow _ (some ⟨g, 0, none⟩) hels' ?_ rfl hroom
      refine run_firstCells_some (P := P) w.drew i.size xs.length ⟨g, 0, none⟩ xs.length cap _ (by rw [hsz]; exact elsO_len hels') (fun j u hj => ?_)
      rw [addr_add, Nat.zero_add]
      have : w.drew.cell? ⟨g, j, none⟩ = cur[j]? := cell_of_row w g j cur e fr hg
      rw [this]
      rw [List.getElem?_take] at hj
      split at hj
      · simpa using hj
      · cases hj
end
end Go.Sy
