import Derived.Test.YtdkbfcmekppnmaaGreatDoorY13
namespace Go.Sy
open Go.Sx
set_option linter.unusedVariables false
set_option linter.unusedSimpArgs false
set_option linter.unusedSectionVars false
set_option maxHeartbeats 1000000
section
variable {α : Type} {P : Program} {ρ : Operand → Value} {w : World} {dst : Option Tmp} {T T3 ty e : TypeId} {pos : String} {af : Array Edge} {gd : Option (Nat × Bool)} {x y : Operand} {P0 F F2 : Foot} {H0 H : Hp} {w0 : World} {Fs : List Foot} {d : Ty α} {xs ys : List α} {A : Option Addr} {cap : Nat} {yv : Value}
theorem e_appendX {z : Value} {bytes n : Nat} {news : List Value} (S : St P0 H0 w0 (F :: F2 :: Fs) H w) (ht : P.underlying T = some (.slice e)) (ht3 : P.underlying T3 = some .string) (hi0 : (P.info? e).map (fun i => (i.size, i.bytes, i.zero)) = some (d.sz, bytes, some z)) (hzs : z.cells.size = d.sz) (hpos : 0 < d.sz)
    (hx : ρ x = .slice A n cap) (hn0 : xs.length = n) (hy : ρ y = yv) (HO : Row d e H (hp w) F A cap xs) (hn : elsO d H (hp w) F2 ys news) (hlen : Builtin.lenOf yv = pure ys.length) (hfst : ∀ w1 : World, w1.heap = w.heap → (Builtin.firstCells d.sz ys.length yv).run P w1 = .ok news.toArray w1)
    (hb : (n + ys.length) * bytes ≤ 140737488355328) (hpb : 0 < bytes) :
    ∃ u w', (execOp ρ ⟨dst, .call { callee := .builtin .append, args := #[x, y], argTypes := #[T, T3] }, ty, pos, af, gd⟩).run P w = .ok (.value u) w' ∧
      ∃ A' cap' F', u = .slice A' (xs ++ ys).length cap' ∧ Row d e H (hp w') F' A' cap' (xs ++ ys) ∧ St P0 H0 w0 (F' :: Fs) H w' ∧ Kp Fs w w' := by
  subst hn0
  obtain ⟨i, hi, h2⟩ := Option.map_eq_some_iff.1 hi0
  injection h2 with hsz h4
  injection h4 with hby hz
  subst hby
  have h63 : xs.length + ys.length ≤ 9223372036854775807 := by
    have := Nat.le_trans (Nat.le_mul_of_pos_right (xs.length + ys.length) hpb) hb
    omega
  have hl : news.length = ys.length * i.size := by rw [hsz]; exact elsO_len hn
  have h1 := elsO_one hn
  have hl2 : (xs ++ ys).length = xs.length + ys.length := List.length_append
  have hd := S.dj
  have hJ := S.join
  have hFlt := fun b hb => (S.own F (.head _) b hb).1
  have hF2lt := fun b hb => (S.own F2 (.tail _ (.head _)) b hb).1
  have hfirst := hfst
  rw [← hsz] at hfirst
  suffices key : ∃ A' cap' w' F', (Builtin.append_ #[T, T3] ty #[.slice A xs.length cap, yv]).run P w = .ok (.slice A' (xs.length + ys.length) cap') w' ∧
      Row d e H (hp w') F' A' cap' (xs ++ ys) ∧ St P0 H0 w0 (F' :: Fs) H w' ∧ Kp Fs w w' by
    obtain ⟨A', cap', w', F', hr, k1, k2, k3⟩ := key
    refine ⟨_, w', ?_, A', cap', F', by rw [hl2], k1, k2, k3⟩
    simp [execOp, hx, hy, resolve, invoke, builtin, hr]
  have grow : ∀ (olds : List Value) (A0 : Option Addr), elsO d H (hp w) F xs olds → (Builtin.firstCells i.size xs.length (.slice A0 xs.length cap)).run P w.drew = .ok olds.toArray w.drew → A0 = A → ¬ (xs.length + ys.length ≤ cap) →
      ∃ A' cap' w' F', (Builtin.append_ #[T, T3] ty #[.slice A xs.length cap, yv]).run P w = .ok (.slice A' (xs.length + ys.length) cap') w' ∧
      Row d e H (hp w') F' A' cap' (xs ++ ys) ∧ St P0 H0 w0 (F' :: Fs) H w' ∧ Kp Fs w w' := by
    intro olds A0 holds hfo hA0 hroom
    subst hA0
    have h63' : ¬ (9223372036854775807 < ((xs.length : Int) + (ys.length : Int))) := by omega
    have h48 : Builtin.nextslicecap (xs.length + ys.length) cap * i.bytes ≤ 281474976710656 := by
      have h2 : Builtin.nextslicecap (xs.length + ys.length) cap ≤ 2 * (xs.length + ys.length) := nextslicecap_le (by omega)
      calc _ ≤ 2 * (xs.length + ys.length) * i.bytes := Nat.mul_le_mul_right _ h2
        _ = 2 * ((xs.length + ys.length) * i.bytes) := by rw [Nat.mul_assoc]
        _ ≤ _ := by omega
    have h48' : ¬ (281474976710656 < Builtin.nextslicecap (xs.length + ys.length) cap * i.bytes) := by omega
    have hcap := grownCap_ge w (xs.length + ys.length) cap e
    have hcm := grownCap_le_maxLen w (xs.length + ys.length) cap e (by simp only [maxLen]; omega)
    have hfn := hfirst w.drew rfl
    have hrun : (Builtin.append_ #[T, T3] ty #[.slice A0 xs.length cap, yv]).run P w =
        .ok (.slice (some ⟨w.heap.size, 0, none⟩) (xs.length + ys.length) (grownCap w (xs.length + ys.length) cap e))
          (w.drew.alloc (.cells (olds.toArray ++ news.toArray ++ Builtin.zeroCells z.cells (grownCap w (xs.length + ys.length) cap e - (xs.length + ys.length))) e)) := by
      simp [Builtin.append_, run_underlying ht, sizeOf, typeInfo, zeroValue, hi, hz, hlen, run_underlying ht3, hroom, h63', h48', Question.forced, hfn, hfo, newRow, grownCap]
      congr 2
      apply Array.ext'
      simp [List.append_assoc]
    have hol : olds.length = xs.length * d.sz := elsO_len holds
    have hnl : news.length = ys.length * d.sz := by rw [← hsz]; exact hl
    generalize hw' : (w.drew.alloc (.cells (olds.toArray ++ news.toArray ++ Builtin.zeroCells z.cells (grownCap w (xs.length + ys.length) cap e - (xs.length + ys.length))) e)) = w' at hrun
    have hnew : w'.heap[w.heap.size]? = some (.cells (olds.toArray ++ news.toArray ++ Builtin.zeroCells z.cells (grownCap w (xs.length + ys.length) cap e - (xs.length + ys.length))) e) := by rw [← hw']; exact heap_alloc_new w.drew _
    have hsame : ∀ b, b < w.heap.size → hp w' b = hp w b := fun b hb => by rw [← hw']; exact Go.RowKit.Below.heap_alloc w.drew _ b hb
    have hsz' : w'.heap.size = w.heap.size + 1 := by rw [← hw']; simp
    have hC : Chg (or2 F F2) w w' := by rw [← hw']; exact ⟨rfl, rfl, rfl, by simp, fun b hb _ => Go.RowKit.Below.heap_alloc w.drew _ b hb⟩
    obtain ⟨S', K'⟩ := hJ.step (G := fun b => or2 F F2 b ∨ b = w.heap.size) hC (fun b hb => by
      rcases hb with hb | rfl
      · refine ⟨?_, .inl hb⟩
        have : b < w.heap.size := hb.elim (hFlt b) (hF2lt b)
        omega
      · exact ⟨by omega, .inr (Nat.le_refl _)⟩)
    refine ⟨_, _, w', _, hrun, .inr ⟨w.heap.size, _, (0, 0), rfl, .inr rfl, hnew, fun j _ hj => by simp at hj, by rw [hl2]; exact hcap, by simpa [maxLen] using hcm, ?_, ?_⟩, S', K'⟩
    · simp only [Array.size_append, List.size_toArray, size_zeroCells, hzs, hol, hnl, ← Nat.add_mul]
      congr 1
      omega
    · have hall : elsO d H (hp w) (or2 F F2) (xs ++ ys) (olds ++ news) := elsO_append holds hn hd (fun b hb => hb)
      have hmv := elsO_move (X' := hp w') (fun b hb => hsame b (hb.elim (hFlt b) (hF2lt b))) hall
      have htk : ((olds.toArray ++ news.toArray ++ Builtin.zeroCells z.cells (grownCap w (xs.length + ys.length) cap e - (xs.length + ys.length))).toList.take ((xs ++ ys).length * d.sz)) = olds ++ news := by
        have : (xs ++ ys).length * d.sz = (olds ++ news).length := by rw [List.length_append, List.length_append, hol, hnl, Nat.add_mul]
        rw [this]
        simp only [Array.toList_append, List.append_assoc]
        rw [← List.append_assoc]
        exact List.take_left
      rw [htk]
      refine elsO_mono (fun b hb => ⟨.inl hb, ?_⟩) hmv
      have : b < w.heap.size := hb.elim (hFlt b) (hF2lt b)
      omega
  rcases HO with ⟨rfl, rfl, rfl⟩ | ⟨g, cur, fr, rfl, hFg, hg, hfr, hle, hcm, hcs, hels⟩
  · by_cases hy : ys = []
    · subst hy
      have hnn : news = [] := List.eq_nil_of_length_eq_zero (by simpa using hl)
      subst hnn
      refine ⟨none, 0, w, F, ?_, Row.nil _ _ _ _ _, (S.pull 1 rfl rfl).drop, fun _ _ _ _ => rfl⟩
      have hf := hfirst w rfl
      simp only [List.length_nil] at hf
      simp [Builtin.append_, run_underlying ht, sizeOf, typeInfo, hi, hlen, run_underlying ht3, hf]
    · refine grow [] none (elsO_nil d H _ F) (by simp [Builtin.firstCells]) rfl ?_
      have : ys.length ≠ 0 := fun h => hy (List.eq_nil_of_length_eq_zero h)
      simp only [List.length_nil]
      omega
  · have hels' : elsO d H (hp w) F xs (cur.toList.take (xs.length * d.sz)) := elsO_mono (fun b hb => hb.1) hels
    by_cases hroom : xs.length + ys.length ≤ cap
    · have hnl : news.length = ys.length * d.sz := by rw [← hsz]; exact hl
      have hfit : xs.length * d.sz + news.length ≤ cur.size := by rw [hnl, hcs, ← Nat.add_mul]; exact Nat.mul_le_mul_right _ hroom
      have hst := run_storeCells_fr (P := P) g (xs.length * d.sz) e fr news 0 cur w hg hfr (by simpa using hfit) h1
      simp only [Nat.add_zero] at hst
      have hrun : (Builtin.append_ #[T, T3] ty #[.slice (some ⟨g, 0, none⟩) xs.length cap, yv]).run P w =
          .ok (.slice (some ⟨g, 0, none⟩) (xs.length + ys.length) cap) (w.setRow g (cur.toList.take (xs.length * d.sz) ++ news ++ cur.toList.drop (xs.length * d.sz + news.length)).toArray) := by
        have hf := hfirst w rfl
        rw [hsz] at hf
        simp [Builtin.append_, run_underlying ht, sizeOf, typeInfo, hi, hsz, hlen, run_underlying ht3, hroom, hf, addr_add, hst]
      obtain ⟨S', K'⟩ := hJ.step (G := or2 F F2) ((chg_setRow w g (cur.toList.take (xs.length * d.sz) ++ news ++ cur.toList.drop (xs.length * d.sz + news.length)).toArray).mono (G := or2 F F2) (fun b hb => .inl ((show b = g from hb) ▸ hFg))) (fun b hb => ⟨by
        have : b < w.heap.size := hb.elim (hFlt b) (hF2lt b)
        simpa using this, .inl hb⟩)
      refine ⟨_, _, _, or2 F F2, hrun, .inr ⟨g, _, fr, rfl, .inl hFg, setRow_heap w g cur _ e fr hg, ?_, by rw [hl2]; exact hroom, hcm, ?_, ?_⟩, S', K'⟩
      · have : (cur.toList.take (xs.length * d.sz) ++ news ++ cur.toList.drop (xs.length * d.sz + news.length)).toArray.size = cur.size := by
          simp only [List.size_toArray, List.length_append, List.length_take, List.length_drop, Array.length_toList]
          omega
        rw [this]
        exact hfr
      · simp only [List.size_toArray, List.length_append, List.length_take, List.length_drop, Array.length_toList]
        omega
      · have hlt : (cur.toList.take (xs.length * d.sz)).length = xs.length * d.sz := elsO_len hels'
        have htk : ((cur.toList.take (xs.length * d.sz) ++ news ++ cur.toList.drop (xs.length * d.sz + news.length)).toArray.toList.take ((xs ++ ys).length * d.sz)) = cur.toList.take (xs.length * d.sz) ++ news := by
          have : (xs ++ ys).length * d.sz = (cur.toList.take (xs.length * d.sz) ++ news).length := by rw [List.length_append, List.length_append, hlt, hnl, Nat.add_mul]
          rw [this]
          exact List.take_left
        rw [htk]
        have hns : ∀ b, F2 b → b ≠ g := fun b hb hbg => hd g hFg (hbg ▸ hb)
        have mv : ∀ b, b ≠ g → hp (w.setRow g (cur.toList.take (xs.length * d.sz) ++ news ++ cur.toList.drop (xs.length * d.sz + news.length)).toArray) b = hp w b := fun b hb => setRow_other w g b _ hb
        refine elsO_append (F1 := fun b => F b ∧ b ≠ g) (F2 := F2) (elsO_move (fun b hb => mv b hb.2) hels) (elsO_move (fun b hb => mv b (hns b hb)) hn) (fun b hb hb2 => hd b hb.1 hb2) (fun b hb => ?_)
        rcases hb with hb | hb
        · exact ⟨.inl hb.1, hb.2⟩
        · exact ⟨.inr hb, hns b hb⟩
    · refine grow _ (some ⟨g, 0, none⟩) hels' ?_ rfl hroom
      refine run_firstCells_some (P := P) w.drew i.size xs.length ⟨g, 0, none⟩ xs.length cap _ (by rw [hsz]; exact elsO_len hels') (fun j u hj => ?_)
      rw [addr_add, Nat.zero_add]
      have : w.drew.cell? ⟨g, j, none⟩ = cur[j]? := cell_of_row w g j cur e fr hg
      rw [this]
      rw [List.getElem?_take] at hj
      split at hj
      · simpa using hj
      · cases hj
theorem e_append_str {xs ys : List UInt8} {z : Value} {bytes n : Nat} (S : St P0 H0 w0 (F :: no :: Fs) H w) (ht : P.underlying T = some (.slice e)) (ht3 : P.underlying T3 = some .string) (hi0 : (P.info? e).map (fun i => (i.size, i.bytes, i.zero)) = some (1, bytes, some z)) (hzs : z.cells.size = 1)
    (hx : ρ x = .slice A n cap) (hn0 : xs.length = n) (hy : ρ y = str ys) (HO : Row tByte e H (hp w) F A cap xs) (hb : (n + ys.length) * bytes ≤ 140737488355328) (hpb : 0 < bytes) :
    ∃ u w', (execOp ρ ⟨dst, .call { callee := .builtin .append, args := #[x, y], argTypes := #[T, T3] }, ty, pos, af, gd⟩).run P w = .ok (.value u) w' ∧
      ∃ A' cap' F', u = .slice A' (xs ++ ys).length cap' ∧ Row tByte e H (hp w') F' A' cap' (xs ++ ys) ∧ St P0 H0 w0 (F' :: Fs) H w' ∧ Kp Fs w w' := by
  have hsz : (⟨ys.toArray⟩ : ByteArray).size = ys.length := by show ys.toArray.size = _; simp
  refine e_appendX (d := tByte) (news := ys.map fun b => Value.int .u8 (b.toNat : Int)) S ht ht3 hi0 hzs (by decide) hx hn0 hy HO (els_bytes ys) (by show pure (⟨ys.toArray⟩ : ByteArray).size = pure ys.length; rw [hsz]) (fun w1 _ => ?_) hb hpb
  show (pure (((⟨ys.toArray⟩ : ByteArray).extract 0 ys.length).data.map fun b => Value.int .u8 (b.toNat : Int)) : Sem (Array Value)).run P w1 = _
  have : ((⟨ys.toArray⟩ : ByteArray).extract 0 ys.length).data = ys.toArray := by
    have h := ByteArray.extract_zero_size (b := ⟨ys.toArray⟩)
    rw [hsz] at h
    rw [h]
  rw [this]
  simp
end
end Go.Sy
