import Derived.Test.YtminnekeekhjcaaY18
namespace Go.Sx
section
variable {P : Program} {fn : Func} {R : Ending → World → Prop} {w : World} {n : Nat} {t t1 t2 t3 : Tmp} {f : Nat → Value} {v v1 v2 v3 : Value}
theorem results_tmp4 {fn : Func} {t u x y : Tmp} (h : fn.results = #[.tmp t, .tmp u, .tmp x, .tmp y]) (tmps : Array Value) (P : Program) (w : World) :
    (results fn tmps).run P w = .ok (.tuple #[tmps.getD t undef, tmps.getD u undef, tmps.getD x undef, tmps.getD y undef]) w := by
  simp [results, h]
theorem ret4 (h : fn.results = #[.tmp t, .tmp t1, .tmp t2, .tmp t3]) (ht : Nat.blt t n = true) (ht1 : Nat.blt t1 n = true) (ht2 : Nat.blt t2 n = true) (ht3 : Nat.blt t3 n = true) (hv : f t = v) (hv1 : f t1 = v1) (hv2 : f t2 = v2) (hv3 : f t3 = v3) (hR : R (.returned (.tuple #[v, v1, v2, v3])) w) : bodyPost P fn R .ret (mk n f) w :=
  bodyPost_ret (results_tmp4 h _ P w) rfl (by rw [mk_getD ht, mk_getD ht1, mk_getD ht2, mk_getD ht3, hv, hv1, hv2, hv3]; exact hR)
end
end Go.Sx
namespace Go.Sy
open Go.Sx
set_option linter.unusedVariables false
set_option linter.unusedSimpArgs false
set_option linter.unusedSectionVars false
/-! ### a row with a hole: an element's slice was taken out, appended to, and is put back by a store; an element cut out of a row -/
section
variable {α : Type} {d : Ty α} {e : TypeId} {H H' X X' : Hp} {F F' : Foot} {A : Option Addr} {cap : Nat} {xs : List α} {b i : Nat} {x : α}
def Hol (d : Ty α) (e : TypeId) (H X : Hp) (G : Foot) (A : Option Addr) (cap : Nat) (xs : List α) (i b : Nat) (c : List Value) : Prop :=
  ∃ cur fr, X b = some (.cells cur e fr) ∧ G b ∧ thaw fr cur.size ∧ i * d.sz + d.sz ≤ cur.size ∧
   ∀ H' X' F' y vs j, Ext H H' → (∀ q, G q → q ≠ b → X' q = X q) → j + vs.length ≤ d.sz → X' b = some (.cells (cur.toList.take (i * d.sz + j) ++ vs ++ cur.toList.drop (i * d.sz + j + vs.length)).toArray e fr) →
    d.O H' X' F' y (c.take j ++ vs ++ c.drop (j + vs.length)) → Dj F' G → Row d e H' X' (or2 F' G) A cap (xs.set i y)
theorem Row.lend2 (h : Row d e H X F A cap xs) (hA : A = some ⟨b, 0, none⟩) (hx : xs[i]? = some x) : ∃ c F1 G, d.O H X F1 x c ∧ Dj F1 G ∧ (∀ q, F1 q ∨ G q → F q) ∧ (∀ j u, c[j]? = some u → X.cell b (0 + i * d.sz + j) = some u) ∧ Hol d e H X G A cap xs i b c := by
  rcases h with ⟨_, _, rfl⟩ | ⟨g, cur, fr, h1, h2, h3, h4, h5, h6, h7, h8⟩
  · simp at hx
  · rw [hA] at h1
    injection h1 with h1; injection h1 with h1
    subst h1
    obtain ⟨c, F1, F2, e1, o1, d1, s1, back⟩ := elsO_at i h8 hx
    have hil : i < xs.length := (List.getElem?_eq_some_iff.1 hx).1
    have hl := elsO_len h8
    have hcl := d.O_len o1
    have hm : (i + 1) * d.sz ≤ xs.length * d.sz := Nat.mul_le_mul_right _ hil
    rw [Nat.add_mul] at hm
    have hcs : xs.length * d.sz ≤ cur.size := by rw [h7]; exact Nat.mul_le_mul_right _ h5
    have hlt : (cur.toList.take (i * d.sz)).length = i * d.sz := by rw [List.length_take, Array.length_toList]; omega
    have htt : (cur.toList.take (xs.length * d.sz)).take (i * d.sz) = cur.toList.take (i * d.sz) := by rw [List.take_take]; congr 1; omega
    refine ⟨c, F1, fun q => F2 q ∨ q = b, o1, fun q hq hq2 => ?_, fun q hq => ?_, fun j u hj => ?_, cur, fr, h3, .inr rfl, h4, by omega, fun H' X' F' y vs j hE hX hj hnew ho hd => ?_⟩
    · rcases hq2 with hq2 | rfl
      · exact d1 q hq hq2
      · exact (s1 _ (.inl hq)).2 rfl
    · rcases hq with hq | hq | rfl
      · exact (s1 q (.inl hq)).1
      · exact (s1 q (.inr hq)).1
      · exact h2
    · rw [Nat.add_assoc]
      refine row_cell (n := xs.length * d.sz) h3 ?_
      have hjl := (List.getElem?_eq_some_iff.1 hj).1
      rw [e1, htt, List.append_assoc, List.getElem?_append_right (by rw [hlt]; omega), hlt, Nat.add_sub_cancel_left, List.getElem?_append_left hjl]
      exact hj
    · have hcur : cur.toList.take (i * d.sz + j) = cur.toList.take (i * d.sz) ++ c.take j := by
        have : (cur.toList.take (xs.length * d.sz)).take (i * d.sz + j) = cur.toList.take (i * d.sz + j) := by rw [List.take_take]; congr 1; omega
        rw [← this, e1, htt, List.append_assoc, List.take_append, List.take_of_length_le (by rw [hlt]; omega), hlt, Nat.add_sub_cancel_left, List.take_append]
        rw [show j - c.length = 0 by omega, List.take_zero, List.append_nil]
      have hsize : ((cur.toList.take (i * d.sz + j) ++ vs ++ cur.toList.drop (i * d.sz + j + vs.length)).toArray).size = cur.size := by
        simp only [List.size_toArray, List.length_append, List.length_take, List.length_drop, Array.length_toList]
        omega
      refine .inr ⟨b, _, fr, hA, .inr (.inr rfl), hnew, by rw [hsize]; exact h4, by simpa using h5, h6, by rw [hsize]; exact h7, ?_⟩
      have h9 := back H' X' F' y _ hE (fun q hq => hX q (.inl hq) (s1 q (.inr hq)).2) ho (fun q hq hq2 => hd q hq (.inl hq2))
      rw [List.length_set]
      have e4 : ((cur.toList.take (i * d.sz + j) ++ vs ++ cur.toList.drop (i * d.sz + j + vs.length)).toArray.toList.take (xs.length * d.sz)) = (cur.toList.take (xs.length * d.sz)).take (i * d.sz) ++ (c.take j ++ vs ++ c.drop (j + vs.length)) ++ (cur.toList.take (xs.length * d.sz)).drop (i * d.sz + d.sz) := by
        have hdrop : (cur.toList.drop (i * d.sz + j + vs.length)).take (xs.length * d.sz - (i * d.sz + j + vs.length)) = c.drop (j + vs.length) ++ (cur.toList.take (xs.length * d.sz)).drop (i * d.sz + d.sz) := by
          rw [← List.drop_take, e1, htt, List.append_assoc, List.drop_append, List.drop_of_length_le (by rw [hlt]; omega), List.nil_append, hlt, List.drop_append]
          have e5 : i * d.sz + j + vs.length - i * d.sz = j + vs.length := by omega
          rw [e5, show j + vs.length - c.length = 0 by omega, List.drop_zero]
          congr 1
          have e6 : List.drop (i * d.sz + d.sz) (cur.toList.take (i * d.sz) ++ (c ++ List.drop (i * d.sz + d.sz) (List.take (xs.length * d.sz) cur.toList))) = List.drop (i * d.sz + d.sz) (List.take (xs.length * d.sz) cur.toList) := by
            rw [List.drop_append, List.drop_of_length_le (by rw [hlt]; omega), List.nil_append, hlt, List.drop_append, List.drop_of_length_le (by omega), List.nil_append]
            rw [show i * d.sz + d.sz - i * d.sz - c.length = 0 by omega, List.drop_zero]
          exact e6.symm
        have hp1 : (cur.toList.take (i * d.sz + j) ++ vs).length = i * d.sz + j + vs.length := by
          simp only [List.length_append, List.length_take, Array.length_toList]; omega
        rw [List.take_append, List.take_of_length_le (by rw [hp1]; omega), hp1, hdrop, htt, hcur]
        simp [List.append_assoc]
      rw [e4]
      refine elsO_mono (fun q hq => ?_) h9
      rcases hq with hq | hq
      · exact ⟨.inl hq, fun hqb => hd q hq (.inr hqb)⟩
      · exact ⟨.inr (.inl hq), (s1 q (.inr hq)).2⟩
end
section
variable {P : Program} {ρ : Operand → Value} {dst : Option Tmp} {ty T : TypeId} {pos : String} {af : Array Edge} {gd : Option (Nat × Bool)} {P0 : Foot} {H0 H Hl X : Hp} {w0 w : World} {F F2 G : Foot} {Fs : List Foot}
variable {α : Type} {d : Ty α} {e : TypeId} {A : Option Addr} {cap : Nat} {xs : List α} {x y : Operand} {v : Value}
theorem e_sethole {b b' i j : Nat} {vs c : List Value} {yv : α} (S : St P0 H0 w0 (F2 :: G :: Fs) H w) (hx : ρ x = .pointer (some ⟨b', 0 + i * d.sz + j, none⟩)) (hA : A = some ⟨b, 0, none⟩) (hA' : A = some ⟨b', 0, none⟩) (hy : ρ y = v) (hv : v.cells.toList = vs) (hz : (P.info? T).map (·.size) = some vs.length)
    (hG : ∀ q, G q → hp w q = X q) (hE : Ext Hl H) (hh : Hol d e Hl X G A cap xs i b c) (hj : j + vs.length ≤ d.sz) (h1 : ∀ u ∈ vs, u.oneCell' = true) (hn : d.O H (hp w) F2 yv (c.take j ++ vs ++ c.drop (j + vs.length))) :
    ∃ w', (execOp ρ ⟨dst, .store T x y, ty, pos, af, gd⟩).run P w = .ok .skip w' ∧ ∃ F', Row d e H (hp w') F' A cap (xs.set i yv) ∧ St P0 H0 w0 (F' :: Fs) H w' ∧ Kp Fs w w' := by
  have hbb : b' = b := by
    have q := hA'.symm.trans hA
    injection q with q; injection q
  rw [hbb] at hx hA'
  obtain ⟨cur, fr, k1, k2, k3, k4, back⟩ := hh
  have hdj := S.dj
  have hJ := S.join
  have hF2lt := fun b hb => (S.own F2 (.head _) b hb).1
  have hGlt := fun b hb => (S.own G (.tail _ (.head _)) b hb).1
  have h3 : w.heap[b]? = some (.cells cur e fr) := (hG b k2).trans k1
  have hrun := run_store_blk (dst := dst) (ty := ty) (pos := pos) (af := af) (gd := gd) (P := P) (g := b) (o := i * d.sz + j) (by rw [hx, Nat.zero_add]) hy hv hz h3 k3 (by omega) h1
  generalize hw' : (w.setRow b (cur.toList.take (i * d.sz + j) ++ vs ++ cur.toList.drop (i * d.sz + j + vs.length)).toArray) = w' at hrun
  have hC : Chg (or2 F2 G) w w' := by rw [← hw']; exact (chg_setRow w b _).mono (fun q hq => .inr ((show q = b from hq) ▸ k2))
  have hsz : w'.heap.size = w.heap.size := by rw [← hw']; simp
  obtain ⟨S', K'⟩ := hJ.step (G := or2 F2 G) hC (fun q hq => ⟨by rw [hsz]; exact hq.elim (hF2lt q) (hGlt q), .inl hq⟩)
  have mv : ∀ q, q ≠ b → hp w' q = hp w q := fun q hq => by rw [← hw']; exact setRow_other w b q _ hq
  have hnew : w'.heap[b]? = some (.cells (cur.toList.take (i * d.sz + j) ++ vs ++ cur.toList.drop (i * d.sz + j + vs.length)).toArray e fr) := by rw [← hw']; exact setRow_heap w b cur _ e fr h3
  refine ⟨w', hrun, or2 F2 G, back H (hp w') F2 yv vs j hE (fun q hq hqb => (mv q hqb).trans (hG q hq)) hj hnew (d.O_move (X' := hp w') (fun q hq => mv q (fun hqb => hdj q hq (hqb ▸ k2))) hn) hdj, S', K'⟩
/-- append(x[:i], x[lo:]...) -/
theorem e_erase {i lo n : Nat} (S : St P0 H0 w0 (F :: Fs) H w) (ht : P.underlying T = some (.slice e)) (hi0 : (P.info? e).map (·.size) = some d.sz)
    (hx0 : ρ x = .slice A (xs.take i).length cap) (hy : ρ y = sliced A lo n cap d.sz) (hn0 : xs.length = n) (hil : i ≤ lo) (hln : lo ≤ n) (HO : Row d e H (hp w) F A cap xs) :
    ∃ u w', (execOp ρ ⟨dst, .call { callee := .builtin .append, args := #[x, y], argTypes := #[T, T] }, ty, pos, af, gd⟩).run P w = .ok (.value u) w' ∧
      u = .slice A (xs.take i ++ xs.drop lo).length cap ∧ Row d e H (hp w') F A cap (xs.take i ++ xs.drop lo) ∧ St P0 H0 w0 (F :: Fs) H w' ∧ Kp Fs w w' := by
  subst hn0
  have hx : ρ x = .slice A i cap := by rw [hx0, List.length_take, Nat.min_eq_left (by omega)]
  obtain ⟨inf, hinf, hsz⟩ := Option.map_eq_some_iff.1 hi0
  have hFlt := fun b hb => (S.own F (.head _) b hb).1
  have hl2 : (xs.take i ++ xs.drop lo).length = i + (xs.length - lo) := by rw [List.length_append, List.length_take, List.length_drop]; omega
  suffices key : ∃ w', (Builtin.append_ #[T, T] ty #[.slice A i cap, sliced A lo xs.length cap d.sz]).run P w = .ok (.slice A (i + (xs.length - lo)) cap) w' ∧
      Row d e H (hp w') F A cap (xs.take i ++ xs.drop lo) ∧ St P0 H0 w0 (F :: Fs) H w' ∧ Kp Fs w w' by
    obtain ⟨w', hr, k1, k2, k3⟩ := key
    refine ⟨_, w', ?_, rfl, k1, k2, k3⟩
    rw [hl2]
    simp [execOp, hx, hy, resolve, invoke, builtin, hr]
  rcases HO with ⟨rfl, rfl, rfl⟩ | ⟨g, cur, fr, rfl, hFg, hg, hfr, hle, hcm, hcs, hels⟩
  · have : lo = 0 := by simpa using hln
    subst this
    obtain rfl : i = 0 := by omega
    refine ⟨w, ?_, Row.nil _ _ _ _ _, S, fun _ _ _ _ => rfl⟩
    simp [Builtin.append_, run_underlying ht, sizeOf, typeInfo, hinf, Builtin.lenOf, sliced, Builtin.firstCells]
  · have hms : (xs.length - lo) * d.sz ≤ xs.length * d.sz := Nat.mul_le_mul_right _ (by omega)
    have hcl : xs.length * d.sz ≤ cur.size := by rw [hcs]; exact Nat.mul_le_mul_right _ hle
    have hal : ((cur.toList.take (xs.length * d.sz))).length = xs.length * d.sz := elsO_len hels
    obtain ⟨news, hnews⟩ : ∃ news, news = (cur.toList.take (xs.length * d.sz)).drop (lo * d.sz) := ⟨_, rfl⟩
    have hnl : news.length = (xs.length - lo) * d.sz := by rw [hnews, List.length_drop, hal, Nat.sub_mul]
    obtain ⟨F1, F2', hp1, hp2, hpd, hps⟩ := elsO_split i hels (by omega)
    have hp3 := elsO_drop hp2 (lo - i)
    rw [List.drop_drop, show i + (lo - i) = lo by omega, List.drop_drop, ← Nat.add_mul, show i + (lo - i) = lo by omega, ← hnews] at hp3
    have hti : (cur.toList.take (xs.length * d.sz)).take (i * d.sz) = cur.toList.take (i * d.sz) := by
      rw [List.take_take]; congr 1; exact Nat.min_eq_left (Nat.mul_le_mul_right _ (by omega))
    rw [hti] at hp1
    have h1 : ∀ u ∈ news, u.oneCell' = true := elsO_one hp3
    have hil2 : i * d.sz + (xs.length - lo) * d.sz ≤ xs.length * d.sz := by rw [← Nat.add_mul]; exact Nat.mul_le_mul_right _ (by omega)
    have hst := run_storeCells_fr (P := P) g (i * d.sz) e fr news 0 cur w hg hfr (by rw [hnl]; simpa using Nat.le_trans hil2 hcl) h1
    simp only [Nat.add_zero] at hst
    have hroom : i + (xs.length - lo) ≤ cap := by omega
    have hf : (Builtin.firstCells d.sz (xs.length - lo) (sliced (some ⟨g, 0, none⟩) lo xs.length cap d.sz)).run P w = .ok news.toArray w := by
      by_cases hz : xs.length - lo = 0
      · have : news = [] := List.eq_nil_of_length_eq_zero (by rw [hnl, hz, Nat.zero_mul])
        rw [hz, this]
        unfold sliced
        split
        · exact run_firstCells_some (P := P) w d.sz 0 _ _ _ [] (by simp) (fun j u hj => by simp at hj)
        · exact run_firstCells_some (P := P) w d.sz 0 _ _ _ [] (by simp) (fun j u hj => by simp at hj)
      · unfold sliced
        rw [if_neg (by omega)]
        show (Builtin.firstCells d.sz (xs.length - lo) (.slice (some _) _ _)).run P w = _
        refine run_firstCells_some (P := P) w d.sz (xs.length - lo) _ (xs.length - lo) (cap - lo) news hnl (fun j u hj => ?_)
        show w.cell? ((Addr.add ⟨g, 0, none⟩ (lo * d.sz)).add j) = some u
        rw [addr_add, addr_add, Nat.zero_add]
        have : w.cell? ⟨g, lo * d.sz + j, none⟩ = cur[lo * d.sz + j]? := cell_of_row w g (lo * d.sz + j) cur e fr hg
        rw [this]
        rw [hnews, List.getElem?_drop, List.getElem?_take] at hj
        split at hj
        · simpa using hj
        · cases hj
    have hrun : (Builtin.append_ #[T, T] ty #[.slice (some ⟨g, 0, none⟩) i cap, sliced (some ⟨g, 0, none⟩) lo xs.length cap d.sz]).run P w =
        .ok (.slice (some ⟨g, 0, none⟩) (i + (xs.length - lo)) cap) (w.setRow g (cur.toList.take (i * d.sz) ++ news ++ cur.toList.drop (i * d.sz + news.length)).toArray) := by
      unfold sliced at hf ⊢
      generalize (if cap = lo then (some ⟨g, 0, none⟩ : Option Addr) else (some ⟨g, 0, none⟩ : Option Addr).map (fun x => x.add (lo * d.sz))) = A2 at hf ⊢
      simp [Builtin.append_, run_underlying ht, sizeOf, typeInfo, hinf, hsz, Builtin.lenOf, hroom, hf, addr_add, hst]
    obtain ⟨S', K'⟩ := S.step (G := F) ((chg_setRow w g (cur.toList.take (i * d.sz) ++ news ++ cur.toList.drop (i * d.sz + news.length)).toArray).mono (G := F) (fun b hb => (show b = g from hb) ▸ hFg)) (fun b hb => ⟨by
      have : b < w.heap.size := hFlt b hb
      simpa using this, .inl hb⟩)
    refine ⟨_, hrun, .inr ⟨g, _, fr, rfl, hFg, setRow_heap w g cur _ e fr hg, ?_, by rw [hl2]; exact hroom, hcm, ?_, ?_⟩, S', K'⟩
    · have : (cur.toList.take (i * d.sz) ++ news ++ cur.toList.drop (i * d.sz + news.length)).toArray.size = cur.size := by
        simp only [List.size_toArray, List.length_append, List.length_take, List.length_drop, Array.length_toList]
        omega
      rw [this]; exact hfr
    · simp only [List.size_toArray, List.length_append, List.length_take, List.length_drop, Array.length_toList]
      omega
    · have hlt : (cur.toList.take (i * d.sz)).length = i * d.sz := by rw [List.length_take, Array.length_toList]; omega
      have htk : ((cur.toList.take (i * d.sz) ++ news ++ cur.toList.drop (i * d.sz + news.length)).toArray.toList.take ((xs.take i ++ xs.drop lo).length * d.sz)) = cur.toList.take (i * d.sz) ++ news := by
        have : (xs.take i ++ xs.drop lo).length * d.sz = (cur.toList.take (i * d.sz) ++ news).length := by rw [hl2, List.length_append, hlt, hnl, Nat.add_mul]
        rw [this]
        exact List.take_left
      rw [htk]
      have mv : ∀ b, b ≠ g → hp (w.setRow g (cur.toList.take (i * d.sz) ++ news ++ cur.toList.drop (i * d.sz + news.length)).toArray) b = hp w b := fun b hb => setRow_other w g b _ hb
      refine elsO_append (F1 := F1) (F2 := F2') (elsO_move (fun b hb => mv b (hps b (.inl hb)).2) hp1) (elsO_move (fun b hb => mv b (hps b (.inr hb)).2) hp3) hpd hps
end
end Go.Sy
