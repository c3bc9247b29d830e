import Derived.Test.YtognefkopbbdnaaMore2
namespace Go.Sx
set_option linter.unusedVariables false
section
variable {α : Type} {P : Program} {w w' : World} {ρ : Operand → Value} {dst : Option Tmp} {T T2 ty e : TypeId} {pos : String} {af : Array Edge} {gd : Option (Nat × Bool)} {x y z : Operand} {v : Value} {d : Ty α} {F F2 : Foot} {A A' : Option Addr} {cap cap' : Nat} {xs ys : List α} {L L2 : Foot} {hi hi2 n m : Nat} {M N M2 : List (Option Nat)}
theorem e_make' {k k2 : IntKind} {n : Int} {z : Value} {zx : α} {bytes : Nat} (ht : P.underlying T = some (.slice e)) (hi : (P.info? e).map (fun i => (i.size, i.bytes, i.zero)) = some (d.sz, bytes, some z)) (hzs : z.cells.size = d.sz) (hpos : 0 < d.sz)
    (hzo : ∀ w, d.O w (fun _ => False) zx z.cells.toList) (hx : ρ x = .int k n) (hy : ρ y = .int k2 n) (h0 : 0 ≤ n) (hb : n.toNat * bytes ≤ 281474976710656) (hm : n ≤ 9223372036854775807) :
    ∃ u w', (execOp ρ ⟨dst, .makeSlice T x y, ty, pos, af, gd⟩).run P w = .ok (.value u) w' ∧ ∃ A cap, u = .slice A (List.replicate n.toNat zx).length cap ∧ Row d e w' (fun b => w.heap.size ≤ b) A cap (List.replicate n.toNat zx) ∧ Chg [] w w' ∧ (∀ b, bk A = some b → w.heap.size ≤ b ∧ b < w'.heap.size) := by
  obtain ⟨i, h1, h2⟩ := Option.map_eq_some_iff.1 hi
  injection h2 with h3 h4
  injection h4 with h5 h6
  exact e_make ht h1 h6 h3 h5 hzs hpos hzo hx hy h0 hb hm
theorem e_append' {z : Value} {bytes : Nat} {A2 : Option Addr} {c2 : Nat} {news : List Value} (ht : P.underlying T = some (.slice e)) (hi : (P.info? e).map (fun i => (i.size, i.bytes, i.zero)) = some (d.sz, bytes, some z)) (hzs : z.cells.size = d.sz) (hpos : 0 < d.sz)
    (hx : ρ x = .slice A xs.length cap) (hy : ρ y = .slice A2 ys.length c2)
    (HO : Row d e w F A cap xs) (hn : els d w F2 ys news) (hnews : ys = [] ∨ ∃ ad, A2 = some ad ∧ ∀ j u, news[j]? = some u → w.cell? (ad.add j) = some u)
    (hd : d.sep = true → ∀ b, F b → ¬ F2 b) (ha : ∀ g, bk A = some g → ¬ F2 g) (hb : (xs.length + ys.length) * bytes ≤ 140737488355328) (hby : 0 < bytes) :
    ∃ u w', (execOp ρ ⟨dst, .call { callee := .builtin .append, args := #[x, y], argTypes := #[T, T] }, ty, pos, af, gd⟩).run P w = .ok (.value u) w' ∧
      ∃ A' cap', u = .slice A' (xs ++ ys).length cap' ∧ Row d e w' (fun b => F b ∨ F2 b ∨ w.heap.size ≤ b) A' cap' (xs ++ ys) ∧ Chg [bk A] w w' ∧ (bk A' = bk A ∨ ∃ b, bk A' = some b ∧ w.heap.size ≤ b) := by
  obtain ⟨i, h1, h2⟩ := Option.map_eq_some_iff.1 hi
  injection h2 with h3 h4
  injection h4 with h5 h6
  have h63 : xs.length + ys.length ≤ 140737488355328 := Nat.le_trans (Nat.le_mul_of_pos_right _ hby) hb
  exact e_append ht h1 h6 h3 h5 hzs hpos hx hy HO hn hnews (fun h0 => hnews.elim id fun ⟨ad, hA, _⟩ => by rw [h0] at hA; cases hA) hd ha (by omega) hb
theorem run_beq {p q : Bool} (ht : P.underlying T = some .bool) : (Op.equal T (.bool p) (.bool q)).run P w = .ok (p == q) w := by
  show (Op.equalIn (9999 + 1) T (.bool p) (.bool q)).run P w = _
  unfold Op.equalIn
  rw [Sem.run_bind, run_underlying ht w]
  rfl
theorem e_beql {p q : Bool} (ht : P.underlying T = some .bool) (hx : ρ x = .bool p) (hy : ρ y = .bool q) : (execOp ρ ⟨dst, .binOp .eql T x y T2, ty, pos, af, gd⟩).run P w = .ok (.value (.bool (decide (p = q)))) w := by
  have h1 : (p == q) = decide (p = q) := by cases p <;> cases q <;> rfl
  have h2 := run_beq (w := w) (p := p) (q := q) ht
  simp [execOp, hx, hy, eqGuard, binOp, h2, h1]
theorem e_bneq {p q : Bool} (ht : P.underlying T = some .bool) (hx : ρ x = .bool p) (hy : ρ y = .bool q) : (execOp ρ ⟨dst, .binOp .neq T x y T2, ty, pos, af, gd⟩).run P w = .ok (.value (.bool (decide (p ≠ q)))) w := by
  have h1 : (!(p == q)) = decide (p ≠ q) := by cases p <;> cases q <;> rfl
  have h2 := run_beq (w := w) (p := p) (q := q) ht
  simp only [execOp, hx, hy, eqGuard, binOp, Sem.run_bind, h2, Result.andThen]
  simp [Sem.run_pure, Result.andThen, h1, h2]
theorem chg_none (h : Chg [bk none] w w') : Chg [] w w' :=
  ⟨h.os, h.tape, h.output, h.size, fun b hb _ => h.block b hb (fun hm => by rcases List.mem_cons.1 hm with e | e <;> cases e)⟩
theorem fp_app (hst : bk A' = bk none ∨ ∃ b, bk A' = some b ∧ n ≤ b) (hi' : hi ≤ n) : ∀ b, FP L hi M b → FP L hi (bk A' :: M) b := fun b ⟨g1, g2, g3⟩ => ⟨g1, g2, fun hm => by
  rcases List.mem_cons.1 hm with h | h
  · rcases hst with h2 | ⟨q, h2, h3⟩
    · rw [h2] at h; cases h
    · rw [h2] at h; injection h with h; omega
  · exact g3 h⟩
theorem fresh_app (hf : ∀ b, bk A = some b → m ≤ b) (hst : bk A' = bk A ∨ ∃ b, bk A' = some b ∧ n ≤ b) (hmn : m ≤ n) : ∀ b, bk A' = some b → m ≤ b := fun b hb => by
  rcases hst with h | ⟨q, h, h2⟩
  · exact hf b (h ▸ hb)
  · rw [h] at hb; injection hb with hb; omega
theorem row_or3n (h : Row d e w' (fun q => False ∨ FP L2 hi2 M2 q ∨ n ≤ q) A cap xs) (hL : ∀ b, L2 b → L b) (hn : ∀ b, n ≤ b → L b) (hN : Lt N n) (h2 : ∀ o, o ∈ N → o ∈ M2) : Row d e w' (FP L w'.heap.size N) A cap xs :=
  row_canon h fun b hb _ => by
    rcases hb with hb | ⟨g1, _, g3⟩ | hb
    · exact hb.elim
    · exact ⟨hL b g1, fun hm => g3 (h2 _ hm)⟩
    · exact ⟨hn b hb, fun hm => by have := hN _ hm b rfl; omega⟩
theorem row_or3n0 (h : Row d e w' (fun q => False ∨ False ∨ n ≤ q) A cap xs) (hn : ∀ b, n ≤ b → L b) (hN : Lt N n) : Row d e w' (FP L w'.heap.size N) A cap xs :=
  row_canon h fun b hb _ => by
    rcases hb with hb | hb | hb
    · exact hb.elim
    · exact hb.elim
    · exact ⟨hn b hb, fun hm => by have := hN _ hm b rfl; omega⟩
theorem elsR_flat (hf : ∀ (w : World) (F F' : Foot) (x : α) (cs : List Value), d.R w F x cs → d.R w F' x cs) {F F' : Foot} {cs : List Value} (h : elsR d w F xs cs) : elsR d w F' xs cs := by
  induction xs generalizing cs with
  | nil => exact h
  | cons x xs ih =>
    obtain ⟨c, cs', rfl, h1, h2⟩ := h
    exact ⟨c, cs', rfl, hf _ _ _ _ _ h1, ih h2⟩
theorem Rd.els0 (hs : d.sep = false) (hf : ∀ (w : World) (F F' : Foot) (x : α) (cs : List Value), d.R w F x cs → d.R w F' x cs) (h : Rd d w F A xs) : ∃ news, Sx.els d w (fun _ => False) xs news ∧ (xs = [] ∨ ∃ ad, A = some ad ∧ ∀ j u, news[j]? = some u → w.cell? (ad.add j) = some u) := by
  obtain ⟨news, h1, h2⟩ := Rd.els hs h
  have hn : ¬ d.sep = true := by rw [hs]; simp
  refine ⟨news, ?_, h2⟩
  unfold Sx.els at h1 ⊢
  rw [if_neg hn] at h1 ⊢
  exact elsR_flat hf h1
/-- a literal's row -/
theorem row_lit {g : Nat} {cur : Array Value} {cs : List Value} (hb : w.heap[g]? = some (.cells cur e (0, 0))) (hc : cur.toList = cs) (hn : els d w F2 xs cs) (h2 : ¬ F2 g) (h63 : xs.length ≤ 9223372036854775807) : Row d e w (fun b => b = g ∨ F2 b) (some ⟨g, 0, none⟩) xs.length xs := by
  have hl := els_len hn
  have hsz : cur.size = cs.length := by rw [← hc]; simp
  refine .inr ⟨g, cur, (0, 0), rfl, .inl rfl, hb, thaw0 _, Nat.le_refl _, h63, by rw [hsz, hl], ?_⟩
  rw [hc, List.take_of_length_le (by rw [hl]; exact Nat.le_refl _)]
  exact els_mono (fun b hb2 => ⟨.inr hb2, fun he => h2 (he ▸ hb2)⟩) hn
end
end Go.Sx
