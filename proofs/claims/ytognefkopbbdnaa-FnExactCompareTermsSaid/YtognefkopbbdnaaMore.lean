import Derived.Test.YtognefkopbbdnaaSteps
import Derived.Laws.IdiomStrings
import Derived.Laws.BytesArg
namespace Go.Sx
set_option linter.unusedVariables false
/-! ### more operations -/
section
variable {P : Program} {w w' : World} {ρ : Operand → Value} {d : Option Tmp} {T T2 ty : TypeId} {pos : String} {af : Array Edge} {gd : Option (Nat × Bool)} {x y z : Operand} {k : IntKind} {a b : Int} {v u : Value}

theorem e_notv {c : Bool} (hx : ρ x = .bool c) : (execOp ρ ⟨d, .unOp .not T x, ty, pos, af, gd⟩).run P w = .ok (.value (.bool (decide (¬ (c = true))))) w := by
  rw [e_not hx]; cases c <;> rfl
theorem e_notd {c : Prop} [Decidable c] (hx : ρ x = .bool (decide c)) : (execOp ρ ⟨d, .unOp .not T x, ty, pos, af, gd⟩).run P w = .ok (.value (.bool (decide (¬ c)))) w := by
  rw [e_not hx]; simp

/-- a number as a byte -/
def b8 (n : Int) : UInt8 := UInt8.ofNat (n % 256).toNat
theorem wrap8 (n : Int) : IntKind.u8.wrap n = ((b8 n).toNat : Int) := by
  have h1 : 0 ≤ n % 256 := Int.emod_nonneg _ (by decide)
  have h2 : n % 256 < 256 := Int.emod_lt_of_pos _ (by decide)
  have h3 : (n % 256).toNat < 256 := by omega
  simp [IntKind.wrap, IntKind.bits, IntKind.signed, b8, UInt8.toNat_ofNat', Nat.mod_eq_of_lt h3]
  omega
theorem b8_small {n : Nat} (h : n < 256) : (b8 (n : Int)).toNat = n := by
  have h4 : ((n : Int) % 256).toNat = n := by omega
  unfold b8
  rw [h4]
  simp [UInt8.toNat_ofNat', Nat.mod_eq_of_lt h]
theorem e_add8 (hx : ρ x = .int .u8 a) (hy : ρ y = .int .u8 b) : (execOp ρ ⟨d, .binOp .add T x y T2, ty, pos, af, gd⟩).run P w = .ok (.value (.int .u8 ((b8 (a + b)).toNat : Int))) w := by
  rw [e_add hx hy, wrap8]
theorem e_sub8 (hx : ρ x = .int .u8 a) (hy : ρ y = .int .u8 b) : (execOp ρ ⟨d, .binOp .sub T x y T2, ty, pos, af, gd⟩).run P w = .ok (.value (.int .u8 ((b8 (a - b)).toNat : Int))) w := by
  rw [e_sub hx hy, wrap8]
theorem e_mul8 (hx : ρ x = .int .u8 a) (hy : ρ y = .int .u8 b) : (execOp ρ ⟨d, .binOp .mul T x y T2, ty, pos, af, gd⟩).run P w = .ok (.value (.int .u8 ((b8 (a * b)).toNat : Int))) w := by
  rw [e_mul hx hy, wrap8]
theorem e_quo8 (hx : ρ x = .int .u8 a) (hy : ρ y = .int .u8 b) (h0 : b ≠ 0) : (execOp ρ ⟨d, .binOp .quo T x y T2, ty, pos, af, gd⟩).run P w = .ok (.value (.int .u8 ((b8 (a.tdiv b)).toNat : Int))) w := by
  rw [e_quo hx hy h0, wrap8]
theorem e_conv_8i {a : UInt8} (hs : (P.underlying T).isSome = true) (ht : P.underlying T2 = some (.int .i64)) (hx : ρ x = .int .u8 (a.toNat : Int)) : (execOp ρ ⟨d, .convert T T2 x, ty, pos, af, gd⟩).run P w = .ok (.value (.int .i64 (a.toNat : Int))) w := by
  rw [e_conv_int hs ht hx]
  have h := a.toNat_lt
  have h1 : ((a.toNat : Int)) % (2 ^ 64 : Int) = (a.toNat : Int) := by omega
  have h2 : IntKind.i64.wrap (a.toNat : Int) = (a.toNat : Int) := by
    simp only [IntKind.wrap, IntKind.bits, IntKind.signed, h1]
    rw [if_neg (by simp; omega)]
  rw [h2]
theorem e_conv_i8 (hs : (P.underlying T).isSome = true) (ht : P.underlying T2 = some (.int .u8)) (hx : ρ x = .int k a) : (execOp ρ ⟨d, .convert T T2 x, ty, pos, af, gd⟩).run P w = .ok (.value (.int .u8 ((b8 a).toNat : Int))) w := by
  rw [e_conv_int hs ht hx, wrap8]
theorem elsR_bytes {w : World} {F : Foot} : ∀ {xs : List UInt8} {cs : List Value}, elsR tByte w F xs cs → cs = xs.map fun b => Value.int .u8 (b.toNat : Int)
  | [], cs, h => h
  | x :: xs, cs, h => by
    obtain ⟨c, cs', rfl, h1, h2⟩ := h
    rw [elsR_bytes h2]
    have h3 : c = [Value.int .u8 (x.toNat : Int)] := h1
    rw [h3]; rfl
/-- string(b) -/
theorem e_conv_bs {e : TypeId} {F : Foot} {A : Option Addr} {c : Nat} {xs : List UInt8} (hs : P.underlying T = some (.slice e)) (he : P.underlying e = some (.int .u8)) (hd : P.underlying T2 = some .string) (hx : ρ x = .slice A xs.length c) (h : Rd tByte w F A xs) :
    (execOp ρ ⟨d, .convert T T2 x, ty, pos, af, gd⟩).run P w = .ok (.value (str xs)) w := by
  have h1 : (convert T T2 (.slice A xs.length c)).run P w = .ok (str xs) w := by
    obtain ⟨_, h2⟩ := h
    rcases h2 with rfl | ⟨b, off, inner, rfl, _, hc, he2⟩
    · cases A with
      | none => exact run_convert_bytes_nil w T e hs he _ _ _ hd
      | some a => exact run_convert_bytes_back w T T2 e a c [] hs he hd (fun j hj => by simp at hj)
    · refine run_convert_bytes_back w T T2 e ⟨b, off, none⟩ c xs hs he hd (fun j hj => ?_)
      have hadd : (⟨b, off, none⟩ : Addr).add j = ⟨b, off + j, none⟩ := by unfold Addr.add; split <;> simp_all
      rw [hadd]
      refine hc j _ ?_
      rw [elsR_bytes he2]
      simp [hj]
  simp [execOp, hx, h1]
theorem els_bytes {w : World} {F : Foot} : ∀ (xs : List UInt8), els tByte w F xs (xs.map fun b => Value.int .u8 (b.toNat : Int)) := by
  intro xs
  show elsR tByte w F xs _
  induction xs with
  | nil => rfl
  | cons x xs ih => exact ⟨[_], _, rfl, rfl, ih⟩
/-- []byte(s) -/
theorem e_conv_sb {e : TypeId} {xs : List UInt8} (hs : P.underlying T = some .string) (hd : P.underlying T2 = some (.slice e)) (he : P.underlying e = some (.int .u8)) (hx : ρ x = str xs) (h63 : xs.length ≤ 9223372036854775807) :
    ∃ u w', (execOp ρ ⟨d, .convert T T2 x, ty, pos, af, gd⟩).run P w = .ok (.value u) w' ∧ ∃ A cap, u = .slice A xs.length cap ∧ Row tByte e w' (fun b => w.heap.size ≤ b) A cap xs ∧ Chg [] w w' ∧ (∀ b, bk A = some b → w.heap.size ≤ b ∧ b < w'.heap.size) := by
  have hr := run_bytes_of_string (P := P) w T T2 e ⟨xs.toArray⟩ hs hd he
  have hsz : (⟨xs.toArray⟩ : ByteArray).size = xs.length := by show xs.toArray.size = _; simp
  rw [hsz] at hr
  have h1 := grownCap_ge w xs.length 0 e
  have h2 := grownCap_le_maxLen w xs.length 0 e h63
  generalize grownCap w xs.length 0 e = cap at hr h1 h2
  have hrow : (bytesRow ⟨xs.toArray⟩ cap).toList = (xs.map fun b => Value.int .u8 (b.toNat : Int)) ++ List.replicate (cap - xs.length) (.int .u8 0) := by simp [bytesRow, hsz]
  have hsize : (bytesRow ⟨xs.toArray⟩ cap).size = cap := by rw [← Array.length_toList, hrow]; simp; omega
  refine ⟨_, _, by simp only [execOp, hx, str]; simp [hr]; rfl, some ⟨w.heap.size, 0, none⟩, cap, rfl, .inr ⟨w.heap.size, _, _, rfl, Nat.le_refl _, heap_alloc_new w.drew _, fun j hj hh => by omega, h1, h2, by rw [hsize]; simp [tByte, scal], ?_⟩, ?_, fun b hb => ?_⟩
  · have h3 : ((bytesRow ⟨xs.toArray⟩ cap).toList.take (xs.length * tByte.sz)) = xs.map fun b => Value.int .u8 (b.toNat : Int) := by
      have : xs.length * tByte.sz = (xs.map fun b => Value.int .u8 (b.toNat : Int)).length := by simp [tByte, scal]
      rw [hrow, this]
      exact List.take_left
    rw [h3]
    exact els_bytes xs
  · exact ⟨rfl, rfl, rfl, by simp, fun b hb _ => Go.RowKit.Below.heap_alloc w.drew _ b hb⟩
  · have : w.heap.size = b := by simpa [bk] using hb
    subst this
    exact ⟨Nat.le_refl _, heap_lt (heap_alloc_new w.drew _)⟩
end

/-! ### footprints, more -/
theorem fp_self {L : Foot} {hi : Nat} {M N : List (Option Nat)} {o : Option Nat} (hs : ∀ q, q ∈ N → q ∈ M ∨ q = o) : ∀ b, FP L hi M b ∧ o ≠ some b → FP L hi N b :=
  fun b ⟨⟨g1, g2, g3⟩, h⟩ => ⟨g1, g2, fun hm => (hs _ hm).elim g3 (fun e => h e.symm)⟩
theorem fp_cons {L : Foot} {hi : Nat} {M : List (Option Nat)} {o : Option Nat} (h : ∀ b, o = some b → hi ≤ b) : ∀ b, FP L hi M b → FP L hi (o :: M) b :=
  fun b ⟨g1, g2, g3⟩ => ⟨g1, g2, fun hm => by
    rcases List.mem_cons.1 hm with e | e
    · have := h b e.symm; omega
    · exact g3 e⟩
section
variable {α : Type} {d : Ty α} {e : TypeId} {w w' : World} {F F' : Foot} {xs ys : List α} {A : Option Addr} {cap : Nat}
theorem Row.get (h : Row d e w F A cap xs) (i : Nat) (x : α) (hx : xs[i]? = some x) : ∃ b off c, A = some ⟨b, off, none⟩ ∧ F b ∧ d.R w (fun q => F q ∧ bk A ≠ some q) x c ∧ ∀ j u, c[j]? = some u → w.cell? ⟨b, off + i * d.sz + j, none⟩ = some u := by
  rcases h with ⟨rfl, rfl, rfl⟩ | ⟨g, cur, fr, rfl, h2, h3, h4, h5, h6, h7, h8⟩
  · simp at hx
  · obtain ⟨c, hr, hj⟩ := elsR_get (els_R h8) i x hx
    refine ⟨g, 0, c, rfl, h2, d.R_mono (fun q hq => ⟨hq.1, fun he => hq.2 (by simpa [bk, eq_comm] using he)⟩) hr, fun j u hu => ?_⟩
    have h9 := hj j u hu
    rw [List.getElem?_take] at h9
    split at h9
    · rw [Nat.zero_add, cell_of_row w g _ cur e fr h3]
      simpa using h9
    · cases h9
theorem node_ptr {T E : TypeId} {t : Tm} {v : Value} (h : NodeR T E w F t v) : ∃ g, v = .pointer (some ⟨g, 0, none⟩) := by
  obtain ⟨g, _, _, _, _, hv, _⟩ := node_open h
  exact ⟨g, hv⟩
theorem ptr_inj {a b : Nat} (h : Value.pointer (some ⟨a, 0, none⟩) = .pointer (some ⟨b, 0, none⟩)) : a = b := by
  injection h with h; injection h with h; injection h
end

/-! ### a store into an element -/
section
variable {α : Type} {P : Program} {w w' : World} {ρ : Operand → Value} {dst : Option Tmp} {T T2 ty e : TypeId} {pos : String} {af : Array Edge} {gd : Option (Nat × Bool)} {x y z : Operand} {v : Value} {d : Ty α} {F F2 : Foot} {A : Option Addr} {cap : Nat} {xs : List α}
theorem els_set {w : World} {F F2 G : Foot} {xs : List α} {cs vs : List Value} (yv : α) : ∀ (i : Nat), els d w F xs cs → i < xs.length → d.O w F2 yv vs → (d.sep = true → ∀ b, F b → ¬ F2 b) → (∀ b, F b ∨ F2 b → G b) →
    els d w G (xs.set i yv) (cs.take (i * d.sz) ++ vs ++ cs.drop (i * d.sz + d.sz)) := by
  intro i h hi hn hd hG
  have e1 : xs.set i yv = xs.take i ++ (yv :: xs.drop (i + 1)) := List.set_eq_take_append_cons_drop .. |>.trans (by rw [if_pos hi])
  have hl := els_len h
  have hvl := d.R_len (d.OR hn)
  unfold els at h ⊢
  split
  · rename_i hs
    rw [if_pos hs] at h
    rw [e1]
    clear e1 hl
    have hd' := hd hs
    clear hd
    induction xs generalizing cs F G i with
    | nil => simp at hi
    | cons x xs ih =>
      obtain ⟨c, cs', G1, G2, rfl, h1, h2, h3, h4⟩ := h
      have hcl := d.R_len (d.OR h1)
      cases i with
      | zero =>
        refine ⟨vs, cs', F2, G2, ?_, hn, by simpa using h2, fun b hb hb2 => hd' b (h4 b (.inr hb2)) hb, fun b hb => hG b (hb.elim .inr (fun h => .inl (h4 b (.inr h))))⟩
        simp only [Nat.zero_mul, List.take_zero, List.nil_append, Nat.zero_add]
        rw [← hcl, List.drop_left]
      | succ i =>
        have hi2 : i < xs.length := by simpa using hi
        refine ⟨c, cs'.take (i * d.sz) ++ vs ++ cs'.drop (i * d.sz + d.sz), G1, fun b => G2 b ∨ F2 b, ?_, h1, ih (G := fun b => G2 b ∨ F2 b) i h2 hi2 (fun b hb => hb) (fun b hb => hd' b (h4 b (.inr hb))), fun b hb hb2 => ?_, fun b hb => ?_⟩
        · have e2 : (i + 1) * d.sz = c.length + i * d.sz := by rw [hcl, Nat.add_mul]; omega
          rw [e2, List.take_length_add_append, Nat.add_assoc, List.drop_length_add_append]
          simp [List.append_assoc]
        · rcases hb2 with hb2 | hb2
          · exact h3 b hb hb2
          · exact hd' b (h4 b (.inl hb)) hb2
        · rcases hb with hb | hb | hb
          · exact hG b (.inl (h4 b (.inl hb)))
          · exact hG b (.inl (h4 b (.inr hb)))
          · exact hG b (.inr hb)
  · rename_i hs
    rw [if_neg hs] at h
    rw [e1]
    have h1 := elsR_take h i
    have h2 := elsR_drop h (i + 1)
    rw [show (i + 1) * d.sz = i * d.sz + d.sz by rw [Nat.add_mul]; omega] at h2
    rw [List.append_assoc]
    exact elsR_append (elsR_mono (fun b hb => hG b (.inl hb)) h1) ⟨vs, _, rfl, d.R_mono (fun b hb => hG b (.inr hb)) (d.OR hn), elsR_mono (fun b hb => hG b (.inl hb)) h2⟩
/-- x[i] = v -/
theorem e_setel {b off i : Nat} {vs : List Value} {yv : α} (hx : ρ x = .pointer (some ⟨b, off + i * d.sz, none⟩)) (hA : A = some ⟨b, off, none⟩) (hy : ρ y = v) (hv : v.cells.toList = vs) (hz : (P.info? T).map (·.size) = some d.sz)
    (HO : Row d e w F A cap xs) (hi : i < xs.length) (hn : d.O w F2 yv vs) (hd : d.sep = true → ∀ q, F q → ¬ F2 q) (ha : ∀ g, bk A = some g → ¬ F2 g) :
    ∃ w', (execOp ρ ⟨dst, .store T x y, ty, pos, af, gd⟩).run P w = .ok .skip w' ∧ Row d e w' (fun q => F q ∨ F2 q) A cap (xs.set i yv) ∧ Chg [bk A] w w' ∧ w'.heap.size = w.heap.size := by
  subst hA
  rcases HO with ⟨h0, _⟩ | ⟨g, cur, fr, hAg, hFg, hg, hfr, hle, hcm, hcs, hels⟩
  · cases h0
  · injection hAg with h0
    injection h0 with h1 h2 h3
    subst h1
    subst h2
    have hvl := d.R_len (d.OR hn)
    have hfit : i * d.sz + d.sz ≤ xs.length * d.sz := by
      have := Nat.mul_le_mul_right d.sz (show i + 1 ≤ xs.length from hi)
      rw [Nat.add_mul] at this
      omega
    have hfit2 : xs.length * d.sz ≤ cur.size := by rw [hcs]; exact Nat.mul_le_mul_right _ hle
    rw [Nat.zero_add] at hx
    obtain ⟨w', hr, hh, hc, hs⟩ := e_store (dst := dst) (ty := ty) (pos := pos) (af := af) (gd := gd) (P := P) hx hy hv (by rw [hvl]; exact hz) hg hfr (by rw [hvl]; omega) (d.R_one (d.OR hn)) rfl
    refine ⟨w', hr, .inr ⟨b, _, fr, rfl, .inl hFg, hh, ?_, by simpa using hle, hcm, ?_, ?_⟩, hc, hs⟩
    · have : ((cur.toList.take (i * d.sz) ++ vs ++ cur.toList.drop (i * d.sz + vs.length)).toArray).size = cur.size := by
        simp only [List.size_toArray, List.length_append, List.length_take, List.length_drop, Array.length_toList]
        omega
      rw [this]
      exact hfr
    · simp only [List.size_toArray, List.length_append, List.length_take, List.length_drop, Array.length_toList]
      omega
    · have hns : ∀ q, F2 q → q ≠ b := fun q hq hqb => ha b rfl (hqb ▸ hq)
      have hmv : ∀ q, q ≠ b → w'.heap[q]? = w.heap[q]? := fun q hq => by
        by_cases hlt : q < w.heap.size
        · exact hc.block q hlt (by simpa using hq)
        · rw [Array.getElem?_eq_none (by omega), Array.getElem?_eq_none (by omega)]
      have h8 := els_set (G := fun q => (F q ∨ F2 q) ∧ q ≠ b) yv i (els_move (fun q hq => hmv q hq.2) hels) hi (d.O_move (fun q hq => hmv q (hns q hq)) hn) (fun h q hq hq2 => hd h q hq.1 hq2) (fun q hq => by
        rcases hq with hq | hq
        · exact ⟨.inl hq.1, hq.2⟩
        · exact ⟨.inr hq, hns q hq⟩)
      rw [List.length_set]
      have e3 : (cur.toList.take (xs.length * d.sz)).take (i * d.sz) = cur.toList.take (i * d.sz) := by rw [List.take_take]; congr 1; omega
      have e4 : ((cur.toList.take (i * d.sz) ++ vs ++ cur.toList.drop (i * d.sz + vs.length)).toArray.toList.take (xs.length * d.sz)) = cur.toList.take (i * d.sz) ++ vs ++ (cur.toList.take (xs.length * d.sz)).drop (i * d.sz + d.sz) := by
        have hp : (cur.toList.take (i * d.sz) ++ vs).length = i * d.sz + d.sz := by
          simp only [List.length_append, List.length_take, Array.length_toList, hvl]; omega
        rw [List.take_append, List.take_of_length_le (by rw [hp]; omega), hp, hvl, List.drop_take]
      rw [e3] at h8
      rw [e4]
      exact h8
end
end Go.Sx
