import Derived.Test.YtdkbfcmekppnmaaGreatDoorCore
namespace Go.Sy
open Go.Sx
set_option linter.unusedVariables false
set_option linter.unusedSimpArgs false
set_option linter.unusedSectionVars false
variable {α β : Type}
def str (l : List UInt8) : Value := .string ⟨l.toArray⟩
abbrev Hp := Nat → Option Obj
def hp (w : World) : Hp := fun b => w.heap[b]?
def Hp.cell (H : Hp) (b i : Nat) : Option Value := match H b with
  | some (.cells c _ _) => c[i]?
  | _ => none
theorem hp_cell (w : World) (b i : Nat) : (hp w).cell b i = w.cell? ⟨b, i, none⟩ := by
  unfold Hp.cell hp World.cell?
  cases h : w.heap[b]? with
  | none => rfl
  | some o => cases o <;> rfl
def Ext (H H' : Hp) : Prop := ∀ b o, H b = some o → H' b = some o
theorem Ext.refl (H : Hp) : Ext H H := fun _ _ h => h
theorem Ext.trans {H H' H2 : Hp} (h : Ext H H') (k : Ext H' H2) : Ext H H2 := fun b o e => k b o (h b o e)
theorem Ext.cell {H H' : Hp} (h : Ext H H') {b i : Nat} {u : Value} (hc : H.cell b i = some u) : H'.cell b i = some u := by
  unfold Hp.cell at hc ⊢
  cases hb : H b with
  | none => rw [hb] at hc; cases hc
  | some o => rw [h b o hb]; rw [hb] at hc; exact hc
theorem cell_of {H : Hp} {b i : Nat} {cur : Array Value} {t : TypeId} {fr : Nat × Nat} (h : H b = some (.cells cur t fr)) : H.cell b i = cur[i]? := by
  unfold Hp.cell; rw [h]
abbrev Foot := Nat → Prop
def is (g : Nat) : Foot := fun b => b = g
def no : Foot := fun _ => False
def or2 (F G : Foot) : Foot := fun b => F b ∨ G b
def Dj (F G : Foot) : Prop := ∀ b, F b → ¬ G b
def anyOf (Fs : List Foot) : Foot := fun b => ∃ F, F ∈ Fs ∧ F b
structure Ty (α : Type) where
  sz : Nat
  R : Hp → α → List Value → Prop
  O : Hp → Hp → Foot → α → List Value → Prop
  R_len : ∀ {H x cs}, R H x cs → cs.length = sz
  R_one : ∀ {H x cs}, R H x cs → ∀ u ∈ cs, u.oneCell' = true
  R_ext : ∀ {H H' x cs}, Ext H H' → R H x cs → R H' x cs
  O_len : ∀ {H X F x cs}, O H X F x cs → cs.length = sz
  O_one : ∀ {H X F x cs}, O H X F x cs → ∀ u ∈ cs, u.oneCell' = true
  O_mono : ∀ {H X F F' x cs}, (∀ b, F b → F' b) → O H X F x cs → O H X F' x cs
  O_ext : ∀ {H H' X F x cs}, Ext H H' → O H X F x cs → O H' X F x cs
  O_move : ∀ {H X X' F x cs}, (∀ b, F b → X' b = X b) → O H X F x cs → O H X' F x cs
  O_frz : ∀ {H X F x cs H'}, Ext H H' → (∀ b o, F b → X b = some o → H' b = some o) → O H X F x cs → R H' x cs
def Free (d : Ty α) : Prop := ∀ H H' X F x cs, d.O H X F x cs → d.O H' X F x cs

def elsR (d : Ty α) (H : Hp) : List α → List Value → Prop
  | [], cs => cs = []
  | x :: xs, cs => ∃ c cs', cs = c ++ cs' ∧ d.R H x c ∧ elsR d H xs cs'
def elsO (d : Ty α) (H X : Hp) : Foot → List α → List Value → Prop
  | _, [], cs => cs = []
  | F, x :: xs, cs => ∃ c cs' F1 F2, cs = c ++ cs' ∧ d.O H X F1 x c ∧ elsO d H X F2 xs cs' ∧ Dj F1 F2 ∧ (∀ b, F1 b ∨ F2 b → F b)
section
variable {d : Ty α} {H H' X X' : Hp} {F F' : Foot} {xs ys : List α} {cs cs2 : List Value}
theorem elsR_len (h : elsR d H xs cs) : cs.length = xs.length * d.sz := by
  induction xs generalizing cs with
  | nil => cases h; simp
  | cons x xs ih =>
    obtain ⟨c, cs', rfl, h1, h2⟩ := h
    rw [List.length_append, d.R_len h1, ih h2, List.length_cons, Nat.add_mul, Nat.one_mul, Nat.add_comm]
theorem elsR_ext (hs : Ext H H') (h : elsR d H xs cs) : elsR d H' xs cs := by
  induction xs generalizing cs with
  | nil => exact h
  | cons x xs ih =>
    obtain ⟨c, cs', rfl, h1, h2⟩ := h
    exact ⟨c, cs', rfl, d.R_ext hs h1, ih h2⟩
theorem elsR_append (h : elsR d H xs cs) (h2 : elsR d H ys cs2) : elsR d H (xs ++ ys) (cs ++ cs2) := by
  induction xs generalizing cs with
  | nil => cases h; simpa using h2
  | cons x xs ih =>
    obtain ⟨c, cs', rfl, h1, h3⟩ := h
    exact ⟨c, cs' ++ cs2, by simp, h1, ih h3⟩
theorem elsR_get (h : elsR d H xs cs) (i : Nat) (x : α) (hx : xs[i]? = some x) : ∃ c, d.R H x c ∧ ∀ j u, c[j]? = some u → cs[i * d.sz + j]? = some u := by
  induction xs generalizing cs i with
  | nil => simp at hx
  | cons y xs ih =>
    obtain ⟨c, cs', rfl, h1, h2⟩ := h
    have hl := d.R_len h1
    cases i with
    | zero =>
      have : y = x := by simpa using hx
      subst this
      refine ⟨c, h1, fun j u hj => ?_⟩
      have hjl := (List.getElem?_eq_some_iff.1 hj).1
      rw [Nat.zero_mul, Nat.zero_add, List.getElem?_append_left hjl]
      exact hj
    | succ i =>
      obtain ⟨c2, h3, h4⟩ := ih h2 i (by simpa using hx)
      refine ⟨c2, h3, fun j u hj => ?_⟩
      rw [List.getElem?_append_right (by rw [hl, Nat.add_mul]; omega)]
      have := h4 j u hj
      rwa [show (i + 1) * d.sz + j - c.length = i * d.sz + j by rw [hl, Nat.add_mul]; omega]
theorem elsR_take (h : elsR d H xs cs) (n : Nat) : elsR d H (xs.take n) (cs.take (n * d.sz)) := by
  induction xs generalizing cs n with
  | nil => cases h; simp [elsR]
  | cons y xs ih =>
    obtain ⟨c, cs', rfl, h1, h2⟩ := h
    have hl := d.R_len h1
    cases n with
    | zero => simp [elsR]
    | succ n =>
      refine ⟨c, cs'.take (n * d.sz), ?_, h1, ih h2 n⟩
      rw [List.take_append, List.take_of_length_le (by rw [hl, Nat.add_mul]; omega), hl]
      congr 2
      rw [Nat.add_mul]; omega
theorem elsR_drop (h : elsR d H xs cs) (n : Nat) : elsR d H (xs.drop n) (cs.drop (n * d.sz)) := by
  induction xs generalizing cs n with
  | nil => cases h; simp [elsR]
  | cons y xs ih =>
    obtain ⟨c, cs', rfl, h1, h2⟩ := h
    have hl := d.R_len h1
    cases n with
    | zero => simp only [Nat.zero_mul, List.drop_zero]; exact ⟨c, cs', rfl, h1, h2⟩
    | succ n =>
      have := ih h2 n
      have h0 : c.drop ((n + 1) * d.sz) = [] := List.drop_of_length_le (by rw [hl, Nat.add_mul]; omega)
      have h00 : (n + 1) * d.sz - d.sz = n * d.sz := by rw [Nat.add_mul]; omega
      rw [List.drop_append, h0, hl, List.nil_append, List.drop_succ_cons, h00]
      exact this
theorem elsO_len (h : elsO d H X F xs cs) : cs.length = xs.length * d.sz := by
  induction xs generalizing cs F with
  | nil => cases h; simp
  | cons x xs ih =>
    obtain ⟨c, cs', F1, F2, rfl, h1, h2, _, _⟩ := h
    rw [List.length_append, d.O_len h1, ih h2, List.length_cons, Nat.add_mul, Nat.one_mul, Nat.add_comm]
theorem elsO_one (h : elsO d H X F xs cs) : ∀ u ∈ cs, u.oneCell' = true := by
  induction xs generalizing cs F with
  | nil => cases h; simp
  | cons x xs ih =>
    obtain ⟨c, cs', F1, F2, rfl, h1, h2, _, _⟩ := h
    intro u hu
    rcases List.mem_append.1 hu with hu | hu
    · exact d.O_one h1 u hu
    · exact ih h2 u hu
theorem elsO_mono (hs : ∀ b, F b → F' b) (h : elsO d H X F xs cs) : elsO d H X F' xs cs := by
  cases xs with
  | nil => exact h
  | cons x xs =>
    obtain ⟨c, cs', F1, F2, rfl, h1, h2, h3, h4⟩ := h
    exact ⟨c, cs', F1, F2, rfl, h1, h2, h3, fun b hb => hs b (h4 b hb)⟩
theorem elsO_ext (hs : Ext H H') (h : elsO d H X F xs cs) : elsO d H' X F xs cs := by
  induction xs generalizing cs F with
  | nil => exact h
  | cons x xs ih =>
    obtain ⟨c, cs', F1, F2, rfl, h1, h2, h3, h4⟩ := h
    exact ⟨c, cs', F1, F2, rfl, d.O_ext hs h1, ih h2, h3, h4⟩
theorem elsO_move (hs : ∀ b, F b → X' b = X b) (h : elsO d H X F xs cs) : elsO d H X' F xs cs := by
  induction xs generalizing cs F with
  | nil => exact h
  | cons x xs ih =>
    obtain ⟨c, cs', F1, F2, rfl, h1, h2, h3, h4⟩ := h
    exact ⟨c, cs', F1, F2, rfl, d.O_move (fun b hb => hs b (h4 b (.inl hb))) h1, ih (fun b hb => hs b (h4 b (.inr hb))) h2, h3, h4⟩
theorem elsO_frz (hE : Ext H H') (hs : ∀ b o, F b → X b = some o → H' b = some o) (h : elsO d H X F xs cs) : elsR d H' xs cs := by
  induction xs generalizing cs F with
  | nil => exact h
  | cons x xs ih =>
    obtain ⟨c, cs', F1, F2, rfl, h1, h2, h3, h4⟩ := h
    exact ⟨c, cs', rfl, d.O_frz hE (fun b o hb => hs b o (h4 b (.inl hb))) h1, ih (fun b o hb => hs b o (h4 b (.inr hb))) h2⟩
theorem elsO_free (hf : Free d) (h : elsO d H X F xs cs) : elsO d H' X F xs cs := by
  induction xs generalizing cs F with
  | nil => exact h
  | cons x xs ih =>
    obtain ⟨c, cs', F1, F2, rfl, h1, h2, h3, h4⟩ := h
    exact ⟨c, cs', F1, F2, rfl, hf _ _ _ _ _ _ h1, ih h2, h3, h4⟩
theorem elsO_append {F1 F2 : Foot} (h : elsO d H X F1 xs cs) (h2 : elsO d H X F2 ys cs2) (hd : Dj F1 F2) (hF : ∀ b, F1 b ∨ F2 b → F b) : elsO d H X F (xs ++ ys) (cs ++ cs2) := by
  induction xs generalizing cs F1 F with
  | nil =>
    cases h
    exact elsO_mono (fun b hb => hF b (.inr hb)) (by simpa using h2)
  | cons x xs ih =>
    obtain ⟨c, cs', G1, G2, rfl, h1, h3, h4, h5⟩ := h
    refine ⟨c, cs' ++ cs2, G1, fun b => G2 b ∨ F2 b, by simp, h1, ih (F := fun b => G2 b ∨ F2 b) h3 (fun b hb => hd b (h5 b (.inr hb))) (fun b hb => hb), fun b hb hb2 => ?_, fun b hb => ?_⟩
    · rcases hb2 with hb2 | hb2
      · exact h4 b hb hb2
      · exact hd b (h5 b (.inl hb)) hb2
    · rcases hb with hb | hb | hb
      · exact hF b (.inl (h5 b (.inl hb)))
      · exact hF b (.inl (h5 b (.inr hb)))
      · exact hF b (.inr hb)
theorem elsO_nil (d : Ty α) (H X : Hp) (F : Foot) : elsO d H X F [] [] := rfl
theorem elsO_one1 {x : α} (h : d.O H X F x cs) : elsO d H X F [x] cs :=
  ⟨cs, [], F, no, by simp, h, rfl, fun _ _ h => h, fun b hb => hb.elim id False.elim⟩
theorem elsO_at (i : Nat) (h : elsO d H X F xs cs) {x : α} (hx : xs[i]? = some x) : ∃ c F1 F2, cs = cs.take (i * d.sz) ++ c ++ cs.drop (i * d.sz + d.sz) ∧ d.O H X F1 x c ∧ Dj F1 F2 ∧ (∀ b, F1 b ∨ F2 b → F b) ∧
    ∀ H' X' F' y c', Ext H H' → (∀ b, F2 b → X' b = X b) → d.O H' X' F' y c' → Dj F' F2 → elsO d H' X' (or2 F' F2) (xs.set i y) (cs.take (i * d.sz) ++ c' ++ cs.drop (i * d.sz + d.sz)) := by
  induction xs generalizing cs F i with
  | nil => simp at hx
  | cons z xs ih =>
    obtain ⟨c, cs', G1, G2, rfl, h1, h2, h3, h4⟩ := h
    have hl := d.O_len h1
    cases i with
    | zero =>
      have : z = x := by simpa using hx
      subst this
      have e0 : (c ++ cs').drop (0 * d.sz + d.sz) = cs' := by rw [Nat.zero_mul, Nat.zero_add, ← hl, List.drop_left]
      refine ⟨c, G1, G2, ?_, h1, h3, h4, fun H' X' F' y c' hE hX ho hdj => ?_⟩
      · rw [e0]; simp
      · rw [e0]
        simp only [Nat.zero_mul, List.take_zero, List.nil_append, List.set_cons_zero]
        exact ⟨c', cs', F', G2, rfl, ho, elsO_move (fun b hb => hX b hb) (elsO_ext hE h2), hdj, fun b hb => hb⟩
    | succ i =>
      obtain ⟨c2, K1, K2, e1, a1, a2, a3, a4⟩ := ih i h2 (by simpa using hx)
      have e2 : (i + 1) * d.sz = c.length + i * d.sz := by rw [hl, Nat.add_mul]; omega
      refine ⟨c2, K1, or2 G1 K2, ?_, a1, fun b hb hb2 => ?_, fun b hb => ?_, fun H' X' F' y c' hE hX ho hdj => ?_⟩
      · rw [e2, List.take_length_add_append, Nat.add_assoc, List.drop_length_add_append, List.append_assoc, List.append_assoc, ← List.append_assoc (cs'.take _), ← e1]
      · rcases hb2 with hb2 | hb2
        · exact h3 b hb2 (a3 b (.inl hb))
        · exact a2 b hb hb2
      · rcases hb with hb | hb | hb
        · exact h4 b (.inr (a3 b (.inl hb)))
        · exact h4 b (.inl hb)
        · exact h4 b (.inr (a3 b (.inr hb)))
      · have a5 := a4 H' X' F' y c' hE (fun b hb => hX b (.inr hb)) ho (fun b hb hb2 => hdj b hb (.inr hb2))
        rw [e2, List.take_length_add_append, Nat.add_assoc, List.drop_length_add_append, List.set_cons_succ, List.append_assoc, List.append_assoc, ← List.append_assoc (cs'.take _)]
        refine ⟨c, _, G1, or2 F' K2, rfl, d.O_move (fun b hb => hX b (.inl hb)) (d.O_ext hE h1), a5, fun b hb hb2 => ?_, fun b hb => ?_⟩
        · rcases hb2 with hb2 | hb2
          · exact hdj b hb2 (.inl hb)
          · exact h3 b hb (a3 b (.inr hb2))
        · rcases hb with hb | hb | hb
          · exact .inr (.inl hb)
          · exact .inl hb
          · exact .inr (.inr hb)
end

def scal (enc : α → Value) (h1 : ∀ x, (enc x).oneCell' = true) : Ty α where
  sz := 1
  R := fun _ x cs => cs = [enc x]
  O := fun _ _ _ x cs => cs = [enc x]
  R_len := fun h => by rw [h]; rfl
  R_one := fun h u hu => by
    rw [h] at hu
    rw [List.mem_singleton.1 hu]
    exact h1 _
  R_ext := fun _ h => h
  O_len := fun h => by rw [h]; rfl
  O_one := fun h u hu => by
    rw [h] at hu
    rw [List.mem_singleton.1 hu]
    exact h1 _
  O_mono := fun _ h => h
  O_ext := fun _ h => h
  O_move := fun _ h => h
  O_frz := fun _ _ h => h
def tInt : Ty Int := scal (.int .i64) (fun _ => rfl)
def tByte : Ty UInt8 := scal (fun b => .int .u8 (b.toNat : Int)) (fun _ => rfl)
def tStr : Ty (List UInt8) := scal str (fun _ => rfl)
theorem free_scal (enc : α → Value) (h1) : Free (scal enc h1) := fun _ _ _ _ _ _ h => h

def thaw (fr : Nat × Nat) (n : Nat) : Prop := ∀ j, j < n → ¬ (fr.1 ≤ j ∧ j < fr.2)
theorem thaw0 (n : Nat) : thaw (0, 0) n := fun j _ h => by simp at h
def Rd (d : Ty α) (H : Hp) (A : Option Addr) (xs : List α) : Prop :=
  xs.length ≤ 9223372036854775807 ∧ (xs = [] ∨ ∃ b off inner, A = some ⟨b, off, none⟩ ∧ (∀ j u, inner[j]? = some u → H.cell b (off + j) = some u) ∧ elsR d H xs inner)
def Row (d : Ty α) (e : TypeId) (H X : Hp) (F : Foot) (A : Option Addr) (cap : Nat) (xs : List α) : Prop :=
  (A = none ∧ cap = 0 ∧ xs = []) ∨
  ∃ g cur fr, A = some ⟨g, 0, none⟩ ∧ F g ∧ X g = some (.cells cur e fr) ∧ thaw fr cur.size ∧ xs.length ≤ cap ∧ cap ≤ 9223372036854775807 ∧ cur.size = cap * d.sz ∧
    elsO d H X (fun b => F b ∧ b ≠ g) xs (cur.toList.take (xs.length * d.sz))
section
variable {d : Ty α} {e : TypeId} {H H' X X' : Hp} {F F' : Foot} {xs ys : List α} {A : Option Addr} {cap : Nat}
theorem Rd.nil (d : Ty α) (H : Hp) (A : Option Addr) : Rd d H A [] := ⟨by simp, .inl rfl⟩
theorem Rd.ext (hs : Ext H H') (h : Rd d H A xs) : Rd d H' A xs := by
  obtain ⟨h1, h2⟩ := h
  refine ⟨h1, h2.imp id ?_⟩
  rintro ⟨b, off, inner, rfl, hc, he⟩
  exact ⟨b, off, inner, rfl, fun j u hj => hs.cell (hc j u hj), elsR_ext hs he⟩
theorem Rd.get (h : Rd d H A xs) (i : Nat) (x : α) (hx : xs[i]? = some x) : ∃ b off c, A = some ⟨b, off, none⟩ ∧ d.R H x c ∧ ∀ j u, c[j]? = some u → H.cell b (off + i * d.sz + j) = some u := by
  obtain ⟨h1, h2⟩ := h
  rcases h2 with rfl | ⟨b, off, inner, rfl, hc, he⟩
  · simp at hx
  · obtain ⟨c, hr, hj⟩ := elsR_get he i x hx
    exact ⟨b, off, c, rfl, hr, fun j u hu => by rw [Nat.add_assoc]; exact hc _ u (hj j u hu)⟩
theorem Row.nil (d : Ty α) (e : TypeId) (H X : Hp) (F : Foot) : Row d e H X F none 0 [] := .inl ⟨rfl, rfl, rfl⟩
theorem Row.mono (hs : ∀ b, F b → F' b) (h : Row d e H X F A cap xs) : Row d e H X F' A cap xs := by
  rcases h with h | ⟨g, cur, fr, h1, h2, h3, h4, h5, h6, h7, h8⟩
  · exact .inl h
  · exact .inr ⟨g, cur, fr, h1, hs g h2, h3, h4, h5, h6, h7, elsO_mono (fun b hb => ⟨hs b hb.1, hb.2⟩) h8⟩
theorem Row.ext (hs : Ext H H') (h : Row d e H X F A cap xs) : Row d e H' X F A cap xs := by
  rcases h with h | ⟨g, cur, fr, h1, h2, h3, h4, h5, h6, h7, h8⟩
  · exact .inl h
  · exact .inr ⟨g, cur, fr, h1, h2, h3, h4, h5, h6, h7, elsO_ext hs h8⟩
theorem Row.free (hf : Free d) (h : Row d e H X F A cap xs) : Row d e H' X F A cap xs := by
  rcases h with h | ⟨g, cur, fr, h1, h2, h3, h4, h5, h6, h7, h8⟩
  · exact .inl h
  · exact .inr ⟨g, cur, fr, h1, h2, h3, h4, h5, h6, h7, elsO_free hf h8⟩
theorem Row.move (hs : ∀ b, F b → X' b = X b) (h : Row d e H X F A cap xs) : Row d e H X' F A cap xs := by
  rcases h with h | ⟨g, cur, fr, h1, h2, h3, h4, h5, h6, h7, h8⟩
  · exact .inl h
  · exact .inr ⟨g, cur, fr, h1, h2, (hs g h2).trans h3, h4, h5, h6, h7, elsO_move (fun b hb => hs b hb.1) h8⟩
theorem Row.frz (hE : Ext H H') (hs : ∀ b o, F b → X b = some o → H' b = some o) (h : Row d e H X F A cap xs) : Rd d H' A xs := by
  rcases h with ⟨rfl, rfl, rfl⟩ | ⟨g, cur, fr, rfl, h2, h3, h4, h5, h6, h7, h8⟩
  · exact Rd.nil _ _ _
  · refine ⟨by omega, .inr ⟨g, 0, _, rfl, fun j u hj => ?_, elsO_frz hE (fun b o hb => hs b o hb.1) h8⟩⟩
    rw [Nat.zero_add, cell_of (hs g _ h2 h3)]
    rw [List.getElem?_take] at hj
    split at hj
    · simpa using hj
    · cases hj
theorem Row.le (h : Row d e H X F A cap xs) : xs.length ≤ cap := by
  rcases h with ⟨rfl, rfl, rfl⟩ | ⟨g, cur, fr, _, _, _, _, h5, _⟩
  · simp
  · exact h5
end

structure Own (Fs : List Foot) (H : Hp) (w : World) : Prop where
  own : ∀ F, F ∈ Fs → ∀ b, F b → b < w.heap.size ∧ H b = none
  sep : Fs.Pairwise Dj
  inv : Ext H (hp w)
structure St (P0 : Foot) (H0 : Hp) (w0 : World) (Fs : List Foot) (H : Hp) (w : World) : Prop where
  os : w.os = w0.os
  tape : w.tape = w0.tape
  output : w.output = w0.output
  size : w0.heap.size ≤ w.heap.size
  old : ∀ b, b < w0.heap.size → ¬ P0 b → w.heap[b]? = w0.heap[b]?
  inv : Ext H (hp w)
  ext : Ext H0 H
  hold : ∀ b, b < w0.heap.size → ¬ P0 b → H b = H0 b
  own : ∀ F, F ∈ Fs → ∀ b, F b → b < w.heap.size ∧ H b = none ∧ (b < w0.heap.size → P0 b)
  sep : Fs.Pairwise Dj
def Kp (Fs : List Foot) (w w' : World) : Prop := ∀ F, F ∈ Fs → ∀ b, F b → hp w' b = hp w b
theorem Dj.symm {F G : Foot} (h : Dj F G) : Dj G F := fun b hb hb2 => h b hb2 hb
theorem heap_lt {w : World} {b : Nat} {o : Obj} (h : w.heap[b]? = some o) : b < w.heap.size := (Array.getElem?_eq_some_iff.1 h).1
section
variable {P0 : Foot} {H0 H H' : Hp} {w0 w w' : World} {Fs Fs' Fa Fr : List Foot} {F G F1 F2 : Foot}
theorem Own.st (h : Own Fs H w) : St (anyOf Fs) H w Fs H w :=
  ⟨rfl, rfl, rfl, Nat.le_refl _, fun _ _ _ => rfl, h.inv, Ext.refl _, fun _ _ _ => rfl, fun F hF b hb => ⟨(h.own F hF b hb).1, (h.own F hF b hb).2, fun _ => ⟨F, hF, hb⟩⟩, h.sep⟩
theorem Own.nil (h : Ext H (hp w)) : Own [] H w := ⟨fun F hF => (by cases hF), .nil, h⟩
theorem St.own' (S : St P0 H0 w0 (Fa ++ Fr) H w) : Own Fa H w :=
  ⟨fun F hF b hb => ⟨(S.own F (List.mem_append_left _ hF) b hb).1, (S.own F (List.mem_append_left _ hF) b hb).2.1⟩, (List.pairwise_append.1 S.sep).1, S.inv⟩
theorem St.own0 (S : St P0 H0 w0 Fs H w) : Own [] H w := ⟨fun F hF => (by cases hF), .nil, S.inv⟩
theorem St.perm (S : St P0 H0 w0 Fs H w) (hp : Fs.Perm Fs') : St P0 H0 w0 Fs' H w :=
  { S with own := fun F hF => S.own F (hp.mem_iff.2 hF), sep := (hp.pairwise_iff Dj.symm).1 S.sep }
theorem pull_perm {Fs : List Foot} {F : Foot} (i : Nat) (h : Fs[i]? = some F) : Fs.Perm (F :: Fs.eraseIdx i) := by
  induction Fs generalizing i with
  | nil => simp at h
  | cons G Fs ih =>
    cases i with
    | zero => have : G = F := by simpa using h
              subst this; exact .refl _
    | succ i => exact (List.Perm.cons G (ih i (by simpa using h))).trans (.swap _ _ _)
theorem St.pull (S : St P0 H0 w0 Fs H w) (i : Nat) (h : Fs[i]? = some F) (h2 : Fs.eraseIdx i = Fr) : St P0 H0 w0 (F :: Fr) H w := by
  subst h2
  exact S.perm (pull_perm i h)
theorem St.drop (S : St P0 H0 w0 (F :: Fs) H w) : St P0 H0 w0 Fs H w :=
  { S with own := fun G hG => S.own G (.tail _ hG), sep := (List.pairwise_cons.1 S.sep).2 }
theorem St.first (S : St P0 H0 w0 (Fa ++ Fr) H w) : St P0 H0 w0 Fa H w :=
  { S with own := fun G hG => S.own G (List.mem_append_left _ hG), sep := (List.pairwise_append.1 S.sep).1 }
theorem St.unit (S : St P0 H0 w0 Fs H w) : St P0 H0 w0 (no :: Fs) H w :=
  { S with
    own := fun G hG b hb => by
      rcases List.mem_cons.1 hG with rfl | hG
      · exact hb.elim
      · exact S.own G hG b hb
    sep := List.pairwise_cons.2 ⟨fun _ _ _ h => h.elim, S.sep⟩ }
theorem St.join (S : St P0 H0 w0 (F1 :: F2 :: Fs) H w) : St P0 H0 w0 (or2 F1 F2 :: Fs) H w :=
  { S with
    own := fun G hG b hb => by
      rcases List.mem_cons.1 hG with rfl | hG
      · rcases hb with hb | hb
        · exact S.own F1 (.head _) b hb
        · exact S.own F2 (.tail _ (.head _)) b hb
      · exact S.own G (.tail _ (.tail _ hG)) b hb
    sep := by
      have h1 := List.pairwise_cons.1 S.sep
      have h2 := List.pairwise_cons.1 h1.2
      exact List.pairwise_cons.2 ⟨fun G hG b hb hb2 => hb.elim (fun h => h1.1 G (.tail _ hG) b h hb2) (fun h => h2.1 G hG b h hb2), h2.2⟩ }
theorem St.dj (S : St P0 H0 w0 (F1 :: F2 :: Fs) H w) : Dj F1 F2 := (List.pairwise_cons.1 S.sep).1 F2 (.head _)
theorem St.sub (S : St P0 H0 w0 (F :: Fs) H w) (h : ∀ b, G b → F b) : St P0 H0 w0 (G :: Fs) H w :=
  { S with
    own := fun K hK b hb => by
      rcases List.mem_cons.1 hK with rfl | hK
      · exact S.own F (.head _) b (h b hb)
      · exact S.own K (.tail _ hK) b hb
    sep := by
      have h1 := List.pairwise_cons.1 S.sep
      exact List.pairwise_cons.2 ⟨fun K hK b hb => h1.1 K hK b (h b hb), h1.2⟩ }
theorem St.part (S : St P0 H0 w0 (F :: Fs) H w) (hd : Dj F1 F2) (h : ∀ b, F1 b ∨ F2 b → F b) : St P0 H0 w0 (F1 :: F2 :: Fs) H w :=
  { S with
    own := fun K hK b hb => by
      rcases List.mem_cons.1 hK with rfl | hK
      · exact S.own F (.head _) b (h b (.inl hb))
      rcases List.mem_cons.1 hK with rfl | hK
      · exact S.own F (.head _) b (h b (.inr hb))
      · exact S.own K (.tail _ hK) b hb
    sep := by
      have h1 := List.pairwise_cons.1 S.sep
      refine List.pairwise_cons.2 ⟨fun K hK => ?_, List.pairwise_cons.2 ⟨fun K hK b hb => h1.1 K hK b (h b (.inr hb)), h1.2⟩⟩
      rcases List.mem_cons.1 hK with rfl | hK
      · exact hd
      · exact fun b hb => h1.1 K hK b (h b (.inl hb)) }
structure Chg (F : Foot) (w w' : World) : Prop where
  os : w'.os = w.os
  tape : w'.tape = w.tape
  output : w'.output = w.output
  size : w.heap.size ≤ w'.heap.size
  block : ∀ b, b < w.heap.size → ¬ F b → w'.heap[b]? = w.heap[b]?
theorem Chg.refl (F : Foot) (w : World) : Chg F w w := ⟨rfl, rfl, rfl, Nat.le_refl _, fun _ _ _ => rfl⟩
theorem Chg.trans {w2 : World} (h : Chg F w w') (k : Chg F w' w2) : Chg F w w2 :=
  ⟨k.os.trans h.os, k.tape.trans h.tape, k.output.trans h.output, Nat.le_trans h.size k.size, fun b hb hF => (k.block b (Nat.lt_of_lt_of_le hb h.size) hF).trans (h.block b hb hF)⟩
theorem Chg.mono (h : Chg F w w') (hs : ∀ b, F b → G b) : Chg G w w' := ⟨h.os, h.tape, h.output, h.size, fun b hb hn => h.block b hb fun hF => hn (hs b hF)⟩
theorem St.step (S : St P0 H0 w0 (F :: Fs) H w) (C : Chg F w w') (hF : ∀ b, G b → b < w'.heap.size ∧ (F b ∨ w.heap.size ≤ b)) : St P0 H0 w0 (G :: Fs) H w' ∧ Kp Fs w w' := by
  have h1 := List.pairwise_cons.1 S.sep
  have kp : Kp Fs w w' := fun K hK b hb => C.block b (S.own K (.tail _ hK) b hb).1 fun hFb => h1.1 K hK b hFb hb
  have hsz := S.size
  have hcs := C.size
  have frz : ∀ b o, H b = some o → ¬ F b := fun b o hb hFb => by
    have := (S.own F (.head _) b hFb).2.1
    rw [this] at hb; cases hb
  have lt : ∀ b o, H b = some o → b < w.heap.size := fun b o hb => heap_lt (S.inv b o hb)
  refine ⟨⟨C.os.trans S.os, C.tape.trans S.tape, C.output.trans S.output, by omega, fun b hb hn => (C.block b (by omega) fun hFb => hn ((S.own F (.head _) b hFb).2.2 hb)).trans (S.old b hb hn),
    fun b o hb => (C.block b (lt b o hb) (frz b o hb)).trans (S.inv b o hb), S.ext, S.hold, fun K hK b hb => ?_, ?_⟩, kp⟩
  · have nw : ∀ b, w.heap.size ≤ b → H b = .none := fun b hb => by
      cases h : H b with
      | none => rfl
      | some o => have := lt b o h; omega
    rcases List.mem_cons.1 hK with rfl | hK
    · obtain ⟨a1, a2⟩ := hF b hb
      rcases a2 with a2 | a2
      · obtain ⟨c1, c2, c3⟩ := S.own F (.head _) b a2
        exact ⟨a1, c2, c3⟩
      · exact ⟨a1, nw b a2, fun h => by omega⟩
    · obtain ⟨c1, c2, c3⟩ := S.own K (.tail _ hK) b hb
      exact ⟨by omega, c2, c3⟩
  · refine List.pairwise_cons.2 ⟨fun K hK b hb hb2 => ?_, h1.2⟩
    rcases (hF b hb).2 with a2 | a2
    · exact h1.1 K hK b a2 hb2
    · have := (S.own K (.tail _ hK) b hb2).1; omega
theorem St.still (S : St P0 H0 w0 Fs H w) (C : Chg no w w') : St P0 H0 w0 Fs H w' ∧ Kp Fs w w' := by
  obtain ⟨a, b⟩ := S.unit.step (G := no) C (fun _ h => h.elim)
  exact ⟨a.drop, b⟩
theorem St.call (S : St P0 H0 w0 (Fa ++ Fr) H w) (T : St (anyOf Fa) H w Fs' H' w') : St P0 H0 w0 (Fs' ++ Fr) H' w' ∧ Kp Fr w w' := by
  obtain ⟨p1, p2, p3⟩ := List.pairwise_append.1 S.sep
  have hsz := S.size
  have htz := T.size
  have nA : ∀ K, K ∈ Fr → ∀ b, K b → ¬ anyOf Fa b := fun K hK b hb => fun ⟨J, hJ, hJb⟩ => p3 J hJ K hK b hJb hb
  have kp : Kp Fr w w' := fun K hK b hb => T.old b (S.own K (List.mem_append_right _ hK) b hb).1 (nA K hK b hb)
  have aP : ∀ b, b < w0.heap.size → anyOf Fa b → P0 b := fun b hb ⟨J, hJ, hJb⟩ => (S.own J (List.mem_append_left _ hJ) b hJb).2.2 hb
  refine ⟨⟨T.os.trans S.os, T.tape.trans S.tape, T.output.trans S.output, by omega, fun b hb hn => (T.old b (by omega) fun h => hn (aP b hb h)).trans (S.old b hb hn), T.inv, S.ext.trans T.ext,
    fun b hb hn => (T.hold b (by omega) fun h => hn (aP b hb h)).trans (S.hold b hb hn), fun K hK b hb => ?_, ?_⟩, kp⟩
  · rcases List.mem_append.1 hK with hK | hK
    · obtain ⟨c1, c2, c3⟩ := T.own K hK b hb
      exact ⟨c1, c2, fun h => aP b h (c3 (by omega))⟩
    · obtain ⟨c1, c2, c3⟩ := S.own K (List.mem_append_right _ hK) b hb
      exact ⟨by omega, (T.hold b c1 (nA K hK b hb)).trans c2, c3⟩
  · refine List.pairwise_append.2 ⟨T.sep, p2, fun J hJ K hK b hb hb2 => ?_⟩
    have c1 := (S.own K (List.mem_append_right _ hK) b hb2).1
    exact nA K hK b hb2 ((T.own J hJ b hb).2.2 c1)
open Classical in
theorem St.freeze (S : St P0 H0 w0 (F :: Fs) H w) : ∃ H', St P0 H0 w0 Fs H' w ∧ Ext H H' ∧ ∀ b o, F b → hp w b = some o → H' b = some o := by
  have h1 := List.pairwise_cons.1 S.sep
  have hn : ∀ b o, H b = some o → ¬ F b := fun b o hb hFb => by
    have := (S.own F (.head _) b hFb).2.1
    rw [this] at hb; cases hb
  have hE : Ext H (fun b => if F b then hp w b else H b) := fun b o hb => by
    show (if F b then hp w b else H b) = some o
    rw [if_neg (hn b o hb)]; exact hb
  refine ⟨fun b => if F b then hp w b else H b, ⟨S.os, S.tape, S.output, S.size, S.old, fun b o hb => ?_, S.ext.trans hE, fun b hb hP => ?_, fun K hK b hb => ?_, h1.2⟩, hE, fun b o hb ho => ?_⟩
  · by_cases hF : F b
    · simpa [hF] using hb
    · exact S.inv b o (by simpa [hF] using hb)
  · have hF : ¬ F b := fun hF => hP ((S.own F (.head _) b hF).2.2 hb)
    show (if F b then hp w b else H b) = H0 b
    rw [if_neg hF]; exact S.hold b hb hP
  · obtain ⟨c1, c2, c3⟩ := S.own K (.tail _ hK) b hb
    have hF : ¬ F b := fun hF => h1.1 K hK b hF hb
    refine ⟨c1, ?_, c3⟩
    show (if F b then hp w b else H b) = .none
    rw [if_neg hF]; exact c2
  · show (if F b then hp w b else H b) = some o
    rw [if_pos hb]; exact ho
open Classical in
theorem St.thaw {HF : Hp} (S : St P0 H0 w0 (F :: Fs) H w) (hF : ∀ b o, F b → hp w b = some o → HF b = some o) (T : St P0 H0 w0 Fs' H' w') (hE : Ext HF H') (hH : Ext H HF) (hsz : w.heap.size ≤ w'.heap.size) :
    ∃ H2, St P0 H0 w0 (F :: Fs') H2 w' ∧ Ext H H2 ∧ ∀ b, F b → hp w' b = hp w b := by
  have fl : ∀ b, F b → ∃ o, hp w b = some o := fun b hb => by
    have := (S.own F (.head _) b hb).1
    exact ⟨_, Array.getElem?_eq_getElem this⟩
  have fH : ∀ b o, F b → hp w b = some o → H' b = some o := fun b o hb ho => hE b o (hF b o hb ho)
  have hn : ∀ b o, H b = some o → ¬ F b := fun b o hb hFb => by
    have := (S.own F (.head _) b hFb).2.1
    rw [this] at hb; cases hb
  have e1 : ∀ b o, H b = some o → (if F b then Option.none else H' b) = some o := fun b o hb => by
    rw [if_neg (hn b o hb)]; exact hE b o (hH b o hb)
  refine ⟨fun b => if F b then .none else H' b, ⟨T.os, T.tape, T.output, T.size, T.old, fun b o hb => ?_, fun b o hb => e1 b o (S.ext b o hb), fun b hb hP => ?_, fun K hK b hb => ?_, ?_⟩, fun b o hb => e1 b o hb, fun b hb => ?_⟩
  · by_cases hFb : F b
    · simp [hFb] at hb
    · exact T.inv b o (by simpa [hFb] using hb)
  · have hFb : ¬ F b := fun hFb => hP ((S.own F (.head _) b hFb).2.2 hb)
    show (if F b then Option.none else H' b) = H0 b
    rw [if_neg hFb]; exact T.hold b hb hP
  · rcases List.mem_cons.1 hK with rfl | hK
    · obtain ⟨c1, c2, c3⟩ := S.own K (.head _) b hb
      refine ⟨by omega, ?_, c3⟩
      show (if K b then Option.none else H' b) = .none
      rw [if_pos hb]
    · obtain ⟨c1, c2, c3⟩ := T.own K hK b hb
      refine ⟨c1, ?_, c3⟩
      show (if F b then Option.none else H' b) = .none
      split
      · rfl
      · exact c2
  · refine List.pairwise_cons.2 ⟨fun K hK b hb hb2 => ?_, T.sep⟩
    obtain ⟨o, ho⟩ := fl b hb
    have h2 := fH b o hb ho
    have h3 := (T.own K hK b hb2).2.1
    rw [h2] at h3; cases h3
  · obtain ⟨o, ho⟩ := fl b hb
    exact (T.inv b o (fH b o hb ho)).trans ho.symm
theorem Kp.at (K : Kp Fs w w') (i : Nat) (h : Fs[i]? = some F) : ∀ b, F b → hp w' b = hp w b := K F (List.mem_of_getElem? h)
theorem Kp.blk {g : Nat} {o : Obj} (K : Kp Fs w w') (i : Nat) (h : Fs[i]? = some (is g)) (hb : w.heap[g]? = some o) : w'.heap[g]? = some o := (K (is g) (List.mem_of_getElem? h) g rfl).trans hb
end
end Go.Sy
