import Derived.Test.YtminnekeekhjcaaY17
namespace Go.Sy
open Go.Sx
set_option linter.unusedVariables false
set_option linter.unusedSimpArgs false
set_option linter.unusedSectionVars false
/-! ### a row whose first elements were taken out -/
section
variable {α : Type} {d : Ty α} {e : TypeId} {H H' X X' : Hp} {F F' : Foot} {A : Option Addr} {cap s : Nat} {xs : List α}
def RowS (d : Ty α) (e : TypeId) (H X : Hp) (F : Foot) (A : Option Addr) (cap : Nat) (xs : List α) (s : Nat) : Prop :=
  (A = none ∧ cap = 0 ∧ xs = []) ∨
  ∃ g cur fr, A = some ⟨g, 0, none⟩ ∧ F g ∧ X g = some (.cells cur e fr) ∧ thaw fr cur.size ∧ xs.length ≤ cap ∧ cap ≤ 9223372036854775807 ∧ cur.size = cap * d.sz ∧
    elsO d H X (fun b => F b ∧ b ≠ g) (xs.drop s) ((cur.toList.take (xs.length * d.sz)).drop (s * d.sz))
theorem elsO_drop {cs : List Value} (h : elsO d H X F xs cs) (n : Nat) : elsO d H X F (xs.drop n) (cs.drop (n * d.sz)) := by
  by_cases hn : n ≤ xs.length
  · obtain ⟨F1, F2, _, h2, _, h4⟩ := elsO_split n h hn
    exact elsO_mono (fun b hb => h4 b (.inr hb)) h2
  · have hl := elsO_len h
    have : xs.length * d.sz ≤ n * d.sz := Nat.mul_le_mul_right _ (by omega)
    rw [List.drop_of_length_le (by omega), List.drop_of_length_le (by omega)]
    exact elsO_nil _ _ _ _
theorem RowS.of (h : Row d e H X F A cap xs) : RowS d e H X F A cap xs s := by
  rcases h with h | ⟨g, cur, fr, h1, h2, h3, h4, h5, h6, h7, h8⟩
  · exact .inl h
  · exact .inr ⟨g, cur, fr, h1, h2, h3, h4, h5, h6, h7, elsO_drop h8 s⟩
theorem RowS.up {s' : Nat} (h : RowS d e H X F A cap xs s) (hs : s ≤ s') : RowS d e H X F A cap xs s' := by
  rcases h with h | ⟨g, cur, fr, h1, h2, h3, h4, h5, h6, h7, h8⟩
  · exact .inl h
  · refine .inr ⟨g, cur, fr, h1, h2, h3, h4, h5, h6, h7, ?_⟩
    have := elsO_drop h8 (s' - s)
    rw [List.drop_drop, List.drop_drop] at this
    rw [show s + (s' - s) = s' by omega, show s * d.sz + (s' - s) * d.sz = s' * d.sz by rw [← Nat.add_mul]; congr 1; omega] at this
    exact this
theorem RowS.ext (hs : Ext H H') (h : RowS d e H X F A cap xs s) : RowS d e H' X F A cap xs s := by
  rcases h with h | ⟨g, cur, fr, h1, h2, h3, h4, h5, h6, h7, h8⟩
  · exact .inl h
  · exact .inr ⟨g, cur, fr, h1, h2, h3, h4, h5, h6, h7, elsO_ext hs h8⟩
theorem RowS.move (hs : ∀ b, F b → X' b = X b) (h : RowS d e H X F A cap xs s) : RowS d e H X' F A cap xs s := by
  rcases h with h | ⟨g, cur, fr, h1, h2, h3, h4, h5, h6, h7, h8⟩
  · exact .inl h
  · exact .inr ⟨g, cur, fr, h1, h2, (hs g h2).trans h3, h4, h5, h6, h7, elsO_move (fun b hb => hs b hb.1) h8⟩
theorem RowS.le (h : RowS d e H X F A cap xs s) : xs.length ≤ cap := by
  rcases h with ⟨rfl, rfl, rfl⟩ | ⟨g, cur, fr, _, _, _, _, h5, _⟩
  · simp
  · exact h5
theorem RowS.addr {i : Nat} (h : RowS d e H X F A cap xs s) (hi : i < xs.length) : ∃ b, A = some ⟨b, 0, none⟩ := by
  rcases h with ⟨_, _, rfl⟩ | ⟨g, cur, fr, h1, _⟩
  · simp at hi
  · exact ⟨g, h1⟩
theorem RowS.next {i : Int} {n : Nat} (h : RowS d e H X F A cap xs (i.toNat + 1)) (h0 : 0 ≤ i) (h1 : i < (n : Int)) (hn : xs.length = n) : RowS d e H X F A cap xs (IntKind.i64.wrap (i + 1)).toNat := by
  have hb : (n : Int) ≤ 9223372036854775807 := by
    rcases h with ⟨_, _, rfl⟩ | ⟨g, cur, fr, _, _, _, _, h5, h6, _⟩
    · simp at hn; omega
    · omega
  refine h.up ?_
  have : IntKind.i64.wrap (i + 1) = i + 1 := by
    have e : IntKind.i64.wrap (i + 1) = if (i + 1) % 18446744073709551616 ≥ 9223372036854775808 then (i + 1) % 18446744073709551616 - 18446744073709551616 else (i + 1) % 18446744073709551616 := by
      simp [IntKind.wrap, IntKind.signed, IntKind.bits]
    rw [e]
    split <;> omega
  rw [this]; omega
/-- the i-th is taken out -/
theorem RowS.take {b i : Nat} {x : α} (h : RowS d e H X F A cap xs s) (hA : A = some ⟨b, 0, none⟩) (hi : s ≤ i) (hx : xs[i]? = some x) :
    ∃ c F1 F2, d.O H X F1 x c ∧ RowS d e H X F2 A cap xs (i + 1) ∧ Dj F1 F2 ∧ (∀ q, F1 q ∨ F2 q → F q) ∧ ∀ j u, c[j]? = some u → X.cell b (0 + i * d.sz + j) = some u := by
  have h' := h.up hi
  have hl : i < xs.length := (List.getElem?_eq_some_iff.1 hx).1
  rcases h' with ⟨_, _, rfl⟩ | ⟨g, cur, fr, h1, h2, h3, h4, h5, h6, h7, h8⟩
  · simp at hl
  have hg : g = b := by
    rw [h1] at hA
    injection hA with hA
    injection hA
  subst hg
  have hxi : xs[i] = x := by
    rw [List.getElem?_eq_getElem hl] at hx
    injection hx
  rw [List.drop_eq_getElem_cons hl, hxi] at h8
  obtain ⟨c, cs', F1, F2, ec, o1, o2, dj, sub⟩ := h8
  have lc := d.O_len o1
  have hm : (i + 1) * d.sz ≤ xs.length * d.sz := Nat.mul_le_mul_right _ hl
  refine ⟨c, F1, fun q => q = g ∨ F2 q, o1, .inr ⟨g, cur, fr, h1, .inl rfl, h3, h4, h5, h6, h7, ?_⟩, fun q hq hq2 => ?_, fun q hq => ?_, fun j u hj => ?_⟩
  · have e2 : (cur.toList.take (xs.length * d.sz)).drop ((i + 1) * d.sz) = cs' := by
      rw [show (i + 1) * d.sz = i * d.sz + c.length by rw [lc, Nat.add_mul]; omega, ← List.drop_drop, ec, List.drop_left]
    rw [e2]
    exact elsO_mono (fun q hq => ⟨.inr hq, (sub q (.inr hq)).2⟩) o2
  · rcases hq2 with hq2 | hq2
    · exact (sub q (.inl hq)).2 hq2
    · exact dj q hq hq2
  · rcases hq with hq | hq | hq
    · exact (sub q (.inl hq)).1
    · rw [hq]; exact h2
    · exact (sub q (.inr hq)).1
  · have hjl := (List.getElem?_eq_some_iff.1 hj).1
    have e3 : ((cur.toList.take (xs.length * d.sz)).drop (i * d.sz))[j]? = some u := by
      rw [ec, List.getElem?_append_left hjl]; exact hj
    rw [List.getElem?_drop] at e3
    have := row_cell h3 (n := xs.length * d.sz) e3
    rwa [← Nat.add_assoc] at this
end
end Go.Sy
