import Derived.Test.YtdkbfcmekppnmaaGreatDoorY3
namespace Go.Sy
open Go.Sx
set_option linter.unusedVariables false
set_option linter.unusedSimpArgs false
set_option linter.unusedSectionVars false
variable {α β : Type}
def ro (d : Ty α) : Ty α where
  sz := d.sz
  R := d.R
  O := fun H _ _ x cs => d.R H x cs
  R_len := d.R_len
  R_one := d.R_one
  R_ext := d.R_ext
  O_len := d.R_len
  O_one := d.R_one
  O_mono := fun _ h => h
  O_ext := d.R_ext
  O_move := fun _ h => h
  O_frz := fun hE _ h => d.R_ext hE h
def pair (a : Ty α) (b : Ty β) : Ty (α × β) where
  sz := a.sz + b.sz
  R := fun H x cs => ∃ c0 c1, cs = c0 ++ c1 ∧ a.R H x.1 c0 ∧ b.R H x.2 c1
  O := fun H X F x cs => ∃ c0 c1 F0 F1, cs = c0 ++ c1 ∧ a.O H X F0 x.1 c0 ∧ b.O H X F1 x.2 c1 ∧ Dj F0 F1 ∧ ∀ q, F0 q ∨ F1 q → F q
  R_len := by
    rintro H x cs ⟨c0, c1, rfl, h0, h1⟩
    rw [List.length_append, a.R_len h0, b.R_len h1]
  R_one := by
    rintro H x cs ⟨c0, c1, rfl, h0, h1⟩ u hu
    rcases List.mem_append.1 hu with hu | hu
    · exact a.R_one h0 u hu
    · exact b.R_one h1 u hu
  R_ext := by
    rintro H H' x cs hs ⟨c0, c1, rfl, h0, h1⟩
    exact ⟨c0, c1, rfl, a.R_ext hs h0, b.R_ext hs h1⟩
  O_len := by
    rintro H X F x cs ⟨c0, c1, F0, F1, rfl, h0, h1, _, _⟩
    rw [List.length_append, a.O_len h0, b.O_len h1]
  O_one := by
    rintro H X F x cs ⟨c0, c1, F0, F1, rfl, h0, h1, _, _⟩ u hu
    rcases List.mem_append.1 hu with hu | hu
    · exact a.O_one h0 u hu
    · exact b.O_one h1 u hu
  O_mono := by
    rintro H X F F' x cs hs ⟨c0, c1, F0, F1, rfl, h0, h1, h2, h3⟩
    exact ⟨c0, c1, F0, F1, rfl, h0, h1, h2, fun q hq => hs q (h3 q hq)⟩
  O_ext := by
    rintro H H' X F x cs hs ⟨c0, c1, F0, F1, rfl, h0, h1, h2, h3⟩
    exact ⟨c0, c1, F0, F1, rfl, a.O_ext hs h0, b.O_ext hs h1, h2, h3⟩
  O_move := by
    rintro H X X' F x cs hs ⟨c0, c1, F0, F1, rfl, h0, h1, h2, h3⟩
    exact ⟨c0, c1, F0, F1, rfl, a.O_move (fun q hq => hs q (h3 q (.inl hq))) h0, b.O_move (fun q hq => hs q (h3 q (.inr hq))) h1, h2, h3⟩
  O_frz := by
    rintro H X F x cs H' hE hs ⟨c0, c1, F0, F1, rfl, h0, h1, h2, h3⟩
    exact ⟨c0, c1, rfl, a.O_frz hE (fun q o hq => hs q o (h3 q (.inl hq))) h0, b.O_frz hE (fun q o hq => hs q o (h3 q (.inr hq))) h1⟩
def slice (e : TypeId) (d : Ty α) (hd : 0 < d.sz) : Ty (List α) where
  sz := 1
  R := fun H xs cs => ∃ A c, cs = [.slice A xs.length c] ∧ xs.length ≤ c ∧ Rd d H A xs
  O := fun H X F xs cs => ∃ A c, cs = [.slice A xs.length c] ∧ Row d e H X F A c xs
  R_len := by
    rintro H x cs ⟨A, c, rfl, _⟩
    rfl
  R_one := by
    rintro H x cs ⟨A, c, rfl, _⟩ u hu
    rw [List.mem_singleton.1 hu]
    rfl
  R_ext := by
    rintro H H' x cs hs ⟨A, c, rfl, hl, h⟩
    exact ⟨A, c, rfl, hl, h.ext hs⟩
  O_len := by
    rintro H X F x cs ⟨A, c, rfl, _⟩
    rfl
  O_one := by
    rintro H X F x cs ⟨A, c, rfl, _⟩ u hu
    rw [List.mem_singleton.1 hu]
    rfl
  O_mono := by
    rintro H X F F' x cs hs ⟨A, c, rfl, h⟩
    exact ⟨A, c, rfl, h.mono hs⟩
  O_ext := by
    rintro H H' X F x cs hs ⟨A, c, rfl, h⟩
    exact ⟨A, c, rfl, h.ext hs⟩
  O_move := by
    rintro H X X' F x cs hs ⟨A, c, rfl, h⟩
    exact ⟨A, c, rfl, h.move hs⟩
  O_frz := by
    rintro H X F x cs H' hE hs ⟨A, c, rfl, h⟩
    exact ⟨A, c, rfl, h.le, h.frz hE hs⟩
def iso (d : Ty α) (f : β → α) : Ty β where
  sz := d.sz
  R := fun H x cs => d.R H (f x) cs
  O := fun H X F x cs => d.O H X F (f x) cs
  R_len := d.R_len
  R_one := d.R_one
  R_ext := d.R_ext
  O_len := d.O_len
  O_one := d.O_one
  O_mono := d.O_mono
  O_ext := d.O_ext
  O_move := d.O_move
  O_frz := d.O_frz
theorem free_pair {a : Ty α} {b : Ty β} (ha : Free a) (hb : Free b) : Free (pair a b) := by
  rintro H H' X F x cs ⟨c0, c1, F0, F1, rfl, h0, h1, h2, h3⟩
  exact ⟨c0, c1, F0, F1, rfl, ha _ _ _ _ _ _ h0, hb _ _ _ _ _ _ h1, h2, h3⟩
theorem free_slice {e : TypeId} {d : Ty α} {hd : 0 < d.sz} (h : Free d) : Free (slice e d hd) := by
  rintro H H' X F x cs ⟨A, c, rfl, hr⟩
  exact ⟨A, c, rfl, hr.free h⟩
theorem free_iso {d : Ty α} {f : β → α} (h : Free d) : Free (iso d f) := fun H H' X F x cs hh => h _ _ _ _ _ _ hh
def RO (d : Ty α) : Prop := ∀ H X x cs, d.R H x cs → d.O H X no x cs
theorem ro_scal (enc : α → Value) (h1) : RO (scal enc h1) := fun _ _ _ _ h => h
theorem ro_ro (d : Ty α) : RO (ro d) := fun _ _ _ _ h => h
section
variable {a : Ty α} {b : Ty β} {H X : Hp} {F F0 F1 : Foot} {x : α × β} {c0 c1 : List Value}
theorem pairO0 (h0 : a.O H X no x.1 c0) (h1 : b.O H X F x.2 c1) : (pair a b).O H X F x (c0 ++ c1) :=
  ⟨c0, c1, no, F, rfl, h0, h1, fun _ h => h.elim, fun _ h => h.elim False.elim id⟩
theorem pairO1 (h0 : a.O H X F x.1 c0) (h1 : b.O H X no x.2 c1) : (pair a b).O H X F x (c0 ++ c1) :=
  ⟨c0, c1, F, no, rfl, h0, h1, fun _ _ h => h, fun _ h => h.elim id False.elim⟩
end
section
variable {d : Ty α} {H H' X : Hp} {xs : List α} {cs : List Value} {A : Option Addr} {F : Foot} {e : TypeId} {cap : Nat}
theorem elsR_ro : elsR (ro d) H xs cs ↔ elsR d H xs cs := by
  induction xs generalizing cs with
  | nil => exact Iff.rfl
  | cons x xs ih =>
    constructor
    · rintro ⟨c, cs', rfl, h1, h2⟩; exact ⟨c, cs', rfl, h1, ih.1 h2⟩
    · rintro ⟨c, cs', rfl, h1, h2⟩; exact ⟨c, cs', rfl, h1, ih.2 h2⟩
theorem Rd.unro (h : Rd (ro d) H A xs) : Rd d H A xs := ⟨h.1, h.2.imp id fun ⟨b, off, inner, h1, h2, h3⟩ => ⟨b, off, inner, h1, h2, elsR_ro.1 h3⟩⟩
theorem elsO_RO (hr : RO d) (h : elsR d H xs cs) : elsO d H X no xs cs := by
  induction xs generalizing cs with
  | nil => exact h
  | cons x xs ih =>
    obtain ⟨c, cs', rfl, h1, h2⟩ := h
    exact ⟨c, cs', no, no, rfl, hr _ _ _ _ h1, ih h2, fun _ h => h.elim, fun _ h => h.elim id id⟩
end

inductive Tm where
  | mk (kind n : Int) (text : List UInt8) (args : List Tm)
  deriving Inhabited
def Tm.kind : Tm → Int | .mk k _ _ _ => k
def Tm.n : Tm → Int | .mk _ n _ _ => n
def Tm.text : Tm → List UInt8 | .mk _ _ s _ => s
def Tm.args : Tm → List Tm | .mk _ _ _ as => as
mutual
def NodeR (T : TypeId) (H : Hp) : Tm → Value → Prop
  | .mk k n s as, v => ∃ g A c cur, v = .pointer (some ⟨g, 0, none⟩) ∧ H g = some (.cells cur T (0, 0)) ∧ cur.toList = [.int .i64 k, .int .i64 n, str s, .slice A as.length c] ∧ as.length ≤ c ∧ as.length ≤ 9223372036854775807 ∧
      (as = [] ∨ ∃ b off inner, A = some ⟨b, off, none⟩ ∧ (∀ j u, inner[j]? = some u → H.cell b (off + j) = some u) ∧ NodesR T H as inner)
def NodesR (T : TypeId) (H : Hp) : List Tm → List Value → Prop
  | [], vs => vs = []
  | t :: ts, vs => ∃ v vs', vs = v :: vs' ∧ NodeR T H t v ∧ NodesR T H ts vs'
end
section
variable {T : TypeId} {H H' : Hp}
mutual
theorem NodeR.ext (hs : Ext H H') : ∀ (t : Tm) (v : Value), NodeR T H t v → NodeR T H' t v
  | .mk k n s as, v, h => by
    simp only [NodeR] at h ⊢
    obtain ⟨g, A, c, cur, h1, h3, h4, h5, h6, h7⟩ := h
    refine ⟨g, A, c, cur, h1, hs _ _ h3, h4, h5, h6, h7.imp id ?_⟩
    rintro ⟨b, off, inner, hA, hc, he⟩
    exact ⟨b, off, inner, hA, fun j u hj => hs.cell (hc j u hj), NodesR.ext hs as inner he⟩
theorem NodesR.ext (hs : Ext H H') : ∀ (ts : List Tm) (vs : List Value), NodesR T H ts vs → NodesR T H' ts vs
  | [], vs, h => h
  | t :: ts, vs, h => by
    simp only [NodesR] at h ⊢
    obtain ⟨v, vs', h1, h2, h3⟩ := h
    exact ⟨v, vs', h1, NodeR.ext hs t v h2, NodesR.ext hs ts vs' h3⟩
end
theorem NodeR.one {t : Tm} {v : Value} (h : NodeR T H t v) : v.oneCell' = true := by
  cases t
  simp only [NodeR] at h
  obtain ⟨g, A, c, cur, rfl, _⟩ := h
  rfl
theorem NodeR.ext' {t : Tm} {v : Value} (hs : Ext H H') (h : NodeR T H t v) : NodeR T H' t v := NodeR.ext hs t v h
end
theorem node_ptr {T : TypeId} {H : Hp} {t : Tm} {v : Value} (h : NodeR T H t v) : ∃ g, v = .pointer (some ⟨g, 0, none⟩) := by
  cases t
  simp only [NodeR] at h
  obtain ⟨g, A, c, cur, rfl, _⟩ := h
  exact ⟨g, rfl⟩
section
variable {d : Ty α} {H H' X : Hp} {xs : List α} {A : Option Addr} {F F2 : Foot} {e : TypeId} {cap b off i : Nat} {x : α}
theorem Rd.addr (h : Rd d H A xs) (hi : i < xs.length) : ∃ b off, A = some ⟨b, off, none⟩ := by
  obtain ⟨b, off, _, hA, _⟩ := h.get i _ (List.getElem?_eq_getElem hi)
  exact ⟨b, off, hA⟩
theorem Rd.at (h : Rd d H A xs) (hA : A = some ⟨b, off, none⟩) (hx : xs[i]? = some x) : ∃ c, d.R H x c ∧ ∀ j u, c[j]? = some u → H.cell b (off + i * d.sz + j) = some u := by
  obtain ⟨b', off', c, hA', hr, hc⟩ := h.get i x hx
  rw [hA] at hA'
  injection hA' with h1
  injection h1 with h1 h2
  subst h1; subst h2
  exact ⟨c, hr, hc⟩
theorem Row.addr (h : Row d e H X F A cap xs) (hi : i < xs.length) : ∃ b, A = some ⟨b, 0, none⟩ := by
  rcases h with ⟨_, _, rfl⟩ | ⟨g, _, _, h1, _⟩
  · simp at hi
  · exact ⟨g, h1⟩
theorem row_cell {g j n : Nat} {cur : Array Value} {fr : Nat × Nat} {u : Value} (h3 : X g = some (.cells cur e fr)) (hj : (cur.toList.take n)[j]? = some u) : X.cell g (0 + j) = some u := by
  rw [Nat.zero_add, cell_of h3]
  rw [List.getElem?_take] at hj
  split at hj
  · simpa using hj
  · cases hj
theorem Row.at (h : Row d e H X F A cap xs) (hA : A = some ⟨b, 0, none⟩) (hx : xs[i]? = some x) : ∃ c F1, d.O H X F1 x c ∧ (∀ q, F1 q → F q) ∧ ∀ j u, c[j]? = some u → X.cell b (0 + i * d.sz + j) = some u := by
  rcases h with ⟨_, _, rfl⟩ | ⟨g, cur, fr, h1, h2, h3, h4, h5, h6, h7, h8⟩
  · simp at hx
  · rw [hA] at h1
    injection h1 with h1; injection h1 with h1
    subst h1
    obtain ⟨c, F1, F2, e1, o1, _, s1, _⟩ := elsO_at i h8 hx
    refine ⟨c, F1, o1, fun q hq => (s1 q (.inl hq)).1, fun j u hj => ?_⟩
    rw [Nat.add_assoc]
    refine row_cell (n := xs.length * d.sz) h3 ?_
    have hil : i < xs.length := (List.getElem?_eq_some_iff.1 hx).1
    have hl := elsO_len h8
    have hm : (i + 1) * d.sz ≤ xs.length * d.sz := Nat.mul_le_mul_right _ hil
    rw [Nat.add_mul] at hm
    have hlt : ((cur.toList.take (xs.length * d.sz)).take (i * d.sz)).length = i * d.sz := by rw [List.length_take, hl]; omega
    have hjl := (List.getElem?_eq_some_iff.1 hj).1
    rw [e1, List.append_assoc, List.getElem?_append_right (by rw [hlt]; omega), hlt, Nat.add_sub_cancel_left, List.getElem?_append_left hjl]
    exact hj
end
section
variable {P : Program} {P0 F F2 : Foot} {H0 H : Hp} {w0 w w' : World} {Fs : List Foot} {ρ : Operand → Value} {dst : Option Tmp} {T T2 ty e : TypeId} {pos : String} {af : Array Edge} {gd : Option (Nat × Bool)} {x y z : Operand} {v : Value} {d : Ty α} {A A2 : Option Addr} {cap c2 : Nat} {xs ys : List α}
end
end Go.Sy
