import Derived.Test.YtognefkopbbdnaaY3
namespace Go.Sy
open Go.Sx
set_option linter.unusedVariables false
set_option linter.unusedSimpArgs false
set_option linter.unusedSectionVars false
variable {α β : Type}
/-! ### kinds built of kinds -/
/-- Only read: shared as one likes. -/
def ro (d : Ty α) : Ty α where
  sz := d.sz
  R := d.R
  O := fun H _ _ x cs => d.R H x cs
  R_len := d.R_len
  R_one := d.R_one
  R_ext := d.R_ext
  O_len := d.R_len
  O_one := d.R_one
  O_mono := fun _ h => h
  O_ext := d.R_ext
  O_move := fun _ h => h
  O_frz := fun hE _ h => d.R_ext hE h
def pair (a : Ty α) (b : Ty β) : Ty (α × β) where
  sz := a.sz + b.sz
  R := fun H x cs => ∃ c0 c1, cs = c0 ++ c1 ∧ a.R H x.1 c0 ∧ b.R H x.2 c1
  O := fun H X F x cs => ∃ c0 c1 F0 F1, cs = c0 ++ c1 ∧ a.O H X F0 x.1 c0 ∧ b.O H X F1 x.2 c1 ∧ Dj F0 F1 ∧ ∀ q, F0 q ∨ F1 q → F q
  R_len := by
    rintro H x cs ⟨c0, c1, rfl, h0, h1⟩
    rw [List.length_append, a.R_len h0, b.R_len h1]
  R_one := by
    rintro H x cs ⟨c0, c1, rfl, h0, h1⟩ u hu
    rcases List.mem_append.1 hu with hu | hu
    · exact a.R_one h0 u hu
    · exact b.R_one h1 u hu
  R_ext := by
    rintro H H' x cs hs ⟨c0, c1, rfl, h0, h1⟩
    exact ⟨c0, c1, rfl, a.R_ext hs h0, b.R_ext hs h1⟩
  O_len := by
    rintro H X F x cs ⟨c0, c1, F0, F1, rfl, h0, h1, _, _⟩
    rw [List.length_append, a.O_len h0, b.O_len h1]
  O_one := by
    rintro H X F x cs ⟨c0, c1, F0, F1, rfl, h0, h1, _, _⟩ u hu
    rcases List.mem_append.1 hu with hu | hu
    · exact a.O_one h0 u hu
    · exact b.O_one h1 u hu
  O_mono := by
    rintro H X F F' x cs hs ⟨c0, c1, F0, F1, rfl, h0, h1, h2, h3⟩
    exact ⟨c0, c1, F0, F1, rfl, h0, h1, h2, fun q hq => hs q (h3 q hq)⟩
  O_ext := by
    rintro H H' X F x cs hs ⟨c0, c1, F0, F1, rfl, h0, h1, h2, h3⟩
    exact ⟨c0, c1, F0, F1, rfl, a.O_ext hs h0, b.O_ext hs h1, h2, h3⟩
  O_move := by
    rintro H X X' F x cs hs ⟨c0, c1, F0, F1, rfl, h0, h1, h2, h3⟩
    exact ⟨c0, c1, F0, F1, rfl, a.O_move (fun q hq => hs q (h3 q (.inl hq))) h0, b.O_move (fun q hq => hs q (h3 q (.inr hq))) h1, h2, h3⟩
  O_frz := by
    rintro H X F x cs H' hE hs ⟨c0, c1, F0, F1, rfl, h0, h1, h2, h3⟩
    exact ⟨c0, c1, rfl, a.O_frz hE (fun q o hq => hs q o (h3 q (.inl hq))) h0, b.O_frz hE (fun q o hq => hs q o (h3 q (.inr hq))) h1⟩
def slice (e : TypeId) (d : Ty α) (hd : 0 < d.sz) : Ty (List α) where
  sz := 1
  R := fun H xs cs => ∃ A c, cs = [.slice A xs.length c] ∧ xs.length ≤ c ∧ Rd d H A xs
  O := fun H X F xs cs => ∃ A c, cs = [.slice A xs.length c] ∧ Row d e H X F A c xs
  R_len := by
    rintro H x cs ⟨A, c, rfl, _⟩
    rfl
  R_one := by
    rintro H x cs ⟨A, c, rfl, _⟩ u hu
    rw [List.mem_singleton.1 hu]
    rfl
  R_ext := by
    rintro H H' x cs hs ⟨A, c, rfl, hl, h⟩
    exact ⟨A, c, rfl, hl, h.ext hs⟩
  O_len := by
    rintro H X F x cs ⟨A, c, rfl, _⟩
    rfl
  O_one := by
    rintro H X F x cs ⟨A, c, rfl, _⟩ u hu
    rw [List.mem_singleton.1 hu]
    rfl
  O_mono := by
    rintro H X F F' x cs hs ⟨A, c, rfl, h⟩
    exact ⟨A, c, rfl, h.mono hs⟩
  O_ext := by
    rintro H H' X F x cs hs ⟨A, c, rfl, h⟩
    exact ⟨A, c, rfl, h.ext hs⟩
  O_move := by
    rintro H X X' F x cs hs ⟨A, c, rfl, h⟩
    exact ⟨A, c, rfl, h.move hs⟩
  O_frz := by
    rintro H X F x cs H' hE hs ⟨A, c, rfl, h⟩
    exact ⟨A, c, rfl, h.le, h.frz hE hs⟩
/-- A Lean structure by its fields. -/
def iso (d : Ty α) (f : β → α) : Ty β where
  sz := d.sz
  R := fun H x cs => d.R H (f x) cs
  O := fun H X F x cs => d.O H X F (f x) cs
  R_len := d.R_len
  R_one := d.R_one
  R_ext := d.R_ext
  O_len := d.O_len
  O_one := d.O_one
  O_mono := d.O_mono
  O_ext := d.O_ext
  O_move := d.O_move
  O_frz := d.O_frz
theorem free_pair {a : Ty α} {b : Ty β} (ha : Free a) (hb : Free b) : Free (pair a b) := by
  rintro H H' X F x cs ⟨c0, c1, F0, F1, rfl, h0, h1, h2, h3⟩
  exact ⟨c0, c1, F0, F1, rfl, ha _ _ _ _ _ _ h0, hb _ _ _ _ _ _ h1, h2, h3⟩
theorem free_slice {e : TypeId} {d : Ty α} {hd : 0 < d.sz} (h : Free d) : Free (slice e d hd) := by
  rintro H H' X F x cs ⟨A, c, rfl, hr⟩
  exact ⟨A, c, rfl, hr.free h⟩
theorem free_iso {d : Ty α} {f : β → α} (h : Free d) : Free (iso d f) := fun H H' X F x cs hh => h _ _ _ _ _ _ hh
/-- What is read is owned with no foot. -/
def RO (d : Ty α) : Prop := ∀ H X x cs, d.R H x cs → d.O H X no x cs
theorem ro_scal (enc : α → Value) (h1) : RO (scal enc h1) := fun _ _ _ _ h => h
theorem ro_ro (d : Ty α) : RO (ro d) := fun _ _ _ _ h => h
section
variable {a : Ty α} {b : Ty β} {H X : Hp} {F F0 F1 : Foot} {x : α × β} {c0 c1 : List Value}
theorem pairO0 (h0 : a.O H X no x.1 c0) (h1 : b.O H X F x.2 c1) : (pair a b).O H X F x (c0 ++ c1) :=
  ⟨c0, c1, no, F, rfl, h0, h1, fun _ h => h.elim, fun _ h => h.elim False.elim id⟩
end
section
variable {d : Ty α} {H H' X : Hp} {xs : List α} {cs : List Value} {A : Option Addr} {F : Foot} {e : TypeId} {cap : Nat}
theorem elsR_ro : elsR (ro d) H xs cs ↔ elsR d H xs cs := by
  induction xs generalizing cs with
  | nil => exact Iff.rfl
  | cons x xs ih =>
    constructor
    · rintro ⟨c, cs', rfl, h1, h2⟩; exact ⟨c, cs', rfl, h1, ih.1 h2⟩
    · rintro ⟨c, cs', rfl, h1, h2⟩; exact ⟨c, cs', rfl, h1, ih.2 h2⟩
theorem Rd.unro (h : Rd (ro d) H A xs) : Rd d H A xs := ⟨h.1, h.2.imp id fun ⟨b, off, inner, h1, h2, h3⟩ => ⟨b, off, inner, h1, h2, elsR_ro.1 h3⟩⟩
theorem Rd.toro (h : Rd d H A xs) : Rd (ro d) H A xs := ⟨h.1, h.2.imp id fun ⟨b, off, inner, h1, h2, h3⟩ => ⟨b, off, inner, h1, h2, elsR_ro.2 h3⟩⟩
theorem elsO_RO (hr : RO d) (h : elsR d H xs cs) : elsO d H X no xs cs := by
  induction xs generalizing cs with
  | nil => exact h
  | cons x xs ih =>
    obtain ⟨c, cs', rfl, h1, h2⟩ := h
    exact ⟨c, cs', no, no, rfl, hr _ _ _ _ h1, ih h2, fun _ h => h.elim, fun _ h => h.elim id id⟩
end

/-! ### trees behind pointers: written once, then frozen -/
inductive Tm where
  | mk (kind n : Int) (text : List UInt8) (args : List Tm)
  deriving Inhabited
def Tm.kind : Tm → Int | .mk k _ _ _ => k
def Tm.n : Tm → Int | .mk _ n _ _ => n
def Tm.text : Tm → List UInt8 | .mk _ _ s _ => s
def Tm.args : Tm → List Tm | .mk _ _ _ as => as
mutual
/-- T: the struct's type. -/
def NodeR (T : TypeId) (H : Hp) : Tm → Value → Prop
  | .mk k n s as, v => ∃ g A c cur, v = .pointer (some ⟨g, 0, none⟩) ∧ H g = some (.cells cur T (0, 0)) ∧ cur.toList = [.int .i64 k, .int .i64 n, str s, .slice A as.length c] ∧ as.length ≤ c ∧ as.length ≤ 9223372036854775807 ∧
      (as = [] ∨ ∃ b off inner, A = some ⟨b, off, none⟩ ∧ (∀ j u, inner[j]? = some u → H.cell b (off + j) = some u) ∧ NodesR T H as inner)
def NodesR (T : TypeId) (H : Hp) : List Tm → List Value → Prop
  | [], vs => vs = []
  | t :: ts, vs => ∃ v vs', vs = v :: vs' ∧ NodeR T H t v ∧ NodesR T H ts vs'
end
section
variable {T : TypeId} {H H' : Hp}
mutual
theorem NodeR.ext (hs : Ext H H') : ∀ (t : Tm) (v : Value), NodeR T H t v → NodeR T H' t v
  | .mk k n s as, v, h => by
    simp only [NodeR] at h ⊢
    obtain ⟨g, A, c, cur, h1, h3, h4, h5, h6, h7⟩ := h
    refine ⟨g, A, c, cur, h1, hs _ _ h3, h4, h5, h6, h7.imp id ?_⟩
    rintro ⟨b, off, inner, hA, hc, he⟩
    exact ⟨b, off, inner, hA, fun j u hj => hs.cell (hc j u hj), NodesR.ext hs as inner he⟩
theorem NodesR.ext (hs : Ext H H') : ∀ (ts : List Tm) (vs : List Value), NodesR T H ts vs → NodesR T H' ts vs
  | [], vs, h => h
  | t :: ts, vs, h => by
    simp only [NodesR] at h ⊢
    obtain ⟨v, vs', h1, h2, h3⟩ := h
    exact ⟨v, vs', h1, NodeR.ext hs t v h2, NodesR.ext hs ts vs' h3⟩
end
theorem NodeR.one {t : Tm} {v : Value} (h : NodeR T H t v) : v.oneCell' = true := by
  cases t
  simp only [NodeR] at h
  obtain ⟨g, A, c, cur, rfl, _⟩ := h
  rfl
theorem NodeR.ext' {t : Tm} {v : Value} (hs : Ext H H') (h : NodeR T H t v) : NodeR T H' t v := NodeR.ext hs t v h
end
def node (T : TypeId) : Ty Tm where
  sz := 1
  R := fun H t cs => ∃ v, cs = [v] ∧ NodeR T H t v
  O := fun H _ _ t cs => ∃ v, cs = [v] ∧ NodeR T H t v
  R_len := by
    rintro H x cs ⟨v, rfl, _⟩
    rfl
  R_one := by
    rintro H x cs ⟨v, rfl, h⟩ u hu
    rw [List.mem_singleton.1 hu]
    exact h.one
  R_ext := fun hs ⟨v, h1, h2⟩ => ⟨v, h1, NodeR.ext hs _ _ h2⟩
  O_len := by
    rintro H X F x cs ⟨v, rfl, _⟩
    rfl
  O_one := by
    rintro H X F x cs ⟨v, rfl, h⟩ u hu
    rw [List.mem_singleton.1 hu]
    exact h.one
  O_mono := fun _ h => h
  O_ext := fun hs ⟨v, h1, h2⟩ => ⟨v, h1, NodeR.ext hs _ _ h2⟩
  O_move := fun _ h => h
  O_frz := fun hs _ ⟨v, h1, h2⟩ => ⟨v, h1, NodeR.ext hs _ _ h2⟩
theorem nodes_els {T : TypeId} {H : Hp} : ∀ (ts : List Tm) (vs : List Value), NodesR T H ts vs ↔ elsR (node T) H ts vs
  | [], vs => Iff.rfl
  | t :: ts, vs => by
    simp only [NodesR, elsR, node]
    constructor
    · rintro ⟨v, vs', rfl, h1, h2⟩
      exact ⟨[v], vs', rfl, ⟨v, rfl, h1⟩, (nodes_els ts vs').1 h2⟩
    · rintro ⟨c, vs', rfl, ⟨v, rfl, h1⟩, h2⟩
      exact ⟨v, vs', rfl, h1, (nodes_els ts vs').2 h2⟩
/-- A node that is read: its four cells; its arguments. -/
theorem node_open {T : TypeId} {H : Hp} {t : Tm} {g : Nat} (h : NodeR T H t (.pointer (some ⟨g, 0, none⟩))) :
    ∃ A c cur fr, H g = some (.cells cur T fr) ∧ cur.toList = [.int .i64 t.kind, .int .i64 t.n, str t.text, .slice A t.args.length c] ∧ t.args.length ≤ c ∧ Rd (node T) H A t.args := by
  cases t with
  | mk k n s as =>
    simp only [NodeR] at h
    obtain ⟨g', A, c, cur, h1, h3, h4, h5, h6, h7⟩ := h
    injection h1 with h1; injection h1 with h1; injection h1 with h1
    subst h1
    refine ⟨A, c, cur, (0, 0), h3, h4, h5, h6, h7.imp id ?_⟩
    rintro ⟨b, off, inner, hA, hc, he⟩
    exact ⟨b, off, inner, hA, hc, (nodes_els _ _).1 he⟩
theorem node_ptr {T : TypeId} {H : Hp} {t : Tm} {v : Value} (h : NodeR T H t v) : ∃ g, v = .pointer (some ⟨g, 0, none⟩) := by
  cases t
  simp only [NodeR] at h
  obtain ⟨g, A, c, cur, rfl, _⟩ := h
  exact ⟨g, rfl⟩
/-- its block is cells that nobody froze -/
theorem node_blk {T : TypeId} {H : Hp} {t : Tm} {g : Nat} (h : NodeR T H t (.pointer (some ⟨g, 0, none⟩))) : ∃ cur, H g = some (.cells cur T (0, 0)) := by
  cases t
  simp only [NodeR] at h
  obtain ⟨g', A, c, cur, h1, h3, _⟩ := h
  injection h1 with h1; injection h1 with h1; injection h1 with h1
  subst h1
  exact ⟨cur, h3⟩
theorem node_mk {T : TypeId} {H : Hp} {k n : Int} {s : List UInt8} {as : List Tm} {g : Nat} {A : Option Addr} {c : Nat} {cur : Array Value}
    (h3 : H g = some (.cells cur T (0, 0))) (h4 : cur.toList = [.int .i64 k, .int .i64 n, str s, .slice A as.length c]) (h5 : as.length ≤ c) (h : Rd (node T) H A as) :
    NodeR T H (.mk k n s as) (.pointer (some ⟨g, 0, none⟩)) := by
  simp only [NodeR]
  refine ⟨g, A, c, cur, rfl, h3, h4, h5, h.1, h.2.imp id ?_⟩
  rintro ⟨b, off, inner, hA, hc, he⟩
  exact ⟨b, off, inner, hA, hc, (nodes_els _ _).2 he⟩

/-! ### elements -/
section
variable {d : Ty α} {H H' X : Hp} {xs : List α} {A : Option Addr} {F F2 : Foot} {e : TypeId} {cap b off i : Nat} {x : α}
theorem Rd.addr (h : Rd d H A xs) (hi : i < xs.length) : ∃ b off, A = some ⟨b, off, none⟩ := by
  obtain ⟨b, off, _, hA, _⟩ := h.get i _ (List.getElem?_eq_getElem hi)
  exact ⟨b, off, hA⟩
theorem Rd.at (h : Rd d H A xs) (hA : A = some ⟨b, off, none⟩) (hx : xs[i]? = some x) : ∃ c, d.R H x c ∧ ∀ j u, c[j]? = some u → H.cell b (off + i * d.sz + j) = some u := by
  obtain ⟨b', off', c, hA', hr, hc⟩ := h.get i x hx
  rw [hA] at hA'
  injection hA' with h1
  injection h1 with h1 h2
  subst h1; subst h2
  exact ⟨c, hr, hc⟩
theorem Row.addr (h : Row d e H X F A cap xs) (hi : i < xs.length) : ∃ b, A = some ⟨b, 0, none⟩ := by
  rcases h with ⟨_, _, rfl⟩ | ⟨g, _, _, h1, _⟩
  · simp at hi
  · exact ⟨g, h1⟩
theorem row_cell {g j n : Nat} {cur : Array Value} {fr : Nat × Nat} {u : Value} (h3 : X g = some (.cells cur e fr)) (hj : (cur.toList.take n)[j]? = some u) : X.cell g (0 + j) = some u := by
  rw [Nat.zero_add, cell_of h3]
  rw [List.getElem?_take] at hj
  split at hj
  · simpa using hj
  · cases hj
theorem Row.at (h : Row d e H X F A cap xs) (hA : A = some ⟨b, 0, none⟩) (hx : xs[i]? = some x) : ∃ c F1, d.O H X F1 x c ∧ (∀ q, F1 q → F q) ∧ ∀ j u, c[j]? = some u → X.cell b (0 + i * d.sz + j) = some u := by
  rcases h with ⟨_, _, rfl⟩ | ⟨g, cur, fr, h1, h2, h3, h4, h5, h6, h7, h8⟩
  · simp at hx
  · rw [hA] at h1
    injection h1 with h1; injection h1 with h1
    subst h1
    obtain ⟨c, F1, F2, e1, o1, _, s1, _⟩ := elsO_at i h8 hx
    refine ⟨c, F1, o1, fun q hq => (s1 q (.inl hq)).1, fun j u hj => ?_⟩
    rw [Nat.add_assoc]
    refine row_cell (n := xs.length * d.sz) h3 ?_
    have hil : i < xs.length := (List.getElem?_eq_some_iff.1 hx).1
    have hl := elsO_len h8
    have hm : (i + 1) * d.sz ≤ xs.length * d.sz := Nat.mul_le_mul_right _ hil
    rw [Nat.add_mul] at hm
    have hlt : ((cur.toList.take (xs.length * d.sz)).take (i * d.sz)).length = i * d.sz := by rw [List.length_take, hl]; omega
    have hjl := (List.getElem?_eq_some_iff.1 hj).1
    rw [e1, List.append_assoc, List.getElem?_append_right (by rw [hlt]; omega), hlt, Nat.add_sub_cancel_left, List.getElem?_append_left hjl]
    exact hj
end
section
variable {P : Program} {P0 F F2 : Foot} {H0 H : Hp} {w0 w w' : World} {Fs : List Foot} {ρ : Operand → Value} {dst : Option Tmp} {T T2 ty e : TypeId} {pos : String} {af : Array Edge} {gd : Option (Nat × Bool)} {x y z : Operand} {v : Value} {d : Ty α} {A A2 : Option Addr} {cap c2 : Nat} {xs ys : List α}
/-- x[i].. = v: a part of an element -/
theorem e_setpart {b i j : Nat} {vs : List Value} {xi yv : α} (S : St P0 H0 w0 (F :: F2 :: Fs) H w) (hx : ρ x = .pointer (some ⟨b, 0 + i * d.sz + j, none⟩)) (hA : A = some ⟨b, 0, none⟩) (hy : ρ y = v) (hv : v.cells.toList = vs) (hz : (P.info? T).map (·.size) = some vs.length)
    (HO : Row d e H (hp w) F A cap xs) (hi : xs[i]? = some xi) (hj : j + vs.length ≤ d.sz) (h1 : ∀ u ∈ vs, u.oneCell' = true)
    (hn : ∀ F1 c, Dj F1 F2 → d.O H (hp w) F1 xi c → d.O H (hp w) (or2 F1 F2) yv (c.take j ++ vs ++ c.drop (j + vs.length))) :
    ∃ w', (execOp ρ ⟨dst, .store T x y, ty, pos, af, gd⟩).run P w = .ok .skip w' ∧ ∃ F', Row d e H (hp w') F' A cap (xs.set i yv) ∧ St P0 H0 w0 (F' :: Fs) H w' ∧ Kp Fs w w' := by
  have hdj := S.dj
  have hJ := S.join
  have hFlt := fun b hb => (S.own F (.head _) b hb).1
  have hF2lt := fun b hb => (S.own F2 (.tail _ (.head _)) b hb).1
  rcases HO with ⟨_, _, rfl⟩ | ⟨g, cur, fr, h1', h2, h3, h4, h5, h6, h7, h8⟩
  · simp at hi
  · rw [hA] at h1'
    injection h1' with h1'; injection h1' with h1'
    subst h1'
    obtain ⟨c, F1, G, e1, o1, d1, s1, back⟩ := elsO_at i h8 hi
    have hil : i < xs.length := (List.getElem?_eq_some_iff.1 hi).1
    have hl := elsO_len h8
    have hcl := d.O_len o1
    have hm : (i + 1) * d.sz ≤ xs.length * d.sz := Nat.mul_le_mul_right _ hil
    rw [Nat.add_mul] at hm
    have hcs : xs.length * d.sz ≤ cur.size := by rw [h7]; exact Nat.mul_le_mul_right _ h5
    have hlt : (cur.toList.take (i * d.sz)).length = i * d.sz := by rw [List.length_take, Array.length_toList]; omega
    have htt : (cur.toList.take (xs.length * d.sz)).take (i * d.sz) = cur.toList.take (i * d.sz) := by rw [List.take_take]; congr 1; omega
    have hrun := run_store_blk (dst := dst) (ty := ty) (pos := pos) (af := af) (gd := gd) (P := P) (g := b) (o := i * d.sz + j) (by rw [hx, Nat.zero_add]) hy hv hz h3 h4 (by omega) h1
    have hcur : cur.toList.take (i * d.sz + j) = cur.toList.take (i * d.sz) ++ c.take j := by
      have : (cur.toList.take (xs.length * d.sz)).take (i * d.sz + j) = cur.toList.take (i * d.sz + j) := by rw [List.take_take]; congr 1; omega
      rw [← this, e1, htt, List.append_assoc, List.take_append, List.take_of_length_le (by rw [hlt]; omega), hlt, Nat.add_sub_cancel_left, List.take_append]
      rw [show j - c.length = 0 by omega, List.take_zero, List.append_nil]
    generalize hw' : (w.setRow b (cur.toList.take (i * d.sz + j) ++ vs ++ cur.toList.drop (i * d.sz + j + vs.length)).toArray) = w' at hrun
    have hC : Chg (or2 F F2) w w' := by rw [← hw']; exact (chg_setRow w b _).mono (fun q hq => .inl ((show q = b from hq) ▸ h2))
    have hsz : w'.heap.size = w.heap.size := by rw [← hw']; simp
    obtain ⟨S', K'⟩ := hJ.step (G := or2 F F2) hC (fun q hq => ⟨by rw [hsz]; exact hq.elim (hFlt q) (hF2lt q), .inl hq⟩)
    have mv : ∀ q, q ≠ b → hp w' q = hp w q := fun q hq => by rw [← hw']; exact setRow_other w b q _ hq
    have hnew : w'.heap[b]? = some (.cells (cur.toList.take (i * d.sz + j) ++ vs ++ cur.toList.drop (i * d.sz + j + vs.length)).toArray e fr) := by rw [← hw']; exact setRow_heap w b cur _ e fr h3
    have hsize : ((cur.toList.take (i * d.sz + j) ++ vs ++ cur.toList.drop (i * d.sz + j + vs.length)).toArray).size = cur.size := by
      simp only [List.size_toArray, List.length_append, List.length_take, List.length_drop, Array.length_toList]
      omega
    have hns : ∀ q, F2 q → q ≠ b := fun q hq hqb => hdj b h2 (hqb ▸ hq)
    refine ⟨w', hrun, or2 F F2, .inr ⟨b, _, fr, hA, .inl h2, hnew, by rw [hsize]; exact h4, by simpa using h5, h6, by rw [hsize]; exact h7, ?_⟩, S', K'⟩
    have o2 := hn F1 c (fun q hq hq2 => hdj q (s1 q (.inl hq)).1 hq2) o1
    have o3 := d.O_move (X' := hp w') (fun q hq => mv q (by
      rcases hq with hq | hq
      · exact (s1 q (.inl hq)).2
      · exact hns q hq)) o2
    have h9 := back H (hp w') (or2 F1 F2) yv _ (Ext.refl _) (fun q hq => mv q (s1 q (.inr hq)).2) o3 (fun q hq hq2 => by
      rcases hq with hq | hq
      · exact d1 q hq hq2
      · exact hdj q (s1 q (.inr hq2)).1 hq)
    rw [List.length_set]
    have e4 : ((cur.toList.take (i * d.sz + j) ++ vs ++ cur.toList.drop (i * d.sz + j + vs.length)).toArray.toList.take (xs.length * d.sz)) = (cur.toList.take (xs.length * d.sz)).take (i * d.sz) ++ (c.take j ++ vs ++ c.drop (j + vs.length)) ++ (cur.toList.take (xs.length * d.sz)).drop (i * d.sz + d.sz) := by
      have hdrop : (cur.toList.drop (i * d.sz + j + vs.length)).take (xs.length * d.sz - (i * d.sz + j + vs.length)) = c.drop (j + vs.length) ++ (cur.toList.take (xs.length * d.sz)).drop (i * d.sz + d.sz) := by
        rw [← List.drop_take, e1, htt, List.append_assoc, List.drop_append, List.drop_of_length_le (by rw [hlt]; omega), List.nil_append, hlt, List.drop_append]
        have e5 : i * d.sz + j + vs.length - i * d.sz = j + vs.length := by omega
        rw [e5, show j + vs.length - c.length = 0 by omega, List.drop_zero]
        congr 1
        have e6 : List.drop (i * d.sz + d.sz) (cur.toList.take (i * d.sz) ++ (c ++ List.drop (i * d.sz + d.sz) (List.take (xs.length * d.sz) cur.toList))) = List.drop (i * d.sz + d.sz) (List.take (xs.length * d.sz) cur.toList) := by
          rw [List.drop_append, List.drop_of_length_le (by rw [hlt]; omega), List.nil_append, hlt, List.drop_append, List.drop_of_length_le (by omega), List.nil_append]
          rw [show i * d.sz + d.sz - i * d.sz - c.length = 0 by omega, List.drop_zero]
        exact e6.symm
      have hp1 : (cur.toList.take (i * d.sz + j) ++ vs).length = i * d.sz + j + vs.length := by
        simp only [List.length_append, List.length_take, Array.length_toList]; omega
      rw [List.take_append, List.take_of_length_le (by rw [hp1]; omega), hp1, hdrop, htt, hcur]
      simp [List.append_assoc]
    rw [e4]
    refine elsO_mono (fun q hq => ?_) h9
    rcases hq with (hq | hq) | hq
    · exact ⟨.inl (s1 q (.inl hq)).1, (s1 q (.inl hq)).2⟩
    · exact ⟨.inr hq, hns q hq⟩
    · exact ⟨.inl (s1 q (.inr hq)).1, (s1 q (.inr hq)).2⟩
/-- x[i] = v -/
theorem e_setel {b i : Nat} {vs : List Value} {yv : α} (S : St P0 H0 w0 (F :: F2 :: Fs) H w) (hx : ρ x = .pointer (some ⟨b, 0 + i * d.sz, none⟩)) (hA : A = some ⟨b, 0, none⟩) (hy : ρ y = v) (hv : v.cells.toList = vs) (hz : (P.info? T).map (·.size) = some d.sz)
    (HO : Row d e H (hp w) F A cap xs) (hi : i < xs.length) (hn : d.O H (hp w) F2 yv vs) :
    ∃ w', (execOp ρ ⟨dst, .store T x y, ty, pos, af, gd⟩).run P w = .ok .skip w' ∧ ∃ F', Row d e H (hp w') F' A cap (xs.set i yv) ∧ St P0 H0 w0 (F' :: Fs) H w' ∧ Kp Fs w w' := by
  have hl := d.O_len hn
  refine e_setpart (j := 0) S (by rw [hx, Nat.add_zero]) hA hy hv (by rw [hz, hl]) HO (List.getElem?_eq_getElem hi) (by omega) (d.O_one hn) (fun F1 c hd h1 => ?_)
  have hc := d.O_len h1
  rw [List.take_zero, List.nil_append, Nat.zero_add, List.drop_of_length_le (by omega), List.append_nil]
  exact d.O_mono (fun q hq => .inr hq) hn
end
end Go.Sy
