import Derived.Test.YtognefkopbbdnaaData
namespace Go.Sx
variable {α β : Type}

/-! ### kinds built of kinds -/
/-- Only read: shared as one likes. -/
def ro (d : Ty α) : Ty α where
  sz := d.sz
  sep := false
  R := d.R
  O := d.R
  R_len := d.R_len
  R_one := d.R_one
  R_mono := d.R_mono
  R_move := d.R_move
  R_lt := d.R_lt
  O_mono := d.R_mono
  O_move := d.R_move
  O_lt := d.R_lt
  OR := fun h => h

def pair (a : Ty α) (b : Ty β) : Ty (α × β) where
  sz := a.sz + b.sz
  sep := a.sep || b.sep
  R := fun w F x cs => ∃ c0 c1, cs = c0 ++ c1 ∧ a.R w F x.1 c0 ∧ b.R w F x.2 c1
  O := fun w F x cs => ∃ c0 c1 F0 F1, cs = c0 ++ c1 ∧ a.O w F0 x.1 c0 ∧ b.O w F1 x.2 c1 ∧ ((a.sep && b.sep) = true → ∀ q, F0 q → ¬ F1 q) ∧ ∀ q, F0 q ∨ F1 q → F q
  R_len := by
    rintro w F x cs ⟨c0, c1, rfl, h0, h1⟩
    rw [List.length_append, a.R_len h0, b.R_len h1]
  R_one := by
    rintro w F x cs ⟨c0, c1, rfl, h0, h1⟩ u hu
    rcases List.mem_append.1 hu with hu | hu
    · exact a.R_one h0 u hu
    · exact b.R_one h1 u hu
  R_mono := by
    rintro w F F' x cs hs ⟨c0, c1, rfl, h0, h1⟩
    exact ⟨c0, c1, rfl, a.R_mono hs h0, b.R_mono hs h1⟩
  R_move := by
    rintro w w' F x cs hs ⟨c0, c1, rfl, h0, h1⟩
    exact ⟨c0, c1, rfl, a.R_move hs h0, b.R_move hs h1⟩
  R_lt := by
    rintro w F x cs ⟨c0, c1, rfl, h0, h1⟩
    exact ⟨c0, c1, rfl, a.R_lt h0, b.R_lt h1⟩
  O_mono := by
    rintro w F F' x cs hs ⟨c0, c1, F0, F1, rfl, h0, h1, h2, h3⟩
    exact ⟨c0, c1, F0, F1, rfl, h0, h1, h2, fun q hq => hs q (h3 q hq)⟩
  O_move := by
    rintro w w' F x cs hs ⟨c0, c1, F0, F1, rfl, h0, h1, h2, h3⟩
    exact ⟨c0, c1, F0, F1, rfl, a.O_move (fun q hq => hs q (h3 q (.inl hq))) h0, b.O_move (fun q hq => hs q (h3 q (.inr hq))) h1, h2, h3⟩
  O_lt := by
    rintro w F x cs ⟨c0, c1, F0, F1, rfl, h0, h1, h2, h3⟩
    refine ⟨c0, c1, _, _, rfl, a.O_lt h0, b.O_lt h1, fun hs q hq hq1 => h2 hs q hq.1 hq1.1, ?_⟩
    rintro q (hq | hq)
    · exact ⟨h3 q (.inl hq.1), hq.2⟩
    · exact ⟨h3 q (.inr hq.1), hq.2⟩
  OR := by
    rintro w F x cs ⟨c0, c1, F0, F1, rfl, h0, h1, h2, h3⟩
    exact ⟨c0, c1, rfl, a.R_mono (fun q hq => h3 q (.inl hq)) (a.OR h0), b.R_mono (fun q hq => h3 q (.inr hq)) (b.OR h1)⟩

theorem pairO0 {a : Ty α} {b : Ty β} {w : World} {F : Foot} {x : α × β} {c0 c1 : List Value} (h0 : a.O w (fun _ => False) x.1 c0) (h1 : b.O w F x.2 c1) : (pair a b).O w F x (c0 ++ c1) :=
  ⟨c0, c1, fun _ => False, F, rfl, h0, h1, fun _ _ h => h.elim, fun _ h => h.elim False.elim id⟩
theorem pairO1 {a : Ty α} {b : Ty β} {w : World} {F : Foot} {x : α × β} {c0 c1 : List Value} (h0 : a.O w F x.1 c0) (h1 : b.O w (fun _ => False) x.2 c1) : (pair a b).O w F x (c0 ++ c1) :=
  ⟨c0, c1, F, fun _ => False, rfl, h0, h1, fun _ _ _ h => h, fun _ h => h.elim id False.elim⟩

def slice (e : TypeId) (d : Ty α) (hd : 0 < d.sz) : Ty (List α) where
  sz := 1
  sep := true
  R := fun w F xs cs => ∃ A c, cs = [.slice A xs.length c] ∧ xs.length ≤ c ∧ Rd d w F A xs
  O := fun w F xs cs => ∃ A c, cs = [.slice A xs.length c] ∧ Row d e w F A c xs
  R_len := by
    rintro w F x cs ⟨A, c, rfl, _⟩
    rfl
  R_one := by
    rintro w F x cs ⟨A, c, rfl, _⟩ u hu
    rw [List.mem_singleton.1 hu]
    rfl
  R_mono := by
    rintro w F F' x cs hs ⟨A, c, rfl, hl, h⟩
    exact ⟨A, c, rfl, hl, h.mono hs⟩
  R_move := by
    rintro w w' F x cs hs ⟨A, c, rfl, hl, h⟩
    exact ⟨A, c, rfl, hl, h.move hs⟩
  R_lt := by
    rintro w F x cs ⟨A, c, rfl, hl, h⟩
    exact ⟨A, c, rfl, hl, h.lt hd⟩
  O_mono := by
    rintro w F F' x cs hs ⟨A, c, rfl, h⟩
    exact ⟨A, c, rfl, h.mono hs⟩
  O_move := by
    rintro w w' F x cs hs ⟨A, c, rfl, h⟩
    exact ⟨A, c, rfl, h.move hs⟩
  O_lt := by
    rintro w F x cs ⟨A, c, rfl, h⟩
    exact ⟨A, c, rfl, h.lt⟩
  OR := by
    rintro w F x cs ⟨A, c, rfl, h⟩
    exact ⟨A, c, rfl, h.le, h.rd⟩

/-- A Lean structure by its fields. -/
def iso (d : Ty α) (f : β → α) : Ty β where
  sz := d.sz
  sep := d.sep
  R := fun w F x cs => d.R w F (f x) cs
  O := fun w F x cs => d.O w F (f x) cs
  R_len := d.R_len
  R_one := d.R_one
  R_mono := d.R_mono
  R_move := d.R_move
  R_lt := d.R_lt
  O_mono := d.O_mono
  O_move := d.O_move
  O_lt := d.O_lt
  OR := d.OR

/-! ### trees behind pointers: written once, then shared -/
inductive Tm where
  | mk (kind n : Int) (text : List UInt8) (args : List Tm)
  deriving Inhabited
def Tm.kind : Tm → Int | .mk k _ _ _ => k
def Tm.n : Tm → Int | .mk _ n _ _ => n
def Tm.text : Tm → List UInt8 | .mk _ _ s _ => s
def Tm.args : Tm → List Tm | .mk _ _ _ as => as
theorem Tm.eta (t : Tm) : t = .mk t.kind t.n t.text t.args := by cases t; rfl

mutual
/-- T: the struct's type, E: the pointers'. -/
def NodeR (T E : TypeId) (w : World) (F : Foot) : Tm → Value → Prop
  | .mk k n s as, v => ∃ g A c cur fr, v = .pointer (some ⟨g, 0, none⟩) ∧ F g ∧ w.heap[g]? = some (.cells cur T fr) ∧ cur.toList = [.int .i64 k, .int .i64 n, str s, .slice A as.length c] ∧ as.length ≤ c ∧ as.length ≤ 9223372036854775807 ∧
      (as = [] ∨ ∃ b off inner, A = some ⟨b, off, none⟩ ∧ F b ∧ (∀ j u, inner[j]? = some u → w.cell? ⟨b, off + j, none⟩ = some u) ∧ NodesR T E w F as inner)
def NodesR (T E : TypeId) (w : World) (F : Foot) : List Tm → List Value → Prop
  | [], vs => vs = []
  | t :: ts, vs => ∃ v vs', vs = v :: vs' ∧ NodeR T E w F t v ∧ NodesR T E w F ts vs'
end

section
variable {T E : TypeId} {w w' : World} {F F' : Foot}
mutual
theorem NodeR.mono (hs : ∀ b, F b → F' b) : ∀ (t : Tm) (v : Value), NodeR T E w F t v → NodeR T E w F' t v
  | .mk k n s as, v, h => by
    simp only [NodeR] at h ⊢
    obtain ⟨g, A, c, cur, fr, h1, h2, h3, h4, h5, h6, h7⟩ := h
    refine ⟨g, A, c, cur, fr, h1, hs g h2, h3, h4, h5, h6, h7.imp id ?_⟩
    rintro ⟨b, off, inner, hA, hb, hc, he⟩
    exact ⟨b, off, inner, hA, hs b hb, hc, NodesR.mono hs as inner he⟩
theorem NodesR.mono (hs : ∀ b, F b → F' b) : ∀ (ts : List Tm) (vs : List Value), NodesR T E w F ts vs → NodesR T E w F' ts vs
  | [], vs, h => h
  | t :: ts, vs, h => by
    simp only [NodesR] at h ⊢
    obtain ⟨v, vs', h1, h2, h3⟩ := h
    exact ⟨v, vs', h1, NodeR.mono hs t v h2, NodesR.mono hs ts vs' h3⟩
end
mutual
theorem NodeR.move (hs : ∀ b, F b → w'.heap[b]? = w.heap[b]?) : ∀ (t : Tm) (v : Value), NodeR T E w F t v → NodeR T E w' F t v
  | .mk k n s as, v, h => by
    simp only [NodeR] at h ⊢
    obtain ⟨g, A, c, cur, fr, h1, h2, h3, h4, h5, h6, h7⟩ := h
    refine ⟨g, A, c, cur, fr, h1, h2, (hs g h2).trans h3, h4, h5, h6, h7.imp id ?_⟩
    rintro ⟨b, off, inner, hA, hb, hc, he⟩
    exact ⟨b, off, inner, hA, hb, fun j u hj => (World.cell?_of_block (hs b hb)).trans (hc j u hj), NodesR.move hs as inner he⟩
theorem NodesR.move (hs : ∀ b, F b → w'.heap[b]? = w.heap[b]?) : ∀ (ts : List Tm) (vs : List Value), NodesR T E w F ts vs → NodesR T E w' F ts vs
  | [], vs, h => h
  | t :: ts, vs, h => by
    simp only [NodesR] at h ⊢
    obtain ⟨v, vs', h1, h2, h3⟩ := h
    exact ⟨v, vs', h1, NodeR.move hs t v h2, NodesR.move hs ts vs' h3⟩
end
theorem NodesR.len : ∀ (ts : List Tm) (vs : List Value), NodesR T E w F ts vs → vs.length = ts.length
  | [], vs, h => by cases h; rfl
  | t :: ts, vs, h => by
    simp only [NodesR] at h
    obtain ⟨v, vs', rfl, h2, h3⟩ := h
    simp [NodesR.len ts vs' h3]
mutual
theorem NodeR.lt : ∀ (t : Tm) (v : Value), NodeR T E w F t v → NodeR T E w (fun b => F b ∧ b < w.heap.size) t v
  | .mk k n s as, v, h => by
    simp only [NodeR] at h ⊢
    obtain ⟨g, A, c, cur, fr, h1, h2, h3, h4, h5, h6, h7⟩ := h
    refine ⟨g, A, c, cur, fr, h1, ⟨h2, heap_lt h3⟩, h3, h4, h5, h6, ?_⟩
    rcases h7 with h7 | ⟨b, off, inner, hA, hb, hc, he⟩
    · exact .inl h7
    · rcases as with _ | ⟨a, as⟩
      · exact .inl rfl
      · refine .inr ⟨b, off, inner, hA, ⟨hb, ?_⟩, hc, NodesR.lt (a :: as) inner he⟩
        have hl := NodesR.len _ _ he
        have h0 : 0 < inner.length := by rw [hl]; simp
        exact World.block_lt_of_cell? w _ (hc 0 _ (List.getElem?_eq_getElem h0))
theorem NodesR.lt : ∀ (ts : List Tm) (vs : List Value), NodesR T E w F ts vs → NodesR T E w (fun b => F b ∧ b < w.heap.size) ts vs
  | [], vs, h => h
  | t :: ts, vs, h => by
    simp only [NodesR] at h ⊢
    obtain ⟨v, vs', h1, h2, h3⟩ := h
    exact ⟨v, vs', h1, NodeR.lt t v h2, NodesR.lt ts vs' h3⟩
end
theorem NodeR.one {t : Tm} {v : Value} (h : NodeR T E w F t v) : v.oneCell' = true := by
  cases t
  simp only [NodeR] at h
  obtain ⟨g, A, c, cur, fr, rfl, _⟩ := h
  rfl
end
def node (T E : TypeId) : Ty Tm where
  sz := 1
  sep := false
  R := fun w F t cs => ∃ v, cs = [v] ∧ NodeR T E w F t v
  O := fun w F t cs => ∃ v, cs = [v] ∧ NodeR T E w F t v
  R_len := by
    rintro w F x cs ⟨v, rfl, _⟩
    rfl
  R_one := by
    rintro w F x cs ⟨v, rfl, h⟩ u hu
    rw [List.mem_singleton.1 hu]
    exact h.one
  R_mono := fun hs ⟨v, h1, h2⟩ => ⟨v, h1, NodeR.mono hs _ _ h2⟩
  R_move := fun hs ⟨v, h1, h2⟩ => ⟨v, h1, NodeR.move hs _ _ h2⟩
  R_lt := fun ⟨v, h1, h2⟩ => ⟨v, h1, NodeR.lt _ _ h2⟩
  O_mono := fun hs ⟨v, h1, h2⟩ => ⟨v, h1, NodeR.mono hs _ _ h2⟩
  O_move := fun hs ⟨v, h1, h2⟩ => ⟨v, h1, NodeR.move hs _ _ h2⟩
  O_lt := fun ⟨v, h1, h2⟩ => ⟨v, h1, NodeR.lt _ _ h2⟩
  OR := fun h => h
theorem nodes_els {T E : TypeId} {w : World} {F : Foot} : ∀ (ts : List Tm) (vs : List Value), NodesR T E w F ts vs ↔ elsR (node T E) w F ts vs
  | [], vs => Iff.rfl
  | t :: ts, vs => by
    simp only [NodesR, elsR, node]
    constructor
    · rintro ⟨v, vs', rfl, h1, h2⟩
      exact ⟨[v], vs', rfl, ⟨v, rfl, h1⟩, (nodes_els ts vs').1 h2⟩
    · rintro ⟨c, vs', rfl, ⟨v, rfl, h1⟩, h2⟩
      exact ⟨v, vs', rfl, h1, (nodes_els ts vs').2 h2⟩
/-- A node that is read: its four cells; its arguments. -/
theorem node_open {T E : TypeId} {w : World} {F : Foot} {t : Tm} {v : Value} (h : NodeR T E w F t v) :
    ∃ g A c cur fr, v = .pointer (some ⟨g, 0, none⟩) ∧ F g ∧ w.heap[g]? = some (.cells cur T fr) ∧ cur.toList = [.int .i64 t.kind, .int .i64 t.n, str t.text, .slice A t.args.length c] ∧ t.args.length ≤ c ∧ Rd (node T E) w F A t.args := by
  cases t with
  | mk k n s as =>
    simp only [NodeR] at h
    obtain ⟨g, A, c, cur, fr, h1, h2, h3, h4, h5, h6, h7⟩ := h
    refine ⟨g, A, c, cur, fr, h1, h2, h3, h4, h5, h6, h7.imp id ?_⟩
    rintro ⟨b, off, inner, hA, hb, hc, he⟩
    exact ⟨b, off, inner, hA, hb, hc, (nodes_els _ _).1 he⟩
theorem node_mk {T E : TypeId} {w : World} {F : Foot} {k n : Int} {s : List UInt8} {as : List Tm} {g : Nat} {A : Option Addr} {c : Nat} {cur : Array Value} {fr : Nat × Nat}
    (h2 : F g) (h3 : w.heap[g]? = some (.cells cur T fr)) (h4 : cur.toList = [.int .i64 k, .int .i64 n, str s, .slice A as.length c]) (h5 : as.length ≤ c) (h : Rd (node T E) w F A as) :
    NodeR T E w F (.mk k n s as) (.pointer (some ⟨g, 0, none⟩)) := by
  simp only [NodeR]
  refine ⟨g, A, c, cur, fr, rfl, h2, h3, h4, h5, h.1, h.2.imp id ?_⟩
  rintro ⟨b, off, inner, hA, hb, hc, he⟩
  exact ⟨b, off, inner, hA, hb, hc, (nodes_els _ _).2 he⟩

end Go.Sx
