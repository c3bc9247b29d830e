import Derived.Test.YtognefkopbbdnaaCore
namespace Go.Sx

/-! ### worlds -/
/-- Nothing that was there has changed, but for the blocks in A. -/
structure Chg (A : List (Option Nat)) (w w' : World) : Prop where
  os : w'.os = w.os
  tape : w'.tape = w.tape
  output : w'.output = w.output
  size : w.heap.size ≤ w'.heap.size
  block : ∀ b, b < w.heap.size → some b ∉ A → w'.heap[b]? = w.heap[b]?

theorem Chg.refl (A : List (Option Nat)) (w : World) : Chg A w w := ⟨rfl, rfl, rfl, Nat.le_refl _, fun _ _ _ => rfl⟩
theorem Chg.mono {A B : List (Option Nat)} {w w' : World} (h : Chg A w w') (hs : ∀ o, o ∈ A → o ∈ B) : Chg B w w' :=
  ⟨h.os, h.tape, h.output, h.size, fun b hb hn => h.block b hb (fun hm => hn (hs _ hm))⟩
/-- Behind a step that changes A' : each of A' is one of A, or no block of the first world. -/
theorem Chg.step {A A' : List (Option Nat)} {w w1 w2 : World} (h : Chg A w w1) (k : Chg A' w1 w2) (hs : ∀ o, o ∈ A' → o ∈ A ∨ ∀ b, o = some b → w.heap.size ≤ b) : Chg A w w2 :=
  ⟨k.os.trans h.os, k.tape.trans h.tape, k.output.trans h.output, Nat.le_trans h.size k.size, fun b hb hn =>
    (k.block b (Nat.lt_of_lt_of_le hb h.size) (fun hm => by
      rcases hs _ hm with h1 | h1
      · exact hn h1
      · have := h1 b rfl; omega)).trans (h.block b hb hn)⟩
theorem Chg.trans {A : List (Option Nat)} {w w1 w2 : World} (h : Chg A w w1) (k : Chg A w1 w2) : Chg A w w2 := h.step k fun _ ho => .inl ho
theorem Chg.alloc (w : World) (o : Obj) : Chg [] w (w.alloc o) := ⟨rfl, rfl, rfl, by simp, fun b hb _ => Go.RowKit.Below.heap_alloc w o b hb⟩
theorem Chg.drewN (w : World) (n : Nat) : Chg [] w (w.drewN n) := ⟨rfl, rfl, rfl, Nat.le_refl _, fun _ _ _ => rfl⟩
theorem Chg.setCell (w : World) (a : Addr) (v : Value) : Chg [some a.block] w (w.setCell a v) :=
  ⟨rfl, rfl, rfl, by simp [World.setCell], fun b _ hn => heap_setCell_other w a b v (fun e => hn (by simp [e]))⟩
theorem Chg.cell {A : List (Option Nat)} {w w' : World} (h : Chg A w w') {a : Addr} {v : Value} (hc : w.cell? a = some v) (hn : some a.block ∉ A) : w'.cell? a = some v :=
  (World.cell?_of_block (h.block a.block (World.block_lt_of_cell? w a hc) hn)).trans hc
theorem Chg.heap {A : List (Option Nat)} {w w' : World} (h : Chg A w w') {b : Nat} {o : Obj} (hc : w.heap[b]? = some o) (hn : some b ∉ A) : w'.heap[b]? = some o :=
  (h.block b (Array.getElem?_eq_some_iff.1 hc).1 hn).trans hc
theorem Chg.below {w w' : World} (h : Chg [] w w') : Go.RowKit.Below w.heap.size w w' := ⟨h.os, h.tape, h.output, h.size, fun b hb => h.block b hb (by simp)⟩
theorem Chg.of_below {w w' : World} (h : Go.RowKit.Below w.heap.size w w') : Chg [] w w' := ⟨h.os, h.tape, h.output, h.size, fun b hb _ => h.block b hb⟩
theorem heap_lt {w : World} {b : Nat} {o : Obj} (h : w.heap[b]? = some o) : b < w.heap.size := (Array.getElem?_eq_some_iff.1 h).1

/-! ### footprints -/
abbrev Foot := Nat → Prop
/-- of L, below hi, none of M -/
def FP (L : Foot) (hi : Nat) (M : List (Option Nat)) : Foot := fun b => L b ∧ b < hi ∧ some b ∉ M
def ge (n : Nat) : Foot := fun b => n ≤ b
def any : Foot := fun _ => True
/-- none of M -/
def off (M : List (Option Nat)) : Foot := fun b => some b ∉ M
/-- each block of M is below n -/
def Lt (M : List (Option Nat)) (n : Nat) : Prop := ∀ o, o ∈ M → ∀ b, o = some b → b < n
theorem Lt.nil (n : Nat) : Lt [] n := fun _ h => by cases h
theorem Lt.cons {M : List (Option Nat)} {n : Nat} {o : Option Nat} (h : ∀ b, o = some b → b < n) (hM : Lt M n) : Lt (o :: M) n := fun p hp => by
  rcases List.mem_cons.1 hp with rfl | hp
  · exact h
  · exact hM p hp
theorem Lt.blk {M : List (Option Nat)} {w : World} {g : Nat} {o : Obj} (h : w.heap[g]? = some o) (hM : Lt M w.heap.size) : Lt (some g :: M) w.heap.size :=
  Lt.cons (fun b hb => by injection hb with hb; subst hb; exact heap_lt h) hM
theorem Lt.le {M : List (Option Nat)} {m n : Nat} (h : Lt M m) (hmn : m ≤ n) : Lt M n := fun o ho b hb => Nat.lt_of_lt_of_le (h o ho b hb) hmn
theorem Lt.sub {M N : List (Option Nat)} {n : Nat} (h : Lt M n) (hs : ∀ o, o ∈ N → o ∈ M) : Lt N n := fun o ho => h o (hs o ho)
/-- a step that changes A leaves what avoids A -/
theorem fp_chg {L : Foot} {hi : Nat} {A M : List (Option Nat)} {w w' : World} (h : Chg A w w') (hi' : hi ≤ w.heap.size) (hs : ∀ o, o ∈ A → o ∈ M) : ∀ b, FP L hi M b → w'.heap[b]? = w.heap[b]? :=
  fun b ⟨_, g2, g3⟩ => h.block b (by omega) (fun hm => g3 (hs _ hm))
theorem fp_sub {L L' : Foot} {hi hi' : Nat} {M N : List (Option Nat)} (hL : ∀ b, L b → L' b) (h2 : hi ≤ hi') (hs : ∀ o, o ∈ N → o ∈ M ∨ o = none) : ∀ b, FP L hi M b → FP L' hi' N b :=
  fun b ⟨g1, g2, g3⟩ => ⟨hL b g1, by omega, fun hm => (hs _ hm).elim g3 (fun h => by cases h)⟩
/-- one more block to avoid: a new one -/
theorem fp_new {L : Foot} {hi : Nat} {M : List (Option Nat)} {g : Nat} (hg : hi ≤ g) : ∀ b, FP L hi M b → FP L hi (some g :: M) b :=
  fun b ⟨g1, g2, g3⟩ => ⟨g1, g2, fun hm => by
    rcases List.mem_cons.1 hm with h | h
    · injection h with h; omega
    · exact g3 h⟩
/-- what was made from n on avoids what was there -/
theorem fp_fresh {n hi : Nat} {M : List (Option Nat)} (hM : Lt M n) : ∀ b, FP (ge n) hi [] b → FP (ge n) hi M b :=
  fun b ⟨g1, g2, _⟩ => ⟨g1, g2, fun hm => by have := hM _ hm b rfl; simp only [ge] at g1; omega⟩

/-! ### kinds of data -/
structure Ty (α : Type) where
  sz : Nat
  sep : Bool
  R : World → Foot → α → List Value → Prop
  O : World → Foot → α → List Value → Prop
  R_len : ∀ {w F x cs}, R w F x cs → cs.length = sz
  R_one : ∀ {w F x cs}, R w F x cs → ∀ u ∈ cs, u.oneCell' = true
  R_mono : ∀ {w F F' x cs}, (∀ b, F b → F' b) → R w F x cs → R w F' x cs
  R_move : ∀ {w w' F x cs}, (∀ b, F b → w'.heap[b]? = w.heap[b]?) → R w F x cs → R w' F x cs
  R_lt : ∀ {w F x cs}, R w F x cs → R w (fun b => F b ∧ b < w.heap.size) x cs
  O_mono : ∀ {w F F' x cs}, (∀ b, F b → F' b) → O w F x cs → O w F' x cs
  O_move : ∀ {w w' F x cs}, (∀ b, F b → w'.heap[b]? = w.heap[b]?) → O w F x cs → O w' F x cs
  O_lt : ∀ {w F x cs}, O w F x cs → O w (fun b => F b ∧ b < w.heap.size) x cs
  OR : ∀ {w F x cs}, O w F x cs → R w F x cs

variable {α β : Type}

/-- elements one behind the other, only read -/
def elsR (d : Ty α) (w : World) (F : Foot) : List α → List Value → Prop
  | [], cs => cs = []
  | x :: xs, cs => ∃ c cs', cs = c ++ cs' ∧ d.R w F x c ∧ elsR d w F xs cs'
/-- elements of an own row -/
def elsO (d : Ty α) (w : World) : Foot → List α → List Value → Prop
  | _, [], cs => cs = []
  | F, x :: xs, cs => ∃ c cs' F1 F2, cs = c ++ cs' ∧ d.O w F1 x c ∧ elsO d w F2 xs cs' ∧ (∀ b, F1 b → ¬ F2 b) ∧ (∀ b, F1 b ∨ F2 b → F b)
def els (d : Ty α) (w : World) (F : Foot) (xs : List α) (cs : List Value) : Prop := if d.sep = true then elsO d w F xs cs else elsR d w F xs cs

section
variable {d : Ty α} {w w' : World} {F F' : Foot} {xs ys : List α} {cs cs2 : List Value}
theorem elsR_len (h : elsR d w F xs cs) : cs.length = xs.length * d.sz := by
  induction xs generalizing cs with
  | nil => cases h; simp
  | cons x xs ih =>
    obtain ⟨c, cs', rfl, h1, h2⟩ := h
    rw [List.length_append, d.R_len h1, ih h2, List.length_cons, Nat.add_mul, Nat.one_mul, Nat.add_comm]
theorem elsR_one (h : elsR d w F xs cs) : ∀ u ∈ cs, u.oneCell' = true := by
  induction xs generalizing cs with
  | nil => cases h; simp
  | cons x xs ih =>
    obtain ⟨c, cs', rfl, h1, h2⟩ := h
    intro u hu
    rcases List.mem_append.1 hu with hu | hu
    · exact d.R_one h1 u hu
    · exact ih h2 u hu
theorem elsR_mono (hs : ∀ b, F b → F' b) (h : elsR d w F xs cs) : elsR d w F' xs cs := by
  induction xs generalizing cs with
  | nil => exact h
  | cons x xs ih =>
    obtain ⟨c, cs', rfl, h1, h2⟩ := h
    exact ⟨c, cs', rfl, d.R_mono hs h1, ih h2⟩
theorem elsR_move (hs : ∀ b, F b → w'.heap[b]? = w.heap[b]?) (h : elsR d w F xs cs) : elsR d w' F xs cs := by
  induction xs generalizing cs with
  | nil => exact h
  | cons x xs ih =>
    obtain ⟨c, cs', rfl, h1, h2⟩ := h
    exact ⟨c, cs', rfl, d.R_move hs h1, ih h2⟩
theorem elsR_lt (h : elsR d w F xs cs) : elsR d w (fun b => F b ∧ b < w.heap.size) xs cs := by
  induction xs generalizing cs with
  | nil => exact h
  | cons x xs ih =>
    obtain ⟨c, cs', rfl, h1, h2⟩ := h
    exact ⟨c, cs', rfl, d.R_lt h1, ih h2⟩
theorem elsR_append (h : elsR d w F xs cs) (h2 : elsR d w F ys cs2) : elsR d w F (xs ++ ys) (cs ++ cs2) := by
  induction xs generalizing cs with
  | nil => cases h; simpa using h2
  | cons x xs ih =>
    obtain ⟨c, cs', rfl, h1, h3⟩ := h
    exact ⟨c, cs' ++ cs2, by simp, h1, ih h3⟩
theorem elsR_get (h : elsR d w F xs cs) (i : Nat) (x : α) (hx : xs[i]? = some x) : ∃ c, d.R w F x c ∧ ∀ j u, c[j]? = some u → cs[i * d.sz + j]? = some u := by
  induction xs generalizing cs i with
  | nil => simp at hx
  | cons y xs ih =>
    obtain ⟨c, cs', rfl, h1, h2⟩ := h
    have hl := d.R_len h1
    cases i with
    | zero =>
      have : y = x := by simpa using hx
      subst this
      refine ⟨c, h1, fun j u hj => ?_⟩
      have hjl := (List.getElem?_eq_some_iff.1 hj).1
      rw [Nat.zero_mul, Nat.zero_add, List.getElem?_append_left hjl]
      exact hj
    | succ i =>
      obtain ⟨c2, h3, h4⟩ := ih h2 i (by simpa using hx)
      refine ⟨c2, h3, fun j u hj => ?_⟩
      rw [List.getElem?_append_right (by rw [hl, Nat.add_mul]; omega)]
      have := h4 j u hj
      rwa [show (i + 1) * d.sz + j - c.length = i * d.sz + j by rw [hl, Nat.add_mul]; omega]
theorem elsR_take (h : elsR d w F xs cs) (n : Nat) : elsR d w F (xs.take n) (cs.take (n * d.sz)) := by
  induction xs generalizing cs n with
  | nil => cases h; simp [elsR]
  | cons y xs ih =>
    obtain ⟨c, cs', rfl, h1, h2⟩ := h
    have hl := d.R_len h1
    cases n with
    | zero => simp [elsR]
    | succ n =>
      refine ⟨c, cs'.take (n * d.sz), ?_, h1, ih h2 n⟩
      rw [List.take_append, List.take_of_length_le (by rw [hl, Nat.add_mul]; omega), hl]
      congr 2
      rw [Nat.add_mul]; omega
theorem elsR_drop (h : elsR d w F xs cs) (n : Nat) : elsR d w F (xs.drop n) (cs.drop (n * d.sz)) := by
  induction xs generalizing cs n with
  | nil => cases h; simp [elsR]
  | cons y xs ih =>
    obtain ⟨c, cs', rfl, h1, h2⟩ := h
    have hl := d.R_len h1
    cases n with
    | zero => simp only [Nat.zero_mul, List.drop_zero]; exact ⟨c, cs', rfl, h1, h2⟩
    | succ n =>
      have := ih h2 n
      have h0 : c.drop ((n + 1) * d.sz) = [] := List.drop_of_length_le (by rw [hl, Nat.add_mul]; omega)
      have h00 : (n + 1) * d.sz - d.sz = n * d.sz := by rw [Nat.add_mul]; omega
      rw [List.drop_append, h0, hl, List.nil_append, List.drop_succ_cons, h00]
      exact this

theorem elsO_R (h : elsO d w F xs cs) : elsR d w F xs cs := by
  induction xs generalizing cs F with
  | nil => exact h
  | cons x xs ih =>
    obtain ⟨c, cs', F1, F2, rfl, h1, h2, _, hs⟩ := h
    exact ⟨c, cs', rfl, d.R_mono (fun b hb => hs b (.inl hb)) (d.OR h1), elsR_mono (fun b hb => hs b (.inr hb)) (ih h2)⟩
theorem elsO_mono (hs : ∀ b, F b → F' b) (h : elsO d w F xs cs) : elsO d w F' xs cs := by
  cases xs with
  | nil => exact h
  | cons x xs =>
    obtain ⟨c, cs', F1, F2, rfl, h1, h2, h3, h4⟩ := h
    exact ⟨c, cs', F1, F2, rfl, h1, h2, h3, fun b hb => hs b (h4 b hb)⟩
theorem elsO_move (hs : ∀ b, F b → w'.heap[b]? = w.heap[b]?) (h : elsO d w F xs cs) : elsO d w' F xs cs := by
  induction xs generalizing cs F with
  | nil => exact h
  | cons x xs ih =>
    obtain ⟨c, cs', F1, F2, rfl, h1, h2, h3, h4⟩ := h
    exact ⟨c, cs', F1, F2, rfl, d.O_move (fun b hb => hs b (h4 b (.inl hb))) h1, ih (fun b hb => hs b (h4 b (.inr hb))) h2, h3, h4⟩
theorem elsO_lt (h : elsO d w F xs cs) : elsO d w (fun b => F b ∧ b < w.heap.size) xs cs := by
  induction xs generalizing cs F with
  | nil => exact h
  | cons x xs ih =>
    obtain ⟨c, cs', F1, F2, rfl, h1, h2, h3, h4⟩ := h
    exact ⟨c, cs', _, _, rfl, d.O_lt h1, ih h2, fun b hb hb2 => h3 b hb.1 hb2.1, fun b hb => by
      rcases hb with hb | hb
      · exact ⟨h4 b (.inl hb.1), hb.2⟩
      · exact ⟨h4 b (.inr hb.1), hb.2⟩⟩
/-- The old ones in F1, the new ones in F2. -/
theorem elsO_append {F1 F2 : Foot} (h : elsO d w F1 xs cs) (h2 : elsO d w F2 ys cs2) (hd : ∀ b, F1 b → ¬ F2 b) (hF : ∀ b, F1 b ∨ F2 b → F b) : elsO d w F (xs ++ ys) (cs ++ cs2) := by
  induction xs generalizing cs F1 F with
  | nil =>
    cases h
    exact elsO_mono (fun b hb => hF b (.inr hb)) (by simpa using h2)
  | cons x xs ih =>
    obtain ⟨c, cs', G1, G2, rfl, h1, h3, h4, h5⟩ := h
    refine ⟨c, cs' ++ cs2, G1, fun b => G2 b ∨ F2 b, by simp, h1, ih (F := fun b => G2 b ∨ F2 b) h3 (fun b hb => hd b (h5 b (.inr hb))) (fun b hb => hb), fun b hb hb2 => ?_, fun b hb => ?_⟩
    · rcases hb2 with hb2 | hb2
      · exact h4 b hb hb2
      · exact hd b (h5 b (.inl hb)) hb2
    · rcases hb with hb | hb | hb
      · exact hF b (.inl (h5 b (.inl hb)))
      · exact hF b (.inl (h5 b (.inr hb)))
      · exact hF b (.inr hb)
theorem elsO_take (h : elsO d w F xs cs) (n : Nat) : elsO d w F (xs.take n) (cs.take (n * d.sz)) := by
  induction xs generalizing cs n F with
  | nil => cases h; simp [elsO]
  | cons y xs ih =>
    obtain ⟨c, cs', F1, F2, rfl, h1, h2, h3, h4⟩ := h
    have hl := d.R_len (d.OR h1)
    cases n with
    | zero => simp [elsO]
    | succ n =>
      refine ⟨c, cs'.take (n * d.sz), F1, F2, ?_, h1, ih h2 n, h3, h4⟩
      rw [List.take_append, List.take_of_length_le (by rw [hl, Nat.add_mul]; omega), hl]
      congr 2
      rw [Nat.add_mul]; omega

theorem els_R (h : els d w F xs cs) : elsR d w F xs cs := by
  unfold els at h
  split at h
  · exact elsO_R h
  · exact h
theorem els_mono (hs : ∀ b, F b → F' b) (h : els d w F xs cs) : els d w F' xs cs := by
  unfold els at *
  split
  · rename_i hd; rw [if_pos hd] at h; exact elsO_mono hs h
  · rename_i hd; rw [if_neg hd] at h; exact elsR_mono hs h
theorem els_move (hs : ∀ b, F b → w'.heap[b]? = w.heap[b]?) (h : els d w F xs cs) : els d w' F xs cs := by
  unfold els at *
  split
  · rename_i hd; rw [if_pos hd] at h; exact elsO_move hs h
  · rename_i hd; rw [if_neg hd] at h; exact elsR_move hs h
theorem els_lt (h : els d w F xs cs) : els d w (fun b => F b ∧ b < w.heap.size) xs cs := by
  unfold els at *
  split
  · rename_i hd; rw [if_pos hd] at h; exact elsO_lt h
  · rename_i hd; rw [if_neg hd] at h; exact elsR_lt h
theorem els_take (h : els d w F xs cs) (n : Nat) : els d w F (xs.take n) (cs.take (n * d.sz)) := by
  unfold els at *
  split
  · rename_i hd; rw [if_pos hd] at h; exact elsO_take h n
  · rename_i hd; rw [if_neg hd] at h; exact elsR_take h n
theorem els_nil (d : Ty α) (w : World) (F : Foot) : els d w F [] [] := by unfold els; split <;> rfl
theorem els_one {x : α} (h : d.O w F x cs) : els d w F [x] cs := by
  unfold els
  split
  · exact ⟨cs, [], F, fun _ => False, by simp, h, rfl, fun _ _ h => h, fun b hb => hb.elim id False.elim⟩
  · exact ⟨cs, [], by simp, d.OR h, rfl⟩
theorem els_append {F1 F2 : Foot} (h : els d w F1 xs cs) (h2 : els d w F2 ys cs2) (hd : d.sep = true → ∀ b, F1 b → ¬ F2 b) (hF : ∀ b, F1 b ∨ F2 b → F b) : els d w F (xs ++ ys) (cs ++ cs2) := by
  unfold els at *
  split
  · rename_i hs; rw [if_pos hs] at h h2; exact elsO_append h h2 (hd hs) hF
  · rename_i hs; rw [if_neg hs] at h h2; exact elsR_append (elsR_mono (fun b hb => hF b (.inl hb)) h) (elsR_mono (fun b hb => hF b (.inr hb)) h2)
theorem els_len (h : els d w F xs cs) : cs.length = xs.length * d.sz := elsR_len (els_R h)
theorem els_one' (h : els d w F xs cs) : ∀ u ∈ cs, u.oneCell' = true := elsR_one (els_R h)
end

/-! ### scalars -/
def scal (enc : α → Value) (h1 : ∀ x, (enc x).oneCell' = true) : Ty α where
  sz := 1
  sep := false
  R := fun _ _ x cs => cs = [enc x]
  O := fun _ _ x cs => cs = [enc x]
  R_len := fun h => by rw [h]; rfl
  R_one := fun h u hu => by
    rw [h] at hu
    rw [List.mem_singleton.1 hu]
    exact h1 _
  R_mono := fun _ h => h
  R_move := fun _ h => h
  R_lt := fun h => h
  O_mono := fun _ h => h
  O_move := fun _ h => h
  O_lt := fun h => h
  OR := fun h => h
def tInt : Ty Int := scal (.int .i64) (fun _ => rfl)
def tByte : Ty UInt8 := scal (fun b => .int .u8 (b.toNat : Int)) (fun _ => rfl)
def tBool : Ty Bool := scal .bool (fun _ => rfl)
def str (l : List UInt8) : Value := .string ⟨l.toArray⟩
def tStr : Ty (List UInt8) := scal str (fun _ => rfl)

/-! ### rows -/
def thaw (fr : Nat × Nat) (n : Nat) : Prop := ∀ j, j < n → ¬ (fr.1 ≤ j ∧ j < fr.2)
/-- What is read behind a slice's header. -/
def Rd (d : Ty α) (w : World) (F : Foot) (A : Option Addr) (xs : List α) : Prop :=
  xs.length ≤ 9223372036854775807 ∧ (xs = [] ∨ ∃ b off inner, A = some ⟨b, off, none⟩ ∧ F b ∧ (∀ j u, inner[j]? = some u → w.cell? ⟨b, off + j, none⟩ = some u) ∧ elsR d w F xs inner)
/-- the block that a slice's header leads to -/
def bk (A : Option Addr) : Option Nat := A.map (·.block)
/-- A row of one's own: nil, or from a block's first cell on. -/
def Row (d : Ty α) (e : TypeId) (w : World) (F : Foot) (A : Option Addr) (cap : Nat) (xs : List α) : Prop :=
  (A = none ∧ cap = 0 ∧ xs = []) ∨
  ∃ g cur fr, A = some ⟨g, 0, none⟩ ∧ F g ∧ w.heap[g]? = some (.cells cur e fr) ∧ thaw fr cur.size ∧ xs.length ≤ cap ∧ cap ≤ 9223372036854775807 ∧ cur.size = cap * d.sz ∧
    els d w (fun b => F b ∧ b ≠ g) xs (cur.toList.take (xs.length * d.sz))

section
variable {d : Ty α} {e : TypeId} {w w' : World} {F F' : Foot} {xs ys : List α} {A : Option Addr} {cap : Nat}
theorem Rd.nil (d : Ty α) (w : World) (F : Foot) (A : Option Addr) : Rd d w F A [] := ⟨by simp, .inl rfl⟩
theorem Rd.mono (hs : ∀ b, F b → F' b) (h : Rd d w F A xs) : Rd d w F' A xs := by
  obtain ⟨h1, h2⟩ := h
  refine ⟨h1, h2.imp id ?_⟩
  rintro ⟨b, off, inner, rfl, hb, hc, he⟩
  exact ⟨b, off, inner, rfl, hs b hb, hc, elsR_mono hs he⟩
theorem Rd.move (hs : ∀ b, F b → w'.heap[b]? = w.heap[b]?) (h : Rd d w F A xs) : Rd d w' F A xs := by
  obtain ⟨h1, h2⟩ := h
  refine ⟨h1, h2.imp id ?_⟩
  rintro ⟨b, off, inner, rfl, hb, hc, he⟩
  exact ⟨b, off, inner, rfl, hb, fun j u hj => (World.cell?_of_block (hs b hb)).trans (hc j u hj), elsR_move hs he⟩
theorem Rd.lt (hd : 0 < d.sz) (h : Rd d w F A xs) : Rd d w (fun b => F b ∧ b < w.heap.size) A xs := by
  obtain ⟨h1, h2⟩ := h
  refine ⟨h1, ?_⟩
  rcases h2 with h2 | ⟨b, off, inner, rfl, hb, hc, he⟩
  · exact .inl h2
  · rcases xs with _ | ⟨x, xs⟩
    · exact .inl rfl
    · refine .inr ⟨b, off, inner, rfl, ⟨hb, ?_⟩, hc, elsR_lt he⟩
      have hl := elsR_len he
      rw [List.length_cons, Nat.add_mul, Nat.one_mul] at hl
      have h0 : 0 < inner.length := by omega
      exact World.block_lt_of_cell? w _ (hc 0 _ (List.getElem?_eq_getElem h0))
theorem Rd.get (h : Rd d w F A xs) (i : Nat) (x : α) (hx : xs[i]? = some x) : ∃ b off c, A = some ⟨b, off, none⟩ ∧ F b ∧ d.R w F x c ∧ ∀ j u, c[j]? = some u → w.cell? ⟨b, off + i * d.sz + j, none⟩ = some u := by
  obtain ⟨h1, h2⟩ := h
  rcases h2 with rfl | ⟨b, off, inner, rfl, hb, hc, he⟩
  · simp at hx
  · obtain ⟨c, hr, hj⟩ := elsR_get he i x hx
    exact ⟨b, off, c, rfl, hb, hr, fun j u hu => by rw [Nat.add_assoc]; exact hc _ u (hj j u hu)⟩

theorem Row.nil (d : Ty α) (e : TypeId) (w : World) (F : Foot) : Row d e w F none 0 [] := .inl ⟨rfl, rfl, rfl⟩
theorem Row.mono (hs : ∀ b, F b → F' b) (h : Row d e w F A cap xs) : Row d e w F' A cap xs := by
  rcases h with h | ⟨g, cur, fr, h1, h2, h3, h4, h5, h6, h7, h8⟩
  · exact .inl h
  · exact .inr ⟨g, cur, fr, h1, hs g h2, h3, h4, h5, h6, h7, els_mono (fun b hb => ⟨hs b hb.1, hb.2⟩) h8⟩
theorem Row.move (hs : ∀ b, F b → w'.heap[b]? = w.heap[b]?) (h : Row d e w F A cap xs) : Row d e w' F A cap xs := by
  rcases h with h | ⟨g, cur, fr, h1, h2, h3, h4, h5, h6, h7, h8⟩
  · exact .inl h
  · exact .inr ⟨g, cur, fr, h1, h2, (hs g h2).trans h3, h4, h5, h6, h7, els_move (fun b hb => hs b hb.1) h8⟩
theorem Row.lt (h : Row d e w F A cap xs) : Row d e w (fun b => F b ∧ b < w.heap.size) A cap xs := by
  rcases h with h | ⟨g, cur, fr, h1, h2, h3, h4, h5, h6, h7, h8⟩
  · exact .inl h
  · exact .inr ⟨g, cur, fr, h1, ⟨h2, heap_lt h3⟩, h3, h4, h5, h6, h7, els_mono (fun b hb => ⟨⟨hb.1.1, hb.2⟩, hb.1.2⟩) (els_lt h8)⟩
theorem Row.own (h : Row d e w F A cap xs) (g : Nat) (hg : bk A = some g) : F g ∧ g < w.heap.size := by
  rcases h with ⟨rfl, _⟩ | ⟨g', cur, fr, rfl, h2, h3, _⟩
  · simp [bk] at hg
  · have : g' = g := by simpa [bk] using hg
    subst this
    exact ⟨h2, heap_lt h3⟩
theorem Row.le (h : Row d e w F A cap xs) : xs.length ≤ cap := by
  rcases h with ⟨rfl, rfl, rfl⟩ | ⟨g, cur, fr, _, _, _, _, h5, _⟩
  · simp
  · exact h5
theorem Row.rd (h : Row d e w F A cap xs) : Rd d w F A xs := by
  rcases h with ⟨rfl, rfl, rfl⟩ | ⟨g, cur, fr, rfl, h2, h3, h4, h5, h6, h7, h8⟩
  · exact Rd.nil _ _ _ _
  · refine ⟨by omega, .inr ⟨g, 0, _, rfl, h2, fun j u hj => ?_, elsR_mono (fun b hb => hb.1) (els_R h8)⟩⟩
    rw [Nat.zero_add, cell_of_row w g j cur e fr h3]
    rw [List.getElem?_take] at hj
    split at hj
    · simpa using hj
    · cases hj
/-- v[:n] -/
theorem Row.cut {n : Nat} (h : Row d e w F A cap xs) (hn : n ≤ xs.length) : Row d e w F A cap (xs.take n) := by
  rcases h with ⟨h1, h2, rfl⟩ | ⟨g, cur, fr, h1, h2, h3, h4, h5, h6, h7, h8⟩
  · exact .inl ⟨h1, h2, by simp⟩
  · refine .inr ⟨g, cur, fr, h1, h2, h3, h4, by rw [List.length_take]; omega, h6, h7, ?_⟩
    have := els_take h8 n
    rw [List.take_take, Nat.min_eq_left (Nat.mul_le_mul_right _ hn)] at this
    rw [List.length_take, Nat.min_eq_left hn]
    exact this
end

end Go.Sx
