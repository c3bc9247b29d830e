import Derived.Test.YtdkbfcmekppnmaaDoorWkQa2
import Derived.Test.YtdkbfcmekppnmaaDoorZ3
namespace Go.Proofs.YtdkbfcmekppnmaaDoor
open Go.Sx Go.Sy
set_option linter.unusedVariables false
set_option linter.unusedSimpArgs false
set_option linter.unusedSectionVars false
set_option maxRecDepth 4000
/-! ### characters -/
theorem w1 {p : Nat} (h : p ≤ 1000000) : IntKind.i64.wrap ((p : Int) + 1) = ((p + 1 : Nat) : Int) := by rw [wrap_id (by omega) (by omega)]; omega
theorem w2 {p : Nat} (h : p ≤ 1000000) : IntKind.i64.wrap ((p : Int) + 2) = ((p + 2 : Nat) : Int) := by rw [wrap_id (by omega) (by omega)]; omega
theorem w3 {p : Nat} (h : p ≤ 1000000) : IntKind.i64.wrap ((p : Int) + 3) = ((p + 3 : Nat) : Int) := by rw [wrap_id (by omega) (by omega)]; omega
theorem w4 {p : Nat} (h : p ≤ 1000000) : IntKind.i64.wrap ((p : Int) + 4) = ((p + 4 : Nat) : Int) := by rw [wrap_id (by omega) (by omega)]; omega
theorem wa {p i : Nat} (h : p ≤ 1000000) (h2 : i ≤ 1000000) : IntKind.i64.wrap ((p : Int) + (i : Int)) = ((p + i : Nat) : Int) := by rw [wrap_id (by omega) (by omega)]; omega
theorem ws {p i : Nat} (h : p ≤ 1000000) (h2 : i ≤ p) : IntKind.i64.wrap ((p : Int) - (i : Int)) = ((p - i : Nat) : Int) := by rw [wrap_id (by omega) (by omega)]; omega
theorem digit_eq (x : UInt8) : impl_isDigit.f x = spec_l1digit.f x := rfl
theorem small_eq (x : UInt8) : impl_isSmall.f x = spec_l1small.f x := rfl
def digitB (x : UInt8) : Bool := (spec_l1digit.f x).getD false
def smallB (x : UInt8) : Bool := (spec_l1small.f x).getD false
def alnumB (x : UInt8) : Bool := (spec_l1alnum.f x).getD false
def letterB (x : UInt8) : Bool := (impl_isLetter.f x).getD false
def symB (x : UInt8) : Bool := (impl_isSymbol.f x).getD false
theorem digitB_val (x : UInt8) : spec_l1digit.f x = some (digitB x) := by
  unfold digitB spec_l1digit.f; (repeat' split) <;> rfl
theorem smallB_val (x : UInt8) : spec_l1small.f x = some (smallB x) := by
  unfold smallB spec_l1small.f; (repeat' split) <;> rfl
theorem alnumB_val (x : UInt8) : spec_l1alnum.f x = some (alnumB x) := by
  unfold alnumB spec_l1alnum.f; simp only [smallB_val, digitB_val, Option.bind_some]; (repeat' split) <;> rfl
theorem letterB_val (x : UInt8) : impl_isLetter.f x = some (letterB x) := by
  unfold letterB impl_isLetter.f; simp only [small_eq, smallB_val, Option.bind_some]; (repeat' split) <;> rfl
theorem ite_ex {c : Prop} [Decidable c] {a b : Option Bool} (h1 : ∃ x, a = some x) (h2 : ∃ x, b = some x) : ∃ x, (if c then a else b) = some x := by split <;> assumption
theorem symB_val (x : UInt8) : impl_isSymbol.f x = some (symB x) := by
  obtain ⟨b, hb⟩ : ∃ b, impl_isSymbol.f x = some b := by
    unfold impl_isSymbol.f
    iterate 17 (refine ite_ex ⟨_, rfl⟩ ?_)
    exact ⟨_, rfl⟩
  unfold symB; rw [hb]; rfl
theorem alnum_split (x : UInt8) : alnumB x = (letterB x || digitB x) := by
  unfold alnumB letterB spec_l1alnum.f impl_isLetter.f
  simp only [small_eq, smallB_val, digitB_val, Option.bind_some]
  by_cases h1 : smallB x = true
  · simp [h1]
  · by_cases h2 : (x.toNat : Int) ≥ 65 <;> by_cases h3 : (x.toNat : Int) ≤ 90 <;> by_cases h4 : (x.toNat : Int) = 95 <;> simp [h1, h2, h3, h4]
theorem alnum_eq (x : UInt8) : impl_isAlnum.f x = some (alnumB x) := by
  rw [impl_isAlnum.f, letterB_val, Option.bind_some, digit_eq, digitB_val, Option.bind_some, alnum_split]
  cases letterB x <;> simp
theorem letter_small (x : UInt8) (h : letterB x = false) : smallB x = false := by
  unfold letterB impl_isLetter.f at h
  simp only [small_eq, smallB_val, Option.bind_some] at h
  cases hs : smallB x
  · rfl
  · simp [hs] at h
theorem b8_toNat {n : Int} (h0 : 0 ≤ n) (h1 : n < 256) : (b8 n).toNat = n.toNat := by
  rw [b8, UInt8.toNat_ofNat']; simp; omega
theorem sym_step (k : Nat) (x c : UInt8) (i : Nat) (hi : i < 17) (hc : ([43, 45, 42, 47, 92, 94, 60, 62, 61, 126, 58, 46, 63, 64, 35, 38, 36] : List UInt8).getD i (0 : UInt8) = c) :
    spec_l1symbol.l0 (k + 1) x (i : Int) = if (x.toNat : Int) = (c.toNat : Int) then some true else spec_l1symbol.l0 k x ((i + 1 : Nat) : Int) := by
  rw [spec_l1symbol.l0, if_pos (by simp; omega), if_pos (by omega), Int.toNat_natCast, hc, w1 (by omega)]
  by_cases h : (x.toNat : Int) = (c.toNat : Int)
  · rw [if_pos h, if_pos h.symm]
  · rw [if_neg h, if_neg (fun q => h q.symm)]
theorem symbol_val (k : Nat) (hk : 18 ≤ k) (x : UInt8) : spec_l1symbol.f k x = some (symB x) := by
  obtain ⟨k, rfl⟩ : ∃ q, k = q + 18 := ⟨k - 18, by omega⟩
  rw [← symB_val, spec_l1symbol.f, impl_isSymbol.f]
  show spec_l1symbol.l0 (k + 18) x ((0 : Nat) : Int) = _
  rw [sym_step _ x 43 0 (by omega) rfl, sym_step _ x 45 1 (by omega) rfl, sym_step _ x 42 2 (by omega) rfl, sym_step _ x 47 3 (by omega) rfl, sym_step _ x 92 4 (by omega) rfl, sym_step _ x 94 5 (by omega) rfl, sym_step _ x 60 6 (by omega) rfl, sym_step _ x 62 7 (by omega) rfl, sym_step _ x 61 8 (by omega) rfl, sym_step _ x 126 9 (by omega) rfl, sym_step _ x 58 10 (by omega) rfl, sym_step _ x 46 11 (by omega) rfl, sym_step _ x 63 12 (by omega) rfl, sym_step _ x 64 13 (by omega) rfl, sym_step _ x 35 14 (by omega) rfl, sym_step _ x 38 15 (by omega) rfl, sym_step _ x 36 16 (by omega) rfl, spec_l1symbol.l0]
  rfl
theorem ch_eq {c d : UInt8} (h : (c.toNat : Int) = (d.toNat : Int)) : c = d := UInt8.toNat_inj.1 (by omega)
/-! ### bytes: copies, marks -/
theorem toByteS_id (xs : List UInt8) (k : Nat) (hl : xs.length ≤ 1048576) (hk : xs.length < k) : laws_toByteS.f k xs = some xs := by
  rw [laws_toByteS.f, if_pos (by omega), if_pos (by omega)]
  exact toF (z := 0) (fun k i ys => laws_toByteS.l0 k xs i ys) (fun _ _ _ => rfl) (by omega) k hk _ (by simp)
theorem eqByteS_id (xs : List UInt8) (k : Nat) (hl : xs.length ≤ 1048576) (hk : xs.length < k) : laws_eqByteS.f k xs xs = some true := by
  rw [laws_eqByteS.f, if_neg (by simp)]
  exact eqF (z := 0) (fun k i => laws_eqByteS.l0 k xs xs i) (fun _ _ => rfl) (by omega) k hk
def PB (n m : Int) (x : UInt8) : Prop := m = n + 1 ∧ x = b8 n
theorem markByteS_val (xs : List UInt8) (k : Nat) (n : Int) (hl : xs.length ≤ 1048576) (hk : 1048577 < k) (h0 : 0 ≤ n) (hn : n ≤ 8000000000000000000) :
    ∃ ys, laws_markByteS_2.f k xs n = some (n + (xs.length : Int), ys) ∧ ys.length = xs.length ∧ HL PB n (n + (xs.length : Int)) ys := by
  rw [laws_markByteS_2.f]
  have e : wts (fun _ : UInt8 => 1) xs = xs.length := by
    induction xs with
    | nil => rfl
    | cons x xs ih => rw [wts_cons, ih (by simp at hl; omega), List.length_cons]; omega
  have := markL (U := 9000000000000000000) (P := PB) (B := 0) (z := (0 : UInt8)) (w := fun _ => 1) (xs := xs) (fun k n i ys => laws_markByteS_2.l0 k xs n i ys) (fun _ _ n => if n + 1 ≤ 9000000000000000000 ∧ 0 ≤ n then some (n + 1, b8 n) else some (IntKind.i64.wrap (n + 1), b8 n))
    (fun k n i ys hi hy => by
      show laws_markByteS_2.l0 (k + 1) xs n i ys = _
      rw [laws_markByteS_2.l0, if_pos (by omega), if_pos (by omega), Int.toNat_natCast]
      by_cases hh : n + 1 ≤ 9000000000000000000 ∧ 0 ≤ n
      · rw [if_pos hh, Option.bind_some, wrap_id (n := n + 1) (by omega) (by omega)]
      · rw [if_neg hh, Option.bind_some])
    (fun k n ys => by
      show laws_markByteS_2.l0 (k + 1) xs n xs.length ys = _
      rw [laws_markByteS_2.l0, if_neg (by omega)])
    (by omega) (fun x _ k _ n q0 q1 => ⟨b8 n, by rw [if_pos ⟨q1, q0⟩]; rfl, rfl, rfl⟩) k (by omega) n h0 (by rw [e]; omega)
  rw [e] at this
  exact this
theorem getD_set_self {α : Type} {ys : List α} {i : Nat} {x z : α} (h : i < ys.length) : (ys.set i x).getD i z = x := by
  rw [List.getD_eq_getElem?_getD, List.getElem?_set_self h]; rfl
theorem heldByteS_val (xs : List UInt8) (k : Nat) (n m : Int) (hl : xs.length ≤ 1048576) (hk : 1048577 < k) (h0 : 0 ≤ n) (hm : m ≤ 9000000000000000000) (h : HL PB n m xs) : laws_heldByteS.f k xs n = some m ∧ n ≤ m := by
  rw [laws_heldByteS.f]
  have key : ∀ (q k i : Nat) (n : Int), xs.length - i = q → i ≤ xs.length → q < k → 0 ≤ n → HL PB n m (xs.drop i) → laws_heldByteS.l0 k xs n (i : Int) = some m ∧ n ≤ m := by
    intro q
    induction q with
    | zero =>
      intro k i n h1 h2 h3 h4 h5
      obtain ⟨k, rfl⟩ : ∃ q, k = q + 1 := ⟨k - 1, by omega⟩
      rw [List.drop_of_length_le (by omega)] at h5
      cases h5
      rw [laws_heldByteS.l0, if_neg (by omega)]
      exact ⟨rfl, Int.le_refl _⟩
    | succ q ih =>
      intro k i n h1 h2 h3 h4 h5
      obtain ⟨k, rfl⟩ : ∃ q, k = q + 1 := ⟨k - 1, by omega⟩
      have hi : i < xs.length := by omega
      rw [List.drop_eq_getElem_cons hi] at h5
      cases h5 with
      | cons p hr =>
        obtain ⟨rfl, p2⟩ := p
        have hle : n + 1 ≤ m := hr.le (fun _ _ _ h => by have := h.1; omega)
        rw [laws_heldByteS.l0, if_pos (by omega), if_pos (by omega), Int.toNat_natCast, getD_at hi, p2, if_neg (by simp), wrap_nat (by omega), wrap_id (n := n + 1) (by omega) (by omega)]
        obtain ⟨f1, f2⟩ := ih k (i + 1) (n + 1) (by omega) (by omega) (by omega) (by omega) hr
        exact ⟨f1, by omega⟩
  exact key xs.length k 0 n rfl (by omega) (by omega) h0 h

/-! ### quoted atoms -/
theorem all_bytes {p : UInt8 → Prop} (h : ∀ n : Fin 256, p (UInt8.ofNat n.1)) (b : UInt8) : p b := by
  have := h ⟨b.toNat, b.toNat_lt⟩
  simpa using this
def hexL : List UInt8 := [48, 49, 50, 51, 52, 53, 54, 55, 56, 57, 97, 98, 99, 100, 101, 102]
def hx1 (c : UInt8) : UInt8 := hexL.getD (c.toNat / 16) 0
def hx0 (c : UInt8) : UInt8 := hexL.getD (c.toNat % 16) 0
theorem rune_val (c : UInt8) : c.toNat ≤ 126 → runeS (IntKind.i32.wrap ((c.toNat : Int))) = [c] :=
  all_bytes (p := fun c => c.toNat ≤ 126 → runeS (IntKind.i32.wrap ((c.toNat : Int))) = [c]) (by decide +kernel) c
theorem hex2_val (c : UInt8) : impl_hex2.f c = some [hx1 c, hx0 c] := all_bytes (p := fun c => impl_hex2.f c = some [hx1 c, hx0 c]) (by decide +kernel) c
theorem hq1 (c : UInt8) : 0 ≤ ((b8 (Int.tdiv (c.toNat : Int) 16)).toNat : Int) ∧ ((b8 (Int.tdiv (c.toNat : Int) 16)).toNat : Int) < 16 ∧ hexL.getD ((b8 (Int.tdiv (c.toNat : Int) 16)).toNat : Int).toNat 0 = hx1 c :=
  all_bytes (p := fun c => 0 ≤ ((b8 (Int.tdiv (c.toNat : Int) 16)).toNat : Int) ∧ ((b8 (Int.tdiv (c.toNat : Int) 16)).toNat : Int) < 16 ∧ hexL.getD ((b8 (Int.tdiv (c.toNat : Int) 16)).toNat : Int).toNat 0 = hx1 c) (by decide +kernel) c
theorem hq0 (c : UInt8) : 0 ≤ ((b8 (Int.tmod (c.toNat : Int) 16)).toNat : Int) ∧ ((b8 (Int.tmod (c.toNat : Int) 16)).toNat : Int) < 16 ∧ hexL.getD ((b8 (Int.tmod (c.toNat : Int) 16)).toNat : Int).toNat 0 = hx0 c :=
  all_bytes (p := fun c => 0 ≤ ((b8 (Int.tmod (c.toNat : Int) 16)).toNat : Int) ∧ ((b8 (Int.tmod (c.toNat : Int) 16)).toNat : Int) < 16 ∧ hexL.getD ((b8 (Int.tmod (c.toNat : Int) 16)).toNat : Int).toNat 0 = hx0 c) (by decide +kernel) c
/-- what stands for a character between quotes -/
def pc (c : UInt8) : List UInt8 :=
  if (c.toNat : Int) = 39 then [92, c] else if (c.toNat : Int) = 92 then [92, c] else if (c.toNat : Int) = 10 then [92, 110] else if (c.toNat : Int) = 9 then [92, 116]
  else if (c.toNat : Int) < 32 then [92, 120, hx1 c, hx0 c, 92] else if (c.toNat : Int) > 126 then [92, 120, hx1 c, hx0 c, 92] else [c]
theorem pc_len (c : UInt8) : 1 ≤ (pc c).length ∧ (pc c).length ≤ 5 := by
  unfold pc; (repeat' split) <;> simp
theorem pcs_len (y : List UInt8) : (y.flatMap pc).length ≤ 5 * y.length := by
  induction y with
  | nil => simp
  | cons c y ih =>
    have := pc_len c
    rw [List.flatMap_cons, List.length_append, List.length_cons]; omega
theorem iq_step (k : Nat) (x acc : List UInt8) (i : Nat) (hi : i < x.length) (hx : x.length ≤ 1000) (ha : acc.length ≤ 1000000) :
    impl_quoted.l0 (k + 1) x acc (i : Int) = impl_quoted.l0 k x (acc ++ pc (x.getD i 0)) ((i + 1 : Nat) : Int) := by
  rw [impl_quoted.l0, if_pos (by omega), if_pos (by omega), Int.toNat_natCast, w1 (by omega), hex2_val]
  have hr := rune_val (x.getD i 0)
  generalize x.getD i 0 = c at *
  unfold pc
  simp only [Option.bind_some, List.length_append, List.length_cons, List.length_nil]
  by_cases h1 : (c.toNat : Int) = 39
  · rw [if_pos h1, if_pos h1, hr (by omega), if_pos (by simp), if_pos (by simp; omega)]; rfl
  rw [if_neg h1, if_neg h1]
  by_cases h2 : (c.toNat : Int) = 92
  · rw [if_pos h2, if_pos h2, hr (by omega), if_pos (by simp), if_pos (by simp; omega)]; rfl
  rw [if_neg h2, if_neg h2]
  by_cases h3 : (c.toNat : Int) = 10
  · rw [if_pos h3, if_pos h3, if_pos (by omega)]
  rw [if_neg h3, if_neg h3]
  by_cases h4 : (c.toNat : Int) = 9
  · rw [if_pos h4, if_pos h4, if_pos (by omega)]
  rw [if_neg h4, if_neg h4]
  by_cases h5 : (c.toNat : Int) < 32
  · rw [if_pos h5, if_pos h5, if_pos (by omega), if_pos (by omega), if_pos (by omega)]; rfl
  rw [if_neg h5, if_neg h5]
  by_cases h6 : (c.toNat : Int) > 126
  · rw [if_pos h6, if_pos h6, if_pos (by omega), if_pos (by omega), if_pos (by omega)]; rfl
  rw [if_neg h6, if_neg h6, hr (by omega), if_pos (by simp; omega)]
theorem iq_end (k : Nat) (x acc : List UInt8) (ha : acc.length ≤ 1000000) : impl_quoted.l0 (k + 1) x acc (x.length : Int) = some (acc ++ [39]) := by
  rw [impl_quoted.l0, if_neg (by omega), if_pos (by simp; omega)]
theorem sq_step (k : Nat) (x acc : List UInt8) (i : Nat) (hi : i < x.length) (hx : x.length ≤ 1000) (ha : acc.length ≤ 1000000) :
    spec_l1quoted.l0 (k + 1) x acc (i : Int) = spec_l1quoted.l0 k x (acc ++ pc (x.getD i 0)) ((i + 1 : Nat) : Int) := by
  rw [spec_l1quoted.l0, if_pos (by omega), if_pos (by omega), Int.toNat_natCast, w1 (by omega)]
  obtain ⟨a1, a2, a3⟩ := hq1 (x.getD i 0)
  obtain ⟨c1, c2, c3⟩ := hq0 (x.getD i 0)
  generalize x.getD i 0 = c at *
  unfold pc
  unfold hexL at a3 c3
  by_cases h1 : (c.toNat : Int) = 39
  · rw [if_pos h1, if_pos h1, if_pos (by omega)]
  rw [if_neg h1, if_neg h1]
  by_cases h2 : (c.toNat : Int) = 92
  · rw [if_pos h2, if_pos h2, if_pos (by omega)]
  rw [if_neg h2, if_neg h2]
  by_cases h3 : (c.toNat : Int) = 10
  · rw [if_pos h3, if_pos h3, if_pos (by omega)]
  rw [if_neg h3, if_neg h3]
  by_cases h4 : (c.toNat : Int) = 9
  · rw [if_pos h4, if_pos h4, if_pos (by omega)]
  rw [if_neg h4, if_neg h4]
  by_cases h5 : (c.toNat : Int) < 32
  · rw [if_pos h5, if_pos h5, if_pos a1, if_pos (by simpa using a2), if_pos c1, if_pos (by simpa using c2), if_pos (by omega), a3, c3]
  rw [if_neg h5, if_neg h5]
  by_cases h6 : (c.toNat : Int) > 126
  · rw [if_pos h6, if_pos h6, if_pos a1, if_pos (by simpa using a2), if_pos c1, if_pos (by simpa using c2), if_pos (by omega), a3, c3]
  rw [if_neg h6, if_neg h6, if_pos (by omega)]
theorem sq_end (k : Nat) (x acc : List UInt8) (ha : acc.length ≤ 1000000) : spec_l1quoted.l0 (k + 1) x acc (x.length : Int) = some (acc ++ [39]) := by
  rw [spec_l1quoted.l0, if_neg (by omega), if_pos (by omega)]
theorem quote_both (x : List UInt8) (hx : x.length ≤ 1000) : ∀ (m i k k' : Nat) (acc : List UInt8), i + m = x.length → acc.length ≤ 5 * i + 1 → m < k → m < k' →
    impl_quoted.l0 k x acc (i : Int) = some (acc ++ (x.drop i).flatMap pc ++ [39]) ∧ spec_l1quoted.l0 k' x acc (i : Int) = some (acc ++ (x.drop i).flatMap pc ++ [39]) := by
  intro m
  induction m with
  | zero =>
    intro i k k' acc h ha hk hk'
    obtain ⟨k, rfl⟩ : ∃ q, k = q + 1 := ⟨k - 1, by omega⟩
    obtain ⟨k', rfl⟩ : ∃ q, k' = q + 1 := ⟨k' - 1, by omega⟩
    obtain rfl : i = x.length := by omega
    rw [iq_end _ _ _ (by omega), sq_end _ _ _ (by omega)]
    simp
  | succ m ih =>
    intro i k k' acc h ha hk hk'
    obtain ⟨k, rfl⟩ : ∃ q, k = q + 1 := ⟨k - 1, by omega⟩
    obtain ⟨k', rfl⟩ : ∃ q, k' = q + 1 := ⟨k' - 1, by omega⟩
    have hi : i < x.length := by omega
    have hp := pc_len (x.getD i 0)
    rw [iq_step _ _ _ _ hi hx (by omega), sq_step _ _ _ _ hi hx (by omega)]
    obtain ⟨e1, e2⟩ := ih (i + 1) k k' (acc ++ pc (x.getD i 0)) (by omega) (by rw [List.length_append]; omega) (by omega) (by omega)
    rw [e1, e2, List.drop_eq_getElem_cons hi, List.flatMap_cons]
    have hg : x.getD i 0 = x[i] := by rw [List.getD_eq_getElem?_getD, List.getElem?_eq_getElem hi]; rfl
    rw [hg]
    simp [List.append_assoc]
/-! ### plain atoms -/
theorem run_l0 (xs : List UInt8) (s : Bool) (hl : xs.length < 1000) : ∀ (m k i : Nat), xs.length - i = m → i ≤ xs.length → m + 20 < k →
    ∃ t : Int, spec_l1run.l0 k xs 0 s (i : Int) = some t ∧ decide (t = (xs.length : Int)) = (xs.drop i).all (fun b => if s then symB b else alnumB b) := by
  intro m
  induction m with
  | zero =>
    intro k i h1 h2 h3
    obtain ⟨k, rfl⟩ : ∃ q, k = q + 1 := ⟨k - 1, by omega⟩
    rw [spec_l1run.l0, wrap_id (n := 0 + (i : Int)) (by omega) (by omega), if_neg (by omega)]
    refine ⟨_, rfl, ?_⟩
    rw [List.drop_of_length_le (by omega)]
    simp; omega
  | succ m ih =>
    intro k i h1 h2 h3
    obtain ⟨k, rfl⟩ : ∃ q, k = q + 1 := ⟨k - 1, by omega⟩
    have hi : i < xs.length := by omega
    have hg : xs.getD i 0 = xs[i] := by rw [List.getD_eq_getElem?_getD, List.getElem?_eq_getElem hi]; rfl
    obtain ⟨t, e1, e2⟩ := ih k (i + 1) (by omega) (by omega) (by omega)
    rw [spec_l1run.l0, wrap_id (n := 0 + (i : Int)) (by omega) (by omega), Int.zero_add, if_pos (by omega), w1 (by omega), Int.toNat_natCast, hg, symbol_val _ (by omega), alnumB_val, List.drop_eq_getElem_cons hi, List.all_cons]
    have hno : ∀ t : Int, t = (i : Int) → decide (t = (xs.length : Int)) = false := fun t ht => by simp; omega
    cases s with
    | true =>
      rw [if_pos rfl, if_pos (by omega), Option.bind_some]
      by_cases h : symB xs[i] = true
      · rw [if_pos h, e1]; exact ⟨t, rfl, by rw [e2]; simp [h]⟩
      · rw [if_neg h, if_neg (by simp)]; exact ⟨_, rfl, by rw [hno _ rfl]; simp [h]⟩
    | false =>
      rw [if_neg (by simp), if_pos (by simp), if_pos (by omega), Option.bind_some]
      by_cases h : alnumB xs[i] = true
      · rw [if_pos h, e1]; exact ⟨t, rfl, by rw [e2]; simp [h]⟩
      · rw [if_neg h]; exact ⟨_, rfl, by rw [hno _ rfl]; simp [h]⟩
theorem run_val (xs : List UInt8) (s : Bool) (k : Nat) (hl : xs.length ≤ 100) (hk : 200 < k) : ∃ t : Int, spec_l1run.f k xs 0 s = some t ∧ decide (t = (xs.length : Int)) = xs.all (fun b => if s then symB b else alnumB b) := by
  rw [spec_l1run.f]
  exact run_l0 xs s (by omega) xs.length k 0 rfl (by omega) (by omega)
theorem plain_l (xs : List UInt8) (hl : xs.length < 1000) (h0 : 0 < xs.length) : ∀ (m k i : Nat), xs.length - i = m → i ≤ xs.length → m < k →
    impl_plain.l2 k xs (i : Int) = some ((xs.drop i).all (fun b => if smallB (xs.getD 0 0) then alnumB b else symB b)) ∧ impl_plain.l3 k xs (i : Int) = some ((xs.drop i).all (fun b => if smallB (xs.getD 0 0) then alnumB b else symB b)) := by
  intro m
  induction m with
  | zero =>
    intro k i h1 h2 h3
    obtain ⟨k, rfl⟩ : ∃ q, k = q + 1 := ⟨k - 1, by omega⟩
    rw [impl_plain.l2, impl_plain.l3, if_neg (by omega), if_neg (by omega), List.drop_of_length_le (by omega)]
    exact ⟨rfl, rfl⟩
  | succ m ih =>
    intro k i h1 h2 h3
    obtain ⟨k, rfl⟩ : ∃ q, k = q + 1 := ⟨k - 1, by omega⟩
    have hi : i < xs.length := by omega
    have hg : xs.getD i 0 = xs[i] := by rw [List.getD_eq_getElem?_getD, List.getElem?_eq_getElem hi]; rfl
    obtain ⟨e1, e2⟩ := ih k (i + 1) (by omega) (by omega) (by omega)
    have hz : ((0 : Int)).toNat = 0 := rfl
    rw [impl_plain.l2, impl_plain.l3, w1 (by omega), Int.toNat_natCast, hg, hz, small_eq, smallB_val, alnum_eq, symB_val, e1, e2, List.drop_eq_getElem_cons hi, List.all_cons]
    simp only [Option.bind_some]
    rw [if_pos (show (i : Int) < (xs.length : Int) by omega), if_pos (show (0 : Int) < (xs.length : Int) by omega), if_pos (show (0 : Int) ≤ (i : Int) by omega)]
    cases smallB (xs.getD 0 0) <;> cases alnumB xs[i] <;> cases symB xs[i] <;> simp
theorem take2 {xs : List UInt8} (h : 1 < xs.length) (h2 : xs.take 2 = [47, 42]) : xs.getD 0 0 = 47 := by
  rcases xs with _ | ⟨a, _ | ⟨b, xs⟩⟩
  · simp at h
  · simp at h
  · simp at h2; simp [h2.1]
/-- plain, in plain words -/
def plainB (xs : List UInt8) : Bool :=
  if xs = [33] ∨ xs = [59] ∨ xs = [91, 93] ∨ xs = [123, 125] then true
  else if xs = [] ∨ xs = [46] ∨ 100 < xs.length ∨ (1 < xs.length ∧ xs.take 2 = [47, 42]) then false
  else xs.all (fun b => if smallB (xs.getD 0 0) then alnumB b else symB b)
theorem plain_i (xs : List UInt8) (k : Nat) (hk : 2000 < k) (hl : xs.length ≤ 1048576) : impl_plain.f k xs = some (plainB xs) := by
  unfold plainB
  rw [impl_plain.f]
  by_cases h1 : xs = [33]
  · subst h1; rfl
  by_cases h2 : xs = [59]
  · subst h2; rfl
  by_cases h3 : xs = [91, 93]
  · subst h3; rfl
  by_cases h4 : xs = [123, 125]
  · subst h4; rfl
  rw [if_neg h1, if_neg h2, if_neg h3, if_neg (by simp [h1, h2, h3, h4]), decide_eq_false h4, impl_plain.l0, if_neg (by simp)]
  by_cases h5 : xs = []
  · subst h5; rfl
  rw [if_neg h5, impl_plain.l1]
  by_cases h6 : xs = [46]
  · subst h6; rfl
  rw [decide_eq_false h6, if_neg (by simp)]
  have h0 : 0 < xs.length := List.length_pos_iff.2 h5
  by_cases h : 100 < xs.length
  · rw [if_pos (by omega), if_pos (by simp [h])]
  rw [if_neg (by omega)]
  obtain ⟨e1, e2⟩ := plain_l xs (by omega) h0 xs.length k 0 rfl (by omega) (by omega)
  have hz : ((2 : Int)).toNat = 2 := rfl
  by_cases h7 : xs.length > 1
  · rw [if_pos (by omega), if_pos (by omega), hz]
    by_cases h8 : xs.take 2 = [47, 42]
    · rw [if_pos h8, if_pos (by simp [h7, h8])]
    · rw [if_neg h8, if_neg (by simp [h5, h6, h7, h8]; omega)]
      exact e1
  · rw [if_neg (by omega), if_neg (by simp [h5, h6]; omega)]
    exact e2
theorem plain_s (xs : List UInt8) (k : Nat) (hk : 2000 < k) (hl : xs.length ≤ 1048576) (h33 : ∀ h : xs.length > 100, True) : spec_IsPlain.f k xs = some (plainB xs) := by
  have hz : ((2 : Int)).toNat = 2 := rfl
  unfold plainB
  rw [spec_IsPlain.f]
  by_cases h0 : xs = []
  · subst h0; rfl
  have hp : 0 < xs.length := List.length_pos_iff.2 h0
  rw [if_neg (by omega)]
  by_cases hb : xs.length > 100
  · rw [if_pos (by omega), if_neg (by rintro (h | h | h | h) <;> subst h <;> simp at hb), if_pos (by simp [hb])]
  rw [if_neg (by omega)]
  by_cases h1 : xs = [33]
  · subst h1; rfl
  by_cases h2 : xs = [59]
  · subst h2; rfl
  by_cases h3 : xs = [91, 93]
  · subst h3; rfl
  by_cases h4 : xs = [123, 125]
  · subst h4; rfl
  have hR : ¬ (xs = [33] ∨ xs = [59] ∨ xs = [91, 93] ∨ xs = [123, 125]) := by simp [h1, h2, h3, h4]
  rw [if_neg h1, if_neg h2, if_neg h3, if_neg h4, if_neg hR, if_pos (show (0 : Int) < (xs.length : Int) by omega), smallB_val, Option.bind_some]
  obtain ⟨t1, a1, a2⟩ := run_val xs true k (by omega) (by omega)
  obtain ⟨t2, b1, b2⟩ := run_val xs false k (by omega) (by omega)
  rw [a1, b1, hz]
  simp only [Option.bind_some, a2, b2]
  have hnp : smallB (xs.getD 0 0) = true → ¬ (1 < xs.length ∧ xs.take 2 = [47, 42]) := fun hs h => by
    have := take2 h.1 h.2
    rw [this] at hs
    exact absurd hs (by decide +kernel)
  by_cases hd : xs = [46]
  · subst hd; decide +kernel
  by_cases hs : smallB (xs.getD 0 0) = true
  · have hq := hnp hs
    rw [if_pos hs, if_neg (by rintro (h | h | h | h); exact h0 h; exact hd h; omega; exact hq h)]
    simp only [hs, if_true]
    rfl
  · have hs' : smallB (xs.getD 0 0) = false := by simpa using hs
    rw [if_neg hs, if_neg hd]
    by_cases h7 : 1 < xs.length
    · rw [if_pos (by omega), if_pos (by omega)]
      by_cases h8 : xs.take 2 = [47, 42]
      · rw [if_pos h8, if_pos (by simp [h7, h8])]
      · rw [if_neg h8, if_neg (by simp [h0, hd, h7, h8]; omega)]
        simp only [hs', if_true, Bool.false_eq_true, if_false]
    · rw [if_neg (by omega), if_neg (by simp [h0, hd]; omega)]
      simp only [hs', if_true, Bool.false_eq_true, if_false]
/-! ### the law's function -/
def quoteOf (x : List UInt8) : List UInt8 := if 100 < x.length then [] else if plainB x then x else [39] ++ x.flatMap pc ++ [39]
theorem quote_i (x : List UInt8) (k : Nat) (hk : 2000 < k) (hl : x.length ≤ 1048576) : impl_QuoteAtom.f k x = some (quoteOf x) := by
  rw [impl_QuoteAtom.f, impl_quoted.f]
  unfold quoteOf
  by_cases h : 100 < x.length
  · rw [if_pos (by omega), if_pos h]; rfl
  rw [if_neg (by omega), if_neg h, plain_i x k hk hl, Option.bind_some]
  by_cases h2 : plainB x = true
  · rw [if_pos h2, if_pos h2, Option.bind_some, if_pos (by omega)]
  · obtain ⟨e1, _⟩ := quote_both x (by omega) x.length 0 k k [39] (by omega) (by simp) (by omega) (by omega)
    have hfl := pcs_len x
    rw [if_neg h2, if_neg h2]
    have e1' : impl_quoted.l0 k x [39] 0 = some ([39] ++ x.flatMap pc ++ [39]) := by simpa using e1
    rw [e1', Option.bind_some, if_pos (by rw [List.length_append, List.length_append]; simp only [List.length_cons, List.length_nil]; omega)]
theorem quote_s (x : List UInt8) (k : Nat) (hk : 2000 < k) (hl : x.length ≤ 1048576) : spec_QuoteAtom.f k x = some (quoteOf x) := by
  rw [spec_QuoteAtom.f]
  unfold quoteOf
  by_cases h : 100 < x.length
  · rw [if_pos (by omega), if_pos h]
  rw [if_neg (by omega), if_neg h, plain_s x k hk hl (fun _ => trivial), Option.bind_some]
  by_cases h2 : plainB x = true
  · rw [if_pos h2, if_pos h2, spec_l1copy.f, if_pos (by omega)]; rfl
  · obtain ⟨_, e1⟩ := quote_both x (by omega) x.length 0 k k [39] (by omega) (by simp) (by omega) (by omega)
    rw [if_neg h2, if_neg h2, spec_l1quoted.f]
    have e1' : spec_l1quoted.l0 k x [39] 0 = some ([39] ++ x.flatMap pc ++ [39]) := by simpa using e1
    rw [e1', Option.bind_some]
theorem quote_len (x : List UInt8) : (quoteOf x).length ≤ 502 := by
  unfold quoteOf
  split
  · simp
  · split
    · omega
    · rename_i h _
      have := pcs_len x
      rw [List.length_append, List.length_append]; simp only [List.length_cons, List.length_nil]; omega
theorem FnExactQuoteAtom_plain (x : List UInt8) : laws_FnExactQuoteAtom.f 4000000 x = some true := by
  rw [laws_FnExactQuoteAtom.f]
  by_cases h : (x.length : Int) > 1048576
  · rw [if_pos h]
  · rw [if_neg h]
    have hq := quote_len x
    obtain ⟨bs, n1, n2, n3⟩ := markByteS_val x 4000000 1 (by omega) (by omega) (by omega) (by omega)
    obtain ⟨ys, m1, m2, m3⟩ := markByteS_val (quoteOf x) 4000000 1 (by omega) (by omega) (by omega) (by omega)
    obtain ⟨g1, g2⟩ := heldByteS_val ys 4000000 1 _ (by omega) (by omega) (by omega) (by omega) m3
    simp only [toByteS_id x 4000000 (by omega) (by omega), quote_i x 4000000 (by omega) (by omega), quote_s x 4000000 (by omega) (by omega), Option.bind_some, eqByteS_id x 4000000 (by omega) (by omega), eqByteS_id (quoteOf x) 4000000 (by omega) (by omega), n1, m1, g1]
    rw [if_neg (by simp), if_neg (by simp), if_neg (by omega), if_neg (by simp), if_neg (by omega), if_neg (by simp), if_neg (by simp), if_neg (by omega), if_neg (by simp)]
end Go.Proofs.YtdkbfcmekppnmaaDoor
