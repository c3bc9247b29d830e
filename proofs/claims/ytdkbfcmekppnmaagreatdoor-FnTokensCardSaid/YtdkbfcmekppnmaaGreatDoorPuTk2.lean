import Derived.Test.YtdkbfcmekppnmaaGreatDoorPuTk1
import Derived.Test.YtdkbfcmekppnmaaGreatDoorPuTl9
namespace Go.Proofs.YtdkbfcmekppnmaaGreatDoor
open Go.Sx Go.Sy
set_option linter.unusedVariables false
set_option linter.unusedSimpArgs false
set_option linter.unusedSectionVars false
set_option maxRecDepth 4000
theorem all_bytes {p : UInt8 → Prop} (h : ∀ n : Fin 256, p (UInt8.ofNat n.1)) (b : UInt8) : p b := by
 have := h ⟨b.toNat, b.toNat_lt⟩
 simpa using this
def hexL : List UInt8 := [48, 49, 50, 51, 52, 53, 54, 55, 56, 57, 97, 98, 99, 100, 101, 102]
def hx1 (c : UInt8) : UInt8 := hexL.getD (c.toNat / 16) 0
def hx0 (c : UInt8) : UInt8 := hexL.getD (c.toNat % 16) 0
theorem rune_val (c : UInt8) : c.toNat ≤ 126 → runeS (IntKind.i32.wrap ((c.toNat : Int))) = [c] :=
 all_bytes (p := fun c => c.toNat ≤ 126 → runeS (IntKind.i32.wrap ((c.toNat : Int))) = [c]) (by decide +kernel) c
theorem hex2_val (c : UInt8) : impl_hex2.f c = some [hx1 c, hx0 c] := all_bytes (p := fun c => impl_hex2.f c = some [hx1 c, hx0 c]) (by decide +kernel) c
theorem hq1 (c : UInt8) : 0 ≤ ((b8 (Int.tdiv (c.toNat : Int) 16)).toNat : Int) ∧ ((b8 (Int.tdiv (c.toNat : Int) 16)).toNat : Int) < 16 ∧ hexL.getD ((b8 (Int.tdiv (c.toNat : Int) 16)).toNat : Int).toNat 0 = hx1 c :=
 all_bytes (p := fun c => 0 ≤ ((b8 (Int.tdiv (c.toNat : Int) 16)).toNat : Int) ∧ ((b8 (Int.tdiv (c.toNat : Int) 16)).toNat : Int) < 16 ∧ hexL.getD ((b8 (Int.tdiv (c.toNat : Int) 16)).toNat : Int).toNat 0 = hx1 c) (by decide +kernel) c
theorem hq0 (c : UInt8) : 0 ≤ ((b8 (Int.tmod (c.toNat : Int) 16)).toNat : Int) ∧ ((b8 (Int.tmod (c.toNat : Int) 16)).toNat : Int) < 16 ∧ hexL.getD ((b8 (Int.tmod (c.toNat : Int) 16)).toNat : Int).toNat 0 = hx0 c :=
 all_bytes (p := fun c => 0 ≤ ((b8 (Int.tmod (c.toNat : Int) 16)).toNat : Int) ∧ ((b8 (Int.tmod (c.toNat : Int) 16)).toNat : Int) < 16 ∧ hexL.getD ((b8 (Int.tmod (c.toNat : Int) 16)).toNat : Int).toNat 0 = hx0 c) (by decide +kernel) c
def pc (c : UInt8) : List UInt8 :=
 if (c.toNat : Int) = 39 then [92, c] else if (c.toNat : Int) = 92 then [92, c] else if (c.toNat : Int) = 10 then [92, 110] else if (c.toNat : Int) = 9 then [92, 116]
 else if (c.toNat : Int) < 32 then [92, 120, hx1 c, hx0 c, 92] else if (c.toNat : Int) > 126 then [92, 120, hx1 c, hx0 c, 92] else [c]
theorem pc_len (c : UInt8) : 1 ≤ (pc c).length ∧ (pc c).length ≤ 5 := by
 unfold pc; (repeat' split) <;> simp
theorem pcs_len (y : List UInt8) : (y.flatMap pc).length ≤ 5 * y.length := by
 induction y with
 | nil => simp
 | cons c y ih =>
  have := pc_len c
  rw [List.flatMap_cons, List.length_append, List.length_cons]; omega
theorem iq_step (k : Nat) (x acc : List UInt8) (i : Nat) (hi : i < x.length) (hx : x.length ≤ 1000) (ha : acc.length ≤ 1000000) :
  impl_quoted.l0 (k + 1) x acc (i : Int) = impl_quoted.l0 k x (acc ++ pc (x.getD i 0)) ((i + 1 : Nat) : Int) := by
 rw [impl_quoted.l0, if_pos (by omega), if_pos (by omega), Int.toNat_natCast, w1 (by omega), hex2_val]
 have hr := rune_val (x.getD i 0)
 generalize x.getD i 0 = c at *
 unfold pc
 simp only [Option.bind_some, List.length_append, List.length_cons, List.length_nil]
 by_cases h1 : (c.toNat : Int) = 39
 ·rw [if_pos h1, if_pos h1, hr (by omega), if_pos (by simp), if_pos (by simp; omega)]; rfl
 rw [if_neg h1, if_neg h1]
 by_cases h2 : (c.toNat : Int) = 92
 ·rw [if_pos h2, if_pos h2, hr (by omega), if_pos (by simp), if_pos (by simp; omega)]; rfl
 rw [if_neg h2, if_neg h2]
 by_cases h3 : (c.toNat : Int) = 10
 ·rw [if_pos h3, if_pos h3, if_pos (by omega)]
 rw [if_neg h3, if_neg h3]
 by_cases h4 : (c.toNat : Int) = 9
 ·rw [if_pos h4, if_pos h4, if_pos (by omega)]
 rw [if_neg h4, if_neg h4]
 by_cases h5 : (c.toNat : Int) < 32
 ·rw [if_pos h5, if_pos h5, if_pos (by omega), if_pos (by omega), if_pos (by omega)]; rfl
 rw [if_neg h5, if_neg h5]
 by_cases h6 : (c.toNat : Int) > 126
 ·rw [if_pos h6, if_pos h6, if_pos (by omega), if_pos (by omega), if_pos (by omega)]; rfl
 rw [if_neg h6, if_neg h6, hr (by omega), if_pos (by simp; omega)]
theorem iq_end (k : Nat) (x acc : List UInt8) (ha : acc.length ≤ 1000000) : impl_quoted.l0 (k + 1) x acc (x.length : Int) = some (acc ++ [39]) := by
 rw [impl_quoted.l0, if_neg (by omega), if_pos (by simp; omega)]
theorem sq_step (k : Nat) (x acc : List UInt8) (i : Nat) (hi : i < x.length) (hx : x.length ≤ 1000) (ha : acc.length ≤ 1000000) :
  spec_l1quoted.l0 (k + 1) x acc (i : Int) = spec_l1quoted.l0 k x (acc ++ pc (x.getD i 0)) ((i + 1 : Nat) : Int) := by
 rw [spec_l1quoted.l0, if_pos (by omega), if_pos (by omega), Int.toNat_natCast, w1 (by omega)]
 obtain ⟨a1, a2, a3⟩ := hq1 (x.getD i 0)
 obtain ⟨c1, c2, c3⟩ := hq0 (x.getD i 0)
 generalize x.getD i 0 = c at *
 unfold pc
 unfold hexL at a3 c3
 by_cases h1 : (c.toNat : Int) = 39
 ·rw [if_pos h1, if_pos h1, if_pos (by omega)]
 rw [if_neg h1, if_neg h1]
 by_cases h2 : (c.toNat : Int) = 92
 ·rw [if_pos h2, if_pos h2, if_pos (by omega)]
 rw [if_neg h2, if_neg h2]
 by_cases h3 : (c.toNat : Int) = 10
 ·rw [if_pos h3, if_pos h3, if_pos (by omega)]
 rw [if_neg h3, if_neg h3]
 by_cases h4 : (c.toNat : Int) = 9
 ·rw [if_pos h4, if_pos h4, if_pos (by omega)]
 rw [if_neg h4, if_neg h4]
 by_cases h5 : (c.toNat : Int) < 32
 ·rw [if_pos h5, if_pos h5, if_pos a1, if_pos (by simpa using a2), if_pos c1, if_pos (by simpa using c2), if_pos (by omega), a3, c3]
 rw [if_neg h5, if_neg h5]
 by_cases h6 : (c.toNat : Int) > 126
 ·rw [if_pos h6, if_pos h6, if_pos a1, if_pos (by simpa using a2), if_pos c1, if_pos (by simpa using c2), if_pos (by omega), a3, c3]
 rw [if_neg h6, if_neg h6, if_pos (by omega)]
theorem sq_end (k : Nat) (x acc : List UInt8) (ha : acc.length ≤ 1000000) : spec_l1quoted.l0 (k + 1) x acc (x.length : Int) = some (acc ++ [39]) := by
 rw [spec_l1quoted.l0, if_neg (by omega), if_pos (by omega)]
theorem quote_both (x : List UInt8) (hx : x.length ≤ 1000) : ∀ (m i k k' : Nat) (acc : List UInt8), i + m = x.length → acc.length ≤ 5 * i + 1 → m < k → m < k' →
  impl_quoted.l0 k x acc (i : Int) = some (acc ++ (x.drop i).flatMap pc ++ [39]) ∧ spec_l1quoted.l0 k' x acc (i : Int) = some (acc ++ (x.drop i).flatMap pc ++ [39]) := by
 intro m
 induction m with
 | zero =>
  intro i k k' acc h ha hk hk'
  obtain ⟨k, rfl⟩ : ∃ q, k = q + 1 := ⟨k - 1, by omega⟩
  obtain ⟨k', rfl⟩ : ∃ q, k' = q + 1 := ⟨k' - 1, by omega⟩
  obtain rfl : i = x.length := by omega
  rw [iq_end _ _ _ (by omega), sq_end _ _ _ (by omega)]
  simp
 | succ m ih =>
  intro i k k' acc h ha hk hk'
  obtain ⟨k, rfl⟩ : ∃ q, k = q + 1 := ⟨k - 1, by omega⟩
  obtain ⟨k', rfl⟩ : ∃ q, k' = q + 1 := ⟨k' - 1, by omega⟩
  have hi : i < x.length := by omega
  have hp := pc_len (x.getD i 0)
  rw [iq_step _ _ _ _ hi hx (by omega), sq_step _ _ _ _ hi hx (by omega)]
  obtain ⟨e1, e2⟩ := ih (i + 1) k k' (acc ++ pc (x.getD i 0)) (by omega) (by rw [List.length_append]; omega) (by omega) (by omega)
  rw [e1, e2, List.drop_eq_getElem_cons hi, List.flatMap_cons]
  have hg : x.getD i 0 = x[i] := by rw [List.getD_eq_getElem?_getD, List.getElem?_eq_getElem hi]; rfl
  rw [hg]
  simp [List.append_assoc]
theorem run_l0 (xs : List UInt8) (s : Bool) (hl : xs.length < 1000) : ∀ (m k i : Nat), xs.length - i = m → i ≤ xs.length → m + 20 < k →
  ∃ t : Int, spec_l1run.l0 k xs 0 s (i : Int) = some t ∧ decide (t = (xs.length : Int)) = (xs.drop i).all (fun b => if s then symB b else alnumB b) := by
 intro m
 induction m with
 | zero =>
  intro k i h1 h2 h3
  obtain ⟨k, rfl⟩ : ∃ q, k = q + 1 := ⟨k - 1, by omega⟩
  rw [spec_l1run.l0, wrap_id (n := 0 + (i : Int)) (by omega) (by omega), if_neg (by omega)]
  refine ⟨_, rfl, ?_⟩
  rw [List.drop_of_length_le (by omega)]
  simp; omega
 | succ m ih =>
  intro k i h1 h2 h3
  obtain ⟨k, rfl⟩ : ∃ q, k = q + 1 := ⟨k - 1, by omega⟩
  have hi : i < xs.length := by omega
  have hg : xs.getD i 0 = xs[i] := by rw [List.getD_eq_getElem?_getD, List.getElem?_eq_getElem hi]; rfl
  obtain ⟨t, e1, e2⟩ := ih k (i + 1) (by omega) (by omega) (by omega)
  rw [spec_l1run.l0, wrap_id (n := 0 + (i : Int)) (by omega) (by omega), Int.zero_add, if_pos (by omega), w1 (by omega), Int.toNat_natCast, hg, symbol_val _ (by omega), alnumB_val, List.drop_eq_getElem_cons hi, List.all_cons]
  have hno : ∀ t : Int, t = (i : Int) → decide (t = (xs.length : Int)) = false := fun t ht => by simp; omega
  cases s with
  | true =>
   rw [if_pos rfl, if_pos (by omega), Option.bind_some]
   by_cases h : symB xs[i] = true
   ·rw [if_pos h, e1]; exact ⟨t, rfl, by rw [e2]; simp [h]⟩
   ·rw [if_neg h, if_neg (by simp)]; exact ⟨_, rfl, by rw [hno _ rfl]; simp [h]⟩
  | false =>
   rw [if_neg (by simp), if_pos (by simp), if_pos (by omega), Option.bind_some]
   by_cases h : alnumB xs[i] = true
   ·rw [if_pos h, e1]; exact ⟨t, rfl, by rw [e2]; simp [h]⟩
   ·rw [if_neg h]; exact ⟨_, rfl, by rw [hno _ rfl]; simp [h]⟩
theorem run_val (xs : List UInt8) (s : Bool) (k : Nat) (hl : xs.length ≤ 100) (hk : 200 < k) : ∃ t : Int, spec_l1run.f k xs 0 s = some t ∧ decide (t = (xs.length : Int)) = xs.all (fun b => if s then symB b else alnumB b) := by
 rw [spec_l1run.f]
 exact run_l0 xs s (by omega) xs.length k 0 rfl (by omega) (by omega)
theorem plain_l (xs : List UInt8) (hl : xs.length < 1000) (h0 : 0 < xs.length) : ∀ (m k i : Nat), xs.length - i = m → i ≤ xs.length → m < k →
  impl_plain.l2 k xs (i : Int) = some ((xs.drop i).all (fun b => if smallB (xs.getD 0 0) then alnumB b else symB b)) ∧ impl_plain.l3 k xs (i : Int) = some ((xs.drop i).all (fun b => if smallB (xs.getD 0 0) then alnumB b else symB b)) := by
 intro m
 induction m with
 | zero =>
  intro k i h1 h2 h3
  obtain ⟨k, rfl⟩ : ∃ q, k = q + 1 := ⟨k - 1, by omega⟩
  rw [impl_plain.l2, impl_plain.l3, if_neg (by omega), if_neg (by omega), List.drop_of_length_le (by omega)]
  exact ⟨rfl, rfl⟩
 | succ m ih =>
  intro k i h1 h2 h3
  obtain ⟨k, rfl⟩ : ∃ q, k = q + 1 := ⟨k - 1, by omega⟩
  have hi : i < xs.length := by omega
  have hg : xs.getD i 0 = xs[i] := by rw [List.getD_eq_getElem?_getD, List.getElem?_eq_getElem hi]; rfl
  obtain ⟨e1, e2⟩ := ih k (i + 1) (by omega) (by omega) (by omega)
  have hz : ((0 : Int)).toNat = 0 := rfl
  rw [impl_plain.l2, impl_plain.l3, w1 (by omega), Int.toNat_natCast, hg, hz, small_eq, smallB_val, alnum_eq, symB_val, e1, e2, List.drop_eq_getElem_cons hi, List.all_cons]
  simp only [Option.bind_some]
  rw [if_pos (show (i : Int) < (xs.length : Int) by omega), if_pos (show (0 : Int) < (xs.length : Int) by omega), if_pos (show (0 : Int) ≤ (i : Int) by omega)]
  cases smallB (xs.getD 0 0) <;> cases alnumB xs[i] <;> cases symB xs[i] <;> simp
theorem take2 {xs : List UInt8} (h : 1 < xs.length) (h2 : xs.take 2 = [47, 42]) : xs.getD 0 0 = 47 := by
 rcases xs with _ | ⟨a, _ | ⟨b, xs⟩⟩
 ·simp at h
 ·simp at h
 ·simp at h2; simp [h2.1]
def plainB (xs : List UInt8) : Bool :=
 if xs = [33] ∨ xs = [59] ∨ xs = [91, 93] ∨ xs = [123, 125] then true
 else if xs = [] ∨ xs = [46] ∨ 100 < xs.length ∨ (1 < xs.length ∧ xs.take 2 = [47, 42]) then false
 else xs.all (fun b => if smallB (xs.getD 0 0) then alnumB b else symB b)
theorem plain_i (xs : List UInt8) (k : Nat) (hk : 2000 < k) (hl : xs.length ≤ 1048576) : impl_plain.f k xs = some (plainB xs) := by
 unfold plainB
 rw [impl_plain.f]
 by_cases h1 : xs = [33]
 ·subst h1; rfl
 by_cases h2 : xs = [59]
 ·subst h2; rfl
 by_cases h3 : xs = [91, 93]
 ·subst h3; rfl
 by_cases h4 : xs = [123, 125]
 ·subst h4; rfl
 rw [if_neg h1, if_neg h2, if_neg h3, if_neg (by simp [h1, h2, h3, h4]), decide_eq_false h4, impl_plain.l0, if_neg (by simp)]
 by_cases h5 : xs = []
 ·subst h5; rfl
 rw [if_neg h5, impl_plain.l1]
 by_cases h6 : xs = [46]
 ·subst h6; rfl
 rw [decide_eq_false h6, if_neg (by simp)]
 have h0 : 0 < xs.length := List.length_pos_iff.2 h5
 by_cases h : 100 < xs.length
 ·rw [if_pos (by omega), if_pos (by simp [h])]
 rw [if_neg (by omega)]
 obtain ⟨e1, e2⟩ := plain_l xs (by omega) h0 xs.length k 0 rfl (by omega) (by omega)
 have hz : ((2 : Int)).toNat = 2 := rfl
 by_cases h7 : xs.length > 1
 ·rw [if_pos (by omega), if_pos (by omega), hz]
  by_cases h8 : xs.take 2 = [47, 42]
  ·rw [if_pos h8, if_pos (by simp [h7, h8])]
  ·rw [if_neg h8, if_neg (by simp [h5, h6, h7, h8]; omega)]
   exact e1
 ·rw [if_neg (by omega), if_neg (by simp [h5, h6]; omega)]
  exact e2
theorem plain_s (xs : List UInt8) (k : Nat) (hk : 2000 < k) (hl : xs.length ≤ 1048576) (h33 : ∀ h : xs.length > 100, True) : spec_IsPlain.f k xs = some (plainB xs) := by
 have hz : ((2 : Int)).toNat = 2 := rfl
 unfold plainB
 rw [spec_IsPlain.f]
 by_cases h0 : xs = []
 ·subst h0; rfl
 have hp : 0 < xs.length := List.length_pos_iff.2 h0
 rw [if_neg (by omega)]
 by_cases hb : xs.length > 100
 ·rw [if_pos (by omega), if_neg (by rintro (h | h | h | h) <;> subst h <;> simp at hb), if_pos (by simp [hb])]
 rw [if_neg (by omega)]
 by_cases h1 : xs = [33]
 ·subst h1; rfl
 by_cases h2 : xs = [59]
 ·subst h2; rfl
 by_cases h3 : xs = [91, 93]
 ·subst h3; rfl
 by_cases h4 : xs = [123, 125]
 ·subst h4; rfl
 have hR : ¬ (xs = [33] ∨ xs = [59] ∨ xs = [91, 93] ∨ xs = [123, 125]) := by simp [h1, h2, h3, h4]
 rw [if_neg h1, if_neg h2, if_neg h3, if_neg h4, if_neg hR, if_pos (show (0 : Int) < (xs.length : Int) by omega), smallB_val, Option.bind_some]
 obtain ⟨t1, a1, a2⟩ := run_val xs true k (by omega) (by omega)
 obtain ⟨t2, b1, b2⟩ := run_val xs false k (by omega) (by omega)
 rw [a1, b1, hz]
 simp only [Option.bind_some, a2, b2]
 have hnp : smallB (xs.getD 0 0) = true → ¬ (1 < xs.length ∧ xs.take 2 = [47, 42]) := fun hs h => by
  have := take2 h.1 h.2
  rw [this] at hs
  exact absurd hs (by decide +kernel)
 by_cases hd : xs = [46]
 ·subst hd; decide +kernel
 by_cases hs : smallB (xs.getD 0 0) = true
 ·have hq := hnp hs
  rw [if_pos hs, if_neg (by rintro (h | h | h | h); exact h0 h; exact hd h; omega; exact hq h)]
  simp only [hs, if_true]
  rfl
 ·have hs' : smallB (xs.getD 0 0) = false := by simpa using hs
  rw [if_neg hs, if_neg hd]
  by_cases h7 : 1 < xs.length
  ·rw [if_pos (by omega), if_pos (by omega)]
   by_cases h8 : xs.take 2 = [47, 42]
   ·rw [if_pos h8, if_pos (by simp [h7, h8])]
   ·rw [if_neg h8, if_neg (by simp [h0, hd, h7, h8]; omega)]
    simp only [hs', if_true, Bool.false_eq_true, if_false]
  ·rw [if_neg (by omega), if_neg (by simp [h0, hd]; omega)]
   simp only [hs', if_true, Bool.false_eq_true, if_false]
def quoteOf (x : List UInt8) : List UInt8 := if 100 < x.length then [] else if plainB x then x else [39] ++ x.flatMap pc ++ [39]
theorem quote_i (x : List UInt8) (k : Nat) (hk : 2000 < k) (hl : x.length ≤ 1048576) : impl_QuoteAtom.f k x = some (quoteOf x) := by
 rw [impl_QuoteAtom.f, impl_quoted.f]
 unfold quoteOf
 by_cases h : 100 < x.length
 ·rw [if_pos (by omega), if_pos h]; rfl
 rw [if_neg (by omega), if_neg h, plain_i x k hk hl, Option.bind_some]
 by_cases h2 : plainB x = true
 ·rw [if_pos h2, if_pos h2, Option.bind_some, if_pos (by omega)]
 ·obtain ⟨e1, _⟩ := quote_both x (by omega) x.length 0 k k [39] (by omega) (by simp) (by omega) (by omega)
  have hfl := pcs_len x
  rw [if_neg h2, if_neg h2]
  have e1' : impl_quoted.l0 k x [39] 0 = some ([39] ++ x.flatMap pc ++ [39]) := by simpa using e1
  rw [e1', Option.bind_some, if_pos (by rw [List.length_append, List.length_append]; simp only [List.length_cons, List.length_nil]; omega)]
theorem quote_s (x : List UInt8) (k : Nat) (hk : 2000 < k) (hl : x.length ≤ 1048576) : spec_QuoteAtom.f k x = some (quoteOf x) := by
 rw [spec_QuoteAtom.f]
 unfold quoteOf
 by_cases h : 100 < x.length
 ·rw [if_pos (by omega), if_pos h]
 rw [if_neg (by omega), if_neg h, plain_s x k hk hl (fun _ => trivial), Option.bind_some]
 by_cases h2 : plainB x = true
 ·rw [if_pos h2, if_pos h2, spec_l1copy.f, if_pos (by omega)]; rfl
 ·obtain ⟨_, e1⟩ := quote_both x (by omega) x.length 0 k k [39] (by omega) (by simp) (by omega) (by omega)
  rw [if_neg h2, if_neg h2, spec_l1quoted.f]
  have e1' : spec_l1quoted.l0 k x [39] 0 = some ([39] ++ x.flatMap pc ++ [39]) := by simpa using e1
  rw [e1', Option.bind_some]
theorem quote_len (x : List UInt8) : (quoteOf x).length ≤ 502 := by
 unfold quoteOf
 split
 ·simp
 ·split
  ·omega
  ·rename_i h _
   have := pcs_len x
   rw [List.length_append, List.length_append]; simp only [List.length_cons, List.length_nil]; omega
theorem next_flats (xs : List Cell) (hx : xs.length ≤ 2000) : ∀ (m k i e : Nat) (us : List Tm) (r : List Cell), (flats us).length = m → Wfs us → xs.drop i = flats us ++ r → us.length + e ≤ 100000 → e ≤ 50000 →
  spec_l2next.l0 (k + m) xs (i : Int) ((us.length + e : Nat) : Int) = spec_l2next.l0 k xs ((i + m : Nat) : Int) (e : Int) := by
 intro m
 induction m with
 | zero =>
  intro k i e us r h1 hw hd h2 h3
  cases us with
  | nil => simp
  | cons t us => have := flat_pos t; simp only [flats, List.length_append] at h1; omega
 | succ m ih =>
  intro k i e us r h1 hw hd h2 h3
  cases us with
  | nil => simp [flats] at h1
  | cons t us =>
   obtain ⟨kd, n, s, vs⟩ := t
   simp only [Wfs, Wf] at hw
   obtain ⟨⟨w0, w1, w2, w3⟩, w4⟩ := hw
   have hi : i < xs.length := by
    rcases Nat.lt_or_ge i xs.length with h | h
    ·exact h
    ·rw [List.drop_of_length_le h] at hd; simp [flats, flat] at hd
   have hc : xs[i] = ⟨kd, n, s⟩ := by
    rw [List.drop_eq_getElem_cons hi] at hd
    simp only [flats, flat, List.cons_append] at hd
    exact (List.cons.inj hd).1
   have hd2 : xs.drop (i + 1) = flats (vs ++ us) ++ r := by
    rw [List.drop_eq_getElem_cons hi] at hd
    simp only [flats, flat, List.cons_append] at hd
    rw [(List.cons.inj hd).2, flats_append]
   have hm : (flats (vs ++ us)).length = m := by
    simp only [flats, flat, List.cons_append, List.length_cons] at h1
    rw [flats_append]; omega
   have hv : vs.length ≤ (flats (vs ++ us)).length := by have := flats_len (vs ++ us); simp at this; omega
   have hl : (flats (vs ++ us)).length ≤ 2000 := by
    have := congrArg List.length hd2
    rw [List.length_drop, List.length_append] at this; omega
   have hlen := flats_len (vs ++ us)
   rw [show k + (m + 1) = (k + m) + 1 by omega, spec_l2next.l0, if_pos (by simp; omega), if_pos (by omega), if_pos (by omega), Int.toNat_natCast, getD_at hi, hc, wrap_nat (by omega)]
   have := ih k (i + 1) e (vs ++ us) r hm ((Wfs_append _ _).2 ⟨w3, w4⟩) hd2 (by omega) h3
   rw [show i + (m + 1) = i + 1 + m by omega, ← this]
   simp only [List.length_cons, List.length_append] at hlen h2 ⊢
   by_cases hk : kd = 3
   ·have hn := w1 hk
    rw [if_pos hk, wrap_id (n := ((us.length + 1 + e : Nat) : Int) + n) (by omega) (by omega), wrap_id (by omega) (by omega)]
    congr 1
    omega
   ·rw [if_neg hk, wrap_id (by omega) (by omega)]
    have : vs = [] := w2 hk
    subst this
    congr 1
    simp; omega
theorem next_at (xs : List Cell) (u : Tm) (j k : Nat) (r : List Cell) (hx : xs.length ≤ 2000) (hw : Wf u) (hd : xs.drop j = flat u ++ r) (hk : 2001 < k) : spec_l2next.f k xs (j : Int) = some ((j + (flat u).length : Nat) : Int) := by
 have hl : (flat u).length ≤ 2000 := by have := congrArg List.length hd; rw [List.length_drop, List.length_append] at this; omega
 rw [spec_l2next.f]
 obtain ⟨k, rfl⟩ : ∃ q, k = q + 1 + (flat u).length := ⟨k - 1 - (flat u).length, by omega⟩
 have := next_flats xs hx (flat u).length (k + 1) j 0 [u] r (by simp [flats]) (by simp [Wfs, hw]) (by simpa [flats] using hd) (by simp) (by omega)
 rw [show (([u].length + 0 : Nat) : Int) = 1 from rfl] at this
 rw [this, spec_l2next.l0, if_neg (by simp)]
theorem cut_at (ys : List Cell) (u : Tm) (j : Nat) (r : List Cell) (hd : ys.drop j = flat u ++ r) : (ys.drop (j : Int).toNat).take (((j + (flat u).length : Nat) : Int).toNat - (j : Int).toNat) = flat u := by
 rw [Int.toNat_natCast, Int.toNat_natCast, hd, Nat.add_sub_cancel_left]; simp
theorem args_val (n : Int) (s : List UInt8) (us : List Tm) (k : Nat) (hw : Wf (.mk 3 n s us)) (hl : (flats us).length < 2000) (hk : 10000 < k) : spec_l2args.f k (flat (.mk 3 n s us)) = some (us.map flat) := by
 have hw2 := hw
 simp only [Wf] at hw2
 have hn : (us.length : Int) = n := hw2.2.1 (by trivial)
 have hws := hw2.2.2.2
 have e0 : (flat (.mk 3 n s us)).getD 0 z70 = ⟨3, n, s⟩ := by simp [flat]
 rw [spec_l2args.f, if_neg (by simp [flat] <;> omega), if_pos (by simp [flat] <;> omega), e0, if_neg (by simp)]
 have hul := flats_len us
 have key : ∀ (m k i : Nat), us.length - i = m → i ≤ us.length → m + 3000 < k → spec_l2args.l0 k (flat (.mk 3 n s us)) ((us.take i).map flat) ((1 + (flats (us.take i)).length : Nat) : Int) (i : Int) = some (us.map flat) := by
  intro m
  induction m with
  | zero =>
   intro k i h1 h2 h3
   obtain ⟨k, rfl⟩ : ∃ q, k = q + 1 := ⟨k - 1, by omega⟩
   rw [spec_l2args.l0, e0, if_neg (by show ¬ (i : Int) < n; omega), List.take_of_length_le (by omega)]
  | succ m ih =>
   intro k i h1 h2 h3
   obtain ⟨k, rfl⟩ : ∃ q, k = q + 1 := ⟨k - 1, by omega⟩
   have hi : i < us.length := by omega
   have htd := List.take_append_drop i us
   rw [List.drop_eq_getElem_cons hi] at htd
   have hwi : Wf us[i] := by
    rw [← htd, Wfs_append] at hws
    have := hws.2
    simp only [Wfs] at this
    exact this.1
   have hsp : flats us = flats (us.take i) ++ (flat us[i] ++ flats (us.drop (i + 1))) := by
    conv => lhs; rw [← htd]
    rw [flats_append]; rfl
   have hlen := congrArg List.length hsp
   rw [List.length_append, List.length_append] at hlen
   have hd : (flat (.mk 3 n s us)).drop (1 + (flats (us.take i)).length) = flat us[i] ++ flats (us.drop (i + 1)) := by
    rw [Nat.add_comm]
    show (flats us).drop _ = _
    rw [hsp]; simp
   have hfl : (flat (.mk 3 n s us)).length = (flats us).length + 1 := by simp [flat]
   rw [spec_l2args.l0, e0, if_pos (by show (i : Int) < n; omega), next_at _ us[i] _ k _ (by omega) hwi hd (by omega), Option.bind_some, if_pos (by omega), if_pos (by omega), if_pos (by omega), if_pos (by simp; omega), cut_at _ us[i] _ _ hd, wrap_nat (by omega)]
   have e1 : (us.take i).map flat ++ [flat us[i]] = (us.take (i + 1)).map flat := by rw [List.take_add_one, List.getElem?_eq_getElem hi, List.map_append]; rfl
   have e2 : 1 + (flats (us.take i)).length + (flat us[i]).length = 1 + (flats (us.take (i + 1))).length := by
    rw [List.take_add_one, List.getElem?_eq_getElem hi, flats_append]; simp [flats]; omega
   rw [e1, e2]
   exact ih k (i + 1) (by omega) (by omega) (by omega)
 have := key us.length k 0 rfl (by omega) (by omega)
 simpa [flats] using this
instance (c : Cell) : Decidable (Okc c) := by unfold Okc; infer_instance
theorem l2cell_val (c : Cell) : spec_l2cell.f c = some (decide (Okc c)) := by
 have e : ∀ l : List UInt8, (l.length : Int) = 0 ↔ l = [] := fun l => ⟨fun hl => List.eq_nil_of_length_eq_zero (by omega), fun h => by rw [h]; rfl⟩
 unfold spec_l2cell.f
 simp only [e]
 repeat' split
 all_goals refine congrArg some ?_
 all_goals first
  | (rw [eq_comm, decide_eq_false_iff_not]; unfold Okc; omega)
  | (rw [eq_comm, decide_eq_true_iff]; unfold Okc; omega)
  | (refine decide_eq_decide.2 ?_; unfold Okc; omega)
  | (refine decide_eq_decide.2 ?_; unfold Okc; simp only [*]; simp; try omega)
  | (rw [eq_comm, decide_eq_false_iff_not]; unfold Okc; simp only [*]; simp; try omega)
theorem valid_ex0 (xs : List Cell) (hl : xs.length < 9223372036854775807) : ∀ (m k i : Nat) (n : Int), xs.length - i = m → i ≤ xs.length → m < k → ∃ b, spec_ValidTerm.l0 k xs n (i : Int) = some b := by
 intro m
 induction m with
 | zero =>
  intro k i n h1 h2 h3
  obtain ⟨k, rfl⟩ : ∃ q, k = q + 1 := ⟨k - 1, by omega⟩
  rw [spec_ValidTerm.l0, if_neg (by omega)]
  exact ⟨_, rfl⟩
 | succ m ih =>
  intro k i n h1 h2 h3
  obtain ⟨k, rfl⟩ : ∃ q, k = q + 1 := ⟨k - 1, by omega⟩
  rw [spec_ValidTerm.l0, if_pos (show (i : Int) < (xs.length : Int) by omega), wrap_nat (by omega)]
  by_cases hn : n = 0
  ·rw [if_pos hn]; exact ⟨_, rfl⟩
  ·rw [if_neg hn, if_pos (show (0 : Int) ≤ (i : Int) by omega), l2cell_val, Option.bind_some]
   split
   ·exact ⟨_, rfl⟩
   ·split
    ·exact ih k (i + 1) _ (by omega) (by omega) (by omega)
    ·exact ih k (i + 1) _ (by omega) (by omega) (by omega)
theorem valid_ex (xs : List Cell) (k : Nat) (hl : xs.length < 9223372036854775807) (hk : xs.length < k) : ∃ b, spec_ValidTerm.f k xs = some b := by
 rw [spec_ValidTerm.f]
 split
 ·exact ⟨_, rfl⟩
 ·exact valid_ex0 xs hl xs.length k 0 1 rfl (by omega) hk
theorem valid_trees (xs : List Cell) (hl : xs.length ≤ 2000) : ∀ (m k i n : Nat), xs.length - i = m → i ≤ xs.length → n ≤ 1 + 20 * i → spec_ValidTerm.l0 k xs (n : Int) (i : Int) = some true →
  ∃ ts, ts.length = n ∧ flats ts = xs.drop i ∧ Wfs ts := by
 intro m
 induction m with
 | zero =>
  intro k i n h1 h2 h3 h
  obtain ⟨k, rfl⟩ : ∃ q, k = q + 1 := by
   cases k with
   | zero => rw [spec_ValidTerm.l0] at h; cases h
   | succ q => exact ⟨q, rfl⟩
  rw [spec_ValidTerm.l0, if_neg (by omega)] at h
  have h0 : n = 0 := by simpa using h
  exact ⟨[], by simp [h0], by rw [List.drop_of_length_le (by omega)]; simp [flats], by simp [Wfs]⟩
 | succ m ih =>
  intro k i n h1 h2 h3 h
  obtain ⟨k, rfl⟩ : ∃ q, k = q + 1 := by
   cases k with
   | zero => rw [spec_ValidTerm.l0] at h; cases h
   | succ q => exact ⟨q, rfl⟩
  have hi : i < xs.length := by omega
  rw [spec_ValidTerm.l0, if_pos (by omega), Int.toNat_natCast, getD_at hi, wrap_nat (by omega), l2cell_val] at h
  by_cases hn : (n : Int) = 0
  ·rw [if_pos hn] at h; simp at h
  rw [if_neg hn, if_pos (by omega), Option.bind_some] at h
  by_cases hb : Okc xs[i]
  ·rw [if_neg (by simpa using hb), wrap_id (n := (n : Int) - 1) (by omega) (by omega)] at h
   by_cases hk : xs[i].kind = 3
   ·obtain ⟨p1, p2⟩ := hb.n3 hk
    rw [if_pos hk, wrap_id (n := (n : Int) - 1 + xs[i].n) (by omega) (by omega), show (n : Int) - 1 + xs[i].n = ((n - 1 + xs[i].n.toNat : Nat) : Int) by omega] at h
    obtain ⟨ts, e1, e2, e3⟩ := ih k (i + 1) (n - 1 + xs[i].n.toNat) (by omega) (by omega) (by omega) h
    refine ⟨Tm.mk xs[i].kind xs[i].n xs[i].text (ts.take xs[i].n.toNat) :: ts.drop xs[i].n.toNat, by simp; omega, ?_, ?_⟩
    ·rw [List.drop_eq_getElem_cons hi, ← e2]
     conv => rhs; rw [← List.take_append_drop xs[i].n.toNat ts]
     rw [flats_append]
     simp [flats, flat]
    ·rw [← List.take_append_drop xs[i].n.toNat ts, Wfs_append] at e3
     simp only [Wfs, Wf]
     exact ⟨⟨hb, fun _ => by rw [List.length_take]; omega, fun h => absurd hk h, e3.1⟩, e3.2⟩
   ·rw [if_neg hk, show (n : Int) - 1 = ((n - 1 : Nat) : Int) by omega] at h
    obtain ⟨ts, e1, e2, e3⟩ := ih k (i + 1) (n - 1) (by omega) (by omega) (by omega) h
    refine ⟨Tm.mk xs[i].kind xs[i].n xs[i].text [] :: ts, by simp; omega, ?_, ?_⟩
    ·rw [List.drop_eq_getElem_cons hi, ← e2]; simp [flats, flat]
    ·simp only [Wfs, Wf]
     exact ⟨⟨hb, fun h => absurd h hk, fun _ => trivial, trivial⟩, e3⟩
  ·rw [if_pos (by simpa using hb)] at h; simp at h
theorem valid_tree (xs : List Cell) (k : Nat) (h : spec_ValidTerm.f k xs = some true) : xs.length ≤ 2000 ∧ ∃ t, flat t = xs ∧ Wf t := by
 rw [spec_ValidTerm.f] at h
 split at h
 ·simp at h
 ·rename_i hl
  have hl' : xs.length ≤ 2000 := by omega
  obtain ⟨ts, e1, e2, e3⟩ := valid_trees xs hl' xs.length k 0 1 rfl (by omega) (by omega) h
  refine ⟨hl', ?_⟩
  match ts, e1, e2, e3 with
  | [t], _, e2, e3 =>
   refine ⟨t, by simpa [flats] using e2, ?_⟩
   simp only [Wfs] at e3
   exact e3.1
theorem valid_flats (xs : List Cell) (hx : xs.length ≤ 2000) : ∀ (m k i e : Nat) (us : List Tm) (r : List Cell), (flats us).length = m → Wfs us → xs.drop i = flats us ++ r → us.length + e ≤ 100000 → e ≤ 50000 →
  spec_ValidTerm.l0 (k + m) xs ((us.length + e : Nat) : Int) (i : Int) = spec_ValidTerm.l0 k xs (e : Int) ((i + m : Nat) : Int) := by
 intro m
 induction m with
 | zero =>
  intro k i e us r h1 hw hd h2 h3
  cases us with
  | nil => simp
  | cons t us => have := flat_pos t; simp only [flats, List.length_append] at h1; omega
 | succ m ih =>
  intro k i e us r h1 hw hd h2 h3
  cases us with
  | nil => simp [flats] at h1
  | cons t us =>
   obtain ⟨kd, n, s, vs⟩ := t
   simp only [Wfs, Wf] at hw
   obtain ⟨⟨w0, w1, w2, w3⟩, w4⟩ := hw
   have hi : i < xs.length := by
    rcases Nat.lt_or_ge i xs.length with h | h
    ·exact h
    ·rw [List.drop_of_length_le h] at hd; simp [flats, flat] at hd
   have hc : xs[i] = ⟨kd, n, s⟩ := by
    rw [List.drop_eq_getElem_cons hi] at hd
    simp only [flats, flat, List.cons_append] at hd
    exact (List.cons.inj hd).1
   have hd2 : xs.drop (i + 1) = flats (vs ++ us) ++ r := by
    rw [List.drop_eq_getElem_cons hi] at hd
    simp only [flats, flat, List.cons_append] at hd
    rw [(List.cons.inj hd).2, flats_append]
   have hm : (flats (vs ++ us)).length = m := by
    simp only [flats, flat, List.cons_append, List.length_cons] at h1
    rw [flats_append]; omega
   have hl : (flats (vs ++ us)).length ≤ 2000 := by
    have := congrArg List.length hd2
    rw [List.length_drop, List.length_append] at this; omega
   have hlen := flats_len (vs ++ us)
   rw [show k + (m + 1) = (k + m) + 1 by omega, spec_ValidTerm.l0, if_pos (by omega), if_neg (by simp; omega), if_pos (by omega), Int.toNat_natCast, getD_at hi, hc, wrap_nat (by omega), l2cell_val, Option.bind_some, if_neg (by simpa using w0)]
   have := ih k (i + 1) e (vs ++ us) r hm ((Wfs_append _ _).2 ⟨w3, w4⟩) hd2 (by omega) h3
   rw [show i + (m + 1) = i + 1 + m by omega, ← this]
   simp only [List.length_cons, List.length_append] at hlen h2 ⊢
   by_cases hk : kd = 3
   ·have hn := w1 hk
    rw [if_pos hk, wrap_id (n := ((us.length + 1 + e : Nat) : Int) - 1) (by omega) (by omega), wrap_id (by omega) (by omega)]
    congr 1
    omega
   ·rw [if_neg hk, wrap_id (by omega) (by omega)]
    have : vs = [] := w2 hk
    subst this
    congr 1
    simp; omega
noncomputable def okT (xs : List Cell) : Bool := @decide (xs.length ≤ 2000 ∧ ∃ t, flat t = xs ∧ Wf t) (Classical.propDecidable _)
theorem okT_iff (xs : List Cell) : okT xs = true ↔ (xs.length ≤ 2000 ∧ ∃ t, flat t = xs ∧ Wf t) := by unfold okT; exact @decide_eq_true_iff _ (Classical.propDecidable _)
theorem valid_val (xs : List Cell) (k : Nat) (hl : xs.length < 9223372036854775807) (hk : xs.length < k) : spec_ValidTerm.f k xs = some (okT xs) := by
 obtain ⟨b, e⟩ := valid_ex xs k hl hk
 cases b with
 | true => rw [e, (okT_iff xs).2 (valid_tree xs k e)]
 | false =>
  rw [e]
  by_cases h : okT xs = true
  ·obtain ⟨h1, t, rfl, hw⟩ := (okT_iff xs).1 h
   exfalso
   rw [spec_ValidTerm.f, if_neg (by omega)] at e
   obtain ⟨k, rfl⟩ : ∃ q, k = q + 1 + (flat t).length := ⟨k - 1 - (flat t).length, by omega⟩
   have := valid_flats (flat t) h1 (flat t).length (k + 1) 0 0 [t] [] (by simp [flats]) (by simp [Wfs, hw]) (by simp [flats]) (by simp) (by omega)
   rw [show (([t].length + 0 : Nat) : Int) = 1 from rfl, show ((0 : Nat) : Int) = 0 from rfl] at this
   rw [this, spec_ValidTerm.l0, if_neg (by omega)] at e
   simp at e
  ·rw [show okT xs = false by simpa using h]
theorem args_ev {u : Tm} (hw : Wf u ∧ (flat u).length ≤ 2000) : Ev (fun k => spec_l2args.f k (flat u)) (u.args.map flat) := by
 cases u with
 | mk a n s us =>
  by_cases h3 : a = 3
  ·subst h3
   have hl : (flats us).length < 2000 := by have := hw.2; simp [flat] at this; omega
   exact ⟨10001, fun k hk => args_val n s us k hw.1 hl (by omega)⟩
  ·have hu : us = [] := by have := hw.1; simp only [Wf] at this; exact this.2.2.1 h3
   subst hu
   exact ⟨0, fun k _ => by
    have e0 : (flat (.mk a n s [])).getD 0 z70 = ⟨a, n, s⟩ := by simp [flat]
    show spec_l2args.f k _ = _
    rw [spec_l2args.f, if_neg (by simp [flat] <;> omega), if_pos (by simp [flat] <;> omega), e0, if_pos (by simpa using h3)]; rfl⟩
theorem TE.neg {β : Type} {P : β → Prop} {c : Prop} [Decidable c] {a b : Nat → Option β} (h : ¬ c) (h1 : TE b P) : TE (fun k => if c then a k else b k) P := TE.of (fun k => if_neg h) h1
theorem flat0 (t : Tm) (z : Cell) : (flat t).getD 0 z = ⟨t.kind, t.n, t.text⟩ := by cases t; rfl
theorem flat_eq (t : Tm) : flat t = ⟨t.kind, t.n, t.text⟩ :: flats t.args := by cases t; rfl
theorem wf_sub {t : Tm} (h : Wf t) : Wfs t.args ∧ (t.kind = 3 → (t.args.length : Int) = t.n) ∧ Okc ⟨t.kind, t.n, t.text⟩ := by
 cases t; simp only [Wf] at h; exact ⟨h.2.2.2, h.2.1, h.1⟩
theorem wfs_mem {us : List Tm} {a : Tm} (h : a ∈ us) (hw : Wfs us) : Wf a ∧ (flat a).length ≤ (flats us).length := by
 induction us with
 | nil => cases h
 | cons u us ih =>
  simp only [Wfs] at hw
  simp only [flats, List.length_append]
  rcases List.mem_cons.1 h with rfl | h
  ·exact ⟨hw.1, by omega⟩
  ·have := ih h hw.2; exact ⟨this.1, by omega⟩
theorem tdiv10 {v : Int} {m : Nat} (h : v.natAbs < m * 10) : (Int.tdiv v 10).natAbs < m := by
 rcases Int.lt_or_le v 0 with h0 | h0
 ·have e : Int.tdiv v 10 = - Int.tdiv (-v) 10 := by rw [Int.neg_tdiv]; simp
  rw [e, Int.tdiv_eq_ediv_of_nonneg (by omega)]
  omega
 ·rw [Int.tdiv_eq_ediv_of_nonneg h0]
  omega
theorem dec_te : ∀ (n : Nat) (v : Int), v.natAbs < 10 ^ (n + 1) → n ≤ 16 → TE (fun k => spec_l3dec.f k v) (fun s => s.length ≤ n + 2) := by
 intro n
 induction n with
 | zero =>
  intro v hv hn
  refine TE.succ (fun k => by rw [spec_l3dec.f]) (TE.ite (fun c => TE.pos (by omega) (TE.pos (by simp) (TE.ret (by simp)))) fun c => TE.pos (by omega) (TE.ret (by simp)))
 | succ n ih =>
  intro v hv hn
  have hp : (10 : Nat) ^ (n + 1) ≤ 10 ^ 17 := Nat.pow_le_pow_right (by omega) (by omega)
  have hq : (Int.tdiv v 10).natAbs < 10 ^ (n + 1) := tdiv10 (by rw [Nat.pow_succ] at hv; exact hv)
  have e := ih (Int.tdiv v 10) hq (by omega)
  have hw : IntKind.i64.wrap (Int.tdiv v 10) = Int.tdiv v 10 := wrap_id (by omega) (by omega)
  refine TE.succ (fun k => by rw [spec_l3dec.f, hw]) (TE.ite (fun c => TE.ite (fun _ => TE.pos (by simp) (TE.ret (by simp))) fun _ => TE.bind e fun s hs => TE.pos (by simp; omega) ?_) fun c => TE.ite (fun _ => TE.ret (by simp)) fun _ => TE.bind e fun s hs => TE.pos (by simp; omega) ?_)
  ·exact TE.succ (h := fun _ => some _) (fun k => by rw [spec_l3dec.l0]) (TE.ret (by simp; omega))
  ·exact TE.succ (h := fun _ => some _) (fun k => by rw [spec_l3dec.l1]) (TE.ret (by simp; omega))
theorem oatom_te (ops : List Sy.Op) (s : List UInt8) (hs : s.length ≤ 1000) : TE (fun k => spec_l3out_atom.f k ⟨ops, [], true⟩ s) (fun s => s.length ≤ 502) := by
 refine TE.of (fun k => by rw [spec_l3out_atom.f]) (TE.pos rfl (TE.bind (R := fun t => t.length ≤ 502) ⟨quoteOf s, ⟨2001, fun k hk => quote_s s k (by omega) (by omega)⟩, quote_len s⟩ fun a ha => TE.ret ha))
def OPS (ops : List Sy.Op) : Prop := ops.length ≤ 1000 ∧ ∀ x, x ∈ ops → x.name.length ≤ 100
theorem ops_at {ops : List Sy.Op} (h : OPS ops) {i : Int} (h0 : 0 ≤ i) (h1 : i < (ops.length : Int)) : (ops.getD i.toNat z86).name.length ≤ 100 := by
 rw [List.getD_eq_getElem?_getD, List.getElem?_eq_getElem (by omega)]
 exact h.2 _ (List.getElem_mem _)
theorem prefix_val (t : Int) : spec_l3prefix.f t = some (decide (t = 3 ∨ t = 4)) := by
 rw [spec_l3prefix.f]
 by_cases h : t = 3
 ·rw [if_pos h]; simp [h]
 ·rw [if_neg h]; simp [h]
theorem or_lt {i n : Int} {q : Prop} (hn : 0 ≤ n) (h : i = -1 ∨ (0 ≤ i ∧ i < n ∧ q)) : i < n := by
 rcases h with h | h
 ·omega
 ·exact h.2.1
theorem ofind_te (ops : List Sy.Op) (h : ops.length ≤ 1000) (nm : List UInt8) (b : Bool) : TE (fun k => spec_l3find.f k ops nm b) (fun i => i = -1 ∨ (0 ≤ i ∧ i < (ops.length : Int) ∧ decide ((ops.getD i.toNat z86).typ = 3 ∨ (ops.getD i.toNat z86).typ = 4) = b)) := by
 refine TE.of (fun k => by rw [spec_l3find.f]) ?_
 have key : ∀ (m i : Nat), ops.length - i = m → i ≤ ops.length → TE (fun k => spec_l3find.l0 k ops nm b (i : Int)) (fun i => i = -1 ∨ (0 ≤ i ∧ i < (ops.length : Int) ∧ decide ((ops.getD i.toNat z86).typ = 3 ∨ (ops.getD i.toNat z86).typ = 4) = b)) := by
  intro m
  induction m with
  | zero =>
   intro i h1 h2
   exact TE.succ (h := fun _ => some (-1)) (fun k => by rw [spec_l3find.l0, if_neg (by omega)]) (TE.ret (.inl rfl))
  | succ m ih =>
   intro i h1 h2
   refine TE.succ (fun k => by rw [spec_l3find.l0, if_pos (by omega), if_pos (by omega), wrap_nat (by omega), prefix_val, Option.bind_some]) (TE.ite (fun c => TE.ite (fun c2 => TE.ret (.inr ⟨by omega, by omega, c2⟩)) fun _ => ih (i + 1) (by omega) (by omega)) fun _ => ih (i + 1) (by omega) (by omega))
 exact key ops.length 0 rfl (Nat.zero_le _)
theorem l2is_val (t : Tm) (s : List UInt8) (n : Int) (hn : n ≠ 0) : spec_l2is.f (flat t) s n = some (decide (t.text = s ∧ t.kind = 3 ∧ t.n = n)) := by
 have hl : (0 : Int) < ((flat t).length : Int) := by have := flat_pos t; omega
 rw [spec_l2is.f, if_pos hl, flat0]
 show (if t.text ≠ s then some false else if n = 0 then _ else if t.kind = 3 then some (decide (t.n = n)) else some false) = _
 by_cases h1 : t.text = s
 ·rw [if_neg (not_not_intro h1), if_neg hn]
  by_cases h2 : t.kind = 3
  ·rw [if_pos h2]; simp [h1, h2]
  ·rw [if_neg h2]; simp [h2]
 ·rw [if_pos h1]; simp [h1]
theorem l2is_te (t : Tm) (s : List UInt8) : TE (fun _ => spec_l2is.f (flat t) s 0) (fun _ => True) := by
 have hl : (0 : Int) < ((flat t).length : Int) := by have := flat_pos t; omega
 exact TE.of (fun k => by rw [spec_l2is.f]) (TE.pos hl (TE.ite (fun _ => TE.ret trivial) fun _ => TE.pos rfl (TE.ret trivial)))
theorem top_te (ops : List Sy.Op) (h : ops.length ≤ 1000) (t : Tm) (ht : Wf t) : TE (fun k => spec_l3out_top.f k ⟨ops, [], true⟩ (flat t)) (fun i => i < (ops.length : Int) ∧ (0 ≤ i → t.kind = 3 ∧ 1 ≤ t.args.length ∧ ((ops.getD i.toNat z86).typ ≤ 2 → 2 ≤ t.args.length))) := by
 have hl : (0 : Int) < ((flat t).length : Int) := by have := flat_pos t; omega
 have hneg : (-1 : Int) < (ops.length : Int) ∧ ((0 : Int) ≤ -1 → t.kind = 3 ∧ 1 ≤ t.args.length ∧ ((ops.getD (-1 : Int).toNat z86).typ ≤ 2 → 2 ≤ t.args.length)) := ⟨by omega, fun h => by omega⟩
 refine TE.of (fun k => by rw [spec_l3out_top.f, flat0, l2is_val t _ 2 (by decide), l2is_val t _ 1 (by decide), Option.bind_some, Option.bind_some]) (TE.pos hl (TE.ite (fun _ => TE.ret hneg) fun k3 => ?_))
 have k3 : t.kind = 3 := by simpa using k3
 obtain ⟨_, w2, w3⟩ := wf_sub ht
 have hlen := w2 k3
 have hr := w3.n3 k3
 have hr : 1 ≤ t.n ∧ t.n ≤ 20 := hr
 refine TE.ite (fun _ => TE.ret hneg) fun _ => TE.ite (fun _ => TE.ret hneg) fun _ => TE.ite (fun _ => TE.ret hneg) fun c2 => TE.ite (fun c3 => ?_) fun c3 => ?_
 ·have c3 : t.n = 2 := c3
  refine TE.bind (ofind_te ops h _ false) fun i hi => TE.ite (fun hi0 => TE.pos hi0 (TE.pos (or_lt (by omega) hi) ?_)) fun hi0 => TE.ret ⟨or_lt (by omega) hi, fun h0 => absurd h0 hi0⟩
  refine TE.of (fun k => by rw [spec_l3infix.f, Option.bind_some]) (TE.ite (fun _ => TE.ret hneg) fun _ => TE.ret ⟨or_lt (by omega) hi, fun _ => ⟨k3, by omega, fun _ => by omega⟩⟩)
 ·have c2 : ¬ t.n > 2 := c2
  have c3 : ¬ t.n = 2 := c3
  refine TE.bind (ofind_te ops h _ true) fun i hi => TE.ite (fun hi0 => ?_) fun hi0 => ?_
  ·refine TE.bind (ofind_te ops h _ false) fun j hj => TE.ite (fun hj0 => TE.pos hj0 (TE.pos (or_lt (by omega) hj) ?_)) fun hj0 => TE.ret ⟨or_lt (by omega) hj, fun h0 => absurd h0 hj0⟩
   refine TE.of (fun k => by rw [spec_l3infix.f, Option.bind_some]) (TE.ite (fun _ => TE.ret hneg) fun c4 => TE.ret ⟨or_lt (by omega) hj, fun _ => ⟨k3, by omega, fun h5 => absurd (decide_eq_true h5) c4⟩⟩)
  ·rcases hi with rfl | hi
   ·omega
   ·refine TE.ret ⟨hi.2.1, fun _ => ⟨k3, by omega, fun h5 => ?_⟩⟩
    have := of_decide_eq_true hi.2.2
    omega
theorem gap_te (a b : List UInt8) (hbig : a.length ≤ 9000000000000000000) : TE (fun k => spec_l3gap.f k a b) (fun s => s.length ≤ 1) := by
 refine TE.of (fun k => by rw [spec_l3gap.f]) (TE.ite (fun _ => TE.ret (by simp)) fun ha => TE.ite (fun _ => TE.ret (by simp)) fun hb => ?_)
 have la := List.length_pos_iff.2 ha
 have lb := List.length_pos_iff.2 hb
 have al : ∀ c : UInt8, TE (fun _ => spec_l1alnum.f c) (fun _ => True) := fun c => ⟨_, ⟨0, fun _ _ => alnumB_val c⟩, trivial⟩
 have sy : ∀ c : UInt8, TE (fun k => spec_l1symbol.f k c) (fun _ => True) := fun c => ⟨_, ⟨18, fun k hk => symbol_val k hk c⟩, trivial⟩
 ·rw [wrap_id (n := (a.length : Int) - 1) (by omega) (by omega)]
  refine TE.pos (by omega) (TE.pos (by omega) (TE.pos (by omega) (TE.bind (al _) fun x _ => TE.ite (fun _ => TE.bind (al _) fun y _ => TE.ite (fun _ => TE.ret (by simp)) fun _ => ?_) fun _ => ?_)))
  ·exact TE.bind (sy _) fun z _ => TE.ite (fun _ => TE.bind (sy _) fun u _ => TE.ite (fun _ => TE.ret (by simp)) fun _ => TE.ret (by simp)) fun _ => TE.ret (by simp)
  ·exact TE.bind (sy _) fun z _ => TE.ite (fun _ => TE.bind (sy _) fun u _ => TE.ite (fun _ => TE.ret (by simp)) fun _ => TE.ret (by simp)) fun _ => TE.ret (by simp)
def runN (s : Bool) (l : List UInt8) : Nat := (l.takeWhile fun b => if s then symB b else alnumB b).length
theorem run_ev (b : List UInt8) (p : Nat) (s : Bool) (hl : b.length ≤ 20000) (hp : p ≤ b.length) : Ev (fun k => spec_l1run.f k b (p : Int) s) ((runN s (b.drop p) : Nat) : Int) := by
 have key : ∀ (m i : Nat), b.length - (p + i) = m → p + i ≤ b.length → Ev (fun k => spec_l1run.l0 k b (p : Int) s (i : Int)) ((i + runN s (b.drop (p + i)) : Nat) : Int) := by
  intro m
  induction m with
  | zero =>
   intro i h1 h2
   refine Ev.succ (h := fun _ => some _) (fun k => by rw [spec_l1run.l0, wa (by omega) (by omega), if_neg (by omega)]) ?_
   rw [List.drop_of_length_le (by omega)]
   exact Ev.ret _
  | succ m ih =>
   intro i h1 h2
   have hi : p + i < b.length := by omega
   have hg : b.getD (p + i) 0 = b[p + i] := by rw [List.getD_eq_getElem?_getD, List.getElem?_eq_getElem hi]; rfl
   have hd := List.drop_eq_getElem_cons hi
   have ih := ih (i + 1) (by omega) (by omega)
   have stop : (if s then symB b[p + i] else alnumB b[p + i]) = false → runN s (b.drop (p + i)) = 0 := fun h => by
    unfold runN; rw [hd, List.takeWhile_cons, if_neg (by simp [h])]; rfl
   have more : (if s then symB b[p + i] else alnumB b[p + i]) = true → i + runN s (b.drop (p + i)) = i + 1 + runN s (b.drop (p + (i + 1))) := fun h => by
    unfold runN; rw [hd, List.takeWhile_cons, if_pos (by simp [h]), List.length_cons]; rw [show p + i + 1 = p + (i + 1) by omega]; omega
   have hsym : Ev (fun k => spec_l1symbol.f k b[p + i]) (symB b[p + i]) := ⟨18, fun k hk => symbol_val k hk _⟩
   have step : ∀ k, spec_l1run.l0 (k + 1) b (p : Int) s (i : Int) = (if s = true then ((spec_l1symbol.f k b[p + i]).bind fun t26 => (if t26 = true then (spec_l1run.l0 k b (p : Int) s ((i + 1 : Nat) : Int)) else some (i : Int))) else (if alnumB b[p + i] = true then (spec_l1run.l0 k b (p : Int) s ((i + 1 : Nat) : Int)) else some (i : Int))) := fun k => by
    rw [spec_l1run.l0, wa (by omega) (by omega), if_pos (by omega), w1 (by omega), Int.toNat_natCast, hg, alnumB_val, Option.bind_some]
    cases s with
    | true =>
     simp only [if_true, not_true_eq_false, if_false]
     rw [if_pos (by omega)]
    | false =>
     simp only [Bool.false_eq_true, if_false, not_false_eq_true, if_true]
     rw [if_pos (by omega)]
   refine Ev.succ step ?_
   cases s with
   | true =>
    refine Ev.of (fun k => if_pos rfl) (Ev.bind hsym ?_)
    by_cases h : symB b[p + i] = true
    ·rw [more (by simpa using h)]; exact Ev.of (fun k => if_pos h) ih
    ·rw [stop (by simpa using h)]; exact ⟨0, fun k _ => if_neg h⟩
   | false =>
    refine Ev.of (fun k => if_neg (by simp)) ?_
    by_cases h : alnumB b[p + i] = true
    ·rw [more (by simpa using h)]; exact Ev.of (fun k => if_pos h) ih
    ·rw [stop (by simpa using h)]; exact ⟨0, fun k _ => if_neg h⟩
 have := key (b.length - p) 0 (by omega) (by omega)
 rw [Nat.zero_add, Nat.add_zero] at this
 exact Ev.of (fun k => by rw [spec_l1run.f]; rfl) this
theorem spaced_te (s : List UInt8) (h : s.length ≤ 100) : TE (fun k => spec_l3spaced.f k s) (fun _ => True) := by
 have e : Ev (fun k => spec_l1run.f k s 0 true) _ := run_ev s 0 true (by omega) (Nat.zero_le _)
 have hp : TE (fun k => spec_IsPlain.f k s) (fun _ => True) := ⟨_, ⟨2001, fun k hk => plain_s s k (by omega) (by omega) (fun _ => trivial)⟩, trivial⟩
 have fin : TE (fun _ => if s ≠ ([44] : List UInt8) then (if s ≠ ([59] : List UInt8) then some (decide (s ≠ ([33] : List UInt8))) else some false) else some false) (fun _ => True) := TE.ite (fun _ => TE.ite (fun _ => TE.ret trivial) fun _ => TE.ret trivial) fun _ => TE.ret trivial
 exact TE.of (fun k => by rw [spec_l3spaced.f]) (TE.bind (R := fun _ => True) ⟨_, e, trivial⟩ fun x _ => TE.ite (fun _ => fin) fun _ => TE.bind hp fun y _ => TE.ite (fun _ => fin) fun _ => TE.ret trivial)
end Go.Proofs.YtdkbfcmekppnmaaGreatDoor
