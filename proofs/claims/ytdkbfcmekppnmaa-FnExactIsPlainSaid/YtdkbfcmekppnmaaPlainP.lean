import Derived.Test.YtdkbfcmekppnmaaPlainW
import Derived.Test.YtdkbfcmekppnmaaOpen
namespace Go.Proofs.Ytdkbfcmekppnmaa
open Go.Sx
set_option linter.unusedVariables false
theorem wrap_id {n : Int} (h1 : -9223372036854775808 ≤ n) (h2 : n ≤ 9223372036854775807) : IntKind.i64.wrap n = n := by
  have e : IntKind.i64.wrap n = if n % 18446744073709551616 ≥ 9223372036854775808 then n % 18446744073709551616 - 18446744073709551616 else n % 18446744073709551616 := by
    simp [IntKind.wrap, IntKind.signed, IntKind.bits]
  rw [e]
  split <;> omega
theorem wrap_nat {n : Nat} (h : n < 9223372036854775807) : IntKind.i64.wrap ((n : Int) + 1) = ((n + 1 : Nat) : Int) := by
  rw [wrap_id (by omega) (by omega)]; omega
theorem wrap_0 {n : Nat} (h : n < 9223372036854775807) : IntKind.i64.wrap (0 + (n : Int)) = (n : Int) := by
  rw [wrap_id (by omega) (by omega)]; omega
theorem toByteS_l0 (xs : List UInt8) (hl : xs.length < 9223372036854775807) : ∀ (m k i : Nat) (ys : List UInt8), xs.length - i = m → i ≤ xs.length → m < k → ys.length = xs.length → ys.take i = xs.take i → laws_toByteS.l0 k xs ys (i : Int) = some xs := by
  intro m
  induction m with
  | zero =>
    intro k i ys h1 h2 h3 h4 h5
    obtain ⟨k, rfl⟩ : ∃ q, k = q + 1 := ⟨k - 1, by omega⟩
    rw [laws_toByteS.l0, if_neg (by omega)]
    rw [List.take_of_length_le (by omega), List.take_of_length_le (by omega)] at h5
    rw [h5]
  | succ m ih =>
    intro k i ys h1 h2 h3 h4 h5
    obtain ⟨k, rfl⟩ : ∃ q, k = q + 1 := ⟨k - 1, by omega⟩
    rw [laws_toByteS.l0, if_pos (by omega), if_pos (by omega), if_pos (by omega), wrap_nat (by omega)]
    refine ih k (i + 1) _ (by omega) (by omega) (by omega) (by simpa using h4) ?_
    rw [Int.toNat_natCast]
    rw [List.take_add_one, List.take_add_one, List.take_set_of_le (Nat.le_refl i), h5]
    congr 1
    rw [List.getElem?_set_self (by omega), List.getD_eq_getElem?_getD, List.getElem?_eq_getElem (by omega)]
    rfl
theorem toByteS_id (xs : List UInt8) (k : Nat) (hl : xs.length ≤ 1048576) (hk : xs.length < k) : laws_toByteS.f k xs = some xs := by
  rw [laws_toByteS.f, if_pos (by omega), if_pos (by omega)]
  exact toByteS_l0 xs (by omega) xs.length k 0 _ rfl (by omega) hk (by simp) (by simp)
theorem eqByteS_l0 (xs : List UInt8) (hl : xs.length < 9223372036854775807) : ∀ (m k i : Nat), xs.length - i = m → i ≤ xs.length → m < k → laws_eqByteS.l0 k xs xs (i : Int) = some true := by
  intro m
  induction m with
  | zero =>
    intro k i h1 h2 h3
    obtain ⟨k, rfl⟩ : ∃ q, k = q + 1 := ⟨k - 1, by omega⟩
    rw [laws_eqByteS.l0, if_neg (by omega)]
  | succ m ih =>
    intro k i h1 h2 h3
    obtain ⟨k, rfl⟩ : ∃ q, k = q + 1 := ⟨k - 1, by omega⟩
    rw [laws_eqByteS.l0, if_pos (by omega), if_pos (by omega), if_pos (by omega), if_neg (by simp), wrap_nat (by omega)]
    exact ih k (i + 1) (by omega) (by omega) (by omega)
theorem eqByteS_id (xs : List UInt8) (k : Nat) (hl : xs.length ≤ 1048576) (hk : xs.length < k) : laws_eqByteS.f k xs xs = some true := by
  rw [laws_eqByteS.f, if_neg (by simp)]
  exact eqByteS_l0 xs (by omega) xs.length k 0 rfl (by omega) hk
/-! ### kinds of letters -/
def sm (b : UInt8) : Bool := (impl_isSmall.f b).getD false
def al (b : UInt8) : Bool := (impl_isAlnum.f b).getD false
def sy (b : UInt8) : Bool := (impl_isSymbol.f b).getD false
theorem all_bytes {p : UInt8 → Prop} (h : ∀ n : Fin 256, p (UInt8.ofNat n.1)) (b : UInt8) : p b := by
  have := h ⟨b.toNat, b.toNat_lt⟩
  simpa using this
theorem sm_i (b : UInt8) : impl_isSmall.f b = some (sm b) := all_bytes (p := fun b => impl_isSmall.f b = some (sm b)) (by decide +kernel) b
theorem sm_s (b : UInt8) : spec_l1small.f b = some (sm b) := all_bytes (p := fun b => spec_l1small.f b = some (sm b)) (by decide +kernel) b
theorem al_i (b : UInt8) : impl_isAlnum.f b = some (al b) := all_bytes (p := fun b => impl_isAlnum.f b = some (al b)) (by decide +kernel) b
theorem al_s (b : UInt8) : spec_l1alnum.f b = some (al b) := all_bytes (p := fun b => spec_l1alnum.f b = some (al b)) (by decide +kernel) b
theorem sy_i (b : UInt8) : impl_isSymbol.f b = some (sy b) := all_bytes (p := fun b => impl_isSymbol.f b = some (sy b)) (by decide +kernel) b
def SY : List UInt8 := [43, 45, 42, 47, 92, 94, 60, 62, 61, 126, 58, 46, 63, 64, 35, 38, 36]
theorem sy_mem (b : UInt8) : sy b = SY.any (fun c => c == b) := all_bytes (p := fun b => sy b = SY.any (fun c => c == b)) (by decide +kernel) b
theorem sy_l0 (b : UInt8) : ∀ (m k i : Nat), 17 - i = m → i ≤ 17 → m < k → spec_l1symbol.l0 k b (i : Int) = some ((SY.drop i).any (fun c => c == b)) := by
  have hlen : SY.length = 17 := rfl
  intro m
  induction m with
  | zero =>
    intro k i h1 h2 h3
    obtain ⟨k, rfl⟩ : ∃ q, k = q + 1 := ⟨k - 1, by omega⟩
    have hi : i = 17 := by omega
    subst hi
    rfl
  | succ m ih =>
    intro k i h1 h2 h3
    obtain ⟨k, rfl⟩ : ∃ q, k = q + 1 := ⟨k - 1, by omega⟩
    have hi : i < SY.length := by omega
    have hg : SY.getD i 0 = SY[i] := by rw [List.getD_eq_getElem?_getD, List.getElem?_eq_getElem hi]; rfl
    rw [spec_l1symbol.l0]
    change (if (i : Int) < (SY.length : Int) then (if 0 ≤ (i : Int) then (if ((SY.getD (i : Int).toNat (0 : UInt8)).toNat : Int) = (b.toNat : Int) then some true else spec_l1symbol.l0 k b (IntKind.i64.wrap ((i : Int) + 1))) else none) else some false) = _
    rw [if_pos (by omega), if_pos (by omega), Int.toNat_natCast, hg, wrap_nat (by omega), List.drop_eq_getElem_cons hi, List.any_cons]
    by_cases h : SY[i] = b
    · rw [if_pos (by rw [h]), h]; simp
    · have h' : ¬ ((SY[i].toNat : Int) = (b.toNat : Int)) := fun e => h (UInt8.toNat_inj.1 (by omega))
      rw [if_neg h', ih k (i + 1) (by omega) (by omega) (by omega)]
      simp [h]
theorem sy_s (b : UInt8) (k : Nat) (hk : 17 < k) : spec_l1symbol.f k b = some (sy b) := by
  rw [spec_l1symbol.f, sy_mem]
  exact sy_l0 b 17 k 0 rfl (by omega) hk
/-! ### runs -/
theorem run_l0 (xs : List UInt8) (s : Bool) (hl : xs.length < 1000) : ∀ (m k i : Nat), xs.length - i = m → i ≤ xs.length → m + 20 < k →
    ∃ t : Int, spec_l1run.l0 k xs 0 s (i : Int) = some t ∧ decide (t = (xs.length : Int)) = (xs.drop i).all (fun b => if s then sy b else al b) := by
  intro m
  induction m with
  | zero =>
    intro k i h1 h2 h3
    obtain ⟨k, rfl⟩ : ∃ q, k = q + 1 := ⟨k - 1, by omega⟩
    rw [spec_l1run.l0, wrap_0 (by omega), if_neg (by omega)]
    refine ⟨_, rfl, ?_⟩
    rw [List.drop_of_length_le (by omega)]
    simp; omega
  | succ m ih =>
    intro k i h1 h2 h3
    obtain ⟨k, rfl⟩ : ∃ q, k = q + 1 := ⟨k - 1, by omega⟩
    have hi : i < xs.length := by omega
    have hg : xs.getD i 0 = xs[i] := by rw [List.getD_eq_getElem?_getD, List.getElem?_eq_getElem hi]; rfl
    obtain ⟨t, e1, e2⟩ := ih k (i + 1) (by omega) (by omega) (by omega)
    rw [spec_l1run.l0, wrap_0 (by omega), if_pos (by omega), wrap_nat (by omega), Int.toNat_natCast, hg, sy_s _ _ (by omega), al_s, List.drop_eq_getElem_cons hi, List.all_cons]
    have hno : ∀ t : Int, t = (i : Int) → decide (t = (xs.length : Int)) = false := fun t ht => by simp; omega
    cases s with
    | true =>
      rw [if_pos rfl, if_pos (by omega), Option.bind_some]
      by_cases h : sy xs[i] = true
      · rw [if_pos h, e1]; exact ⟨t, rfl, by rw [e2]; simp [h]⟩
      · rw [if_neg h, if_neg (by simp)]; exact ⟨_, rfl, by rw [hno _ rfl]; simp [h]⟩
    | false =>
      rw [if_neg (by simp), if_pos (by simp), if_pos (by omega), Option.bind_some]
      by_cases h : al xs[i] = true
      · rw [if_pos h, e1]; exact ⟨t, rfl, by rw [e2]; simp [h]⟩
      · rw [if_neg h]; exact ⟨_, rfl, by rw [hno _ rfl]; simp [h]⟩
theorem run_val (xs : List UInt8) (s : Bool) (k : Nat) (hl : xs.length ≤ 100) (hk : 200 < k) : ∃ t : Int, spec_l1run.f k xs 0 s = some t ∧ decide (t = (xs.length : Int)) = xs.all (fun b => if s then sy b else al b) := by
  rw [spec_l1run.f]
  exact run_l0 xs s (by omega) xs.length k 0 rfl (by omega) (by omega)
theorem plain_l1 (xs : List UInt8) (hl : xs.length < 1000) (h0 : 0 < xs.length) : ∀ (m k i : Nat), xs.length - i = m → i ≤ xs.length → m < k →
    impl_plain.l1 k xs (i : Int) = some ((xs.drop i).all (fun b => if sm (xs.getD 0 0) then al b else sy b)) ∧ impl_plain.l2 k xs (i : Int) = some ((xs.drop i).all (fun b => if sm (xs.getD 0 0) then al b else sy b)) := by
  intro m
  induction m with
  | zero =>
    intro k i h1 h2 h3
    obtain ⟨k, rfl⟩ : ∃ q, k = q + 1 := ⟨k - 1, by omega⟩
    rw [impl_plain.l1, impl_plain.l2, if_neg (by omega), if_neg (by omega), List.drop_of_length_le (by omega)]
    exact ⟨rfl, rfl⟩
  | succ m ih =>
    intro k i h1 h2 h3
    obtain ⟨k, rfl⟩ : ∃ q, k = q + 1 := ⟨k - 1, by omega⟩
    have hi : i < xs.length := by omega
    have hg : xs.getD i 0 = xs[i] := by rw [List.getD_eq_getElem?_getD, List.getElem?_eq_getElem hi]; rfl
    obtain ⟨e1, e2⟩ := ih k (i + 1) (by omega) (by omega) (by omega)
    have hz : ((0 : Int)).toNat = 0 := rfl
    rw [impl_plain.l1, impl_plain.l2, wrap_nat (by omega), Int.toNat_natCast, hg, hz, sm_i, al_i, sy_i, e1, e2, List.drop_eq_getElem_cons hi, List.all_cons]
    simp only [Option.bind_some]
    rw [if_pos (show (i : Int) < (xs.length : Int) by omega), if_pos (show (0 : Int) < (xs.length : Int) by omega), if_pos (show (0 : Int) ≤ (i : Int) by omega)]
    cases sm (xs.getD 0 0) <;> cases al xs[i] <;> cases sy xs[i] <;> simp
theorem plain_l0 (xs : List UInt8) (k : Nat) (h1 : xs ≠ []) (hk : 2000 < k) (hl : xs.length ≤ 9223372036854775807) : impl_plain.l0 k xs = some (if xs.length > 100 then false else if xs.length > 1 ∧ xs.take 2 = [47, 42] then false else xs.all (fun b => if sm (xs.getD 0 0) then al b else sy b)) := by
  have h0 : 0 < xs.length := List.length_pos_iff.2 h1
  rw [impl_plain.l0]
  by_cases h : xs.length > 100
  · rw [if_pos (by omega), if_pos h]
  · obtain ⟨e1, e2⟩ := plain_l1 xs (by omega) h0 xs.length k 0 rfl (by omega) (by omega)
    have hz : ((2 : Int)).toNat = 2 := rfl
    rw [if_neg (by omega), if_neg h]
    by_cases h2 : xs.length > 1
    · rw [if_pos (by omega), if_pos (by omega), hz]
      by_cases h3 : xs.take 2 = [47, 42]
      · rw [if_pos h3, if_pos ⟨h2, h3⟩]
      · rw [if_neg h3, if_neg (fun h => h3 h.2)]
        exact e1
    · rw [if_neg (by omega), if_neg (fun h => h2 h.1)]
      exact e2
theorem take2 {xs : List UInt8} (h : 1 < xs.length) (h2 : xs.take 2 = [47, 42]) : xs.getD 0 0 = 47 := by
  rcases xs with _ | ⟨a, _ | ⟨b, xs⟩⟩
  · simp at h
  · simp at h
  · simp at h2; simp [h2.1]
theorem plain_eq (xs : List UInt8) (k : Nat) (hk : 2000 < k) (hl : xs.length ≤ 1048576) : ∃ b, spec_IsPlain.f k xs = some b ∧ impl_IsPlain.f k xs = some b := by
  have hz : ((2 : Int)).toNat = 2 := rfl
  rw [spec_IsPlain.f, impl_IsPlain.f, impl_plain.f]
  by_cases h0 : xs = []
  · subst h0; exact ⟨false, rfl, rfl⟩
  · have hp : 0 < xs.length := List.length_pos_iff.2 h0
    rw [if_neg (by omega)]
    by_cases h1 : xs = [33]
    · subst h1; exact ⟨true, rfl, rfl⟩
    by_cases h2 : xs = [59]
    · subst h2; exact ⟨true, rfl, rfl⟩
    by_cases h3 : xs = [91, 93]
    · subst h3; exact ⟨true, rfl, rfl⟩
    by_cases h4 : xs = [123, 125]
    · subst h4; exact ⟨true, rfl, rfl⟩
    rw [if_neg h1, if_neg h2, if_neg h3, if_neg h4, if_neg h1, if_neg h2, if_neg h3, if_neg h4, if_neg h0]
    by_cases hd : xs = [46]
    · subst hd; exact ⟨false, rfl, rfl⟩
    rw [if_neg hd, if_neg hd, plain_l0 xs k h0 hk (by omega), if_pos (show (0 : Int) < (xs.length : Int) by omega), sm_s, hz]
    by_cases hb : xs.length > 100
    · rw [if_pos (by omega), if_pos hb]; exact ⟨false, rfl, rfl⟩
    rw [if_neg (by omega), if_neg hb]
    obtain ⟨t1, a1, a2⟩ := run_val xs true k (by omega) (by omega)
    obtain ⟨t2, b1, b2⟩ := run_val xs false k (by omega) (by omega)
    rw [a1, b1]
    simp only [Option.bind_some, a2, b2]
    have hnp : sm (xs.getD 0 0) = true → ¬ (xs.length > 1 ∧ xs.take 2 = [47, 42]) := fun hs h => by
      have := take2 h.1 h.2
      rw [this] at hs
      exact absurd hs (by decide +kernel)
    generalize sm (xs.getD 0 0) = v at hnp ⊢
    cases v with
    | true =>
      rw [if_pos rfl, if_neg (hnp rfl)]
      exact ⟨_, rfl, rfl⟩
    | false =>
      rw [if_neg (by simp)]
      by_cases h5 : xs.length > 1
      · rw [if_pos (show (xs.length : Int) > 1 by omega), if_pos (show (2 : Int) ≤ (xs.length : Int) by omega)]
        by_cases h6 : xs.take 2 = [47, 42]
        · rw [if_pos h6, if_pos ⟨h5, h6⟩]; exact ⟨_, rfl, rfl⟩
        · rw [if_neg h6, if_neg (fun h => h6 h.2)]; exact ⟨_, rfl, rfl⟩
      · rw [if_neg (show ¬ (xs.length : Int) > 1 by omega), if_neg (fun h => h5 h.1)]
        exact ⟨_, rfl, rfl⟩
theorem isPlain_true (xs : List UInt8) : laws_FnExactIsPlain.f 3000000 xs = some true := by
  rw [laws_FnExactIsPlain.f]
  by_cases h : (xs.length : Int) > 1048576
  · rw [if_pos h]
  · obtain ⟨b, e1, e2⟩ := plain_eq xs 3000000 (by omega) (by omega)
    rw [if_neg h, toByteS_id xs _ (by omega) (by omega)]
    simp only [Option.bind_some]
    rw [e1]
    simp only [Option.bind_some]
    rw [e2]
    simp only [Option.bind_some]
    rw [if_neg (by simp), eqByteS_id xs _ (by omega) (by omega)]
    rfl
end Go.Proofs.Ytdkbfcmekppnmaa
