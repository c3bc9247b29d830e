import Derived.Test.YtminnekeekhjcaaWkVo1
import Derived.Test.YtminnekeekhjcaaZ1
namespace Go.Proofs.Ytminnekeekhjcaa
open Go.Sx Go.Sy
set_option linter.unusedVariables false
set_option linter.unusedSimpArgs false
set_option linter.unusedSectionVars false
set_option maxRecDepth 4000
/-! ### sizes, copies, equality -/
theorem szByteS_val (xs : List UInt8) (b : Int) (h0 : 0 ≤ b) (h1 : b ≤ 1048576) (hl : xs.length ≤ 9223372036854775807) : laws_szByteS.f xs b = some (left b xs.length) := by
  rw [laws_szByteS.f]; exact sz0 h0 h1 hl
theorem left_m1 {b : Int} {n : Nat} (h : left b n < 0) : left b n = -1 := by unfold left at *; split <;> (split at h <;> first | rfl | omega)
theorem szOp_val (x : Sy.Op) (b : Int) (h0 : 0 ≤ b) (h1 : b ≤ 1048576) (hl : x.name.length ≤ 9223372036854775807) : laws_szOp.f x b = some (left b x.name.length) := by
  rw [laws_szOp.f, szByteS_val _ _ h0 h1 hl, Option.bind_some]
  split
  · rename_i h; rw [left_m1 h]
  · rfl
def wOps (xs : List Sy.Op) : Nat := xs.length + wts (fun x => x.name.length) xs
theorem szOpS_val (xs : List Sy.Op) (k : Nat) (b : Int) (h0 : 0 ≤ b) (h1 : b ≤ 1048576) (hl : xs.length ≤ 9223372036854775807) (ht : ∀ c, c ∈ xs → c.name.length ≤ 9223372036854775807) (hk : 1048577 < k) :
    laws_szOpS.f k xs b = some (left b (wOps xs)) := by
  rw [laws_szOpS.f]
  refine szT h0 h1 hl fun h => ?_
  have hq := left_le h
  rw [left_wrap h0 h1 hl h]
  exact szL (B := 0) (z := z44) (fun x => x.name.length) (fun k b i => laws_szOpS.l0 k xs b i) (fun _ => laws_szOp.f) (fun _ _ _ => rfl) (by omega) (fun x hx _ _ b q0 q1 => szOp_val x b q0 q1 (ht x hx)) k (by omega) _ (by omega) (by omega)
theorem toByteS_id (xs : List UInt8) (k : Nat) (hl : xs.length ≤ 1048576) (hk : xs.length < k) : laws_toByteS.f k xs = some xs := by
  rw [laws_toByteS.f, if_pos (by omega), if_pos (by omega)]
  exact toF (z := 0) (fun k i ys => laws_toByteS.l0 k xs i ys) (fun _ _ _ => rfl) (by omega) k hk _ (by simp)
theorem toOp_id (x : Sy.Op) (k : Nat) (hl : x.name.length ≤ 1048576) (hk : 1048577 ≤ k) : laws_toOp.f k x = some x := by
  rw [laws_toOp.f, toByteS_id _ k hl (by omega)]; rfl
theorem toOpS_id (xs : List Sy.Op) (k : Nat) (hl : wOps xs ≤ 1048576) (hk : 2097154 < k) : laws_toOpS.f k xs = some xs := by
  have hl2 : xs.length ≤ 1048576 := Nat.le_trans (Nat.le_add_right _ _) hl
  rw [laws_toOpS.f, if_pos (by omega), if_pos (by omega)]
  refine toL (z := z44) (B := 1048577) (fun k i ys => laws_toOpS.l0 k xs i ys) laws_toOp.f (fun _ _ _ => rfl) (by omega) (fun x hx k hk => toOp_id x k ?_ hk) k (by omega) _ (by simp)
  exact Nat.le_trans (Nat.le_trans (wts_mem (fun x : Sy.Op => x.name.length) hx) (Nat.le_add_left _ _)) hl
theorem eqByteS_id (xs : List UInt8) (k : Nat) (hl : xs.length ≤ 1048576) (hk : xs.length < k) : laws_eqByteS.f k xs xs = some true := by
  rw [laws_eqByteS.f, if_neg (by simp)]
  exact eqF (z := 0) (fun k i => laws_eqByteS.l0 k xs xs i) (fun _ _ => rfl) (by omega) k hk
theorem eqOp_id (x : Sy.Op) (k : Nat) (hl : x.name.length ≤ 1048576) (hk : 1048577 ≤ k) : laws_eqOp.f k x x = some true := by
  rw [laws_eqOp.f, eqByteS_id _ k hl (by omega), Option.bind_some, if_neg (by simp), if_neg (by simp), if_neg (by simp)]
theorem eqOpS_id (xs : List Sy.Op) (k : Nat) (hl : wOps xs ≤ 1048576) (hk : 2097154 < k) : laws_eqOpS.f k xs xs = some true := by
  have hl2 : xs.length ≤ 1048576 := Nat.le_trans (Nat.le_add_right _ _) hl
  rw [laws_eqOpS.f, if_neg (by simp)]
  refine eqL (z := z45) (z' := z45) (B := 1048577) (fun k i => laws_eqOpS.l0 k xs xs i) laws_eqOp.f (fun _ _ => rfl) (by omega) (fun x hx k hk => eqOp_id x k ?_ hk) k (by omega)
  exact Nat.le_trans (Nat.le_trans (wts_mem (fun x : Sy.Op => x.name.length) hx) (Nat.le_add_left _ _)) hl
/-! ### ValidOps -/
def goodOp (o : Sy.Op) : Bool := decide (o.name ≠ [] ∧ o.name.length ≤ 100 ∧ o.name ≠ [91, 93] ∧ o.name ≠ [123, 125] ∧ o.name ≠ [124] ∧ 1 ≤ o.pri ∧ o.pri ≤ 1200 ∧ 0 ≤ o.typ ∧ o.typ ≤ 6 ∧ (o.name = [44] → o.pri = 1000 ∧ o.typ = 1))
theorem special_val (x : List UInt8) : spec_l3special.f x = some (decide (x = [91, 93] ∨ x = [123, 125] ∨ x = [124])) := by
  rw [spec_l3special.f]
  by_cases h1 : x = [91, 93]
  · simp [h1]
  · by_cases h2 : x = [123, 125]
    · simp [h2]
    · simp [h1, h2]
theorem spec_step (xs : List Sy.Op) (k i : Nat) (n : Int) (hi : i < xs.length) : spec_ValidOps.l0 (k + 1) xs n (i : Int) =
    if goodOp xs[i] then (if xs[i].name = [44] then spec_ValidOps.l1 k xs (i : Int) (IntKind.i64.wrap (n + 1)) else spec_ValidOps.l1 k xs (i : Int) n) else some false := by
  rw [spec_ValidOps.l0, if_pos (by omega), if_pos (by omega), Int.toNat_natCast, getD_at hi]
  generalize xs[i] = o
  rw [special_val, Option.bind_some]
  by_cases h1 : ((o.name.length : Int) < 1)
  · rw [if_pos h1]
    have : o.name = [] := by cases hh : o.name with
      | nil => rfl
      | cons a b => rw [hh] at h1; simp at h1; omega
    simp [goodOp, this]
  have h1' : o.name ≠ [] := by rintro hh; rw [hh] at h1; simp at h1
  rw [if_neg h1]
  by_cases h2 : ((o.name.length : Int) > 100)
  · rw [if_pos h2]; have : ¬ o.name.length ≤ 100 := by omega
    simp [goodOp, this]
  have h2' : o.name.length ≤ 100 := by omega
  rw [if_neg h2]
  by_cases h3 : o.name = [91, 93] ∨ o.name = [123, 125] ∨ o.name = [124]
  · rw [if_pos (by simpa using h3)]
    rcases h3 with h3 | h3 | h3 <;> simp [goodOp, h3]
  rw [if_neg (by simpa using h3)]
  by_cases h4 : o.pri < 1
  · rw [if_pos h4]; have : ¬ 1 ≤ o.pri := by omega
    simp [goodOp, this]
  rw [if_neg h4]
  by_cases h5 : o.pri > 1200
  · rw [if_pos h5]; have : ¬ o.pri ≤ 1200 := by omega
    simp [goodOp, this]
  rw [if_neg h5]
  by_cases h6 : o.typ < 0
  · rw [if_pos h6]; have : ¬ 0 ≤ o.typ := by omega
    simp [goodOp, this]
  rw [if_neg h6]
  by_cases h7 : o.typ > 6
  · rw [if_pos h7]; have : ¬ o.typ ≤ 6 := by omega
    simp [goodOp, this]
  rw [if_neg h7]
  simp only [not_or] at h3
  by_cases h8 : o.name = [44]
  · rw [if_pos h8]
    by_cases h9 : o.pri ≠ 1000
    · rw [if_pos h9]; simp [goodOp, h8, h9]
    rw [if_neg h9]
    by_cases h10 : o.typ ≠ 1
    · rw [if_pos h10]; simp [goodOp, h8, h10]
    rw [if_neg h10]
    have hg : goodOp o = true := by
      simp only [goodOp, decide_eq_true_eq]
      exact ⟨h1', h2', h3.1, h3.2.1, h3.2.2, by omega, by omega, by omega, by omega, fun _ => ⟨by omega, by omega⟩⟩
    rw [if_pos hg, if_pos h8]
  · rw [if_neg h8]
    have hg : goodOp o = true := by
      simp only [goodOp, decide_eq_true_eq]
      exact ⟨h1', h2', h3.1, h3.2.1, h3.2.2, by omega, by omega, by omega, by omega, fun h => absurd h h8⟩
    rw [if_pos hg, if_neg h8]
theorem impl_step (xs : List Sy.Op) (k i : Nat) (c : Bool) (hi : i < xs.length) : impl_ValidOps.l0 (k + 1) xs c (i : Int) =
    if goodOp xs[i] then (if xs[i].name = [44] then (if c then some false else impl_ValidOps.l1 k xs (i : Int) true) else impl_ValidOps.l1 k xs (i : Int) c) else some false := by
  rw [impl_ValidOps.l0, if_pos (by omega), if_pos (by omega), Int.toNat_natCast, getD_at hi]
  generalize xs[i] = o
  by_cases h1 : o.name = []
  · rw [if_pos h1]; simp [goodOp, h1]
  rw [if_neg h1]
  by_cases h2 : ((o.name.length : Int) > 100)
  · rw [if_pos h2]; have : ¬ o.name.length ≤ 100 := by omega
    simp [goodOp, this]
  have h2' : o.name.length ≤ 100 := by omega
  rw [if_neg h2]
  by_cases h31 : o.name = [91, 93]
  · rw [if_pos h31]; simp [goodOp, h31]
  rw [if_neg h31]
  by_cases h32 : o.name = [123, 125]
  · rw [if_pos h32]; simp [goodOp, h32]
  rw [if_neg h32]
  by_cases h33 : o.name = [124]
  · rw [if_pos h33]; simp [goodOp, h33]
  rw [if_neg h33]
  by_cases h4 : o.pri < 1
  · rw [if_pos h4]; have : ¬ 1 ≤ o.pri := by omega
    simp [goodOp, this]
  rw [if_neg h4]
  by_cases h5 : o.pri > 1200
  · rw [if_pos h5]; have : ¬ o.pri ≤ 1200 := by omega
    simp [goodOp, this]
  rw [if_neg h5]
  by_cases h6 : o.typ < 0
  · rw [if_pos h6]; have : ¬ 0 ≤ o.typ := by omega
    simp [goodOp, this]
  rw [if_neg h6]
  by_cases h7 : o.typ > 6
  · rw [if_pos h7]; have : ¬ o.typ ≤ 6 := by omega
    simp [goodOp, this]
  rw [if_neg h7]
  by_cases h8 : o.name = [44]
  · rw [if_pos h8]
    by_cases h9 : o.pri ≠ 1000
    · rw [if_pos h9]; simp [goodOp, h8, h9]
    by_cases h10 : o.typ ≠ 1
    · rw [if_neg h9, if_pos h10]; simp [goodOp, h8, h10]
    have hg : goodOp o = true := by
      simp only [goodOp, decide_eq_true_eq]
      exact ⟨h1, h2', h31, h32, h33, by omega, by omega, by omega, by omega, fun _ => ⟨by omega, by omega⟩⟩
    rw [if_neg h9, if_neg h10, if_pos hg, if_pos h8]
  · rw [if_neg h8]
    have hg : goodOp o = true := by
      simp only [goodOp, decide_eq_true_eq]
      exact ⟨h1, h2', h31, h32, h33, by omega, by omega, by omega, by omega, fun h => absurd h h8⟩
    rw [if_pos hg, if_neg h8]
def clash (p q : Sy.Op) : Bool := (!(Op.bytesLess p.name q.name || p.name == q.name)) || (decide (p.name = q.name) && !((p.typ = 3 || p.typ = 4) && !(q.typ = 3 || q.typ = 4)))
theorem spec_l1_step (xs : List Sy.Op) (k i : Nat) (n : Int) (hi : i < xs.length) (hm : xs.length ≤ 1048576) : spec_ValidOps.l1 (k + 1) xs (i : Int) n =
    if i = 0 ∨ clash (xs.getD (i - 1) z45) (xs.getD i z45) = false then spec_ValidOps.l0 k xs n ((i + 1 : Nat) : Int) else some false := by
  rw [spec_ValidOps.l1]
  by_cases h0 : i = 0
  · subst h0; rw [if_pos (show ((0 : Nat) : Int) = 0 from rfl), if_pos (.inl rfl), wrap_nat (by omega)]
  have hw : IntKind.i64.wrap ((i : Int) - 1) = ((i - 1 : Nat) : Int) := by rw [wrap_id (by omega) (by omega)]; omega
  rw [if_neg (by omega), hw, if_pos (by omega), if_pos (by omega), Int.toNat_natCast, Int.toNat_natCast, wrap_nat (by omega)]
  generalize xs.getD (i - 1) z45 = p
  generalize xs.getD i z45 = q
  simp only [spec_l3prefix.f, h0, false_or]
  by_cases h1 : (!(Op.bytesLess p.name q.name || p.name == q.name)) = true
  · rw [if_pos h1, if_neg (by simp only [clash, h1]; simp)]
  rw [if_neg h1]
  have h1' : (!(Op.bytesLess p.name q.name || p.name == q.name)) = false := by simpa using h1
  by_cases h2 : p.name = q.name
  · rw [if_pos h2]
    by_cases p3 : p.typ = 3 <;> by_cases p4 : p.typ = 4 <;> by_cases q3 : q.typ = 3 <;> by_cases q4 : q.typ = 4 <;> simp [clash, h1', h2, p3, p4, q3, q4]
  · rw [if_neg h2, if_pos (by simp only [clash, h1']; simp [h2])]
theorem impl_l1_step (xs : List Sy.Op) (k i : Nat) (c : Bool) (hi : i < xs.length) (hm : xs.length ≤ 1048576) : impl_ValidOps.l1 (k + 1) xs (i : Int) c =
    if i = 0 ∨ clash (xs.getD (i - 1) z45) (xs.getD i z45) = false then impl_ValidOps.l0 k xs c ((i + 1 : Nat) : Int) else some false := by
  rw [impl_ValidOps.l1]
  by_cases h0 : i = 0
  · subst h0; rw [if_neg (by omega), if_pos (.inl rfl), wrap_nat (by omega)]
  have hw : IntKind.i64.wrap ((i : Int) - 1) = ((i - 1 : Nat) : Int) := by rw [wrap_id (by omega) (by omega)]; omega
  rw [if_pos (by omega), hw, if_pos (by omega), if_pos (by omega), Int.toNat_natCast, Int.toNat_natCast, wrap_nat (by omega)]
  generalize xs.getD (i - 1) z45 = p
  generalize xs.getD i z45 = q
  simp only [impl_Op_prefix.f, h0, false_or]
  by_cases h1 : (!(Op.bytesLess p.name q.name || p.name == q.name)) = true
  · rw [if_pos h1, if_neg (by simp only [clash, h1]; simp)]
  rw [if_neg h1]
  have h1' : (!(Op.bytesLess p.name q.name || p.name == q.name)) = false := by simpa using h1
  by_cases h2 : p.name = q.name
  · rw [if_pos h2]
    by_cases p3 : p.typ = 3 <;> by_cases p4 : p.typ = 4 <;> by_cases q3 : q.typ = 3 <;> by_cases q4 : q.typ = 4 <;> simp [clash, h1', h2, p3, p4, q3, q4]
  · rw [if_neg h2, if_pos (by simp only [clash, h1']; simp [h2])]
theorem spec_false (xs : List Sy.Op) (hm : xs.length ≤ 1048576) : ∀ (m k i : Nat) (n : Int), xs.length - i = m → i ≤ xs.length → 2 * m < k → 2 ≤ n → n ≤ 2 + (i : Int) → spec_ValidOps.l0 k xs n (i : Int) = some false := by
  intro m
  induction m with
  | zero =>
    intro k i n h1 h2 h3 h4 h5
    obtain ⟨k, rfl⟩ : ∃ q, k = q + 1 := ⟨k - 1, by omega⟩
    rw [spec_ValidOps.l0, if_neg (by omega)]
    simp; omega
  | succ m ih =>
    intro k i n h1 h2 h3 h4 h5
    obtain ⟨k, rfl⟩ : ∃ q, k = q + 2 := ⟨k - 2, by omega⟩
    have hi : i < xs.length := by omega
    rw [spec_step _ _ _ _ hi]
    split
    · split
      · rw [wrap_id (by omega) (by omega), spec_l1_step _ _ _ _ hi hm]
        split
        · exact ih k (i + 1) _ (by omega) (by omega) (by omega) (by omega) (by omega)
        · rfl
      · rw [spec_l1_step _ _ _ _ hi hm]
        split
        · exact ih k (i + 1) _ (by omega) (by omega) (by omega) (by omega) (by omega)
        · rfl
    · rfl
theorem ops_loop (xs : List Sy.Op) (hm : xs.length ≤ 1048576) : ∀ (m k i : Nat) (c : Bool), xs.length - i = m → i ≤ xs.length → 2 * m < k →
    impl_ValidOps.l0 k xs c (i : Int) = spec_ValidOps.l0 k xs (if c then 1 else 0) (i : Int) ∧ ∃ b, spec_ValidOps.l0 k xs (if c then 1 else 0) (i : Int) = some b := by
  intro m
  induction m with
  | zero =>
    intro k i c h1 h2 h3
    obtain ⟨k, rfl⟩ : ∃ q, k = q + 1 := ⟨k - 1, by omega⟩
    rw [spec_ValidOps.l0, if_neg (by omega), impl_ValidOps.l0, if_neg (by omega)]
    cases c <;> exact ⟨rfl, _, rfl⟩
  | succ m ih =>
    intro k i c h1 h2 h3
    obtain ⟨k, rfl⟩ : ∃ q, k = q + 2 := ⟨k - 2, by omega⟩
    have hi : i < xs.length := by omega
    rw [spec_step _ _ _ _ hi, impl_step _ _ _ _ hi]
    split
    · split
      · cases c with
        | true =>
          simp only [if_true]
          rw [show IntKind.i64.wrap (1 + 1) = 2 from rfl, spec_l1_step _ _ _ _ hi hm]
          split
          · rw [spec_false xs hm m k (i + 1) 2 (by omega) (by omega) (by omega) (by omega) (by omega)]; exact ⟨rfl, _, rfl⟩
          · exact ⟨rfl, _, rfl⟩
        | false =>
          simp only [Bool.false_eq_true, if_false]
          rw [show IntKind.i64.wrap (0 + 1) = 1 from rfl, spec_l1_step _ _ _ _ hi hm, impl_l1_step _ _ _ _ hi hm]
          split
          · exact ih k (i + 1) true (by omega) (by omega) (by omega)
          · exact ⟨rfl, _, rfl⟩
      · rw [spec_l1_step _ _ _ _ hi hm, impl_l1_step _ _ _ _ hi hm]
        split
        · exact ih k (i + 1) c (by omega) (by omega) (by omega)
        · exact ⟨rfl, _, rfl⟩
    · exact ⟨rfl, _, rfl⟩
theorem validOps_true (xs : List Sy.Op) (hl : xs.length ≤ 9223372036854775807) (ht : ∀ c, c ∈ xs → c.name.length ≤ 9223372036854775807) : laws_FnExactValidOps.f 3000000 xs = some true := by
  rw [laws_FnExactValidOps.f, szOpS_val xs _ _ (by omega) (by omega) hl ht (by omega), Option.bind_some]
  by_cases h : left 1048576 (wOps xs) < 0
  · rw [if_pos h]
  have hq := left_le h
  have hw : wOps xs ≤ 1048576 := by omega
  have hl2 : xs.length ≤ 1048576 := Nat.le_trans (Nat.le_add_right _ _) hw
  rw [if_neg h, toOpS_id xs _ hw (by omega)]
  have e : impl_ValidOps.f 3000000 xs = spec_ValidOps.f 3000000 xs ∧ ∃ b, spec_ValidOps.f 3000000 xs = some b := by
    rw [impl_ValidOps.f, spec_ValidOps.f]
    split
    · exact ⟨rfl, _, rfl⟩
    · exact ops_loop xs hl2 _ _ 0 false rfl (by omega) (by omega)
  obtain ⟨e1, b, e2⟩ := e
  simp only [Option.bind_some, e1, e2, eqOpS_id xs 3000000 hw (by omega)]
  simp
end Go.Proofs.Ytminnekeekhjcaa
