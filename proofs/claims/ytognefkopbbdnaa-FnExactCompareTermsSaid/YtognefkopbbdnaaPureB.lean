import Derived.Test.YtognefkopbbdnaaWkB
import Derived.Test.YtognefkopbbdnaaOpen
namespace Go.Proofs.Ytognefkopbbdnaa
open Go.Sx
/-! ### numbers -/
theorem wrap_id {n : Int} (h1 : -9223372036854775808 ≤ n) (h2 : n ≤ 9223372036854775807) : IntKind.i64.wrap n = n := by
  have e : IntKind.i64.wrap n = if n % 18446744073709551616 ≥ 9223372036854775808 then n % 18446744073709551616 - 18446744073709551616 else n % 18446744073709551616 := by
    simp [IntKind.wrap, IntKind.signed, IntKind.bits]
  rw [e]
  split <;> omega
theorem wrap_nat {n : Nat} (h : n < 9223372036854775807) : IntKind.i64.wrap ((n : Int) + 1) = ((n + 1 : Nat) : Int) := by
  rw [wrap_id (by omega) (by omega)]; omega
/-! ### the laws' copies -/
theorem toByteS_l0 (xs : List UInt8) (hl : xs.length < 9223372036854775807) : ∀ (m k i : Nat) (ys : List UInt8), xs.length - i = m → i ≤ xs.length → m < k → ys.length = xs.length → ys.take i = xs.take i → laws_toByteS.l0 k xs ys (i : Int) = some xs := by
  intro m
  induction m with
  | zero =>
    intro k i ys h1 h2 h3 h4 h5
    obtain ⟨k, rfl⟩ : ∃ q, k = q + 1 := ⟨k - 1, by omega⟩
    rw [laws_toByteS.l0, if_neg (by omega)]
    rw [List.take_of_length_le (by omega), List.take_of_length_le (by omega)] at h5
    rw [h5]
  | succ m ih =>
    intro k i ys h1 h2 h3 h4 h5
    obtain ⟨k, rfl⟩ : ∃ q, k = q + 1 := ⟨k - 1, by omega⟩
    rw [laws_toByteS.l0, if_pos (by omega), if_pos (by omega), if_pos (by omega), wrap_nat (by omega)]
    refine ih k (i + 1) _ (by omega) (by omega) (by omega) (by simpa using h4) ?_
    rw [Int.toNat_natCast]
    rw [List.take_add_one, List.take_add_one, List.take_set_of_le (Nat.le_refl i), h5]
    congr 1
    rw [List.getElem?_set_self (by omega), List.getD_eq_getElem?_getD, List.getElem?_eq_getElem (by omega)]
    rfl
theorem toByteS_id (xs : List UInt8) (k : Nat) (hl : xs.length ≤ 1048576) (hk : xs.length < k) : laws_toByteS.f k xs = some xs := by
  rw [laws_toByteS.f, if_pos (by omega), if_pos (by omega)]
  exact toByteS_l0 xs (by omega) xs.length k 0 _ rfl (by omega) hk (by simp) (by simp)
theorem toCell_id (c : Cell) (k : Nat) (hl : c.text.length ≤ 1048576) (hk : 1048576 < k) : laws_toCell.f k c = some c := by
  rw [laws_toCell.f, toByteS_id _ k hl (by omega)]
  rfl
theorem toCellS_l0 (xs : List Cell) (hl : xs.length < 9223372036854775807) (ht : ∀ c, c ∈ xs → c.text.length ≤ 1048576) : ∀ (m k i : Nat) (ys : List Cell), xs.length - i = m → i ≤ xs.length → m + 1048577 < k → ys.length = xs.length → ys.take i = xs.take i → laws_toCellS.l0 k xs ys (i : Int) = some xs := by
  intro m
  induction m with
  | zero =>
    intro k i ys h1 h2 h3 h4 h5
    obtain ⟨k, rfl⟩ : ∃ q, k = q + 1 := ⟨k - 1, by omega⟩
    rw [laws_toCellS.l0, if_neg (by omega)]
    rw [List.take_of_length_le (by omega), List.take_of_length_le (by omega)] at h5
    rw [h5]
  | succ m ih =>
    intro k i ys h1 h2 h3 h4 h5
    obtain ⟨k, rfl⟩ : ∃ q, k = q + 1 := ⟨k - 1, by omega⟩
    have hi : i < xs.length := by omega
    have hg : xs.getD i z68 = xs[i] := by rw [List.getD_eq_getElem?_getD, List.getElem?_eq_getElem hi]; rfl
    rw [laws_toCellS.l0, if_pos (by omega), if_pos (by omega), Int.toNat_natCast, hg, toCell_id _ k (ht _ (List.getElem_mem hi)) (by omega)]
    rw [Option.bind_some, if_pos (by omega), wrap_nat (by omega)]
    refine ih k (i + 1) _ (by omega) (by omega) (by omega) (by simpa using h4) ?_
    rw [List.take_add_one, List.take_add_one, List.take_set_of_le (Nat.le_refl i), h5]
    congr 1
    rw [List.getElem?_set_self (by omega), List.getElem?_eq_getElem hi]
theorem toCellS_id (xs : List Cell) (k : Nat) (hl : xs.length ≤ 1048576) (ht : ∀ c, c ∈ xs → c.text.length ≤ 1048576) (hk : 2097153 < k) : laws_toCellS.f k xs = some xs := by
  rw [laws_toCellS.f, if_pos (by omega), if_pos (by omega)]
  exact toCellS_l0 xs (by omega) ht xs.length k 0 _ rfl (by omega) (by omega) (by simp) (by simp)
/-! ### equality with oneself -/
theorem eqByteS_l0 (xs : List UInt8) (hl : xs.length < 9223372036854775807) : ∀ (m k i : Nat), xs.length - i = m → i ≤ xs.length → m < k → laws_eqByteS.l0 k xs xs (i : Int) = some true := by
  intro m
  induction m with
  | zero =>
    intro k i h1 h2 h3
    obtain ⟨k, rfl⟩ : ∃ q, k = q + 1 := ⟨k - 1, by omega⟩
    rw [laws_eqByteS.l0, if_neg (by omega)]
  | succ m ih =>
    intro k i h1 h2 h3
    obtain ⟨k, rfl⟩ : ∃ q, k = q + 1 := ⟨k - 1, by omega⟩
    rw [laws_eqByteS.l0, if_pos (by omega), if_pos (by omega), if_pos (by omega), if_neg (by simp), wrap_nat (by omega)]
    exact ih k (i + 1) (by omega) (by omega) (by omega)
theorem eqByteS_id (xs : List UInt8) (k : Nat) (hl : xs.length ≤ 1048576) (hk : xs.length < k) : laws_eqByteS.f k xs xs = some true := by
  rw [laws_eqByteS.f, if_neg (by simp)]
  exact eqByteS_l0 xs (by omega) xs.length k 0 rfl (by omega) hk
theorem eqCell_id (c : Cell) (k : Nat) (hl : c.text.length ≤ 1048576) (hk : 1048576 < k) : laws_eqCell.f k c c = some true := by
  rw [laws_eqCell.f, if_neg (by simp), if_neg (by simp), eqByteS_id _ k hl (by omega), Option.bind_some, if_neg (by simp)]
theorem eqCellS_l0 (xs : List Cell) (hl : xs.length < 9223372036854775807) (ht : ∀ c, c ∈ xs → c.text.length ≤ 1048576) : ∀ (m k i : Nat), xs.length - i = m → i ≤ xs.length → m + 1048577 < k → laws_eqCellS.l0 k xs xs (i : Int) = some true := by
  intro m
  induction m with
  | zero =>
    intro k i h1 h2 h3
    obtain ⟨k, rfl⟩ : ∃ q, k = q + 1 := ⟨k - 1, by omega⟩
    rw [laws_eqCellS.l0, if_neg (by omega)]
  | succ m ih =>
    intro k i h1 h2 h3
    obtain ⟨k, rfl⟩ : ∃ q, k = q + 1 := ⟨k - 1, by omega⟩
    have hi : i < xs.length := by omega
    have hg : xs.getD i z65 = xs[i] := by rw [List.getD_eq_getElem?_getD, List.getElem?_eq_getElem hi]; rfl
    rw [laws_eqCellS.l0, if_pos (by omega), if_pos (by omega), if_pos (by omega), Int.toNat_natCast, hg, eqCell_id _ k (ht _ (List.getElem_mem hi)) (by omega), Option.bind_some, if_neg (by simp), wrap_nat (by omega)]
    exact ih k (i + 1) (by omega) (by omega) (by omega)
theorem eqCellS_id (xs : List Cell) (k : Nat) (hl : xs.length ≤ 1048576) (ht : ∀ c, c ∈ xs → c.text.length ≤ 1048576) (hk : 2097153 < k) : laws_eqCellS.f k xs xs = some true := by
  rw [laws_eqCellS.f, if_neg (by simp)]
  exact eqCellS_l0 xs (by omega) ht xs.length k 0 rfl (by omega) (by omega)
/-! ### sizes -/
theorem szByteS_val (xs : List UInt8) (b : Int) (h0 : 0 ≤ b) (h1 : b ≤ 1048576) (hl : xs.length ≤ 9223372036854775807) : laws_szByteS.f xs b = some (if b - (xs.length : Int) < 0 then -1 else b - (xs.length : Int)) := by
  rw [laws_szByteS.f, wrap_id (by omega) (by omega)]
  split <;> rfl
theorem szCell_val (c : Cell) (b : Int) (h0 : 0 ≤ b) (h1 : b ≤ 1048576) (hl : c.text.length ≤ 9223372036854775807) : ∃ t, laws_szCell.f c b = some t ∧ (t < 0 ∨ (0 ≤ t ∧ t ≤ b ∧ c.text.length ≤ 1048576)) := by
  rw [laws_szCell.f, szByteS_val _ _ h0 h1 hl, Option.bind_some]
  by_cases h : b - (c.text.length : Int) < 0
  · rw [if_pos h]; exact ⟨-1, rfl, .inl (by omega)⟩
  · rw [if_neg h, if_neg h]; exact ⟨_, rfl, .inr ⟨by omega, by omega, by omega⟩⟩
theorem szCellS_l0 (xs : List Cell) (hl : xs.length < 9223372036854775807) (ht : ∀ c, c ∈ xs → c.text.length ≤ 9223372036854775807) : ∀ (m k i : Nat) (b : Int), xs.length - i = m → i ≤ xs.length → m < k → 0 ≤ b → b ≤ 1048576 →
    ∃ t, laws_szCellS.l0 k xs b (i : Int) = some t ∧ (t < 0 ∨ (0 ≤ t ∧ t ≤ b ∧ ∀ c, c ∈ xs.drop i → c.text.length ≤ 1048576)) := by
  intro m
  induction m with
  | zero =>
    intro k i b h1 h2 h3 h4 h5
    obtain ⟨k, rfl⟩ : ∃ q, k = q + 1 := ⟨k - 1, by omega⟩
    rw [laws_szCellS.l0, if_neg (by omega)]
    exact ⟨b, rfl, .inr ⟨h4, Int.le_refl _, fun c hc => by rw [List.drop_of_length_le (by omega)] at hc; cases hc⟩⟩
  | succ m ih =>
    intro k i b h1 h2 h3 h4 h5
    obtain ⟨k, rfl⟩ : ∃ q, k = q + 1 := ⟨k - 1, by omega⟩
    have hi : i < xs.length := by omega
    have hg : xs.getD i z68 = xs[i] := by rw [List.getD_eq_getElem?_getD, List.getElem?_eq_getElem hi]; rfl
    obtain ⟨t, e1, e2⟩ := szCell_val xs[i] b h4 h5 (ht _ (List.getElem_mem hi))
    rw [laws_szCellS.l0, if_pos (by omega), if_pos (by omega), Int.toNat_natCast, hg, e1, Option.bind_some]
    rcases e2 with e2 | ⟨e2, e3, e4⟩
    · rw [if_pos e2]; exact ⟨-1, rfl, .inl (by omega)⟩
    · rw [if_neg (by omega), wrap_nat (by omega)]
      obtain ⟨t2, f1, f2⟩ := ih k (i + 1) t (by omega) (by omega) (by omega) e2 (by omega)
      refine ⟨t2, f1, f2.imp id fun ⟨g1, g2, g3⟩ => ⟨g1, by omega, fun c hc => ?_⟩⟩
      rw [List.drop_eq_getElem_cons hi] at hc
      rcases List.mem_cons.1 hc with rfl | hc
      · exact e4
      · exact g3 c hc
theorem szCellS_val (xs : List Cell) (k : Nat) (b : Int) (h0 : 0 ≤ b) (h1 : b ≤ 1048576) (hl : xs.length ≤ 9223372036854775807) (ht : ∀ c, c ∈ xs → c.text.length ≤ 9223372036854775807) (hk : 1048577 < k) :
    ∃ t, laws_szCellS.f k xs b = some t ∧ (t < 0 ∨ (0 ≤ t ∧ t ≤ b ∧ xs.length ≤ 1048576 ∧ ∀ c, c ∈ xs → c.text.length ≤ 1048576)) := by
  rw [laws_szCellS.f, wrap_id (by omega) (by omega)]
  by_cases h : b - (xs.length : Int) < 0
  · rw [if_pos h]; exact ⟨-1, rfl, .inl (by omega)⟩
  · rw [if_neg h]
    obtain ⟨t, e1, e2⟩ := szCellS_l0 xs (by omega) ht xs.length k 0 (b - (xs.length : Int)) rfl (by omega) (by omega) (by omega) (by omega)
    exact ⟨t, e1, e2.imp id fun ⟨g1, g2, g3⟩ => ⟨g1, by omega, by omega, by simpa using g3⟩⟩
/-! ### FnExactValidTerm -/
theorem cellOk_eq (c : Cell) : impl_cellOk.f c = spec_l2cell.f c ∧ ∃ b, spec_l2cell.f c = some b := by
  unfold impl_cellOk.f spec_l2cell.f
  constructor
  · repeat' split
    all_goals first | rfl | (simp; omega) | omega | (congr 1; simp; omega)
  · repeat' split
    all_goals exact ⟨_, rfl⟩
theorem valid_l0 (xs : List Cell) (hl : xs.length < 9223372036854775807) : ∀ (m k i : Nat) (n : Int), xs.length - i = m → i ≤ xs.length → m < k → impl_ValidTerm.l0 k xs n (i : Int) = spec_ValidTerm.l0 k xs n (i : Int) ∧ ∃ b, spec_ValidTerm.l0 k xs n (i : Int) = some b := by
  intro m
  induction m with
  | zero =>
    intro k i n h1 h2 h3
    obtain ⟨k, rfl⟩ : ∃ q, k = q + 1 := ⟨k - 1, by omega⟩
    rw [impl_ValidTerm.l0, spec_ValidTerm.l0, if_neg (by omega), if_neg (by omega)]
    exact ⟨rfl, _, rfl⟩
  | succ m ih =>
    intro k i n h1 h2 h3
    obtain ⟨k, rfl⟩ : ∃ q, k = q + 1 := ⟨k - 1, by omega⟩
    rw [impl_ValidTerm.l0, spec_ValidTerm.l0, if_pos (show (i : Int) < (xs.length : Int) by omega), if_pos (show (0 : Int) ≤ (i : Int) by omega), if_pos (show (i : Int) < (xs.length : Int) by omega), wrap_nat (by omega)]
    by_cases hn : n = 0
    · rw [if_pos hn, if_pos hn]; exact ⟨rfl, _, rfl⟩
    · rw [if_neg hn, if_neg hn, if_pos (show (0 : Int) ≤ (i : Int) by omega)]
      obtain ⟨e1, b, e2⟩ := cellOk_eq (xs.getD (i : Int).toNat z65)
      rw [e1, e2, Option.bind_some, Option.bind_some]
      split
      · exact ⟨rfl, _, rfl⟩
      · split
        · exact ih k (i + 1) _ (by omega) (by omega) (by omega)
        · exact ih k (i + 1) _ (by omega) (by omega) (by omega)
theorem valid_eq (xs : List Cell) (k : Nat) (hl : xs.length < 9223372036854775807) (hk : xs.length < k) : impl_ValidTerm.f k xs = spec_ValidTerm.f k xs ∧ ∃ b, spec_ValidTerm.f k xs = some b := by
  rw [impl_ValidTerm.f, spec_ValidTerm.f]
  split
  · exact ⟨rfl, _, rfl⟩
  · exact valid_l0 xs hl xs.length k 0 1 rfl (by omega) hk
/-! ### trees and their cells -/
mutual
def flat : Tm → List Cell
  | .mk k n s us => ⟨k, n, s⟩ :: flats us
def flats : List Tm → List Cell
  | [] => []
  | t :: ts => flat t ++ flats ts
end
mutual
def Wf : Tm → Prop
  | .mk k n s us => (k = 3 → 1 ≤ n ∧ n ≤ 20 ∧ (us.length : Int) = n) ∧ (k ≠ 3 → us = []) ∧ (k = 0 ∨ k = 1 → s = []) ∧ (k = 2 → n = 0) ∧ (k = 0 ∨ k = 1 ∨ k = 2 ∨ k = 3) ∧ Wfs us
def Wfs : List Tm → Prop
  | [] => True
  | t :: ts => Wf t ∧ Wfs ts
end
theorem Wfs_append : ∀ (a b : List Tm), Wfs (a ++ b) ↔ Wfs a ∧ Wfs b
  | [], b => by simp [Wfs]
  | t :: a, b => by simp [Wfs, Wfs_append a b, and_assoc]
theorem flats_append : ∀ (a b : List Tm), flats (a ++ b) = flats a ++ flats b
  | [], b => by simp [flats]
  | t :: a, b => by simp [flats, flats_append a b, List.append_assoc]
theorem l2cell_ok (c : Cell) (h : spec_l2cell.f c = some true) : (c.kind = 0 ∨ c.kind = 1 ∨ c.kind = 2 ∨ c.kind = 3) ∧ (c.kind = 0 ∨ c.kind = 1 → c.text = []) ∧ (c.kind = 2 → c.n = 0) ∧ (c.kind = 3 → 1 ≤ c.n ∧ c.n ≤ 20) := by
  unfold spec_l2cell.f at h
  have e : ∀ l : List UInt8, (l.length : Int) = 0 → l = [] := fun l hl => List.eq_nil_of_length_eq_zero (by omega)
  by_cases h0 : c.kind = 0
  · rw [if_pos h0] at h
    refine ⟨.inl h0, fun _ => ?_, fun h => by omega, fun h => by omega⟩
    split at h
    · split at h
      · simp at h; exact h
      · simp at h
    · simp at h
  rw [if_neg h0] at h
  by_cases h1 : c.kind = 1
  · rw [if_pos h1] at h
    refine ⟨.inr (.inl h1), fun _ => ?_, fun h => by omega, fun h => by omega⟩
    split at h
    · split at h
      · simp at h; exact h
      · simp at h
    · simp at h
  rw [if_neg h1] at h
  split at h
  · simp at h
  by_cases h2 : c.kind = 2
  · rw [if_pos h2] at h
    simp at h
    exact ⟨.inr (.inr (.inl h2)), fun h => by omega, fun _ => h, fun h => by omega⟩
  rw [if_neg h2] at h
  by_cases h3 : c.kind = 3
  · rw [if_pos h3] at h
    split at h
    · simp at h
      exact ⟨.inr (.inr (.inr h3)), fun h => by omega, fun h => by omega, fun _ => ⟨by omega, h⟩⟩
    · simp at h
  · rw [if_neg h3] at h; simp at h
theorem valid_trees (xs : List Cell) (hl : xs.length ≤ 2000) : ∀ (m k i n : Nat), xs.length - i = m → i ≤ xs.length → n ≤ 1 + 20 * i → spec_ValidTerm.l0 k xs (n : Int) (i : Int) = some true →
    ∃ ts, ts.length = n ∧ flats ts = xs.drop i ∧ Wfs ts := by
  intro m
  induction m with
  | zero =>
    intro k i n h1 h2 h3 h
    obtain ⟨k, rfl⟩ : ∃ q, k = q + 1 := by
      cases k with
      | zero => rw [spec_ValidTerm.l0] at h; cases h
      | succ q => exact ⟨q, rfl⟩
    rw [spec_ValidTerm.l0, if_neg (by omega)] at h
    have h0 : n = 0 := by simpa using h
    exact ⟨[], by simp [h0], by rw [List.drop_of_length_le (by omega)]; simp [flats], by simp [Wfs]⟩
  | succ m ih =>
    intro k i n h1 h2 h3 h
    obtain ⟨k, rfl⟩ : ∃ q, k = q + 1 := by
      cases k with
      | zero => rw [spec_ValidTerm.l0] at h; cases h
      | succ q => exact ⟨q, rfl⟩
    have hi : i < xs.length := by omega
    have hg : xs.getD i z65 = xs[i] := by rw [List.getD_eq_getElem?_getD, List.getElem?_eq_getElem hi]; rfl
    rw [spec_ValidTerm.l0, if_pos (by omega), Int.toNat_natCast, hg, wrap_nat (by omega)] at h
    by_cases hn : (n : Int) = 0
    · rw [if_pos hn] at h; simp at h
    rw [if_neg hn, if_pos (by omega)] at h
    obtain ⟨b, hb, h⟩ := Option.bind_eq_some_iff.1 h
    cases b with
    | false => simp at h
    | true =>
      rw [if_neg (by simp), wrap_id (n := (n : Int) - 1) (by omega) (by omega)] at h
      obtain ⟨w1, w2, w3, w4⟩ := l2cell_ok _ hb
      by_cases hk : xs[i].kind = 3
      · obtain ⟨p1, p2⟩ := w4 hk
        rw [if_pos hk, wrap_id (n := (n : Int) - 1 + xs[i].n) (by omega) (by omega), show (n : Int) - 1 + xs[i].n = ((n - 1 + xs[i].n.toNat : Nat) : Int) by omega] at h
        obtain ⟨ts, e1, e2, e3⟩ := ih k (i + 1) (n - 1 + xs[i].n.toNat) (by omega) (by omega) (by omega) h
        refine ⟨Tm.mk xs[i].kind xs[i].n xs[i].text (ts.take xs[i].n.toNat) :: ts.drop xs[i].n.toNat, by simp; omega, ?_, ?_⟩
        · rw [List.drop_eq_getElem_cons hi, ← e2]
          conv => rhs; rw [← List.take_append_drop xs[i].n.toNat ts]
          rw [flats_append]
          simp [flats, flat]
        · rw [← List.take_append_drop xs[i].n.toNat ts, Wfs_append] at e3
          simp only [Wfs, Wf]
          exact ⟨⟨fun _ => ⟨p1, p2, by rw [List.length_take]; omega⟩, fun h => absurd hk h, w2, w3, w1, e3.1⟩, e3.2⟩
      · rw [if_neg hk, show (n : Int) - 1 = ((n - 1 : Nat) : Int) by omega] at h
        obtain ⟨ts, e1, e2, e3⟩ := ih k (i + 1) (n - 1) (by omega) (by omega) (by omega) h
        refine ⟨Tm.mk xs[i].kind xs[i].n xs[i].text [] :: ts, by simp; omega, ?_, ?_⟩
        · rw [List.drop_eq_getElem_cons hi, ← e2]; simp [flats, flat]
        · simp only [Wfs, Wf]
          exact ⟨⟨fun h => absurd h hk, fun _ => trivial, w2, w3, w1, trivial⟩, e3⟩
theorem flat_pos : ∀ t : Tm, 1 ≤ (flat t).length
  | .mk k n s us => by simp [flat]
theorem drop1 (c : Cell) (l : List Cell) : (c :: l).drop (1 : Int).toNat = l := rfl
mutual
theorem from_flat : ∀ (t : Tm) (k : Nat) (r : List Cell), Wf t → 3 * (flat t).length < k → (flat t).length + r.length ≤ 2000 → impl_fromCells.f k (flat t ++ r) = some (t, r)
  | .mk kd n s us, k, r, hw, hk, hl => by
    obtain ⟨k, rfl⟩ : ∃ q, k = q + 1 := ⟨k - 1, by omega⟩
    simp only [flat, List.length_cons] at hk hl
    simp only [Wf] at hw
    obtain ⟨w1, w2, _, _, _, w6⟩ := hw
    have e0 : flat (Tm.mk kd n s us) ++ r = ⟨kd, n, s⟩ :: (flats us ++ r) := by simp [flat]
    rw [e0, impl_fromCells.f, if_pos (by simp; omega), if_pos (by simp; omega), drop1]
    show (if kd = 3 then impl_fromCells.l0 k _ _ [] 0 else some (Tm.mk kd n s [], flats us ++ r)) = _
    by_cases h : kd = 3
    · rw [if_pos h]
      obtain ⟨a1, a2, a3⟩ := w1 h
      have := from_flats us k ⟨kd, n, s⟩ (flats us ++ r) r [] w6 (by omega) (by omega) (by simp; omega) (by simp; omega)
      simpa using this
    · rw [if_neg h, w2 h]; simp [flats]
theorem from_flats : ∀ (us : List Tm) (k : Nat) (c : Cell) (z r : List Cell) (acc : List Tm), Wfs us → 3 * (flats us).length + 1 < k → (flats us).length + r.length ≤ 2000 → ((acc.length + us.length : Nat) : Int) = c.n → acc.length + us.length ≤ 20 →
    impl_fromCells.l0 k (c :: z) (flats us ++ r) acc (acc.length : Int) = some (Tm.mk c.kind c.n c.text (acc ++ us), r)
  | [], k, c, z, r, acc, hw, hk, hl, hn, hb => by
    obtain ⟨k, rfl⟩ : ∃ q, k = q + 1 := ⟨k - 1, by omega⟩
    rw [impl_fromCells.l0]
    show (if (acc.length : Int) < c.n then _ else some (Tm.mk c.kind c.n c.text acc, flats [] ++ r)) = _
    rw [if_neg (by simp at hn; omega)]
    simp [flats]
  | t :: us, k, c, z, r, acc, hw, hk, hl, hn, hb => by
    obtain ⟨k, rfl⟩ : ∃ q, k = q + 1 := ⟨k - 1, by omega⟩
    simp only [Wfs] at hw
    simp only [flats, List.length_append] at hk hl
    simp only [List.length_cons] at hn hb
    have hp := flat_pos t
    have e0 : flats (t :: us) ++ r = flat t ++ (flats us ++ r) := by simp [flats]
    rw [e0, impl_fromCells.l0]
    rw [from_flat t k (flats us ++ r) hw.1 (by omega) (by simp; omega), Option.bind_some]
    show (if (acc.length : Int) < c.n then _ else _) = _
    rw [if_pos (by omega), if_pos (by omega), wrap_nat (by omega)]
    have := from_flats us k c z r (acc ++ [t]) hw.2 (by omega) (by omega) (by simp; omega) (by simp; omega)
    simpa using this
end
end Go.Proofs.Ytognefkopbbdnaa
