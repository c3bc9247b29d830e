import Derived.Test.YtdkbfcmekppnmaaGreatDoorWkTk10
import Derived.Test.YtdkbfcmekppnmaaGreatDoorZ2
namespace Go.Proofs.YtdkbfcmekppnmaaGreatDoor
open Go.Sx Go.Sy
set_option linter.unusedVariables false
set_option linter.unusedSimpArgs false
set_option linter.unusedSectionVars false
set_option maxRecDepth 4000
def Ev {β : Type} (g : Nat → Option β) (r : β) : Prop := ∃ K, ∀ k, K ≤ k → g k = some r
section
variable {α β : Type}
theorem Ev.ret (r : β) : Ev (fun _ => some r) r := ⟨0, fun _ _ => rfl⟩
theorem Ev.succ {g h : Nat → Option β} {r : β} (e : ∀ k, g (k + 1) = h k) (H : Ev h r) : Ev g r := by
 obtain ⟨K, hK⟩ := H
 refine ⟨K + 1, fun k hk => ?_⟩
 obtain ⟨q, rfl⟩ : ∃ q, k = q + 1 := ⟨k - 1, by omega⟩
 rw [e q]; exact hK q (by omega)
theorem Ev.of {g h : Nat → Option β} {r : β} (e : ∀ k, g k = h k) (H : Ev h r) : Ev g r := by
 obtain ⟨K, hK⟩ := H
 exact ⟨K, fun k hk => (e k).trans (hK k hk)⟩
theorem Ev.bind {f : Nat → Option α} {h : Nat → α → Option β} {a : α} {r : β} (Hf : Ev f a) (Hh : Ev (fun k => h k a) r) : Ev (fun k => (f k).bind (h k)) r := by
 obtain ⟨K, hK⟩ := Hf
 obtain ⟨L, hL⟩ := Hh
 refine ⟨K + L, fun k hk => ?_⟩
 show (f k).bind (h k) = _
 rw [hK k (by omega)]; exact hL k (by omega)
theorem Ev.at {g : Nat → Option β} {r : β} (h : Ev g r) : ∃ K, ∀ k, K ≤ k → g k = some r := h
end
theorem l2copy_val (xs : List Cell) (k : Nat) (hl : xs.length ≤ 1000000) (ht : ∀ c, c ∈ xs → c.text.length ≤ 1000000) (hk : xs.length < k) : spec_l2copy.f k xs = some xs := by
 rw [spec_l2copy.f]
 have key : ∀ (m k i : Nat), xs.length - i = m → i ≤ xs.length → m < k → spec_l2copy.l0 k xs (xs.take i) (i : Int) = some xs := by
  intro m
  induction m with
  | zero =>
   intro k i h1 h2 h3
   obtain ⟨k, rfl⟩ : ∃ q, k = q + 1 := ⟨k - 1, by omega⟩
   rw [spec_l2copy.l0, if_neg (by omega), List.take_of_length_le (by omega)]
  | succ m ih =>
   intro k i h1 h2 h3
   obtain ⟨k, rfl⟩ : ∃ q, k = q + 1 := ⟨k - 1, by omega⟩
   have hi : i < xs.length := by omega
   have hlt := ht _ (List.getElem_mem hi)
   rw [spec_l2copy.l0, if_pos (by omega), if_pos (by omega), Int.toNat_natCast, getD_at hi, spec_l1copy.f, if_pos (by omega), Option.bind_some, if_pos (by rw [List.length_take]; omega), wrap_nat (by omega)]
   have e : xs.take i ++ [(⟨xs[i].kind, xs[i].n, xs[i].text⟩ : Cell)] = xs.take (i + 1) := by rw [List.take_add_one, List.getElem?_eq_getElem hi]; rfl
   rw [e]
   exact ih k (i + 1) (by omega) (by omega) (by omega)
 exact key xs.length k 0 rfl (by omega) hk
def TE {β : Type} (g : Nat → Option β) (P : β → Prop) : Prop := ∃ r, Ev g r ∧ P r
section
variable {α β : Type} {P Q : β → Prop}
theorem TE.ret {r : β} (h : P r) : TE (fun _ => some r) P := ⟨r, Ev.ret r, h⟩
theorem TE.of {g h : Nat → Option β} (e : ∀ k, g k = h k) (H : TE h P) : TE g P := by
 obtain ⟨r, h1, h2⟩ := H; exact ⟨r, Ev.of e h1, h2⟩
theorem TE.succ {g h : Nat → Option β} (e : ∀ k, g (k + 1) = h k) (H : TE h P) : TE g P := by
 obtain ⟨r, h1, h2⟩ := H; exact ⟨r, Ev.succ e h1, h2⟩
theorem TE.bind {f : Nat → Option α} {h : Nat → α → Option β} {R : α → Prop} (Hf : TE f R) (Hh : ∀ a, R a → TE (fun k => h k a) P) : TE (fun k => (f k).bind (h k)) P := by
 obtain ⟨a, e1, h1⟩ := Hf
 obtain ⟨r, e2, h2⟩ := Hh a h1
 exact ⟨r, Ev.bind e1 e2, h2⟩
theorem TE.ite {c : Prop} [Decidable c] {a b : Nat → Option β} (h1 : c → TE a P) (h2 : ¬ c → TE b P) : TE (fun k => if c then a k else b k) P := by
 by_cases h : c
 ·exact TE.of (fun k => if_pos h) (h1 h)
 ·exact TE.of (fun k => if_neg h) (h2 h)
theorem TE.pos {c : Prop} [Decidable c] {a b : Nat → Option β} (h : c) (h1 : TE a P) : TE (fun k => if c then a k else b k) P := TE.of (fun k => if_pos h) h1
theorem TE.imp {g : Nat → Option β} (H : TE g Q) (h : ∀ r, Q r → P r) : TE g P := by
 obtain ⟨r, h1, h2⟩ := H; exact ⟨r, h1, h r h2⟩
end
def RD (r : GL4rd) : Prop := 0 ≤ r.i_ ∧ r.i_ ≤ (r.b_.length : Int) ∧ r.b_.length ≤ 500
theorem tmod_rng {a n : Int} (ha : 0 ≤ a) (hn : 0 < n) : 0 ≤ Int.tmod a n ∧ Int.tmod a n < n := by
 rw [Int.tmod_eq_emod_of_nonneg ha]
 exact ⟨Int.emod_nonneg _ (by omega), Int.emod_lt_of_pos _ hn⟩
theorem open_te (x : List UInt8) (h : x.length ≤ 1048576) : TE (fun _ => spec_l4open.f x) RD := by
 refine TE.of (fun k => by rw [spec_l4open.f]) (TE.ite (fun c => TE.pos (by omega) (TE.ret ⟨by simp, by simp, by simp; omega⟩)) fun c => TE.pos (by omega) (TE.pos (by omega) (TE.ret ⟨by simp, by simp, ?_⟩)))
 simp; omega
theorem next_te {r : GL4rd} (h : RD r) : TE (fun _ => spec_l4rd_next_2.f r) (fun t => 0 ≤ t.1 ∧ t.1 ≤ 255 ∧ RD t.2) := by
 obtain ⟨h1, h2, h3⟩ := h
 refine TE.of (fun k => by rw [spec_l4rd_next_2.f]) (TE.ite (fun c => TE.ret ⟨by simp, by simp, h1, h2, h3⟩) fun c => TE.pos h1 (TE.pos (by omega) (TE.ret ⟨?_, ?_, ?_, ?_, ?_⟩)))
 ·simp
 ·have := (r.b_.getD (r.i_).toNat (0 : UInt8)).toNat_lt; simp only; omega
 all_goals simp only [wrap_id (n := r.i_ + 1) (by omega) (by omega)]
 ·omega
 ·omega
 ·exact h3
theorem getD_len {L : List (List UInt8)} {i : Nat} {n : Nat} (h : L.all (fun s => decide (s.length ≤ n)) = true) : (L.getD i []).length ≤ n := by
 rw [List.getD_eq_getElem?_getD]
 cases e : L[i]? with
 | none => simp
 | some s => exact of_decide_eq_true (List.all_eq_true.1 h s (List.mem_of_getElem? e))
theorem name_te {r : GL4rd} (h : RD r) : TE (fun _ => spec_l4name.f r) (fun t => t.1.length ≤ 100 ∧ RD t.2) := by
 refine TE.of (fun k => by rw [spec_l4name.f]) (TE.bind (next_te h) fun t ⟨h1, h2, h3⟩ => ?_)
 have a := tmod_rng h1 (show (0 : Int) < 6 by omega)
 have b := tmod_rng h1 (show (0 : Int) < 28 by omega)
 refine TE.ite (fun c => TE.pos a.1 (TE.pos (by omega) (TE.pos (Nat.le_trans (getD_len (n := 100) (by decide)) (by decide)) (TE.ret ⟨getD_len (by decide), h3⟩)))) fun c => TE.pos b.1 (TE.pos (by omega) (TE.pos (Nat.le_trans (getD_len (n := 100) (by decide)) (by decide)) (TE.ret ⟨getD_len (by decide), h3⟩)))
theorem int_te {r : GL4rd} (h : RD r) : TE (fun _ => spec_l4int_2.f r) (fun t => RD t.2) := by
 refine TE.of (fun k => by rw [spec_l4int_2.f]) (TE.bind (next_te h) fun t ⟨h1, h2, h3⟩ => ?_)
 have a := tmod_rng h1 (show (0 : Int) < 8 by omega)
 exact TE.ite (fun c => TE.pos a.1 (TE.pos (by omega) (TE.ret h3))) fun c => TE.ret h3
def TB (n : Nat) (t : List Cell) : Prop := t.length ≤ n ∧ ∀ c, c ∈ t → c.text.length ≤ 1000
theorem TB.app {n m : Nat} {a b : List Cell} (h : TB n a) (g : TB m b) : TB (n + m) (a ++ b) :=
 ⟨by rw [List.length_append]; have := h.1; have := g.1; omega, fun c hc => (List.mem_append.1 hc).elim (h.2 c) (g.2 c)⟩
theorem TB.one {c : Cell} (h : c.text.length ≤ 1000) : TB 1 [c] := ⟨by simp, fun d hd => by rw [List.mem_singleton.1 hd]; exact h⟩
theorem TB.le {n m : Nat} {a : List Cell} (h : TB n a) (hl : n ≤ m) : TB m a := ⟨Nat.le_trans h.1 hl, h.2⟩
theorem atom_te {s : List UInt8} (h : s.length ≤ 1000) : TE (fun _ => spec_l2atom.f s) (fun t => TB 1 t ∧ t ≠ []) :=
 TE.of (fun k => by rw [spec_l2atom.f]) (TE.pos (Nat.le_trans h (by decide)) (TE.ret ⟨TB.one h, by simp⟩))
theorem copy_te {n : Nat} {t : List Cell} (h : TB n t) (hn : n ≤ 1000000) : TE (fun k => spec_l2copy.f k t) (fun u => u = t) :=
 ⟨t, ⟨n + 1, fun k hk => l2copy_val t k (by have := h.1; omega) (fun c hc => Nat.le_trans (h.2 c hc) (by decide)) (by have := h.1; omega)⟩, rfl⟩
theorem comp_te {s : List UInt8} (hs : s.length ≤ 1000) (L : List (List Cell)) (n : Nat) (hL : L.length ≤ 1000) (hn : n ≤ 100000) (h : ∀ t, t ∈ L → TB n t) : TE (fun k => spec_l2comp.f k s L) (fun t => TB (1 + L.length * n) t ∧ t ≠ []) := by
 refine TE.of (fun k => by rw [spec_l2comp.f]) (TE.pos (Nat.le_trans hs (by decide)) ?_)
 have key : ∀ (m i : Nat) (acc : List Cell), L.length - i = m → i ≤ L.length → TB (1 + i * n) acc → acc ≠ [] → TE (fun k => spec_l2comp.l0 k L acc (i : Int)) (fun t => TB (1 + L.length * n) t ∧ t ≠ []) := by
  intro m
  induction m with
  | zero =>
   intro i acc h1 h2 h3 h4
   obtain rfl : i = L.length := by omega
   exact TE.succ (fun k => by rw [spec_l2comp.l0, if_neg (by omega)]) (TE.ret ⟨h3, h4⟩)
  | succ m ih =>
   intro i acc h1 h2 h3 h4
   have hi : i < L.length := by omega
   have hb := h _ (List.getElem_mem hi)
   have hin : i * n ≤ 1000 * 100000 := Nat.mul_le_mul (by omega) hn
   refine TE.succ (fun k => by rw [spec_l2comp.l0, if_pos (by omega), if_pos (by omega), Int.toNat_natCast, getD_at hi, wrap_nat (by omega)]) (TE.bind (copy_te hb (by omega)) fun t ht => ?_)
   subst ht
   have h5 := h3.app hb
   refine TE.pos (by have := h5.1; rw [List.length_append] at this; omega) (ih (i + 1) _ (by omega) (by omega) ?_ (by simp [h4]))
   exact h5.le (by rw [Nat.add_mul]; omega)
 exact key L.length 0 _ rfl (Nat.zero_le _) ((TB.one hs).le (by omega)) (by simp)
theorem pair_te {s : List UInt8} (hs : s.length ≤ 1000) {a b : List Cell} {n : Nat} (ha : TB n a) (hb : TB n b) (hn : n ≤ 100000) : TE (fun k => spec_l2pair.f k s a b) (fun t => TB (1 + 2 * n) t ∧ t ≠ []) := by
 refine TE.of (fun k => by rw [spec_l2pair.f]) (TE.bind (comp_te hs [a, b] n (by simp) hn fun t ht => ?_) fun t ht => TE.ret ht)
 rcases List.mem_cons.1 ht with rfl | ht
 ·exact ha
 ·rw [List.mem_singleton.1 ht]; exact hb
theorem list_te (L : List (List Cell)) (z : List Cell) (n : Nat) (hL : L.length ≤ 1000) (hn : n ≤ 100000) (h : ∀ t, t ∈ L → TB n t) (hz : TB n z) (hz0 : z ≠ []) : TE (fun k => spec_l2list.f k L z) (fun t => TB (L.length * (n + 1) + n) t ∧ t ≠ []) := by
 refine TE.of (fun k => by rw [spec_l2list.f]) ?_
 have key : ∀ (m i : Nat) (acc : List Cell), L.length - i = m → i ≤ L.length → TB (i * (n + 1)) acc → TE (fun k => spec_l2list.l0 k L z acc (i : Int)) (fun t => TB (L.length * (n + 1) + n) t ∧ t ≠ []) := by
  intro m
  induction m with
  | zero =>
   intro i acc h1 h2 h3
   obtain rfl : i = L.length := by omega
   have hin : L.length * (n + 1) ≤ 1000 * 100001 := Nat.mul_le_mul (by omega) (by omega)
   refine TE.succ (fun k => by rw [spec_l2list.l0, if_neg (by omega)]) (TE.bind (copy_te hz (by omega)) fun t ht => ?_)
   subst ht
   have h5 := h3.app hz
   have hal : acc.length ≤ 1000 * 100001 := Nat.le_trans h3.1 hin
   exact TE.pos (by have := hz.1; omega) (TE.ret ⟨h5, by simp [hz0]⟩)
  | succ m ih =>
   intro i acc h1 h2 h3
   have hi : i < L.length := by omega
   have hb := h _ (List.getElem_mem hi)
   have hin : i * (n + 1) ≤ 1000 * 100001 := Nat.mul_le_mul (by omega) (by omega)
   have hc : TB 1 [(⟨3, 2, [(46 : UInt8)]⟩ : Cell)] := TB.one (by simp)
   have h4 := h3.app hc
   have hal : acc.length ≤ 1000 * 100001 := Nat.le_trans h3.1 hin
   refine TE.succ (fun k => by rw [spec_l2list.l0, if_pos (by omega), if_pos (by omega), if_pos (by omega), Int.toNat_natCast, getD_at hi, wrap_nat (by omega)]) (TE.bind (copy_te hb (by omega)) fun t ht => ?_)
   subst ht
   have h5 := h4.app hb
   refine TE.pos (by have := hb.1; simp only [List.length_append, List.length_cons, List.length_nil]; omega) (ih (i + 1) _ (by omega) (by omega) ?_)
   exact h5.le (by rw [Nat.add_mul]; omega)
 exact key L.length 0 [] rfl (Nat.zero_le _) ⟨by simp, fun c hc => by cases hc⟩
def LT (n : Nat) (t : List Cell × GL4rd) : Prop := TB n t.1 ∧ t.1 ≠ [] ∧ RD t.2
theorem leaf_te {t : Int × GL4rd} (h0 : 0 ≤ t.1) (h : RD t.2) {n : Nat} (hn : 1 ≤ n) : TE (fun _ => if (Int.tmod t.1 5) = 0 then ((spec_l4int_2.f t.2).bind fun t24 => ((spec_l2num.f t24.1).bind fun t37 => some (t37, t24.2))) else (if (Int.tmod t.1 5) < 3 then ((spec_l4rd_next_2.f t.2).bind fun t51 => ((spec_l2var.f (Int.tmod t51.1 5)).bind fun t64 => some (t64, t51.2))) else ((spec_l4name.f t.2).bind fun t77 => some ([(⟨2, 0, t77.1⟩ : Cell)], t77.2)))) (LT n) := by
 refine TE.ite (fun c => TE.bind (int_te h) fun a ha => ?_) fun c => TE.ite (fun c => TE.bind (next_te h) fun a ha => ?_) fun c => TE.bind (name_te h) fun a ha => ?_
 ·exact TE.of (fun k => by rw [spec_l2num.f]; rfl) (TE.ret ⟨(TB.one (Nat.zero_le _)).le hn, by simp, ha⟩)
 ·exact TE.of (fun k => by rw [spec_l2var.f]; rfl) (TE.ret ⟨(TB.one (Nat.zero_le _)).le hn, by simp, ha.2.2⟩)
 ·exact TE.ret ⟨(TB.one (by have := ha.1; show a.1.length ≤ 1000; omega)).le hn, by simp, ha.2⟩
theorem term_te (d : Nat) (hd : d ≤ 20) (B : Nat) (hB : 1 ≤ B) (hB2 : B ≤ 20000) (IH : ∀ (r : GL4rd), RD r → ∀ x : Int, x ≤ (d : Int) → TE (fun k => spec_l4term.f k r x) (LT B)) : ∀ (r : GL4rd), RD r → ∀ x : Int, x ≤ ((d + 1 : Nat) : Int) → TE (fun k => spec_l4term.f k r x) (LT (4 * B + 4)) := by
 intro r hr x hx
 have hlist : ∀ (t9 : Int × GL4rd) (n : Nat), 0 ≤ t9.1 → 0 < x → IntKind.i64.wrap (1 + (Int.tmod t9.1 3)) = (n : Int) → n ≤ 3 → ∀ (m i : Nat) (acc : List (List Cell)) (q : GL4rd), n - i = m → i ≤ n → acc.length = i → (∀ t, t ∈ acc → TB B t) → RD q → TE (fun k => spec_l4term.l0 k x t9 acc (i : Int) q.b_ q.i_) (LT (4 * B + 4)) := by
  intro t9 n h0 hx0 hw hn m
  induction m with
  | zero =>
   intro i acc q h1 h2 h3 h4 h5
   refine TE.succ (fun k => by rw [spec_l4term.l0, hw, if_neg (by omega)]) (TE.bind (atom_te (by simp)) fun z hz => ?_)
   have fin : ∀ (z : List Cell) (q : GL4rd), TB B z → z ≠ [] → RD q → TE (fun k => spec_l4term.l1 k acc z q.b_ q.i_) (LT (4 * B + 4)) := by
    intro z q hz hz0 hq
    refine TE.succ (fun k => by rw [spec_l4term.l1]) (TE.bind (list_te acc z B (by omega) (by omega) h4 hz hz0) fun t ht => TE.ret ⟨ht.1.le ?_, ht.2, hq⟩)
    have h9 : acc.length * (B + 1) ≤ 3 * (B + 1) := Nat.mul_le_mul_right _ (by omega)
    omega
   refine TE.ite (fun c => ?_) fun c => fin z q (hz.1.le hB) hz.2 h5
   rw [wrap_id (n := x - 2) (by omega) (by omega)]
   exact TE.bind (IH q h5 (x - 2) (by omega)) fun t ht => fin t.1 t.2 ht.1 ht.2.1 ht.2.2
  | succ m ih =>
   intro i acc q h1 h2 h3 h4 h5
   refine TE.succ (fun k => by rw [spec_l4term.l0, hw, if_pos (by omega), wrap_id (n := x - 1) (by omega) (by omega)]) (TE.bind (IH q h5 (x - 1) (by omega)) fun t ht => ?_)
   refine TE.pos (by omega) (TE.of (fun k => by rw [wrap_nat (by omega)]) (ih (i + 1) (acc ++ [t.1]) t.2 (by omega) (by omega) (by simp [h3]) (fun u hu => ?_) ht.2.2))
   rcases List.mem_append.1 hu with hu | hu
   ·exact h4 u hu
   ·rw [List.mem_singleton.1 hu]; exact ht.1
 have hcomp : ∀ (t9 : Int × GL4rd) (n : Nat), 0 ≤ t9.1 → 0 < x → IntKind.i64.wrap (1 + (Int.tmod t9.1 4)) = (n : Int) → n ≤ 4 → ∀ (m i : Nat) (acc : List (List Cell)) (q : GL4rd), n - i = m → i ≤ n → acc.length = i → (∀ t, t ∈ acc → TB B t) → RD q → TE (fun k => spec_l4term.l2 k x t9 acc (i : Int) q.b_ q.i_) (LT (4 * B + 4)) := by
  intro t9 n h0 hx0 hw hn m
  induction m with
  | zero =>
   intro i acc q h1 h2 h3 h4 h5
   refine TE.succ (fun k => by rw [spec_l4term.l2, hw, if_neg (by omega)]) (TE.bind (name_te h5) fun z hz => ?_)
   refine TE.bind (comp_te (by have := hz.1; omega) acc B (by omega) (by omega) h4) fun t ht => TE.ret ⟨ht.1.le ?_, ht.2, hz.2⟩
   have : acc.length * B ≤ 4 * B := Nat.mul_le_mul_right _ (by omega)
   omega
  | succ m ih =>
   intro i acc q h1 h2 h3 h4 h5
   refine TE.succ (fun k => by rw [spec_l4term.l2, hw, if_pos (by omega), wrap_id (n := x - 1) (by omega) (by omega)]) (TE.bind (IH q h5 (x - 1) (by omega)) fun t ht => ?_)
   refine TE.pos (by omega) (TE.of (fun k => by rw [wrap_nat (by omega)]) (ih (i + 1) (acc ++ [t.1]) t.2 (by omega) (by omega) (by simp [h3]) (fun u hu => ?_) ht.2.2))
   rcases List.mem_append.1 hu with hu | hu
   ·exact h4 u hu
   ·rw [List.mem_singleton.1 hu]; exact ht.1
 refine TE.succ (fun k => by rw [spec_l4term.f]) (TE.bind (next_te hr) fun t9 ⟨h1, h2, h3⟩ => ?_)
 refine TE.ite (fun c => leaf_te h1 h3 (by omega)) fun c => ?_
 refine TE.of (fun k => by rw [spec_l4rd_left.f, Option.bind_some]) (TE.ite (fun c => leaf_te h1 h3 (by omega)) fun c2 => TE.ite (fun c => leaf_te h1 h3 (by omega)) fun c3 => ?_)
 have m3 := tmod_rng h1 (show (0 : Int) < 3 by omega)
 have m4 := tmod_rng h1 (show (0 : Int) < 4 by omega)
 refine TE.ite (fun c4 => ?_) fun c4 => TE.ite (fun c5 => ?_) fun c5 => TE.ite (fun c6 => ?_) fun c6 => ?_
 ·exact hlist t9 (1 + Int.tmod t9.1 3).toNat h1 (by omega) (by rw [wrap_id (by omega) (by omega)]; omega) (by omega) _ 0 [] t9.2 rfl (Nat.zero_le _) rfl (fun t ht => by cases ht) h3
 ·rw [wrap_id (n := x - 1) (by omega) (by omega)]
  refine TE.bind (next_te h3) fun a ⟨a1, a2, a3⟩ => ?_
  have m17 := tmod_rng a1 (show (0 : Int) < 17 by omega)
  refine TE.pos m17.1 (TE.pos (by omega) (TE.bind (IH _ a3 _ (by omega)) fun u hu => TE.bind (IH _ hu.2.2 _ (by omega)) fun v hv => ?_))
  exact TE.bind (pair_te (getD_len (by decide)) hu.1 hv.1 (by omega)) fun t ht => TE.ret ⟨ht.1.le (by omega), ht.2, hv.2.2⟩
 ·rw [wrap_id (n := x - 1) (by omega) (by omega)]
  refine TE.bind (next_te h3) fun a ⟨a1, a2, a3⟩ => ?_
  have m12 := tmod_rng a1 (show (0 : Int) < 12 by omega)
  refine TE.pos m12.1 (TE.pos (by omega) (TE.bind (IH _ a3 _ (by omega)) fun u hu => ?_))
  exact TE.bind (comp_te (getD_len (by decide)) [u.1] B (by simp) (by omega) (fun t ht => by rw [List.mem_singleton.1 ht]; exact hu.1)) fun t ht => TE.ret ⟨ht.1.le (by simp; omega), ht.2, hu.2.2⟩
 ·exact hcomp t9 (1 + Int.tmod t9.1 4).toNat h1 (by omega) (by rw [wrap_id (by omega) (by omega)]; omega) (by omega) _ 0 [] t9.2 rfl (Nat.zero_le _) rfl (fun t ht => by cases ht) h3
theorem term0_te (r : GL4rd) (hr : RD r) (x : Int) (hx : x ≤ 0) : TE (fun k => spec_l4term.f k r x) (LT 1) :=
 TE.succ (fun k => by rw [spec_l4term.f]) (TE.bind (next_te hr) fun t9 ⟨h1, h2, h3⟩ => TE.pos hx (leaf_te h1 h3 (Nat.le_refl _)))
theorem term4_te (r : GL4rd) (hr : RD r) : TE (fun k => spec_l4term.f k r 4) (LT 2000) := by
 have h1 := term_te 0 (by omega) 1 (by omega) (by omega) (fun r hr x hx => term0_te r hr x hx)
 have h2 := term_te 1 (by omega) 8 (by omega) (by omega) h1
 have h3 := term_te 2 (by omega) 36 (by omega) (by omega) h2
 have h4 := term_te 3 (by omega) 148 (by omega) (by omega) h3
 exact (h4 r hr 4 (by simp)).imp fun t ht => ⟨ht.1.le (by omega), ht.2⟩
theorem fill_te (c : UInt8) (n : Nat) (hn : n ≤ 1000000) : TE (fun k => spec_l4fill.f k c (n : Int)) (fun s => s.length = n) := by
 refine TE.of (fun k => by rw [spec_l4fill.f]) ?_
 have key : ∀ (m i : Nat) (acc : List UInt8), n - i = m → i ≤ n → acc.length = i → TE (fun k => spec_l4fill.l0 k c (n : Int) acc (i : Int)) (fun s => s.length = n) := by
  intro m
  induction m with
  | zero =>
   intro i acc h1 h2 h3
   exact TE.succ (fun k => by rw [spec_l4fill.l0, if_neg (by omega)]) (TE.ret (by omega))
  | succ m ih =>
   intro i acc h1 h2 h3
   exact TE.succ (fun k => by rw [spec_l4fill.l0, if_pos (by omega), if_pos (by omega), wrap_nat (by omega)]) (ih (i + 1) _ (by omega) (by omega) (by simp [h3]))
 exact key n 0 [] rfl (Nat.zero_le _) rfl
end Go.Proofs.YtdkbfcmekppnmaaGreatDoor
