import Derived.Test.YtognefkopbbdnaaWkUn4
import Derived.Test.YtognefkopbbdnaaZ2
namespace Go.Proofs.Ytognefkopbbdnaa
open Go.Sx Go.Sy
set_option linter.unusedVariables false
set_option linter.unusedSimpArgs false
set_option linter.unusedSectionVars false
set_option maxRecDepth 4000
/-! ### what holds from some fuel on -/
def Ev {β : Type} (g : Nat → Option β) (r : β) : Prop := ∃ K, ∀ k, K ≤ k → g k = some r
section
variable {α β : Type}
theorem Ev.ret (r : β) : Ev (fun _ => some r) r := ⟨0, fun _ _ => rfl⟩
theorem Ev.succ {g h : Nat → Option β} {r : β} (e : ∀ k, g (k + 1) = h k) (H : Ev h r) : Ev g r := by
  obtain ⟨K, hK⟩ := H
  refine ⟨K + 1, fun k hk => ?_⟩
  obtain ⟨q, rfl⟩ : ∃ q, k = q + 1 := ⟨k - 1, by omega⟩
  rw [e q]; exact hK q (by omega)
theorem Ev.of {g h : Nat → Option β} {r : β} (e : ∀ k, g k = h k) (H : Ev h r) : Ev g r := by
  obtain ⟨K, hK⟩ := H
  exact ⟨K, fun k hk => (e k).trans (hK k hk)⟩
theorem Ev.bind {f : Nat → Option α} {h : Nat → α → Option β} {a : α} {r : β} (Hf : Ev f a) (Hh : Ev (fun k => h k a) r) : Ev (fun k => (f k).bind (h k)) r := by
  obtain ⟨K, hK⟩ := Hf
  obtain ⟨L, hL⟩ := Hh
  refine ⟨K + L, fun k hk => ?_⟩
  show (f k).bind (h k) = _
  rw [hK k (by omega)]; exact hL k (by omega)
theorem Ev.at {g : Nat → Option β} {r : β} (h : Ev g r) : ∃ K, ∀ k, K ≤ k → g k = some r := h
end
/-! ### the reference's bindings: a row in ascending order -/
def srt (xs : List Binding) : Prop := xs.Pairwise (fun a b => a.var < b.var)
theorem gd {xs : List Binding} {i : Nat} (hi : i < xs.length) : xs.getD i z63 = xs[i] := by
  rw [List.getD_eq_getElem?_getD, List.getElem?_eq_getElem hi]; rfl
theorem mid_val {a b : Nat} (h : a < b) (hb : b ≤ 1000000) : IntKind.i64.wrap (Int.tdiv (IntKind.i64.wrap ((a : Int) + (b : Int))) 2) = (((a + b) / 2 : Nat) : Int) := by
  rw [wrap_id (n := (a : Int) + (b : Int)) (by omega) (by omega)]
  have : Int.tdiv ((a : Int) + (b : Int)) 2 = (((a + b) / 2 : Nat) : Int) := by
    rw [Int.tdiv_eq_ediv_of_nonneg (by omega)]; omega
  rw [this, wrap_id (by omega) (by omega)]
theorem idx_loop (xs : List Binding) (v : Int) (hs : srt xs) (hl : xs.length ≤ 1000000) : ∀ (m lo hi : Nat), hi - lo = m → lo ≤ hi → hi ≤ xs.length → (∀ i, i < lo → (h : i < xs.length) → xs[i].var < v) → (∀ i, hi ≤ i → (h : i < xs.length) → v ≤ xs[i].var) →
    ∃ r : Int, Ev (fun k => spec_l5index.l0 k xs v (lo : Int) (hi : Int)) r ∧ ((∃ (j : Nat) (hj : j < xs.length), r = (j : Int) ∧ xs[j].var = v) ∨ (r = -1 ∧ ∀ b, b ∈ xs → b.var ≠ v)) := by
  intro m
  induction m using Nat.strongRecOn with
  | _ m ih =>
    intro lo hi h1 h2 h3 hlo hhi
    by_cases hc : lo < hi
    · have hm := mid_val hc (by omega)
      have hmid : (lo + hi) / 2 < xs.length := by omega
      have step : ∀ k, spec_l5index.l0 (k + 1) xs v (lo : Int) (hi : Int) = if xs[(lo + hi) / 2].var < v then spec_l5index.l0 k xs v ((((lo + hi) / 2 + 1 : Nat)) : Int) (hi : Int) else spec_l5index.l0 k xs v (lo : Int) (((lo + hi) / 2 : Nat) : Int) := fun k => by
        rw [spec_l5index.l0, if_pos (by omega), hm, if_pos (by omega), if_pos (by omega), Int.toNat_natCast, gd hmid]
        have : IntKind.i64.wrap ((((lo + hi) / 2 : Nat) : Int) + 1) = (((lo + hi) / 2 + 1 : Nat) : Int) := by rw [wrap_id (by omega) (by omega)]; omega
        rw [this]
      have hp := List.pairwise_iff_getElem.1 hs
      by_cases hv : xs[(lo + hi) / 2].var < v
      · obtain ⟨r, e1, e2⟩ := ih (hi - ((lo + hi) / 2 + 1)) (by omega) ((lo + hi) / 2 + 1) hi rfl (by omega) h3 (fun i hi' h => by
          rcases Nat.lt_or_ge i ((lo + hi) / 2) with q | q
          · have := hp i ((lo + hi) / 2) h hmid q; omega
          · have : i = (lo + hi) / 2 := by omega
            subst this; exact hv) hhi
        exact ⟨r, Ev.succ step (Ev.of (fun k => if_pos hv) e1), e2⟩
      · obtain ⟨r, e1, e2⟩ := ih ((lo + hi) / 2 - lo) (by omega) lo ((lo + hi) / 2) rfl (by omega) (by omega) hlo (fun i hi' h => by
          rcases Nat.lt_or_ge ((lo + hi) / 2) i with q | q
          · have := hp ((lo + hi) / 2) i hmid h q; omega
          · have : i = (lo + hi) / 2 := by omega
            subst this; omega)
        exact ⟨r, Ev.succ step (Ev.of (fun k => if_neg hv) e1), e2⟩
    · obtain rfl : lo = hi := by omega
      have fin : ∀ k, spec_l5index.l0 (k + 1) xs v (lo : Int) (lo : Int) = if (lo : Int) < (xs.length : Int) then (if (xs.getD lo z63).var = v then some (lo : Int) else some (-1)) else some (-1) := fun k => by
        rw [spec_l5index.l0, if_neg (by omega)]
        by_cases q : (lo : Int) < (xs.length : Int)
        · rw [if_pos q, if_pos q, if_pos (by omega), Int.toNat_natCast]
        · rw [if_neg q, if_neg q]
      by_cases q : lo < xs.length
      · by_cases e : xs[lo].var = v
        · exact ⟨lo, Ev.succ fin (Ev.of (fun k => by rw [if_pos (by omega), gd q, if_pos e]) (Ev.ret _)), .inl ⟨lo, q, rfl, e⟩⟩
        · refine ⟨-1, Ev.succ fin (Ev.of (fun k => by rw [if_pos (by omega), gd q, if_neg e]) (Ev.ret _)), .inr ⟨rfl, fun b hb => ?_⟩⟩
          obtain ⟨i, hi, rfl⟩ := List.getElem_of_mem hb
          rcases Nat.lt_trichotomy i lo with t | t | t
          · have := hlo i t hi; omega
          · subst t; exact e
          · have h1 := hhi lo (Nat.le_refl _) q
            have h2 := (List.pairwise_iff_getElem.1 hs) lo i q hi t
            omega
      · refine ⟨-1, Ev.succ fin (Ev.of (fun k => by rw [if_neg (by omega)]) (Ev.ret _)), .inr ⟨rfl, fun b hb => ?_⟩⟩
        obtain ⟨i, hi, rfl⟩ := List.getElem_of_mem hb
        have := hlo i (by omega) hi
        omega
theorem idx_val (xs : List Binding) (v : Int) (hs : srt xs) (hl : xs.length ≤ 1000000) : ∃ r : Int, Ev (fun k => spec_l5index.f k xs v) r ∧ ((∃ (j : Nat) (hj : j < xs.length), r = (j : Int) ∧ xs[j].var = v) ∨ (r = -1 ∧ ∀ b, b ∈ xs → b.var ≠ v)) :=
  idx_loop xs v hs hl xs.length 0 xs.length (by omega) (by omega) (Nat.le_refl _) (fun i h => by omega) (fun i h1 h2 => by omega)
/-- a binding put in -/
def ins (v : Int) (t : List Cell) : List Binding → List Binding
  | [] => [⟨v, t⟩]
  | b :: bs => if b.var < v then b :: ins v t bs else ⟨v, t⟩ :: b :: bs
theorem ins_at (v : Int) (t : List Cell) : ∀ (xs : List Binding) (i : Nat), (∀ j, j < i → (h : j < xs.length) → xs[j].var < v) → i ≤ xs.length → (∀ h : i < xs.length, ¬ xs[i].var < v) → ins v t xs = xs.take i ++ [⟨v, t⟩] ++ xs.drop i
  | [], i, _, h2, _ => by
    obtain rfl : i = 0 := by simpa using h2
    rfl
  | b :: bs, 0, _, _, h3 => by
    have : ¬ b.var < v := h3 (by simp)
    rw [ins, if_neg this]; rfl
  | b :: bs, i + 1, h1, h2, h3 => by
    have hb : b.var < v := h1 0 (by omega) (by simp)
    rw [ins, if_pos hb, ins_at v t bs i (fun j hj h => h1 (j + 1) (by omega) (by simp; omega)) (by simpa using h2) (fun h => h3 (by simp; omega))]
    rfl
theorem bind_loop (st : GL5st) (v : Int) (t : List Cell) (hl : st.sub_.length ≤ 1000000) : ∀ (m i : Nat), st.sub_.length - i = m → i ≤ st.sub_.length → (∀ j, j < i → (h : j < st.sub_.length) → st.sub_[j].var < v) → Ev (fun k => spec_l5bind.l0 k st v t (i : Int)) (⟨ins v t st.sub_, st.pairs_⟩ : GL5st) := by
  intro m
  induction m with
  | zero =>
    intro i h1 h2 h3
    refine Ev.succ (fun k => ?_) (Ev.ret _)
    have e := ins_at v t st.sub_ i h3 h2 (fun h => by omega)
    rw [spec_l5bind.l0, if_neg (by omega), if_pos (by omega), if_pos (by omega), Int.toNat_natCast, if_pos (by rw [List.length_take]; omega), if_pos (by rw [List.length_take]; omega), if_pos (by rw [List.length_append, List.length_take, List.length_drop]; simp; omega), e]
  | succ m ih =>
    intro i h1 h2 h3
    have hi : i < st.sub_.length := by omega
    by_cases hv : st.sub_[i].var < v
    · refine Ev.succ (fun k => ?_) (ih (i + 1) (by omega) (by omega) (fun j hj h => by
        by_cases q : j < i
        · exact h3 j q h
        · have : j = i := by omega
          subst this; exact hv))
      rw [spec_l5bind.l0, if_pos (by omega), if_pos (by omega), Int.toNat_natCast, gd hi, if_pos hv]
      have : IntKind.i64.wrap ((i : Int) + 1) = ((i + 1 : Nat) : Int) := by rw [wrap_id (by omega) (by omega)]; omega
      rw [this]
    · refine Ev.succ (fun k => ?_) (Ev.ret _)
      have e := ins_at v t st.sub_ i h3 h2 (fun h => hv)
      rw [spec_l5bind.l0, if_pos (by omega), if_pos (by omega), Int.toNat_natCast, gd hi, if_neg hv, if_pos (by omega), if_pos (by rw [List.length_take]; omega), if_pos (by rw [List.length_take]; omega), if_pos (by rw [List.length_append, List.length_take, List.length_drop]; simp; omega), e]
theorem bind_val (st : GL5st) (v : Int) (t : List Cell) (hl : st.sub_.length ≤ 1000000) : Ev (fun k => spec_l5bind.f k st v t) (⟨ins v t st.sub_, st.pairs_⟩ : GL5st) :=
  bind_loop st v t hl st.sub_.length 0 (by omega) (by omega) (fun j h => by omega)
theorem mem_ins {v : Int} {t : List Cell} {b : Binding} : ∀ {xs : List Binding}, b ∈ ins v t xs ↔ b = ⟨v, t⟩ ∨ b ∈ xs
  | [] => by simp [ins]
  | x :: xs => by
    rw [ins]
    split
    · rw [List.mem_cons, mem_ins, List.mem_cons]
      constructor
      · rintro (h | h | h)
        · exact .inr (.inl h)
        · exact .inl h
        · exact .inr (.inr h)
      · rintro (h | h | h)
        · exact .inr (.inl h)
        · exact .inl h
        · exact .inr (.inr h)
    · rw [List.mem_cons]
theorem ins_len (v : Int) (t : List Cell) : ∀ xs : List Binding, (ins v t xs).length = xs.length + 1
  | [] => rfl
  | x :: xs => by
    rw [ins]; split
    · rw [List.length_cons, ins_len v t xs, List.length_cons]
    · rfl
theorem ins_srt {v : Int} {t : List Cell} : ∀ {xs : List Binding}, srt xs → (∀ b, b ∈ xs → b.var ≠ v) → srt (ins v t xs)
  | [], _, _ => by simp [ins, srt]
  | x :: xs, hs, hn => by
    have hs' := List.pairwise_cons.1 hs
    rw [ins]
    split
    · rename_i h
      refine List.pairwise_cons.2 ⟨fun b hb => ?_, ins_srt hs'.2 (fun b hb => hn b (.tail _ hb))⟩
      rcases mem_ins.1 hb with rfl | hb
      · exact h
      · exact hs'.1 b hb
    · rename_i h
      have h1 : v < x.var := by have := hn x (.head _); omega
      refine List.pairwise_cons.2 ⟨fun b hb => ?_, hs⟩
      rcases List.mem_cons.1 hb with rfl | hb
      · exact h1
      · have := hs'.1 b hb; show v < b.var; omega
end Go.Proofs.Ytognefkopbbdnaa
