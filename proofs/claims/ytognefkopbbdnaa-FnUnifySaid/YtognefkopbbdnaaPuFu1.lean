import Derived.Test.YtognefkopbbdnaaWkFu4
import Derived.Test.YtognefkopbbdnaaZ2
namespace Go.Proofs.Ytognefkopbbdnaa
open Go.Sx Go.Sy
set_option linter.unusedVariables false
set_option linter.unusedSimpArgs false
set_option linter.unusedSectionVars false
set_option maxRecDepth 4000
/-! ### what holds from some fuel on -/
def Ev {β : Type} (g : Nat → Option β) (r : β) : Prop := ∃ K, ∀ k, K ≤ k → g k = some r
section
variable {α β : Type}
theorem Ev.ret (r : β) : Ev (fun _ => some r) r := ⟨0, fun _ _ => rfl⟩
theorem Ev.succ {g h : Nat → Option β} {r : β} (e : ∀ k, g (k + 1) = h k) (H : Ev h r) : Ev g r := by
  obtain ⟨K, hK⟩ := H
  refine ⟨K + 1, fun k hk => ?_⟩
  obtain ⟨q, rfl⟩ : ∃ q, k = q + 1 := ⟨k - 1, by omega⟩
  rw [e q]; exact hK q (by omega)
theorem Ev.of {g h : Nat → Option β} {r : β} (e : ∀ k, g k = h k) (H : Ev h r) : Ev g r := by
  obtain ⟨K, hK⟩ := H
  exact ⟨K, fun k hk => (e k).trans (hK k hk)⟩
theorem Ev.bind {f : Nat → Option α} {h : Nat → α → Option β} {a : α} {r : β} (Hf : Ev f a) (Hh : Ev (fun k => h k a) r) : Ev (fun k => (f k).bind (h k)) r := by
  obtain ⟨K, hK⟩ := Hf
  obtain ⟨L, hL⟩ := Hh
  refine ⟨K + L, fun k hk => ?_⟩
  show (f k).bind (h k) = _
  rw [hK k (by omega)]; exact hL k (by omega)
theorem Ev.at {g : Nat → Option β} {r : β} (h : Ev g r) : ∃ K, ∀ k, K ≤ k → g k = some r := h
end
/-! ### the reference's bindings: a row in ascending order -/
def srt (xs : List Binding) : Prop := xs.Pairwise (fun a b => a.var < b.var)
theorem gd {xs : List Binding} {i : Nat} (hi : i < xs.length) : xs.getD i z63 = xs[i] := by
  rw [List.getD_eq_getElem?_getD, List.getElem?_eq_getElem hi]; rfl
theorem mid_val {a b : Nat} (h : a < b) (hb : b ≤ 1000000) : IntKind.i64.wrap (Int.tdiv (IntKind.i64.wrap ((a : Int) + (b : Int))) 2) = (((a + b) / 2 : Nat) : Int) := by
  rw [wrap_id (n := (a : Int) + (b : Int)) (by omega) (by omega)]
  have : Int.tdiv ((a : Int) + (b : Int)) 2 = (((a + b) / 2 : Nat) : Int) := by
    rw [Int.tdiv_eq_ediv_of_nonneg (by omega)]; omega
  rw [this, wrap_id (by omega) (by omega)]
theorem idx_loop (xs : List Binding) (v : Int) (hs : srt xs) (hl : xs.length ≤ 1000000) : ∀ (m lo hi : Nat), hi - lo = m → lo ≤ hi → hi ≤ xs.length → (∀ i, i < lo → (h : i < xs.length) → xs[i].var < v) → (∀ i, hi ≤ i → (h : i < xs.length) → v ≤ xs[i].var) →
    ∃ r : Int, Ev (fun k => spec_l5index.l0 k xs v (lo : Int) (hi : Int)) r ∧ ((∃ (j : Nat) (hj : j < xs.length), r = (j : Int) ∧ xs[j].var = v) ∨ (r = -1 ∧ ∀ b, b ∈ xs → b.var ≠ v)) := by
  intro m
  induction m using Nat.strongRecOn with
  | _ m ih =>
    intro lo hi h1 h2 h3 hlo hhi
    by_cases hc : lo < hi
    · have hm := mid_val hc (by omega)
      have hmid : (lo + hi) / 2 < xs.length := by omega
      have step : ∀ k, spec_l5index.l0 (k + 1) xs v (lo : Int) (hi : Int) = if xs[(lo + hi) / 2].var < v then spec_l5index.l0 k xs v ((((lo + hi) / 2 + 1 : Nat)) : Int) (hi : Int) else spec_l5index.l0 k xs v (lo : Int) (((lo + hi) / 2 : Nat) : Int) := fun k => by
        rw [spec_l5index.l0, if_pos (by omega), hm, if_pos (by omega), if_pos (by omega), Int.toNat_natCast, gd hmid]
        have : IntKind.i64.wrap ((((lo + hi) / 2 : Nat) : Int) + 1) = (((lo + hi) / 2 + 1 : Nat) : Int) := by rw [wrap_id (by omega) (by omega)]; omega
        rw [this]
      have hp := List.pairwise_iff_getElem.1 hs
      by_cases hv : xs[(lo + hi) / 2].var < v
      · obtain ⟨r, e1, e2⟩ := ih (hi - ((lo + hi) / 2 + 1)) (by omega) ((lo + hi) / 2 + 1) hi rfl (by omega) h3 (fun i hi' h => by
          rcases Nat.lt_or_ge i ((lo + hi) / 2) with q | q
          · have := hp i ((lo + hi) / 2) h hmid q; omega
          · have : i = (lo + hi) / 2 := by omega
            subst this; exact hv) hhi
        exact ⟨r, Ev.succ step (Ev.of (fun k => if_pos hv) e1), e2⟩
      · obtain ⟨r, e1, e2⟩ := ih ((lo + hi) / 2 - lo) (by omega) lo ((lo + hi) / 2) rfl (by omega) (by omega) hlo (fun i hi' h => by
          rcases Nat.lt_or_ge ((lo + hi) / 2) i with q | q
          · have := hp ((lo + hi) / 2) i hmid h q; omega
          · have : i = (lo + hi) / 2 := by omega
            subst this; omega)
        exact ⟨r, Ev.succ step (Ev.of (fun k => if_neg hv) e1), e2⟩
    · obtain rfl : lo = hi := by omega
      have fin : ∀ k, spec_l5index.l0 (k + 1) xs v (lo : Int) (lo : Int) = if (lo : Int) < (xs.length : Int) then (if (xs.getD lo z63).var = v then some (lo : Int) else some (-1)) else some (-1) := fun k => by
        rw [spec_l5index.l0, if_neg (by omega)]
        by_cases q : (lo : Int) < (xs.length : Int)
        · rw [if_pos q, if_pos q, if_pos (by omega), Int.toNat_natCast]
        · rw [if_neg q, if_neg q]
      by_cases q : lo < xs.length
      · by_cases e : xs[lo].var = v
        · exact ⟨lo, Ev.succ fin (Ev.of (fun k => by rw [if_pos (by omega), gd q, if_pos e]) (Ev.ret _)), .inl ⟨lo, q, rfl, e⟩⟩
        · refine ⟨-1, Ev.succ fin (Ev.of (fun k => by rw [if_pos (by omega), gd q, if_neg e]) (Ev.ret _)), .inr ⟨rfl, fun b hb => ?_⟩⟩
          obtain ⟨i, hi, rfl⟩ := List.getElem_of_mem hb
          rcases Nat.lt_trichotomy i lo with t | t | t
          · have := hlo i t hi; omega
          · subst t; exact e
          · have h1 := hhi lo (Nat.le_refl _) q
            have h2 := (List.pairwise_iff_getElem.1 hs) lo i q hi t
            omega
      · refine ⟨-1, Ev.succ fin (Ev.of (fun k => by rw [if_neg (by omega)]) (Ev.ret _)), .inr ⟨rfl, fun b hb => ?_⟩⟩
        obtain ⟨i, hi, rfl⟩ := List.getElem_of_mem hb
        have := hlo i (by omega) hi
        omega
theorem idx_val (xs : List Binding) (v : Int) (hs : srt xs) (hl : xs.length ≤ 1000000) : ∃ r : Int, Ev (fun k => spec_l5index.f k xs v) r ∧ ((∃ (j : Nat) (hj : j < xs.length), r = (j : Int) ∧ xs[j].var = v) ∨ (r = -1 ∧ ∀ b, b ∈ xs → b.var ≠ v)) :=
  idx_loop xs v hs hl xs.length 0 xs.length (by omega) (by omega) (Nat.le_refl _) (fun i h => by omega) (fun i h1 h2 => by omega)
/-- a binding put in -/
def ins (v : Int) (t : List Cell) : List Binding → List Binding
  | [] => [⟨v, t⟩]
  | b :: bs => if b.var < v then b :: ins v t bs else ⟨v, t⟩ :: b :: bs
theorem ins_at (v : Int) (t : List Cell) : ∀ (xs : List Binding) (i : Nat), (∀ j, j < i → (h : j < xs.length) → xs[j].var < v) → i ≤ xs.length → (∀ h : i < xs.length, ¬ xs[i].var < v) → ins v t xs = xs.take i ++ [⟨v, t⟩] ++ xs.drop i
  | [], i, _, h2, _ => by
    obtain rfl : i = 0 := by simpa using h2
    rfl
  | b :: bs, 0, _, _, h3 => by
    have : ¬ b.var < v := h3 (by simp)
    rw [ins, if_neg this]; rfl
  | b :: bs, i + 1, h1, h2, h3 => by
    have hb : b.var < v := h1 0 (by omega) (by simp)
    rw [ins, if_pos hb, ins_at v t bs i (fun j hj h => h1 (j + 1) (by omega) (by simp; omega)) (by simpa using h2) (fun h => h3 (by simp; omega))]
    rfl
theorem bind_loop (st : GL5st) (v : Int) (t : List Cell) (hl : st.sub_.length ≤ 1000000) : ∀ (m i : Nat), st.sub_.length - i = m → i ≤ st.sub_.length → (∀ j, j < i → (h : j < st.sub_.length) → st.sub_[j].var < v) → Ev (fun k => spec_l5bind.l0 k st v t (i : Int)) (⟨ins v t st.sub_, st.pairs_⟩ : GL5st) := by
  intro m
  induction m with
  | zero =>
    intro i h1 h2 h3
    refine Ev.succ (fun k => ?_) (Ev.ret _)
    have e := ins_at v t st.sub_ i h3 h2 (fun h => by omega)
    rw [spec_l5bind.l0, if_neg (by omega), if_pos (by omega), if_pos (by omega), Int.toNat_natCast, if_pos (by rw [List.length_take]; omega), if_pos (by rw [List.length_take]; omega), if_pos (by rw [List.length_append, List.length_take, List.length_drop]; simp; omega), e]
  | succ m ih =>
    intro i h1 h2 h3
    have hi : i < st.sub_.length := by omega
    by_cases hv : st.sub_[i].var < v
    · refine Ev.succ (fun k => ?_) (ih (i + 1) (by omega) (by omega) (fun j hj h => by
        by_cases q : j < i
        · exact h3 j q h
        · have : j = i := by omega
          subst this; exact hv))
      rw [spec_l5bind.l0, if_pos (by omega), if_pos (by omega), Int.toNat_natCast, gd hi, if_pos hv]
      have : IntKind.i64.wrap ((i : Int) + 1) = ((i + 1 : Nat) : Int) := by rw [wrap_id (by omega) (by omega)]; omega
      rw [this]
    · refine Ev.succ (fun k => ?_) (Ev.ret _)
      have e := ins_at v t st.sub_ i h3 h2 (fun h => hv)
      rw [spec_l5bind.l0, if_pos (by omega), if_pos (by omega), Int.toNat_natCast, gd hi, if_neg hv, if_pos (by omega), if_pos (by rw [List.length_take]; omega), if_pos (by rw [List.length_take]; omega), if_pos (by rw [List.length_append, List.length_take, List.length_drop]; simp; omega), e]
theorem bind_val (st : GL5st) (v : Int) (t : List Cell) (hl : st.sub_.length ≤ 1000000) : Ev (fun k => spec_l5bind.f k st v t) (⟨ins v t st.sub_, st.pairs_⟩ : GL5st) :=
  bind_loop st v t hl st.sub_.length 0 (by omega) (by omega) (fun j h => by omega)
theorem mem_ins {v : Int} {t : List Cell} {b : Binding} : ∀ {xs : List Binding}, b ∈ ins v t xs ↔ b = ⟨v, t⟩ ∨ b ∈ xs
  | [] => by simp [ins]
  | x :: xs => by
    rw [ins]
    split
    · rw [List.mem_cons, mem_ins, List.mem_cons]
      constructor
      · rintro (h | h | h)
        · exact .inr (.inl h)
        · exact .inl h
        · exact .inr (.inr h)
      · rintro (h | h | h)
        · exact .inr (.inl h)
        · exact .inl h
        · exact .inr (.inr h)
    · rw [List.mem_cons]
theorem ins_len (v : Int) (t : List Cell) : ∀ xs : List Binding, (ins v t xs).length = xs.length + 1
  | [] => rfl
  | x :: xs => by
    rw [ins]; split
    · rw [List.length_cons, ins_len v t xs, List.length_cons]
    · rfl
theorem ins_srt {v : Int} {t : List Cell} : ∀ {xs : List Binding}, srt xs → (∀ b, b ∈ xs → b.var ≠ v) → srt (ins v t xs)
  | [], _, _ => by simp [ins, srt]
  | x :: xs, hs, hn => by
    have hs' := List.pairwise_cons.1 hs
    rw [ins]
    split
    · rename_i h
      refine List.pairwise_cons.2 ⟨fun b hb => ?_, ins_srt hs'.2 (fun b hb => hn b (.tail _ hb))⟩
      rcases mem_ins.1 hb with rfl | hb
      · exact h
      · exact hs'.1 b hb
    · rename_i h
      have h1 : v < x.var := by have := hn x (.head _); omega
      refine List.pairwise_cons.2 ⟨fun b hb => ?_, hs⟩
      rcases List.mem_cons.1 hb with rfl | hb
      · exact h1
      · have := hs'.1 b hb; show v < b.var; omega
/-! ### bindings as a map of trees; walking -/
def vs (cs : List Cell) : List Int := (cs.filter (fun c => decide (c.kind = 0))).map (·.n)
theorem mem_vs {cs : List Cell} {x : Int} : x ∈ vs cs ↔ ∃ c, c ∈ cs ∧ c.kind = 0 ∧ c.n = x := by
  unfold vs
  rw [List.mem_map]
  constructor
  · rintro ⟨c, h, rfl⟩
    rw [List.mem_filter, decide_eq_true_eq] at h
    exact ⟨c, h.1, h.2, rfl⟩
  · rintro ⟨c, h1, h2, rfl⟩
    exact ⟨c, List.mem_filter.2 ⟨h1, decide_eq_true h2⟩, rfl⟩
theorem vs_append (a b : List Cell) : vs (a ++ b) = vs a ++ vs b := by unfold vs; rw [List.filter_append, List.map_append]
theorem vs_var {t : Tm} (hw : Wf t) (h0 : t.kind = 0) : flat t = [⟨0, t.n, t.text⟩] ∧ vs (flat t) = [t.n] := by
  cases t with
  | mk k n s us =>
    have h0' : k = 0 := h0
    subst h0'
    simp only [Wf] at hw
    have hu : us = [] := hw.2.2.1 (by decide)
    subst hu
    exact ⟨rfl, rfl⟩
theorem flat_head (t : Tm) (z : Cell) : (flat t).getD 0 z = ⟨t.kind, t.n, t.text⟩ := by cases t; rfl
theorem mset_new {v : Int} {t : Tm} : ∀ {m : List (Int × Tm)}, mget m v = none → mset m v t = m ++ [(v, t)]
  | [], _ => rfl
  | p :: m, h => by
    simp only [mget] at h
    by_cases hp : p.1 = v
    · rw [if_pos hp] at h; cases h
    · rw [if_neg hp] at h
      simp only [mset]
      rw [if_neg hp, mset_new h]; rfl
theorem mget_none {v : Int} : ∀ {m : List (Int × Tm)}, mget m v = none ↔ v ∉ m.map (·.1)
  | [] => by simp [mget]
  | p :: m => by
    simp only [mget]
    by_cases hp : p.1 = v
    · rw [if_pos hp]; simp [hp]
    · rw [if_neg hp, mget_none]; simp [hp, Ne.symm hp]
structure Rel (sub : List Binding) (m : List (Int × Tm)) : Prop where
  srt : srt sub
  keys : (m.map (·.1)).Perm (sub.map (·.var))
  term : ∀ b, b ∈ sub → ∃ t, mget m b.var = some t ∧ b.term = flat t
  wf : ∀ v t, mget m v = some t → Wf t ∧ (flat t).length ≤ 2000
  acyc : ∃ ρ : Int → Nat, ∀ v t, mget m v = some t → ∀ u, u ∈ vs (flat t) → ρ u < ρ v
theorem Rel.got {sub : List Binding} {m : List (Int × Tm)} (h : Rel sub m) {v : Int} {t : Tm} (e : mget m v = some t) : ∃ b, b ∈ sub ∧ b.var = v ∧ b.term = flat t := by
  have h1 : v ∈ m.map (·.1) := by
    by_cases q : v ∈ m.map (·.1)
    · exact q
    · rw [mget_none.2 q] at e; cases e
  obtain ⟨b, hb, rfl⟩ := List.mem_map.1 (h.keys.mem_iff.1 h1)
  obtain ⟨t', e1, e2⟩ := h.term b hb
  rw [e] at e1; injection e1 with e1
  exact ⟨b, hb, rfl, e1 ▸ e2⟩
theorem Rel.not {sub : List Binding} {m : List (Int × Tm)} (h : Rel sub m) {v : Int} (e : mget m v = none) : ∀ b, b ∈ sub → b.var ≠ v := fun b hb hv => by
  obtain ⟨t, e1, _⟩ := h.term b hb
  rw [hv, e] at e1; cases e1
/-- the reference's look for a variable -/
theorem Rel.idx {sub : List Binding} {m : List (Int × Tm)} (h : Rel sub m) (hl : sub.length ≤ 1000000) (v : Int) : (mget m v = none ∧ Ev (fun k => spec_l5index.f k sub v) (-1)) ∨ ∃ (t : Tm) (j : Nat) (hj : j < sub.length), mget m v = some t ∧ Ev (fun k => spec_l5index.f k sub v) (j : Int) ∧ sub[j].var = v ∧ sub[j].term = flat t := by
  obtain ⟨r, e1, e2⟩ := idx_val sub v h.srt hl
  rcases e2 with ⟨j, hj, rfl, e3⟩ | ⟨rfl, e3⟩
  · obtain ⟨t, e4, e5⟩ := h.term sub[j] (List.getElem_mem _)
    exact .inr ⟨t, j, hj, by rw [← e3]; exact e4, e1, e3, e5⟩
  · refine .inl ⟨?_, e1⟩
    cases e : mget m v with
    | none => rfl
    | some t =>
      obtain ⟨b, hb, hv, _⟩ := h.got e
      exact absurd hv (e3 b hb)
inductive Wk (m : List (Int × Tm)) : Tm → Tm → Prop
  | stop {t : Tm} (h : t.kind = 0 → mget m t.n = none) : Wk m t t
  | step {t s u : Tm} (h0 : t.kind = 0) (h : mget m t.n = some s) (hs : Wk m s u) : Wk m t u
theorem wk_ex {sub : List Binding} {m : List (Int × Tm)} (h : Rel sub m) : ∀ t : Tm, ∃ u, Wk m t u := by
  obtain ⟨ρ, hρ⟩ := h.acyc
  have key : ∀ (n : Nat) (t : Tm), t.kind = 0 → ρ t.n = n → ∃ u, Wk m t u := by
    intro n
    induction n using Nat.strongRecOn with
    | _ n ih =>
      intro t h0 hn
      cases e : mget m t.n with
      | none => exact ⟨t, .stop (fun _ => e)⟩
      | some s =>
        by_cases hs : s.kind = 0
        · have hv := (vs_var (h.wf _ _ e).1 hs).2
          have hlt := hρ t.n s e s.n (by rw [hv]; simp)
          obtain ⟨u, hu⟩ := ih (ρ s.n) (by omega) s hs rfl
          exact ⟨u, .step h0 e hu⟩
        · exact ⟨s, .step h0 e (.stop (fun q => absurd q hs))⟩
  intro t
  by_cases h0 : t.kind = 0
  · exact key _ t h0 rfl
  · exact ⟨t, .stop (fun q => absurd q h0)⟩
theorem wk_impl {m : List (Int × Tm)} {t u : Tm} (h : Wk m t u) : Ev (fun k => impl_walk.f k m t) u := by
  show Ev (fun k => impl_walk.l0 k m (some t)) u
  induction h with
  | @stop t h =>
    refine Ev.succ (fun k => ?_) (Ev.ret _)
    rw [impl_walk.l0, if_pos (show (some t).isSome = true from rfl)]
    show (if t.kind = 0 then _ else some t) = _
    by_cases h0 : t.kind = 0
    · rw [if_pos h0]
      show ((impl_bindings_get.f m t.n).bind _) = _
      rw [impl_bindings_get.f, h h0]; rfl
    · rw [if_neg h0]
  | @step t s u h0 h _ ih =>
    refine Ev.succ (fun k => ?_) ih
    rw [impl_walk.l0, if_pos (show (some t).isSome = true from rfl)]
    show (if t.kind = 0 then ((impl_bindings_get.f m t.n).bind _) else some t) = _
    rw [if_pos h0, impl_bindings_get.f, h]; rfl
theorem wk_spec {sub : List Binding} {m : List (Int × Tm)} (hr : Rel sub m) (hl : sub.length ≤ 1000000) (p : Int) {t u : Tm} (h : Wk m t u) (hw : Wf t ∧ (flat t).length ≤ 2000) : Ev (fun k => spec_l5walk.f k ⟨sub, p⟩ (flat t)) (flat u) ∧ Wf u ∧ (flat u).length ≤ 2000 ∧ (u.kind = 0 → mget m u.n = none) := by
  show Ev (fun k => spec_l5walk.l0 k ⟨sub, p⟩ (flat t)) (flat u) ∧ _
  induction h with
  | @stop t h =>
    refine ⟨?_, hw.1, hw.2, h⟩
    have hp := flat_pos t
    by_cases h0 : t.kind = 0
    · rcases hr.idx hl t.n with ⟨_, e⟩ | ⟨s, j, hj, e, _⟩
      · refine Ev.succ (h := fun k => (spec_l5index.f k sub t.n).bind fun t50 => (if t50 < 0 then some (flat t) else (if 0 ≤ t50 then (if t50 < (sub.length : Int) then (spec_l5walk.l0 k ⟨sub, p⟩ ((sub.getD ((t50).toNat) z63).term)) else none) else none))) (fun k => ?_) (Ev.bind e (Ev.of (fun k => if_pos (by decide)) (Ev.ret _)))
        rw [spec_l5walk.l0, if_pos (by omega), flat_head, if_pos h0]
      · rw [h h0] at e; cases e
    · refine Ev.succ (fun k => ?_) (Ev.ret _)
      rw [spec_l5walk.l0, if_pos (by omega), flat_head, if_neg h0]
  | @step t s u h0 h _ ih =>
    obtain ⟨i1, i2⟩ := ih (hr.wf _ _ h)
    refine ⟨?_, i2⟩
    have hp := flat_pos t
    rcases hr.idx hl t.n with ⟨e, _⟩ | ⟨s', j, hj, e, e2, e3, e4⟩
    · rw [h] at e; cases e
    · rw [h] at e; injection e with e
      subst e
      refine Ev.succ (h := fun k => (spec_l5index.f k sub t.n).bind fun t50 => (if t50 < 0 then some (flat t) else (if 0 ≤ t50 then (if t50 < (sub.length : Int) then (spec_l5walk.l0 k ⟨sub, p⟩ ((sub.getD ((t50).toNat) z63).term)) else none) else none))) (fun k => ?_) (Ev.bind e2 (Ev.of (fun k => ?_) i1))
      · rw [spec_l5walk.l0, if_pos (by omega), flat_head, if_pos h0]
      · rw [if_neg (by omega), if_pos (by omega), if_pos (by omega), Int.toNat_natCast, gd hj, e4]
/-! ### what is reached from a term; a new binding -/
inductive Reach (m : List (Int × Tm)) (v : Int) : List Cell → Prop
  | here {cs : List Cell} (h : v ∈ vs cs) : Reach m v cs
  | via {cs : List Cell} {u : Int} {s : Tm} (h : u ∈ vs cs) (e : mget m u = some s) (hs : Reach m v (flat s)) : Reach m v cs
theorem Reach.mono {m : List (Int × Tm)} {v : Int} {cs ds : List Cell} (hsub : ∀ x, x ∈ vs cs → x ∈ vs ds) (h : Reach m v cs) : Reach m v ds := by
  cases h with
  | here h => exact .here (hsub _ h)
  | via h e hs => exact .via (hsub _ h) e hs
theorem reach_append {m : List (Int × Tm)} {v : Int} {a b : List Cell} : Reach m v (a ++ b) ↔ Reach m v a ∨ Reach m v b := by
  constructor
  · intro h
    cases h with
    | here h =>
      rw [vs_append] at h
      exact (List.mem_append.1 h).imp .here .here
    | via h e hs =>
      rw [vs_append] at h
      exact (List.mem_append.1 h).imp (fun h => .via h e hs) (fun h => .via h e hs)
  · rintro (h | h)
    · exact h.mono (fun x hx => by rw [vs_append]; exact List.mem_append_left _ hx)
    · exact h.mono (fun x hx => by rw [vs_append]; exact List.mem_append_right _ hx)
theorem bound_ex (ρ : Int → Nat) : ∀ l : List Int, ∃ B, ∀ u, u ∈ l → ρ u < B
  | [] => ⟨0, by simp⟩
  | x :: l => by
    obtain ⟨B, hB⟩ := bound_ex ρ l
    refine ⟨B + ρ x + 1, fun u hu => ?_⟩
    rcases List.mem_cons.1 hu with rfl | hu
    · omega
    · have := hB u hu; omega
theorem ins_perm (v : Int) (t : List Cell) : ∀ xs : List Binding, (ins v t xs).Perm (⟨v, t⟩ :: xs)
  | [] => .refl _
  | x :: xs => by
    rw [ins]; split
    · exact (List.Perm.cons x (ins_perm v t xs)).trans (List.Perm.swap _ _ _)
    · exact .refl _
open Classical in
theorem Rel.bind {sub : List Binding} {m : List (Int × Tm)} (h : Rel sub m) {v : Int} {t : Tm} (e : mget m v = none) (hw : Wf t ∧ (flat t).length ≤ 2000) (hn : ¬ Reach m v (flat t)) : Rel (ins v (flat t) sub) (mset m v t) where
  srt := ins_srt h.srt (h.not e)
  keys := by
    rw [mset_new e, List.map_append]
    have h1 := (ins_perm v (flat t) sub).map (·.var)
    refine (List.Perm.append_right _ h.keys).trans (List.Perm.trans ?_ h1.symm)
    exact List.perm_append_singleton v _
  term := fun b hb => by
    rcases mem_ins.1 hb with rfl | hb
    · exact ⟨t, by rw [mget_mset, if_pos rfl], rfl⟩
    · obtain ⟨s, e1, e2⟩ := h.term b hb
      exact ⟨s, by rw [mget_mset, if_neg (h.not e b hb)]; exact e1, e2⟩
  wf := fun x s hx => by
    rw [mget_mset] at hx
    split at hx
    · injection hx with hx; exact hx ▸ hw
    · exact h.wf x s hx
  acyc := by
    obtain ⟨ρ, hρ⟩ := h.acyc
    obtain ⟨B, hB⟩ := bound_ex ρ (vs (flat t))
    refine ⟨fun u => ρ u + if (u = v ∨ ∃ s, mget m u = some s ∧ Reach m v (flat s)) then B else 0, fun x s hx u hu => ?_⟩
    show ρ u + _ < ρ x + _
    rw [mget_mset] at hx
    by_cases hxv : x = v
    · rw [if_pos hxv] at hx
      injection hx with hx
      subst hx
      have hu1 : ¬ (u = v ∨ ∃ s, mget m u = some s ∧ Reach m v (flat s)) := by
        rintro (q | ⟨s, q1, q2⟩)
        · exact hn (.here (q ▸ hu))
        · exact hn (.via hu q1 q2)
      rw [if_neg hu1, if_pos (.inl hxv)]
      have := hB u hu
      omega
    · rw [if_neg hxv] at hx
      have h1 := hρ x s hx u hu
      by_cases hh : ∃ s, mget m x = some s ∧ Reach m v (flat s)
      · have hx1 : (x = v ∨ ∃ s, mget m x = some s ∧ Reach m v (flat s)) := .inr hh
        rw [if_pos hx1]
        split <;> omega
      · have hu1 : ¬ (u = v ∨ ∃ s, mget m u = some s ∧ Reach m v (flat s)) := by
          rintro (q | ⟨s', q1, q2⟩)
          · exact hh ⟨s, hx, .here (q ▸ hu)⟩
          · exact hh ⟨s, hx, .via hu q1 q2⟩
        rw [if_neg hu1]
        omega
/-- walking keeps what is reached -/
theorem wk_reach {sub : List Binding} {m : List (Int × Tm)} (hr : Rel sub m) {v : Int} (e : mget m v = none) {t u : Tm} (h : Wk m t u) (hw : Wf t) : Reach m v (flat t) ↔ Reach m v (flat u) := by
  induction h with
  | stop _ => exact Iff.rfl
  | @step t s u h0 h _ ih =>
    rw [← ih (hr.wf _ _ h).1]
    have hv := (vs_var hw h0).2
    constructor
    · intro q
      cases q with
      | here q =>
        rw [hv] at q
        have : v = t.n := by simpa using q
        rw [this, h] at e; cases e
      | @via _ y _ q e1 hs =>
        rw [hv] at q
        have : y = t.n := by simpa using q
        rw [this, h] at e1
        injection e1 with e1
        exact e1 ▸ hs
    · intro q
      exact .via (by rw [hv]; simp) h q
theorem wk_rank {sub : List Binding} {m : List (Int × Tm)} (hr : Rel sub m) {ρ : Int → Nat} (hρ : ∀ v t, mget m v = some t → ∀ u, u ∈ vs (flat t) → ρ u < ρ v) {t u : Tm} (h : Wk m t u) (hw : Wf t) {R : Nat} (hR : ∀ x, x ∈ vs (flat t) → ρ x < R) : (∀ x, x ∈ vs (flat u) → ρ x < R) ∧ (u = t ∨ ∃ R', R' < R ∧ ∀ x, x ∈ vs (flat u) → ρ x < R') := by
  induction h generalizing R with
  | stop _ => exact ⟨hR, .inl rfl⟩
  | @step t s u h0 h _ ih =>
    have hv := (vs_var hw h0).2
    have h1 := hR t.n (by rw [hv]; simp)
    obtain ⟨a, _⟩ := ih (hr.wf _ _ h).1 (R := ρ t.n) (hρ _ _ h)
    exact ⟨fun x hx => Nat.lt_trans (a x hx) h1, .inr ⟨ρ t.n, h1, a⟩⟩
/-! ### the program's search for a variable -/
theorem wk_end {m : List (Int × Tm)} {t u : Tm} (h : Wk m t u) : u.kind = 0 → mget m u.n = none := by
  induction h with
  | stop h => exact h
  | step _ _ _ ih => exact ih
theorem wk_wf {sub : List Binding} {m : List (Int × Tm)} (hr : Rel sub m) {t u : Tm} (h : Wk m t u) (hw : Wf t ∧ (flat t).length ≤ 2000) : Wf u ∧ (flat u).length ≤ 2000 := by
  induction h with
  | stop _ => exact hw
  | step _ h _ ih => exact ih (hr.wf _ _ h)
theorem flats_mem {us : List Tm} {a : Tm} (h : a ∈ us) : (flat a).length ≤ (flats us).length ∧ (∀ x, x ∈ vs (flat a) → x ∈ vs (flats us)) ∧ (Wfs us → Wf a) := by
  induction us with
  | nil => cases h
  | cons b us ih =>
    rcases List.mem_cons.1 h with rfl | h
    · refine ⟨by simp [flats], fun x hx => by simp only [flats]; rw [vs_append]; exact List.mem_append_left _ hx, fun hw => ?_⟩
      simp only [Wfs] at hw; exact hw.1
    · obtain ⟨h1, h2, h3⟩ := ih h
      refine ⟨by simp [flats]; omega, fun x hx => by simp only [flats]; rw [vs_append]; exact List.mem_append_right _ (h2 x hx), fun hw => ?_⟩
      simp only [Wfs] at hw; exact h3 hw.2
theorem flat_args (t : Tm) : (flat t).length = 1 + (flats t.args).length ∧ (∀ x, x ∈ vs (flats t.args) → x ∈ vs (flat t)) ∧ (t.kind ≠ 0 → ∀ x, x ∈ vs (flat t) → x ∈ vs (flats t.args)) ∧ (Wf t → Wfs t.args) := by
  cases t with
  | mk k n s us =>
    refine ⟨by simp [flat, Tm.args]; omega, fun x hx => ?_, fun h0 x hx => ?_, fun hw => ?_⟩
    · obtain ⟨c, h1, h2⟩ := mem_vs.1 hx
      exact mem_vs.2 ⟨c, by simp only [flat]; exact .tail _ h1, h2⟩
    · obtain ⟨c, h1, h2, h3⟩ := mem_vs.1 hx
      simp only [flat] at h1
      rcases List.mem_cons.1 h1 with rfl | h1
      · exact absurd h2 h0
      · exact mem_vs.2 ⟨c, h1, h2, h3⟩
    · simp only [Wf] at hw; exact hw.2.2.2
open Classical in
theorem occ_args {m : List (Int × Tm)} {n : Int} : ∀ us : List Tm, (∀ a, a ∈ us → ∃ K, ∀ W k, K ≤ W → K ≤ k → occ W m n k a = some (decide (Reach m n (flat a)))) →
    ∃ K, ∀ W k, K ≤ W → K ≤ k → us.foldr (fun a rest => (occ W m n k a).bind fun b => if b = true then some true else rest) (some false) = some (decide (Reach m n (flats us)))
  | [], _ => ⟨0, fun W k _ _ => by
    have : ¬ Reach m n (flats []) := by
      intro h
      cases h with
      | here h => simp [flats, vs] at h
      | via h _ _ => simp [flats, vs] at h
    rw [decide_eq_false this]; rfl⟩
  | a :: us, h => by
    obtain ⟨K1, h1⟩ := h a (.head _)
    obtain ⟨K2, h2⟩ := occ_args us (fun b hb => h b (.tail _ hb))
    refine ⟨K1 + K2, fun W k hW hk => ?_⟩
    rw [List.foldr_cons, h1 W k (by omega) (by omega), Option.bind_some]
    have e : Reach m n (flats (a :: us)) ↔ Reach m n (flat a) ∨ Reach m n (flats us) := by simp only [flats]; exact reach_append
    by_cases q : Reach m n (flat a)
    · rw [if_pos (decide_eq_true q), decide_eq_true (e.2 (.inl q))]
    · rw [if_neg (by rw [decide_eq_false q]; simp), h2 W k (by omega) (by omega)]
      congr 1
      exact decide_eq_decide.2 ⟨fun h => e.2 (.inr h), fun h => (e.1 h).resolve_left q⟩
open Classical in
theorem occ_val {sub : List Binding} {m : List (Int × Tm)} (hr : Rel sub m) {n : Int} (e : mget m n = none) {ρ : Int → Nat} (hρ : ∀ v t, mget m v = some t → ∀ u, u ∈ vs (flat t) → ρ u < ρ v) : ∀ (R s : Nat) (t : Tm), (Wf t ∧ (flat t).length ≤ 2000) → (∀ x, x ∈ vs (flat t) → ρ x < R) → (flat t).length ≤ s → ∃ K, ∀ W k, K ≤ W → K ≤ k → occ W m n k t = some (decide (Reach m n (flat t))) := by
  intro R
  induction R using Nat.strongRecOn with
  | _ R ihR =>
    intro s
    induction s using Nat.strongRecOn with
    | _ s ihs =>
      intro t hw hR hs
      obtain ⟨u, hu⟩ := wk_ex hr t
      obtain ⟨K1, h1⟩ := (wk_impl hu).at
      have hwu := wk_wf hr hu hw
      have hreach := wk_reach hr e hu hw.1
      obtain ⟨hRu, hcase⟩ := wk_rank hr hρ hu hw.1 hR
      have hend := wk_end hu
      have fin : (∃ K, ∀ W k, K ≤ W → K ≤ k → bod W m n k u = some (decide (Reach m n (flat u)))) → ∃ K, ∀ W k, K ≤ W → K ≤ k → occ W m n k t = some (decide (Reach m n (flat t))) := by
        rintro ⟨K2, h2⟩
        refine ⟨K1 + K2 + 1, fun W k hW hk => ?_⟩
        obtain ⟨k, rfl⟩ : ∃ q, k = q + 1 := ⟨k - 1, by omega⟩
        have h1' : impl_walk.f W m t = some u := h1 W (by omega)
        rw [occ_succ, h1', Option.bind_some, h2 W k (by omega) (by omega)]
        congr 1
        exact decide_eq_decide.2 hreach.symm
      apply fin
      by_cases k0 : u.kind = 0
      · have hv := (vs_var hwu.1 k0).2
        refine ⟨0, fun W k _ _ => ?_⟩
        unfold bod
        rw [if_pos k0]
        congr 1
        refine decide_eq_decide.2 ⟨fun h => .here (by rw [hv, h]; simp), fun h => ?_⟩
        cases h with
        | here h => rw [hv] at h; simpa using (by simpa using h : n = u.n).symm
        | @via _ y _ h e1 _ =>
          rw [hv] at h
          have : y = u.n := by simpa using h
          rw [this, hend k0] at e1; cases e1
      · obtain ⟨a1, a2, a3, a4⟩ := flat_args u
        have hru : Reach m n (flat u) ↔ Reach m n (flats u.args) := ⟨fun h => h.mono (a3 k0), fun h => h.mono a2⟩
        by_cases k3 : u.kind ≠ 3
        · refine ⟨0, fun W k _ _ => ?_⟩
          unfold bod
          rw [if_neg k0, if_pos k3]
          have hn : u.args = [] := by
            have := hwu.1
            cases u with
            | mk k n s us => simp only [Wf] at this; exact this.2.2.1 k3
          have : ¬ Reach m n (flat u) := fun h => by
            have := hru.1 h
            rw [hn] at this
            cases this with
            | here h => simp [flats, vs] at h
            | via h _ _ => simp [flats, vs] at h
          rw [decide_eq_false this]
        · have hargs : ∀ a, a ∈ u.args → ∃ K, ∀ W k, K ≤ W → K ≤ k → occ W m n k a = some (decide (Reach m n (flat a))) := fun a ha => by
            obtain ⟨b1, b2, b3⟩ := flats_mem ha
            have hwa : Wf a ∧ (flat a).length ≤ 2000 := ⟨b3 (a4 hwu.1), by have := hwu.2; omega⟩
            rcases hcase with rfl | ⟨R', hR', hb⟩
            · exact ihs (flat a).length (by omega) a hwa (fun x hx => hR x (a2 x (b2 x hx))) (Nat.le_refl _)
            · exact ihR R' hR' (flat a).length a hwa (fun x hx => hb x (a2 x (b2 x hx))) (Nat.le_refl _)
          obtain ⟨K, hK⟩ := occ_args u.args hargs
          refine ⟨K, fun W k hW hk => ?_⟩
          unfold bod
          rw [if_neg k0, if_neg k3, hK W k hW hk]
          congr 1
          exact decide_eq_decide.2 hru.symm
open Classical in
theorem stands_val {sub : List Binding} {m : List (Int × Tm)} (hr : Rel sub m) {n : Int} (e : mget m n = none) {t : Tm} (hw : Wf t ∧ (flat t).length ≤ 2000) : Ev (fun k => impl_stands.f k m n t []) (decide (Reach m n (flat t))) := by
  obtain ⟨ρ, hρ⟩ := hr.acyc
  obtain ⟨B, hB⟩ := bound_ex ρ (vs (flat t))
  obtain ⟨K, hK⟩ := occ_val hr e hρ B (flat t).length t hw hB (Nat.le_refl _)
  exact ⟨K, fun k hk => by show impl_stands.f k m n t [] = _; unfold impl_stands.f; rw [if_pos rfl]; exact hK k k hk hk⟩
/-! ### the reference's search for a variable -/
def Hit (m : List (Int × Tm)) (v y : Int) : Prop := y = v ∨ ∃ s, mget m y = some s ∧ Reach m v (flat s)
theorem reach_hit {m : List (Int × Tm)} {v : Int} {cs : List Cell} : Reach m v cs ↔ ∃ y, y ∈ vs cs ∧ Hit m v y := by
  constructor
  · intro h
    cases h with
    | here h => exact ⟨v, h, .inl rfl⟩
    | via h e hs => exact ⟨_, h, .inr ⟨_, e, hs⟩⟩
  · rintro ⟨y, h, rfl | ⟨s, e, hs⟩⟩
    · exact .here h
    · exact .via h e hs
structure Inv (sub : List Binding) (m : List (Int × Tm)) (ρ : Int → Nat) (v : Int) (T : Prop) (pend : List Int) (seen : List Bool) : Prop where
  sound : ∀ y, y ∈ pend → Hit m v y → T
  full : T → ∃ y, y ∈ pend ∧ Hit m v y
  back : ∀ j (hj : j < sub.length), seen.getD j false = true → Hit m v sub[j].var → ∃ y, y ∈ pend ∧ ρ y < ρ sub[j].var ∧ Hit m v y
section
variable {sub : List Binding} {m : List (Int × Tm)} {ρ : Int → Nat} {v : Int} {T : Prop} {pend pend' : List Int} {seen : List Bool}
theorem Inv.congr (h : Inv sub m ρ v T pend seen) (he : ∀ y, y ∈ pend ↔ y ∈ pend') : Inv sub m ρ v T pend' seen :=
  ⟨fun y hy => h.sound y ((he y).2 hy), fun t => by obtain ⟨y, a, b⟩ := h.full t; exact ⟨y, (he y).1 a, b⟩, fun j hj hs hh => by obtain ⟨y, a, b⟩ := h.back j hj hs hh; exact ⟨y, (he y).1 a, b⟩⟩
/-- a variable that is no way to v -/
theorem Inv.miss {y : Int} (h : Inv sub m ρ v T (y :: pend) seen) (hy : ¬ Hit m v y) : Inv sub m ρ v T pend seen := by
  refine ⟨fun z hz => h.sound z (.tail _ hz), fun t => ?_, fun j hj hs hh => ?_⟩
  · obtain ⟨z, a, b⟩ := h.full t
    rcases List.mem_cons.1 a with rfl | a
    · exact absurd b hy
    · exact ⟨z, a, b⟩
  · obtain ⟨z, a, b, c⟩ := h.back j hj hs hh
    rcases List.mem_cons.1 a with rfl | a
    · exact absurd c hy
    · exact ⟨z, a, b, c⟩
/-- a variable whose term was seen -/
theorem Inv.again {j : Nat} (hj : j < sub.length) (hs : seen.getD j false = true) (h : Inv sub m ρ v T (sub[j].var :: pend) seen) : Inv sub m ρ v T pend seen := by
  have key : Hit m v sub[j].var → ∃ z, z ∈ pend ∧ ρ z < ρ sub[j].var ∧ Hit m v z := fun hh => by
    obtain ⟨z, a, b, c⟩ := h.back j hj hs hh
    rcases List.mem_cons.1 a with rfl | a
    · omega
    · exact ⟨z, a, b, c⟩
  refine ⟨fun z hz => h.sound z (.tail _ hz), fun t => ?_, fun i hi hs' hh => ?_⟩
  · obtain ⟨z, a, b⟩ := h.full t
    rcases List.mem_cons.1 a with rfl | a
    · obtain ⟨w, a', _, c'⟩ := key b; exact ⟨w, a', c'⟩
    · exact ⟨z, a, b⟩
  · obtain ⟨z, a, b, c⟩ := h.back i hi hs' hh
    rcases List.mem_cons.1 a with rfl | a
    · obtain ⟨w, a', b', c'⟩ := key c; exact ⟨w, a', by omega, c'⟩
    · exact ⟨z, a, b, c⟩
/-- a variable whose term is new -/
theorem Inv.open {j : Nat} (hj : j < sub.length) {s : Tm} (hv : sub[j].var ≠ v) (e : mget m sub[j].var = some s) (hρ : ∀ u, u ∈ vs (flat s) → ρ u < ρ sub[j].var) (hl : seen.length = sub.length) (h : Inv sub m ρ v T (sub[j].var :: pend) seen) : Inv sub m ρ v T (vs (flat s) ++ pend) (seen.set j true) := by
  have key : Hit m v sub[j].var → ∃ z, z ∈ vs (flat s) ∧ ρ z < ρ sub[j].var ∧ Hit m v z := fun hh => by
    rcases hh with hh | ⟨s', e', hh⟩
    · exact absurd hh hv
    · rw [e] at e'; injection e' with e'
      subst e'
      obtain ⟨z, a, b⟩ := reach_hit.1 hh
      exact ⟨z, a, hρ z a, b⟩
  refine ⟨fun z hz hh => ?_, fun t => ?_, fun i hi hs' hh => ?_⟩
  · rcases List.mem_append.1 hz with hz | hz
    · exact h.sound _ (.head _) (.inr ⟨s, e, reach_hit.2 ⟨z, hz, hh⟩⟩)
    · exact h.sound z (.tail _ hz) hh
  · obtain ⟨z, a, b⟩ := h.full t
    rcases List.mem_cons.1 a with rfl | a
    · obtain ⟨w, a', _, c'⟩ := key b; exact ⟨w, List.mem_append_left _ a', c'⟩
    · exact ⟨z, List.mem_append_right _ a, b⟩
  · by_cases hij : i = j
    · subst hij
      obtain ⟨w, a', b', c'⟩ := key hh
      exact ⟨w, List.mem_append_left _ a', b', c'⟩
    · have hs2 : seen.getD i false = true := by
        rw [List.getD_eq_getElem?_getD, List.getElem?_set_ne (fun q => hij q.symm)] at hs'
        rw [List.getD_eq_getElem?_getD]; exact hs'
      obtain ⟨z, a, b, c⟩ := h.back i hi hs2 hh
      rcases List.mem_cons.1 a with rfl | a
      · obtain ⟨w, a', b', c'⟩ := key c
        exact ⟨w, List.mem_append_left _ a', by omega, c'⟩
      · exact ⟨z, List.mem_append_right _ a, b, c⟩
end
theorem vs_cons (c : Cell) (cs : List Cell) : vs (c :: cs) = if c.kind = 0 then c.n :: vs cs else vs cs := by
  unfold vs
  by_cases h : c.kind = 0
  · rw [List.filter_cons_of_pos (by simpa using h), if_pos h]; rfl
  · rw [List.filter_cons_of_neg (by simpa using h), if_neg h]
theorem count_set {l : List Bool} {j : Nat} (hj : j < l.length) (h : l.getD j false = false) : (l.set j true).count false + 1 = l.count false := by
  induction l generalizing j with
  | nil => simp at hj
  | cons b l ih =>
    cases j with
    | zero =>
      have : b = false := by simpa using h
      subst this
      simp
    | succ j =>
      have := ih (j := j) (by simpa using hj) (by simpa using h)
      rw [List.set_cons_succ, List.count_cons, List.count_cons]; omega
end Go.Proofs.Ytognefkopbbdnaa
