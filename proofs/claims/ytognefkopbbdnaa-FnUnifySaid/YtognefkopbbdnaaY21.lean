import Derived.Test.YtognefkopbbdnaaY20
import Derived.Maps.RangeRun
namespace Go.Sy
open Go.Sx
open Go.ChangeMaps (setBlock)
set_option linter.unusedVariables false
set_option linter.unusedSimpArgs false
set_option linter.unusedSectionVars false
/-! ### for k := range m, the keys integers: each key once, in whatever order -/
def keyI' (e : MapEntry) : Int := match e.key with
  | .int _ n => n
  | _ => 0
section
variable {α : Type} {d : Ty α} {H X : Hp}
theorem es_keys : ∀ {es : List MapEntry} {m : List (Int × α)}, Es encI d H es m → es.map keyI' = m.map (·.1) ∧ ∀ e, e ∈ es → e.key = .int .i64 (keyI' e)
  | [], [], _ => ⟨rfl, by simp⟩
  | e :: es, p :: m, ⟨h1, _, h3⟩ => by
    obtain ⟨a, b⟩ := es_keys h3
    have hk : keyI' e = p.1 := by unfold keyI'; rw [h1]; rfl
    refine ⟨by rw [List.map_cons, List.map_cons, a, hk], fun e' he => ?_⟩
    rcases List.mem_cons.1 he with rfl | he
    · rw [hk, h1]; rfl
    · exact b e' he
  | [], _ :: _, h => h.elim
  | _ :: _, [], h => h.elim
/-- what the iterator has handed out, with what it has not, is all -/
def Iter (d : Ty α) (H X : Hp) (g : Nat) (m : List (Int × α)) (it : Nat) (vs : List Int) : Prop :=
  ∃ es c seen c0, X it = some (.mapIter (some g) c seen c0) ∧ c ≤ c0 ∧ X g = some (.map es c) ∧ Es encI d H es.toList m ∧ Bo es.toList c ∧ (vs ++ (leftOf es seen).toList.map keyI').Perm (m.map (·.1))
/-- .. and the last one handed out was k -/
def IterK (d : Ty α) (H X : Hp) (g : Nat) (m : List (Int × α)) (it : Nat) (vs : List Int) (k : Int) : Prop :=
  ∃ (es : Array MapEntry) (c : Nat) (seen : Array Nat) (e : MapEntry), X it = some (.mapIter (some g) c (seen.push e.born) c) ∧ X g = some (.map es c) ∧ Es encI d H es.toList m ∧ Bo es.toList c ∧ e ∈ es.toList ∧ keyI' e = k ∧ ((vs ++ [k]) ++ (leftOf es (seen.push e.born)).toList.map keyI').Perm (m.map (·.1))
theorem IterK.iter {g it : Nat} {m : List (Int × α)} {vs : List Int} {k : Int} (h : IterK d H X g m it vs k) : Iter d H X g m it (vs ++ [k]) := by
  obtain ⟨es, c, seen, e, h1, h3, h4, h5, _, _, h6⟩ := h
  exact ⟨es, c, _, c, h1, Nat.le_refl _, h3, h4, h5, h6⟩
theorem Iter.map {g it : Nat} {m : List (Int × α)} {vs : List Int} (h : Iter d H X g m it vs) : MapO encI d H X g m := by
  obtain ⟨es, c, seen, c0, h1, h2, h3, h4, h5, h6⟩ := h
  exact ⟨es, c, h3, h4, h5⟩
theorem Iter.ext {H' : Hp} {g it : Nat} {m : List (Int × α)} {vs : List Int} (hs : Ext H H') (h : Iter d H X g m it vs) : Iter d H' X g m it vs := by
  obtain ⟨es, c, seen, c0, h1, h2, h3, h4, h5⟩ := h
  exact ⟨es, c, seen, c0, h1, h2, h3, h4.ext hs, h5⟩
theorem Iter.move {X' : Hp} {g it : Nat} {m : List (Int × α)} {vs : List Int} (h1 : ∀ b, is it b → X' b = X b) (h2 : ∀ b, is g b → X' b = X b) (h : Iter d H X g m it vs) : Iter d H X' g m it vs := by
  obtain ⟨es, c, seen, c0, a1, a2, a3, a4⟩ := h
  exact ⟨es, c, seen, c0, (h1 it rfl).trans a1, a2, (h2 g rfl).trans a3, a4⟩
theorem IterK.move {X' : Hp} {g it : Nat} {m : List (Int × α)} {vs : List Int} {k : Int} (h1 : ∀ b, is it b → X' b = X b) (h2 : ∀ b, is g b → X' b = X b) (h : IterK d H X g m it vs k) : IterK d H X' g m it vs k := by
  obtain ⟨es, c, seen, e, a1, a3, a4⟩ := h
  exact ⟨es, c, seen, e, (h1 it rfl).trans a1, (h2 g rfl).trans a3, a4⟩
theorem Iter.len {g it : Nat} {m : List (Int × α)} {vs : List Int} (h : Iter d H X g m it vs) : vs.length ≤ m.length := by
  obtain ⟨es, c, seen, c0, h1, h2, h3, h4, h5, h6⟩ := h
  have := h6.length_eq
  simp at this
  omega
end
theorem left_step {es : Array MapEntry} {c : Nat} {seen : Array Nat} {e : MapEntry} (hB : (es.toList.map (·.born)).Nodup) (he : e ∈ (leftOf es seen).toList) : (leftOf es seen).toList.Perm (e :: (leftOf es (seen.push e.born)).toList) := by
  unfold leftOf at he ⊢
  simp only [Array.toList_filter] at he ⊢
  generalize es.toList = l at hB he
  induction l with
  | nil => simp at he
  | cons a l ih =>
    rw [List.map_cons] at hB
    have hB' := List.nodup_cons.1 hB
    by_cases ha : (!seen.contains a.born) = true
    · rw [List.filter_cons (p := fun e : MapEntry => !seen.contains e.born), if_pos ha] at he
      rw [List.filter_cons (p := fun e : MapEntry => !seen.contains e.born), if_pos ha]
      rcases List.mem_cons.1 he with rfl | he'
      · have e1 : (!(seen.push e.born).contains e.born) = false := by simp
        rw [List.filter_cons (p := fun e_1 : MapEntry => !(seen.push e.born).contains e_1.born), if_neg (by rw [e1]; simp)]
        refine List.Perm.cons _ ?_
        have : l.filter (fun e_1 => !(seen.push e.born).contains e_1.born) = l.filter (fun e_1 => !seen.contains e_1.born) := List.filter_congr (fun x hx => by
          have hne : x.born ≠ e.born := fun h => hB'.1 (List.mem_map.2 ⟨x, hx, h⟩)
          simp [hne])
        rw [this]
      · have hne : a.born ≠ e.born := fun h => hB'.1 (List.mem_map.2 ⟨e, (List.mem_filter.1 he').1, h.symm⟩)
        have e1 : (!(seen.push e.born).contains a.born) = true := by
          simp at ha ⊢; exact ⟨ha, hne⟩
        rw [List.filter_cons (p := fun e_1 : MapEntry => !(seen.push e.born).contains e_1.born), if_pos e1]
        exact (List.Perm.cons a (ih hB'.2 he')).trans (List.Perm.swap _ _ _)
    · rw [List.filter_cons (p := fun e : MapEntry => !seen.contains e.born), if_neg ha] at he
      rw [List.filter_cons (p := fun e : MapEntry => !seen.contains e.born), if_neg ha]
      have e1 : ¬ (!(seen.push e.born).contains a.born) = true := by
        simp at ha ⊢; exact fun h => absurd ha h
      rw [List.filter_cons (p := fun e_1 : MapEntry => !(seen.push e.born).contains e_1.born), if_neg e1]
      exact ih hB'.2 he
section
variable {α : Type} {d : Ty α} {P : Program} {P0 : Foot} {H0 H : Hp} {w0 w : World} {Fs : List Foot} {ρ : Operand → Value} {dst : Option Tmp} {T kt et ty : TypeId} {pos : String} {af : Array Edge} {gd : Option (Nat × Bool)} {x : Operand} {g it : Nat} {m : List (Int × α)} {vs : List Int} {k : Int}
theorem e_rangeMap (S : St P0 H0 w0 Fs H w) (h : MapO encI d H (hp w) g m) (hlt : g < w.heap.size) (hm : P.underlying T = some (.map kt et)) (hx : ρ x = .map (some g)) :
    ∃ u w', (execOp ρ ⟨dst, .range T x, ty, pos, af, gd⟩).run P w = .ok (.value u) w' ∧ ∃ it, u = .pointer (some ⟨it, 0, none⟩) ∧ it ≠ g ∧ Iter d H (hp w') g m it [] ∧ St P0 H0 w0 (is it :: Fs) H w' ∧ Kp Fs w w' := by
  obtain ⟨es, c, hb, hE, hB⟩ := h
  have hb' : w.heap[g]? = some (.map es c) := hb
  obtain ⟨a, b⟩ := S.alloc (.mapIter (some g) c #[] c)
  refine ⟨_, _, ?_, w.heap.size, rfl, by omega, ⟨es, c, #[], c, heap_alloc_new w _, Nat.le_refl _, ?_, hE, hB, ?_⟩, a, b⟩
  · have := run_range_map (P := P) w T kt et g es c hm hb'
    simp [execOp, hx, this]
  · show (w.alloc _).heap[g]? = _
    rw [Go.RowKit.Below.heap_alloc w _ g hlt]; exact hb'
  · have e : (leftOf es #[]).toList = es.toList := by unfold leftOf; simp
    rw [e, List.nil_append, (es_keys hE).1]
/-- one look at the iterator -/
theorem e_nextKey (S : St P0 H0 w0 (is it :: Fs) H w) (h : Iter d H (hp w) g m it vs) (hne : it ≠ g) (hx : ρ x = .pointer (some ⟨it, 0, none⟩)) :
    ∃ u w', (execOp ρ ⟨dst, .next x false, ty, pos, af, gd⟩).run P w = .ok (.value u) w' ∧ ((∃ us, u = .tuple us ∧ us[0]? = some (.bool false)) ∧ w' = w ∧ vs.Perm (m.map (·.1)) ∨ (∃ us, u = .tuple us ∧ us[0]? = some (.bool true)) ∧ ∃ k, IterK d H (hp w') g m it vs k ∧ St P0 H0 w0 (is it :: Fs) H w' ∧ Kp Fs w w') := by
  obtain ⟨es, c, seen, c0, h1, h2, h3, h4, h5, h6⟩ := h
  have hr : w.heap[it]? = some (.mapIter (some g) c seen c0) := h1
  have hg : w.heap[g]? = some (.map es c) := h3
  rcases run_next_at (P := P) w ty it g c c0 seen es c hr hg h5.2 h2 with ⟨e1, e2⟩ | ⟨e, he, w1, hw1, e2⟩
  · refine ⟨.tuple #[.bool false], w, by simp [execOp, hx, e2], .inl ⟨⟨#[.bool false], rfl, rfl⟩, rfl, ?_⟩⟩
    have : (leftOf es seen).toList = [] := by
      have := Array.eq_empty_of_size_eq_zero e1
      rw [this]
    rw [this, List.map_nil, List.append_nil] at h6
    exact h6
  · have hmem : e ∈ es.toList := by
      unfold leftOf at he
      rw [Array.toList_filter] at he
      exact (List.mem_filter.1 he).1
    have hlt := heap_lt hr
    have hheap : w1.heap = w.heap := by rcases hw1 with rfl | rfl <;> rfl
    have hset : (setBlock w1 it (.mapIter (some g) c (seen.push e.born) c)).heap = w.heap.setIfInBounds it (.mapIter (some g) c (seen.push e.born) c) := by
      show w1.heap.setIfInBounds _ _ = _
      rw [hheap]
    have hC : Chg (is it) w (setBlock w1 it (.mapIter (some g) c (seen.push e.born) c)) := by
      refine ⟨?_, ?_, ?_, ?_, fun b hb hn => ?_⟩
      · rcases hw1 with rfl | rfl <;> rfl
      · rcases hw1 with rfl | rfl <;> rfl
      · rcases hw1 with rfl | rfl <;> rfl
      · rw [hset]; simp
      · rw [hset, Array.getElem?_setIfInBounds_ne (fun h => hn h.symm)]
    obtain ⟨S', K'⟩ := S.step (G := is it) hC (fun b hb => ⟨by
      have h1 := (S.own (is it) (.head _) b hb).1
      rw [hset]; simpa using h1, .inl hb⟩)
    refine ⟨.tuple #[.bool true, e.key, e.val], _, by simp [execOp, hx, e2], .inr ⟨⟨#[.bool true, e.key, e.val], rfl, rfl⟩, keyI' e, ⟨es, c, seen, e, ?_, ?_, h4, h5, hmem, rfl, ?_⟩, S', K'⟩⟩
    · show (setBlock w1 it _).heap[it]? = _
      rw [hset, Array.getElem?_setIfInBounds_self_of_lt hlt]
    · show (setBlock w1 it _).heap[g]? = _
      rw [hset, Array.getElem?_setIfInBounds_ne hne]; exact hg
    · have hp1 := (left_step (c := c) h5.1 he).map keyI'
      rw [List.map_cons] at hp1
      rw [List.append_assoc]
      refine (List.Perm.append_left vs ?_).trans h6
      exact hp1.symm
theorem e_entryKey (h : IterK d H (hp w) g m it vs k) (hx : ρ x = .pointer (some ⟨it, 0, none⟩)) : ∃ u w', (execOp ρ ⟨dst, .entry x, ty, pos, af, gd⟩).run P w = .ok (.value u) w' ∧ w' = w ∧ ∃ v, u = .tuple #[.int .i64 k, v] := by
  obtain ⟨es, c, seen, e, h1, h3, h4, h5, h6, h7, _⟩ := h
  have hr : w.heap[it]? = some (.mapIter (some g) c (seen.push e.born) c) := h1
  have hg : w.heap[g]? = some (.map es c) := h3
  have hk := (es_keys h4).2 e h6
  rw [h7] at hk
  have := run_entry_at (P := P) w it g c seen es c e hr hg h6 h5.1
  rw [hk] at this
  exact ⟨_, w, by simp [execOp, hx, this], rfl, e.val, rfl⟩
theorem MapO_lt {κ : Type} [DecidableEq κ] {enc : κ → Value} {m : List (κ × α)} (h : MapO enc d H (hp w) g m) : g < w.heap.size := by
  obtain ⟨es, c, hb, _⟩ := h
  exact heap_lt hb
end
end Go.Sy
