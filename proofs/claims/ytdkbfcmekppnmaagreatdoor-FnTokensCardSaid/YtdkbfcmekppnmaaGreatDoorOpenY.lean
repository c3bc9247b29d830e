import Derived.Test.YtdkbfcmekppnmaaGreatDoorY12
import Derived.ProofKit
import Derived.OpenShut
import Derived.ShutString
import Derived.ChangeOld
import Derived.Below
namespace Go.Sy
open Go.Sx
set_option linter.unusedVariables false
set_option linter.unusedSimpArgs false
set_option linter.unusedSectionVars false
variable {α β : Type} {P : Program}
def Opens (P : Program) (d : Ty α) (t : TypeId) (good : α → Prop) : Prop :=
  ∀ (H : Type) (enc : TypeId × Value → H) (w : World) (base : Nat) (sp : Nat → Bool) (held : Bool) (fuel : Nat) (cs : List Value) (x : DataW H × List MemPlace), DataW.trod enc P w base sp held fuel t cs = some x → ∃ v : α, d.R (hp w) v cs ∧ good v
theorem add_add (a : Addr) (m n : Nat) : (a.add m).add n = a.add (m + n) := by
  unfold Addr.add
  by_cases hm : m = 0
  · subst hm; simp
  · by_cases hn : n = 0
    · subst hn; simp
    · simp [hm, hn, Nat.add_assoc]
theorem opens_u8 {t : TypeId} (ht : P.underlying t = some (.int .u8)) : Opens P tByte t (fun _ => True) := by
  intro H enc w base sp held fuel cs x h
  obtain ⟨n, rfl, _, hw⟩ := DataW.trod_int ht h
  simp [Lit.wf, IntKind.min, IntKind.max, IntKind.signed, IntKind.bits] at hw
  refine ⟨b8 n, ?_, trivial⟩
  show _ = [Value.int .u8 ((b8 n).toNat : Int)]
  rw [← wrap8]
  have : IntKind.u8.wrap n = n := by
    simp only [IntKind.wrap, IntKind.bits, IntKind.signed]
    simp
    omega
  rw [this]
def GoodL (good : α → Prop) (xs : List α) : Prop := xs.length ≤ 9223372036854775807 ∧ ∀ x, x ∈ xs → good x
theorem opens_slice {d : Ty α} {t e : TypeId} {good : α → Prop} (ht : P.underlying t = some (.slice e)) (hc : P.cellsOf e = d.sz) (hpos : 0 < d.sz) (h : Opens P d e good) : Opens P (slice e d hpos) t (GoodL good) := by
  intro H enc w base sp held fuel cs x hx
  rcases DataW.trod_slice ht hx with ⟨rfl, _⟩ | ⟨a, len, cap, elems, rest, n, _, rfl, _, _, hl, hm, hlen, hel, _, _⟩
  · exact ⟨[], ⟨none, 0, rfl, Nat.le_refl _, Rd.nil _ _ _⟩, by simp, fun _ h => by cases h⟩
  · have key : ∀ k, k ≤ len → ∃ (xs : List α) (inner : List Value), xs.length = k ∧ elsR d (hp w) xs inner ∧ (∀ j u, inner[j]? = some u → w.cell? (a.add j) = some u) ∧ ∀ x, x ∈ xs → good x := by
      intro k
      induction k with
      | zero => exact fun _ => ⟨[], [], rfl, rfl, fun j u hj => by simp at hj, fun _ h => by cases h⟩
      | succ k ih =>
        intro hk
        obtain ⟨xs, inner, h1, h2, h3, h4⟩ := ih (by omega)
        obtain ⟨y, hy⟩ : ∃ y, elems[k]? = some y := ⟨_, List.getElem?_eq_getElem (by omega)⟩
        have hb := hel k (by omega)
        rw [hy, Option.bind_eq_some_iff] at hb
        obtain ⟨cs', hcs, hy'⟩ := hb
        obtain ⟨v, hv, hg⟩ := h H enc w base sp held n cs' y hy'
        obtain ⟨_, hcl, hcell⟩ := World.cells?_some hcs
        have hin : inner.length = k * d.sz := by rw [elsR_len h2, h1]
        refine ⟨xs ++ [v], inner ++ cs', by simp [h1], elsR_append h2 ⟨cs', [], by simp, hv, rfl⟩, fun j u hj => ?_, fun z hz => ?_⟩
        · by_cases hji : j < inner.length
          · rw [List.getElem?_append_left hji] at hj
            exact h3 j u hj
          · rw [List.getElem?_append_right (by omega)] at hj
            have hlt := (List.getElem?_eq_some_iff.1 hj).1
            have := hcell (j - inner.length) (by omega)
            rw [hj] at this
            have hadd : (a.add (k * P.cellsOf e)).add (j - inner.length) = a.add j := by
              rw [add_add]
              congr 1
              rw [hc, ← hin]
              omega
            rw [hadd] at this
            exact this
        · rcases List.mem_append.1 hz with hz | hz
          · exact h4 z hz
          · rw [List.mem_singleton.1 hz]; exact hg
    obtain ⟨xs, inner, h1, h2, h3, h4⟩ := key len (Nat.le_refl _)
    have hm2 : cap ≤ 9223372036854775807 := by simpa [maxLen] using hm
    refine ⟨xs, ⟨some a, cap, by rw [h1], by omega, by omega, ?_⟩, by omega, h4⟩
    rcases xs with _ | ⟨x, xs⟩
    · exact .inl rfl
    · right
      have hil := elsR_len h2
      rw [List.length_cons, Nat.add_mul, Nat.one_mul] at hil
      have h0 : 0 < inner.length := by omega
      have hc0 := h3 0 _ (List.getElem?_eq_getElem h0)
      have hsp := World.cell?_spot hc0
      obtain ⟨p, q, s⟩ := a
      have hs : s = none := by cases s <;> simp_all [Addr.add]
      subst hs
      refine ⟨p, q, inner, rfl, fun j u hj => (hp_cell w p (q + j)).trans ?_, h2⟩
      have := h3 j u hj
      have hadd : (⟨p, q, none⟩ : Addr).add j = ⟨p, q + j, none⟩ := by unfold Addr.add; split <;> simp_all
      rwa [hadd] at this
theorem Chg.below {w w' : World} (h : Chg no w w') : Go.RowKit.Below w.heap.size w w' := ⟨h.os, h.tape, h.output, h.size, fun b hb => h.block b hb (fun h => h)⟩
end Go.Sy
