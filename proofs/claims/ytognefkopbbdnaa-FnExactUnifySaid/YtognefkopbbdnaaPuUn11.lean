import Derived.Test.YtognefkopbbdnaaPuUn10
namespace Go.Proofs.Ytognefkopbbdnaa
open Go.Sx Go.Sy
set_option linter.unusedVariables false
set_option linter.unusedSimpArgs false
set_option linter.unusedSectionVars false
set_option maxRecDepth 4000
/-! ### a term with every bound variable replaced, again and again -/
inductive Xt (m : List (Int × Tm)) : List Cell → List Cell → Prop
  | nil : Xt m [] []
  | cell {c cs r} (h : c.kind = 0 → mget m c.n = none) (t : Xt m cs r) : Xt m (c :: cs) (c :: r)
  | var {c cs r t a} (h : c.kind = 0) (e : mget m c.n = some t) (x : Xt m (flat t) a) (y : Xt m cs r) : Xt m (c :: cs) (a ++ r)
theorem xt_ex {m : List (Int × Tm)} {ρ : Int → Nat} (hρ : ∀ v t, mget m v = some t → ∀ u, u ∈ vs (flat t) → ρ u < ρ v) : ∀ (B : Nat) (cs : List Cell), (∀ v, v ∈ vs cs → ρ v < B) → ∃ r, Xt m cs r := by
  intro B
  induction B with
  | zero =>
    intro cs
    induction cs with
    | nil => exact fun _ => ⟨[], .nil⟩
    | cons c cs ih =>
      intro h
      obtain ⟨r, hr⟩ := ih (fun v hv => h v (by rw [mem_vs] at *; obtain ⟨d, hd, e⟩ := hv; exact ⟨d, .tail _ hd, e⟩))
      by_cases k0 : c.kind = 0
      · exact absurd (h c.n (by rw [mem_vs]; exact ⟨c, .head _, k0, rfl⟩)) (by omega)
      · exact ⟨c :: r, .cell (fun h => absurd h k0) hr⟩
  | succ B IH =>
    intro cs
    induction cs with
    | nil => exact fun _ => ⟨[], .nil⟩
    | cons c cs ih =>
      intro h
      obtain ⟨r, hr⟩ := ih (fun v hv => h v (by rw [mem_vs] at *; obtain ⟨d, hd, e⟩ := hv; exact ⟨d, .tail _ hd, e⟩))
      by_cases k0 : c.kind = 0
      · cases e : mget m c.n with
        | none => exact ⟨c :: r, .cell (fun _ => e) hr⟩
        | some t =>
          have hb := h c.n (by rw [mem_vs]; exact ⟨c, .head _, k0, rfl⟩)
          obtain ⟨a, ha⟩ := IH (flat t) (fun v hv => by have := hρ _ _ e v hv; omega)
          exact ⟨a ++ r, .var k0 e ha hr⟩
      · exact ⟨c :: r, .cell (fun h => absurd h k0) hr⟩
theorem xt_app {m : List (Int × Tm)} {a b x y : List Cell} (h : Xt m a x) (g : Xt m b y) : Xt m (a ++ b) (x ++ y) := by
  induction h with
  | nil => exact g
  | cell h _ ih => exact .cell h ih
  | var h e x _ _ ih => rw [List.append_assoc]; exact .var h e x ih
end Go.Proofs.Ytognefkopbbdnaa
