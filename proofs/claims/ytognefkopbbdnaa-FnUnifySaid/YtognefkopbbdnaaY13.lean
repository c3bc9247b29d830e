import Derived.Test.YtognefkopbbdnaaY12
namespace Go.Sy
open Go.Sx
set_option linter.unusedVariables false
set_option linter.unusedSimpArgs false
set_option linter.unusedSectionVars false
/-! ### an array's element -/
section
variable {P : Program} {ρ : Operand → Value} {w : World} {dst : Option Tmp} {T ty e : TypeId} {pos : String} {af : Array Edge} {gd : Option (Nat × Bool)} {x y : Operand} {k : IntKind}
end
/-! ### what was lent -/
section
variable {P0 F : Foot} {H0 H HF H' : Hp} {w0 w w' : World} {Fs Fs' : List Foot}
open Classical in
theorem St.thaw2 (S : St P0 H0 w0 (F :: Fs) H w) (hF : ∀ b o, F b → hp w b = some o → HF b = some o) (T : St P0 H0 w0 Fs' H' w') (hE : Ext HF H') (hH : Ext H HF) :
    ∃ H2, St P0 H0 w0 (F :: Fs') H2 w' ∧ Ext H H2 ∧ ∀ b, F b → hp w' b = hp w b := by
  have fl : ∀ b, F b → ∃ o, hp w b = some o := fun b hb => by
    have := (S.own F (.head _) b hb).1
    exact ⟨_, Array.getElem?_eq_getElem this⟩
  have fH : ∀ b o, F b → hp w b = some o → H' b = some o := fun b o hb ho => hE b o (hF b o hb ho)
  have hn : ∀ b o, H b = some o → ¬ F b := fun b o hb hFb => by
    have := (S.own F (.head _) b hFb).2.1
    rw [this] at hb; cases hb
  have e1 : ∀ b o, H b = some o → (if F b then Option.none else H' b) = some o := fun b o hb => by
    rw [if_neg (hn b o hb)]; exact hE b o (hH b o hb)
  refine ⟨fun b => if F b then Option.none else H' b, ⟨T.os, T.tape, T.output, T.size, T.old, fun b o hb => ?_, fun b o hb => e1 b o (S.ext b o hb), fun b hb hP => ?_, fun K hK b hb => ?_, ?_⟩, fun b o hb => e1 b o hb, fun b hb => ?_⟩
  · by_cases hFb : F b
    · simp [hFb] at hb
    · exact T.inv b o (by simpa [hFb] using hb)
  · have hFb : ¬ F b := fun hFb => hP ((S.own F (.head _) b hFb).2.2 hb)
    show (if F b then Option.none else H' b) = H0 b
    rw [if_neg hFb]; exact T.hold b hb hP
  · rcases List.mem_cons.1 hK with rfl | hK
    · obtain ⟨c1, c2, c3⟩ := S.own K (.head _) b hb
      obtain ⟨o, ho⟩ := fl b hb
      refine ⟨heap_lt (T.inv b o (fH b o hb ho)), ?_, c3⟩
      show (if K b then Option.none else H' b) = Option.none
      rw [if_pos hb]
    · obtain ⟨c1, c2, c3⟩ := T.own K hK b hb
      refine ⟨c1, ?_, c3⟩
      show (if F b then Option.none else H' b) = Option.none
      split
      · rfl
      · exact c2
  · refine List.pairwise_cons.2 ⟨fun K hK b hb hb2 => ?_, T.sep⟩
    obtain ⟨o, ho⟩ := fl b hb
    have h2 := fH b o hb ho
    have h3 := (T.own K hK b hb2).2.1
    rw [h2] at h3; cases h3
  · obtain ⟨o, ho⟩ := fl b hb
    exact (T.inv b o (fH b o hb ho)).trans ho.symm
end
section
variable {κ : Type} [DecidableEq κ] {α : Type} {enc : κ → Value} {d : Ty α} {H H' X : Hp} {g : Nat}
theorem Es.free (hr : ∀ H H' x cs, d.R H x cs → d.R H' x cs) : ∀ {es : List MapEntry} {m : List (κ × α)}, Es enc d H es m → Es enc d H' es m
  | [], [], h => h
  | e :: es, p :: m, ⟨h1, h2, h3⟩ => ⟨h1, hr _ _ _ _ h2, Es.free hr h3⟩
  | [], _ :: _, h => h
  | _ :: _, [], h => h
theorem MapO.free {m : List (κ × α)} (hr : ∀ H H' x cs, d.R H x cs → d.R H' x cs) (h : MapO enc d H X g m) : MapO enc d H' X g m := by
  obtain ⟨es, c, h1, h2, h3⟩ := h
  exact ⟨es, c, h1, h2.free hr, h3⟩
end
end Go.Sy
