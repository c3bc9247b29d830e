import Derived.Test.YtdkbfcmekppnmaaGreatDoorY12
namespace Go.Sy
open Go.Sx
set_option linter.unusedVariables false
set_option linter.unusedSimpArgs false
set_option linter.unusedSectionVars false
section
variable {P : Program} {ρ : Operand → Value} {w : World} {dst : Option Tmp} {T ty e : TypeId} {pos : String} {af : Array Edge} {gd : Option (Nat × Bool)} {x y : Operand} {k : IntKind}
end
def runeS (n : Int) : List UInt8 := (Utf8.encode n).data.toList
theorem e_conv_rs {P : Program} {ρ : Operand → Value} {w : World} {dst : Option Tmp} {T T2 ty : TypeId} {pos : String} {af : Array Edge} {gd : Option (Nat × Bool)} {x : Operand} {k k' : IntKind} {a : Int} (hs : P.underlying T = some (.int k')) (ht : P.underlying T2 = some .string) (hx : ρ x = .int k a) :
    (execOp ρ ⟨dst, .convert T T2 x, ty, pos, af, gd⟩).run P w = .ok (.value (str (runeS a))) w := by
  have h : (convert T T2 (.int k a)).run P w = .ok (.string (Utf8.encode a)) w := by simp [convert, Sem.run_bind, run_underlying hs, run_underlying ht, Conv.intToString]
  have e : str (runeS a) = .string (Utf8.encode a) := by simp [str, runeS]
  rw [e]
  simp [execOp, hx, Sem.run_bind, h]
section
variable {P0 F : Foot} {H0 H HF H' : Hp} {w0 w w' : World} {Fs Fs' : List Foot}
open Classical in
end
section
variable {κ : Type} [DecidableEq κ] {α : Type} {enc : κ → Value} {d : Ty α} {H H' X : Hp} {g : Nat}
theorem Es.free (hr : ∀ H H' x cs, d.R H x cs → d.R H' x cs) : ∀ {es : List MapEntry} {m : List (κ × α)}, Es enc d H es m → Es enc d H' es m
  | [], [], h => h
  | e :: es, p :: m, ⟨h1, h2, h3⟩ => ⟨h1, hr _ _ _ _ h2, Es.free hr h3⟩
  | [], _ :: _, h => h
  | _ :: _, [], h => h
theorem MapO.free {m : List (κ × α)} (hr : ∀ H H' x cs, d.R H x cs → d.R H' x cs) (h : MapO enc d H X g m) : MapO enc d H' X g m := by
  obtain ⟨es, c, h1, h2, h3⟩ := h
  exact ⟨es, c, h1, h2.free hr, h3⟩
end
end Go.Sy
