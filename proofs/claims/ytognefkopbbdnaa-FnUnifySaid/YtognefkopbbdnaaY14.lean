import Derived.Test.YtognefkopbbdnaaY13
namespace Go.Sy
open Go.Sx
set_option linter.unusedVariables false
set_option linter.unusedSimpArgs false
set_option linter.unusedSectionVars false
set_option maxHeartbeats 1000000
section
variable {α : Type} {P : Program} {ρ : Operand → Value} {w : World} {dst : Option Tmp} {T T3 ty e : TypeId} {pos : String} {af : Array Edge} {gd : Option (Nat × Bool)} {x y : Operand} {P0 F F2 : Foot} {H0 H : Hp} {w0 : World} {Fs : List Foot} {d : Ty α} {xs ys : List α} {A : Option Addr} {cap : Nat} {yv : Value}
end
end Go.Sy
