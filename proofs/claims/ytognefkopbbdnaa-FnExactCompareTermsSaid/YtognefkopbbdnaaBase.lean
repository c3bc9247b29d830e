import Derived.Test.YtognefkopbbdnaaMore
namespace Go.Sx
structure Cell where
  kind : Int
  n : Int
  text : List UInt8
  deriving Inhabited, DecidableEq
structure Binding where
  var : Int
  term : List Cell
  deriving Inhabited, DecidableEq
structure Op where
  name : List UInt8
  pri : Int
  typ : Int
  deriving Inhabited, DecidableEq
structure Token where
  kind : Int
  place : Int
  size : Int
  text : List UInt8
  n : Int
  deriving Inhabited, DecidableEq
structure Store where
  cells : List Int
  trail : List Int
  deriving Inhabited, DecidableEq
theorem node_canon {T E : TypeId} {w : World} {t : Tm} {v : Value} {M : List (Option Nat)} (h : NodeR T E w any t v) (hM : ∀ b : Nat, some b ∉ M) : NodeR T E w (FP any w.heap.size M) t v :=
  NodeR.mono (fun b hb => ⟨trivial, hb.2, hM b⟩) _ _ (NodeR.lt _ _ h)
end Go.Sx
