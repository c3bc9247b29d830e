import Derived.Test.YtdkbfcmekppnmaaGreatDoorY5
namespace Go.Sy
open Go.Sx
structure Binding where
  var : Int
  term : List Cell
  deriving Inhabited, DecidableEq
structure Op where
  name : List UInt8
  pri : Int
  typ : Int
  deriving Inhabited, DecidableEq
structure Token where
  kind : Int
  place : Int
  size : Int
  text : List UInt8
  n : Int
  deriving Inhabited, DecidableEq
structure Store where
  cells : List Cell
  trail : List Int
  deriving Inhabited, DecidableEq
end Go.Sy
namespace Go.Sy
open Go.Sx
set_option linter.unusedVariables false
set_option linter.unusedSimpArgs false
set_option linter.unusedSectionVars false
section
variable {α : Type} {d : Ty α} {e : TypeId} {H X : Hp} {w : World} {F : Foot} {xs : List α} {A : Option Addr} {cap b i j : Nat} {x : α} {u : Value} {c cs : List Value}
theorem Row.pick (h : Row d e H X F A cap xs) (hA : A = some ⟨b, 0, none⟩) (hx : xs[i]? = some x) (hc : ∀ F1 c, d.O H X F1 x c → c[j]? = some u) : X.cell b (0 + i * d.sz + j) = some u := by
  obtain ⟨c, F1, o, _, k⟩ := h.at hA hx
  exact k j u (hc F1 c o)
def OO (d : Ty α) : Prop := ∀ H X F x cs, d.O H X F x cs → d.O H X no x cs
theorem oo_scal (enc : α → Value) (h1) : OO (scal enc h1) := fun _ _ _ _ _ h => h
theorem elsO_oo (ho : OO d) (h : elsO d H X F xs cs) : elsO d H X no xs cs := by
  induction xs generalizing cs F with
  | nil => exact h
  | cons x xs ih =>
    obtain ⟨c, cs', F1, F2, rfl, h1, h2, h3, h4⟩ := h
    exact ⟨c, cs', no, no, rfl, ho _ _ _ _ _ h1, ih h2, fun _ h => h.elim, fun _ h => h.elim id id⟩
theorem Row.news0 (ho : OO d) (h : Row d e H (hp w) F A cap xs) : ∃ news, elsO d H (hp w) no xs news ∧ (xs = [] ∨ ∃ ad, A = some ad ∧ ∀ j u, news[j]? = some u → w.cell? (ad.add j) = some u) := by
  obtain ⟨n, h1, h2⟩ := h.news
  exact ⟨n, elsO_oo ho h1, h2⟩
theorem elsO_no (h : d.O H X no x c) (h2 : elsO d H X no xs cs) : elsO d H X no (x :: xs) (c ++ cs) :=
  ⟨c, cs, no, no, rfl, h, h2, fun _ h => h.elim, fun _ h => h.elim id id⟩
end
section
variable {P : Program} {fn : Func} {R : Ending → World → Prop} {n : Nat} {f : Nat → Value} {w : World}
theorem ret0 (h : fn.results = #[]) (hR : R (.returned (.tuple #[])) w) : bodyPost P fn R .ret (mk n f) w :=
  bodyPost_ret (by simp [results, h]) rfl hR
end
end Go.Sy
