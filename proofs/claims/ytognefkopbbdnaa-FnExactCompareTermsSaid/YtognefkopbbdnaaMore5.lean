import Derived.Test.YtognefkopbbdnaaMore4
namespace Go.Sx
set_option linter.unusedVariables false
/-! ### feet of what is shared -/
/-- of F, or new since n -/
def fw (F : Foot) (n : Nat) : Foot := fun b => F b ∨ n ≤ b
section
variable {α : Type} {d : Ty α} {w : World} {F : Foot} {A : Option Addr} {xs : List α} {M N : List (Option Nat)} {hi n0 n : Nat} {T E : TypeId} {t : Tm} {v : Value}
theorem rd_canonF (hd : 0 < d.sz) (h : Rd d w F A xs) : Rd d w (FP F w.heap.size []) A xs :=
  (h.lt hd).mono fun b hb => ⟨hb.1, hb.2, by simp⟩
theorem node_canonF (h : NodeR T E w F t v) : NodeR T E w (FP F w.heap.size []) t v :=
  NodeR.mono (fun b hb => ⟨hb.1, hb.2, by simp⟩) _ _ (NodeR.lt _ _ h)
theorem fw_ok {hi' : Nat} (hn : n0 ≤ n) (hM : Lt M n) : ∀ b, fw (FP (fw F n0) hi M) n b ∧ b < hi' → FP (fw F n0) hi' M b := fun b ⟨h1, h2⟩ => by
  rcases h1 with ⟨g1, _, g3⟩ | h1
  · exact ⟨g1, h2, g3⟩
  · exact ⟨.inr (by omega), h2, fun hm => by have := hM _ hm b rfl; omega⟩
theorem rd_fw (hd : 0 < d.sz) (h : Rd d w (fw (FP (fw F n0) hi M) n) A xs) (hn : n0 ≤ n) (hM : Lt M n) : Rd d w (FP (fw F n0) w.heap.size M) A xs :=
  (h.lt hd).mono (fw_ok hn hM)
theorem node_fw (h : NodeR T E w (fw (FP (fw F n0) hi M) n) t v) (hn : n0 ≤ n) (hM : Lt M n) : NodeR T E w (FP (fw F n0) w.heap.size M) t v :=
  NodeR.mono (fw_ok hn hM) _ _ (NodeR.lt _ _ h)
end
end Go.Sx
