import Derived.Test.YtdkbfcmekppnmaaGreatDoorY9
namespace Go.Sy
open Go.Sx
set_option linter.unusedVariables false
set_option linter.unusedSimpArgs false
set_option linter.unusedSectionVars false
section
variable {P : Program} {ρ : Operand → Value} {P0 F F2 : Foot} {H0 H : Hp} {w0 w w' : World} {Fs : List Foot} {T e ty : TypeId} {dst : Option Nat} {x : Operand} {pos : String} {af : Array Edge} {gd : Option (Nat × Bool)}
theorem e_conv_lit {g n : Nat} {cur : Array Value} {xs : List UInt8} (S : St P0 H0 w0 (is g :: Fs) H w) (hb : w.heap[g]? = some (.cells cur e (0, 0))) (ht : P.underlying T = some (.slice e)) (he : P.underlying e = some (.int .u8))
    (hx : ρ x = .slice (some ⟨g, 0, none⟩) n n) (hc : cur.toList = xs.map fun b => Value.int .u8 (b.toNat : Int)) (hn : xs.length = n) (h63 : n ≤ 9223372036854775807) :
    ∃ u w', (execOp ρ ⟨dst, .convert T T x, ty, pos, af, gd⟩).run P w = .ok (.value u) w' ∧ u = .slice (some ⟨g, 0, none⟩) n n ∧ Row tByte e H (hp w') (is g) (some ⟨g, 0, none⟩) n xs ∧ St P0 H0 w0 (is g :: Fs) H w' ∧ Kp Fs w w' := by
  have hsz : cur.size = n := by rw [← Array.length_toList, hc, List.length_map, hn]
  have hsh : w.shape? g = some (e, cur.size) := by unfold World.shape?; rw [hb]
  have hlt : g < w.heap.size := heap_lt hb
  have hr : (execOp ρ ⟨dst, .convert T T x, ty, pos, af, gd⟩).run P w = .ok (.value (.slice (some ⟨g, 0, none⟩) n n)) (w.freeze ⟨g, cur.size, none⟩ 1) := by
    simp [execOp, hx, convert, run_underlying ht, run_underlying he, markStringish, hsh]
  have hfr : (w.freeze ⟨g, cur.size, none⟩ 1).heap = w.heap.modify g fun
      | .cells c elem (lo, hi) => .cells c elem (if lo == hi then (cur.size, cur.size + 1) else (min lo cur.size, max hi (cur.size + 1)))
      | o => o := by
    unfold World.freeze
    rw [if_neg (by decide)]
    rfl
  have hnew : (w.freeze ⟨g, cur.size, none⟩ 1).heap[g]? = some (.cells cur e (cur.size, cur.size + 1)) := by
    rw [hfr, Array.getElem?_modify, if_pos rfl, hb]; rfl
  have hC : Chg (is g) w (w.freeze ⟨g, cur.size, none⟩ 1) := by
    refine ⟨?_, ?_, ?_, ?_, ?_⟩
    · unfold World.freeze; rw [if_neg (by decide)]
    · unfold World.freeze; rw [if_neg (by decide)]
    · unfold World.freeze; rw [if_neg (by decide)]
    · rw [hfr, Array.size_modify]; exact Nat.le_refl _
    · intro b _ hb2
      rw [hfr, Array.getElem?_modify, if_neg (fun h => hb2 (show b = g from h.symm))]
  obtain ⟨S2, K2⟩ := S.step hC (G := is g) (fun b hb2 => by
    have hb2 : b = g := hb2
    subst hb2
    exact ⟨by rw [hfr, Array.size_modify]; exact hlt, .inl rfl⟩)
  refine ⟨_, _, hr, rfl, .inr ⟨g, cur, _, rfl, rfl, hnew, fun j hj h => ?_, by omega, h63, by rw [hsz]; simp [tByte, scal], ?_⟩, S2, K2⟩
  · simp only at h; omega
  · have : (cur.toList.take (xs.length * tByte.sz)) = xs.map fun b => Value.int .u8 (b.toNat : Int) := by
      have h1 : xs.length * tByte.sz = cur.toList.length := by rw [hc, List.length_map]; simp [tByte, scal]
      rw [h1, List.take_length, hc]
    rw [this]
    exact els_bytes xs
end
end Go.Sy
