import Derived.Test.YtognefkopbbdnaaY12
namespace Go.Sy
open Go.Sx
set_option linter.unusedVariables false
set_option linter.unusedSimpArgs false
set_option linter.unusedSectionVars false
/-! ### an array's element -/
section
variable {P : Program} {ρ : Operand → Value} {w : World} {dst : Option Tmp} {T ty e : TypeId} {pos : String} {af : Array Edge} {gd : Option (Nat × Bool)} {x y : Operand} {k : IntKind}
theorem e_indexAddrA {b off n sz : Nat} {i : Int} (ht : P.underlying T = some (.array n e)) (hz : (P.info? e).map (·.size) = some sz) (hx : ρ x = .pointer (some ⟨b, off, none⟩)) (hy : ρ y = .int k i) (h0 : 0 ≤ i) (h1 : i < n) :
    (execOp ρ ⟨dst, .indexAddr T x y, ty, pos, af, gd⟩).run P w = .ok (.value (.pointer (some ⟨b, off + i.toNat * sz, none⟩))) w := by
  have hadd : (⟨b, off, none⟩ : Addr).add (i.toNat * sz) = ⟨b, off + i.toNat * sz, none⟩ := by unfold Addr.add; split <;> simp_all
  cases hq : P.info? e with
  | none => simp [hq] at hz
  | some q =>
    have hs : q.size = sz := by simpa [hq] using hz
    simp [execOp, hx, hy, Instr.indexAt, Instr.sureAddr, asIntOf, run_underlying ht, Sem.run_bind, sizeOf, typeInfo, hq, hs, h0, h1, hadd]
end
/-- the bytes of a code point -/
def runeS (n : Int) : List UInt8 := (Utf8.encode n).data.toList
theorem e_conv_rs {P : Program} {ρ : Operand → Value} {w : World} {dst : Option Tmp} {T T2 ty : TypeId} {pos : String} {af : Array Edge} {gd : Option (Nat × Bool)} {x : Operand} {k k' : IntKind} {a : Int} (hs : P.underlying T = some (.int k')) (ht : P.underlying T2 = some .string) (hx : ρ x = .int k a) :
    (execOp ρ ⟨dst, .convert T T2 x, ty, pos, af, gd⟩).run P w = .ok (.value (str (runeS a))) w := by
  have h : (convert T T2 (.int k a)).run P w = .ok (.string (Utf8.encode a)) w := by simp [convert, Sem.run_bind, run_underlying hs, run_underlying ht, Conv.intToString]
  have e : str (runeS a) = .string (Utf8.encode a) := by simp [str, runeS]
  rw [e]
  simp [execOp, hx, Sem.run_bind, h]
theorem blk_cellsO {w : World} {g o : Nat} {cur : Array Value} {t : TypeId} {fr : Nat × Nat} {cs : List Value} (hb : w.heap[g]? = some (.cells cur t fr)) (hc : (cur.toList.drop o).take cs.length = cs) : ∀ j u, cs[j]? = some u → w.cell? ⟨g, 0 + o + j, none⟩ = some u := fun j u hj => by
  have hlt := (List.getElem?_eq_some_iff.1 hj).1
  rw [← hc, List.getElem?_take, if_pos hlt, List.getElem?_drop] at hj
  rw [Nat.zero_add, cell_of_row w g (o + j) cur t fr hb]
  simpa using hj
/-! ### what was lent -/
section
variable {P0 F : Foot} {H0 H HF H' : Hp} {w0 w w' : World} {Fs Fs' : List Foot}
open Classical in
theorem St.thaw2 (S : St P0 H0 w0 (F :: Fs) H w) (hF : ∀ b o, F b → hp w b = some o → HF b = some o) (T : St P0 H0 w0 Fs' H' w') (hE : Ext HF H') (hH : Ext H HF) :
    ∃ H2, St P0 H0 w0 (F :: Fs') H2 w' ∧ Ext H H2 ∧ ∀ b, F b → hp w' b = hp w b := by
  have fl : ∀ b, F b → ∃ o, hp w b = some o := fun b hb => by
    have := (S.own F (.head _) b hb).1
    exact ⟨_, Array.getElem?_eq_getElem this⟩
  have fH : ∀ b o, F b → hp w b = some o → H' b = some o := fun b o hb ho => hE b o (hF b o hb ho)
  have hn : ∀ b o, H b = some o → ¬ F b := fun b o hb hFb => by
    have := (S.own F (.head _) b hFb).2.1
    rw [this] at hb; cases hb
  have e1 : ∀ b o, H b = some o → (if F b then Option.none else H' b) = some o := fun b o hb => by
    rw [if_neg (hn b o hb)]; exact hE b o (hH b o hb)
  refine ⟨fun b => if F b then Option.none else H' b, ⟨T.os, T.tape, T.output, T.size, T.old, fun b o hb => ?_, fun b o hb => e1 b o (S.ext b o hb), fun b hb hP => ?_, fun K hK b hb => ?_, ?_⟩, fun b o hb => e1 b o hb, fun b hb => ?_⟩
  · by_cases hFb : F b
    · simp [hFb] at hb
    · exact T.inv b o (by simpa [hFb] using hb)
  · have hFb : ¬ F b := fun hFb => hP ((S.own F (.head _) b hFb).2.2 hb)
    show (if F b then Option.none else H' b) = H0 b
    rw [if_neg hFb]; exact T.hold b hb hP
  · rcases List.mem_cons.1 hK with rfl | hK
    · obtain ⟨c1, c2, c3⟩ := S.own K (.head _) b hb
      obtain ⟨o, ho⟩ := fl b hb
      refine ⟨heap_lt (T.inv b o (fH b o hb ho)), ?_, c3⟩
      show (if K b then Option.none else H' b) = Option.none
      rw [if_pos hb]
    · obtain ⟨c1, c2, c3⟩ := T.own K hK b hb
      refine ⟨c1, ?_, c3⟩
      show (if F b then Option.none else H' b) = Option.none
      split
      · rfl
      · exact c2
  · refine List.pairwise_cons.2 ⟨fun K hK b hb hb2 => ?_, T.sep⟩
    obtain ⟨o, ho⟩ := fl b hb
    have h2 := fH b o hb ho
    have h3 := (T.own K hK b hb2).2.1
    rw [h2] at h3; cases h3
  · obtain ⟨o, ho⟩ := fl b hb
    exact (T.inv b o (fH b o hb ho)).trans ho.symm
end
section
variable {κ : Type} [DecidableEq κ] {α : Type} {enc : κ → Value} {d : Ty α} {H H' X : Hp} {g : Nat}
theorem Es.free (hr : ∀ H H' x cs, d.R H x cs → d.R H' x cs) : ∀ {es : List MapEntry} {m : List (κ × α)}, Es enc d H es m → Es enc d H' es m
  | [], [], h => h
  | e :: es, p :: m, ⟨h1, h2, h3⟩ => ⟨h1, hr _ _ _ _ h2, Es.free hr h3⟩
  | [], _ :: _, h => h
  | _ :: _, [], h => h
theorem MapO.free {m : List (κ × α)} (hr : ∀ H H' x cs, d.R H x cs → d.R H' x cs) (h : MapO enc d H X g m) : MapO enc d H' X g m := by
  obtain ⟨es, c, h1, h2, h3⟩ := h
  exact ⟨es, c, h1, h2.free hr, h3⟩
end
end Go.Sy
