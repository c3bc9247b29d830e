import Derived.Test.YtognefkopbbdnaaPuUn7
namespace Go.Proofs.Ytognefkopbbdnaa
open Go.Sx Go.Sy
set_option linter.unusedVariables false
set_option linter.unusedSimpArgs false
set_option linter.unusedSectionVars false
set_option maxRecDepth 4000
/-! ### the program's work list: its top is its end -/
def stk (st : List (Tm × Tm)) : List GPair := (st.map fun q => (⟨q.1, q.2⟩ : GPair)).reverse
theorem stk_cons (q : Tm × Tm) (st : List (Tm × Tm)) : stk (q :: st) = stk st ++ [(⟨q.1, q.2⟩ : GPair)] := by simp [stk]
theorem stk_len (st : List (Tm × Tm)) : (stk st).length = st.length := by simp [stk]
def ubody (k : Nat) (m : List (Int × Tm)) (p : Int) (s : List GPair) (u w : Tm) : Option (Int × List (Int × Tm)) :=
  if u.kind = 0 then (if w.kind = 0 then (if u.n > w.n then ((impl_bindings_set.f m u.n w).bind fun t => impl_unify.l0 k s (IntKind.i64.wrap (p + 1)) t) else (if u.n < w.n then ((impl_bindings_set.f m w.n u).bind fun t => impl_unify.l0 k s (IntKind.i64.wrap (p + 1)) t) else impl_unify.l0 k s (IntKind.i64.wrap (p + 1)) m)) else ((impl_stands.f k m u.n w []).bind fun b => if b = true then some (5, m) else ((impl_bindings_set.f m u.n w).bind fun t => impl_unify.l0 k s (IntKind.i64.wrap (p + 1)) t))) else (if w.kind = 0 then ((impl_stands.f k m w.n u []).bind fun b => if b = true then some (5, m) else ((impl_bindings_set.f m w.n u).bind fun t => impl_unify.l0 k s (IntKind.i64.wrap (p + 1)) t)) else (if u.kind ≠ w.kind then some (4, m) else (if u.n ≠ w.n then some (4, m) else (if u.text ≠ w.text then some (4, m) else impl_unify.l1 k p m u w s (IntKind.i64.wrap ((u.args.length : Int) - 1))))))
theorem l0_step (k : Nat) (m : List (Int × Tm)) (p : Nat) (hp : p < 20000) (x y : Tm) (st : List (Tm × Tm)) (hl : st.length ≤ 100000000) :
    impl_unify.l0 (k + 1) (stk ((x, y) :: st)) (p : Int) m = (impl_walk.f k m x).bind fun u => (impl_walk.f k m y).bind fun w => ubody k m (p : Int) (stk st) u w := by
  have hlen : ((stk ((x, y) :: st)).length : Int) = (st.length : Int) + 1 := by rw [stk_len]; simp
  have hw : IntKind.i64.wrap ((st.length : Int) + 1 - 1) = (st.length : Int) := by rw [wrap_id (by omega) (by omega)]; omega
  have hg : (stk ((x, y) :: st)).getD st.length (default : GPair) = ⟨x, y⟩ := by
    rw [stk_cons, List.getD_eq_getElem?_getD, List.getElem?_append_right (by rw [stk_len]; omega)]; simp [stk_len]
  have ht : (stk ((x, y) :: st)).take st.length = stk st := by
    rw [stk_cons, List.take_append_of_le_length (by rw [stk_len]; omega), List.take_of_length_le (by rw [stk_len]; omega)]
  rw [impl_unify.l0, hlen, hw, if_pos (by omega), if_neg (by omega), if_pos (by omega), if_pos (by omega), if_pos (by omega), Int.toNat_natCast, hg, ht]
  rfl
theorem wrap1 {p : Nat} (hp : p < 20000) : IntKind.i64.wrap ((p : Int) + 1) = ((p + 1 : Nat) : Int) := by rw [wrap_id (by omega) (by omega)]; omega
theorem l1_val {m : List (Int × Tm)} {p : Nat} {u w : Tm} {st : List (Tm × Tm)} {r : Int × List (Int × Tm)} (hp : p < 20000) (hl : st.length ≤ 100000000) (ha : u.args.length = w.args.length) (hb : u.args.length ≤ 2000)
    (H : Ev (fun k => impl_unify.l0 k (stk (u.args.zip w.args ++ st)) ((p + 1 : Nat) : Int) m) r) : ∀ j : Nat, j ≤ u.args.length → Ev (fun k => impl_unify.l1 k (p : Int) m u w (stk ((u.args.zip w.args).drop j ++ st)) ((j : Int) - 1)) r := by
  intro j
  induction j with
  | zero =>
    intro _
    exact Ev.succ (h := fun k => impl_unify.l0 k (stk (u.args.zip w.args ++ st)) ((p + 1 : Nat) : Int) m) (fun k => by rw [impl_unify.l1, if_neg (by omega), wrap1 hp]; rfl) H
  | succ j ih =>
    intro hj
    have hz : (u.args.zip w.args).length = u.args.length := by rw [List.length_zip]; omega
    have hd : (u.args.zip w.args).drop j = (u.args[j]'(by omega), w.args[j]'(by omega)) :: (u.args.zip w.args).drop (j + 1) := by
      rw [List.drop_eq_getElem_cons (by omega)]; simp
    refine Ev.succ (fun k => ?_) (ih (by omega))
    have e1 : (((j + 1 : Nat) : Int) - 1) = (j : Int) := by omega
    have g1 : u.args.getD j (Tm.mk 0 0 [] []) = u.args[j]'(by omega) := by rw [List.getD_eq_getElem?_getD, List.getElem?_eq_getElem (by omega)]; rfl
    have g2 : w.args.getD j (Tm.mk 0 0 [] []) = w.args[j]'(by omega) := by rw [List.getD_eq_getElem?_getD, List.getElem?_eq_getElem (by omega)]; rfl
    have hs : (stk ((u.args.zip w.args).drop (j + 1) ++ st)).length + 1 ≤ 8796093022208 := by
      rw [stk_len, List.length_append, List.length_drop, hz]; omega
    rw [e1, impl_unify.l1, if_pos (by omega), if_pos (by omega), if_pos (by omega), if_pos (by omega), if_pos hs, Int.toNat_natCast, g1, g2, hd, List.cons_append, stk_cons, wrap_id (by omega) (by omega)]
end Go.Proofs.Ytognefkopbbdnaa
