import Derived.Test.YtognefkopbbdnaaWkFu2
import Derived.Test.YtognefkopbbdnaaY20
import Derived.Test.YtognefkopbbdnaaZ2
import Derived.WalkKit
namespace Go.Proofs.Ytognefkopbbdnaa
open Go.Sx Go.Sy
attribute [local irreducible] Go.wpList Go.wpStill Go.wpQuiet Go.Code.wp
set_option maxRecDepth 100000
set_option maxHeartbeats 1000000
set_option linter.unusedVariables false
set_option linter.unusedSimpArgs false
noncomputable def nodeT : TypeInfo := (Try.prog.info? 125).get (by kernel_rfl)
theorem nodeT_ok : Try.prog.info? 125 = some nodeT := Option.eq_some_of_isSome _
theorem nodeT_sz : nodeT.size ≠ 0 := by
  have h : (Try.prog.info? 125).map (·.size) = some 4 := by kernel_rfl
  rw [nodeT_ok] at h
  have : nodeT.size = 4 := by simpa using h
  omega
theorem wrapK {i : Nat} (h : i + 1 ≤ 9223372036854775807) : IntKind.i64.wrap ((i : Int) + 1) = ((i + 1 : Nat) : Int) := by rw [wrap_id (by omega) (by omega)]; omega
/-! ### a pointer leads to one tree -/
theorem nodes_len {T : TypeId} {H : Hp} : ∀ {ts : List Tm} {vs : List Value}, NodesR T H ts vs → vs.length = ts.length
  | [], vs, h => by simp only [NodesR] at h; rw [h]; rfl
  | t :: ts, vs, h => by
    simp only [NodesR] at h
    obtain ⟨v, vs', rfl, _, h3⟩ := h
    simp [nodes_len h3]
theorem str_inj {a b : List UInt8} (h : str a = str b) : a = b := by
  unfold str at h
  injection h with h; injection h with h
  exact Array.toList_inj.2 h |> fun e => by simpa using e
mutual
theorem node_fun {T : TypeId} {H : Hp} : ∀ (t t' : Tm) (v : Value), NodeR T H t v → NodeR T H t' v → t = t'
  | .mk k n s ars, .mk k' n' s' ars', v, h, h' => by
    simp only [NodeR] at h h'
    obtain ⟨g, A, c, cur, rfl, h3, h4, h5, h6, h7⟩ := h
    obtain ⟨g', A', c', cur', e1, h3', h4', h5', h6', h7'⟩ := h'
    injection e1 with e1; injection e1 with e1; injection e1 with e1
    subst e1
    rw [h3] at h3'
    injection h3' with h3'; injection h3' with h3'
    subst h3'
    rw [h4] at h4'
    injection h4' with a1 h4'; injection h4' with a2 h4'; injection h4' with a3 h4'; injection h4' with a4 h4'
    injection a1 with _ a1; injection a2 with _ a2
    have a3' := str_inj a3
    injection a4 with b1 b2 b3
    subst a1; subst a2; subst a3'; subst b1
    have b2' : ars.length = ars'.length := b2
    have key : ars = ars' := by
      rcases h7 with rfl | ⟨b, off, inner, hA, hc, he⟩
      · exact (List.eq_nil_of_length_eq_zero b2'.symm).symm
      · rcases h7' with rfl | ⟨b', off', inner', hA', hc', he'⟩
        · exact List.eq_nil_of_length_eq_zero b2'
        · rw [hA] at hA'
          injection hA' with hA'; injection hA' with q1 q2
          subst q1; subst q2
          have hi : inner = inner' := by
            apply List.ext_getElem
            · rw [nodes_len he, nodes_len he', b2']
            · intro j hj hj'
              have e1 := hc j _ (List.getElem?_eq_getElem hj)
              have e2 := hc' j _ (List.getElem?_eq_getElem hj')
              rw [e1] at e2; injection e2
          subst hi
          exact nodes_fun ars ars' inner he he'
    rw [key]
theorem nodes_fun {T : TypeId} {H : Hp} : ∀ (ts ts' : List Tm) (vs : List Value), NodesR T H ts vs → NodesR T H ts' vs → ts = ts'
  | [], [], _, _, _ => rfl
  | [], t :: ts, vs, h, h' => by
    have e1 := nodes_len h; have e2 := nodes_len h'; rw [e1] at e2; simp at e2
  | t :: ts, [], vs, h, h' => by
    have e1 := nodes_len h; have e2 := nodes_len h'; rw [e1] at e2; simp at e2
  | t :: ts, t' :: ts', vs, h, h' => by
    simp only [NodesR] at h h'
    obtain ⟨v, vs1, rfl, h1, h2⟩ := h
    obtain ⟨v', vs2, e, h1', h2'⟩ := h'
    injection e with e1 e2
    subst e1; subst e2
    rw [node_fun t t' v h1 h1', nodes_fun ts ts' vs1 h2 h2']
end
/-! ### does a variable stand in a term: without the set of what was seen -/
def occ (W : Nat) (m : List (Int × Tm)) (n : Int) : Nat → Tm → Option Bool
  | 0, _ => none
  | k + 1, t => (impl_walk.f W m t).bind fun u => if u.kind = 0 then some (decide (u.n = n)) else if u.kind ≠ 3 then some false else u.args.foldr (fun a rest => (occ W m n k a).bind fun b => if b = true then some true else rest) (some false)
def bod (W : Nat) (m : List (Int × Tm)) (n : Int) (k : Nat) (u : Tm) : Option Bool := if u.kind = 0 then some (decide (u.n = n)) else if u.kind ≠ 3 then some false else u.args.foldr (fun a rest => (occ W m n k a).bind fun b => if b = true then some true else rest) (some false)
theorem occ_succ (W : Nat) (m : List (Int × Tm)) (n : Int) (k : Nat) (t : Tm) : occ W m n (k + 1) t = (impl_walk.f W m t).bind (bod W m n k) := rfl
section
variable {W : Nat} {m : List (Int × Tm)} {n : Int}
theorem args_mono {k k' : Nat} (h : ∀ a r, occ W m n k a = some r → occ W m n k' a = some r) : ∀ (ars : List Tm) (r : Bool), ars.foldr (fun a rest => (occ W m n k a).bind fun b => if b = true then some true else rest) (some false) = some r → ars.foldr (fun a rest => (occ W m n k' a).bind fun b => if b = true then some true else rest) (some false) = some r
  | [], r, e => e
  | a :: ars, r, e => by
    rw [List.foldr_cons] at e ⊢
    obtain ⟨b, e1, e2⟩ := Option.bind_eq_some_iff.1 e
    rw [h a b e1, Option.bind_some]
    by_cases hb : b = true
    · rw [if_pos hb] at e2 ⊢; exact e2
    · rw [if_neg hb] at e2 ⊢; exact args_mono h ars r e2
theorem bod_mono1 {k k' : Nat} (h : ∀ a r, occ W m n k a = some r → occ W m n k' a = some r) {u : Tm} {r : Bool} (e : bod W m n k u = some r) : bod W m n k' u = some r := by
  unfold bod at e ⊢
  by_cases h0 : u.kind = 0
  · rw [if_pos h0] at e ⊢; exact e
  · rw [if_neg h0] at e ⊢
    by_cases h3 : u.kind ≠ 3
    · rw [if_pos h3] at e ⊢; exact e
    · rw [if_neg h3] at e ⊢; exact args_mono h _ _ e
theorem occ_mono1 : ∀ (k : Nat) (t : Tm) (r : Bool), occ W m n k t = some r → occ W m n (k + 1) t = some r := by
  intro k
  induction k with
  | zero => intro t r h; cases h
  | succ k ih =>
    intro t r h
    rw [occ_succ] at h ⊢
    obtain ⟨u, e1, e2⟩ := Option.bind_eq_some_iff.1 h
    rw [e1, Option.bind_some]
    exact bod_mono1 ih e2
theorem occ_mono {k k' : Nat} (hk : k ≤ k') {t : Tm} {r : Bool} (h : occ W m n k t = some r) : occ W m n k' t = some r := by
  obtain ⟨d, rfl⟩ : ∃ d, k' = k + d := ⟨k' - k, by omega⟩
  clear hk
  induction d with
  | zero => exact h
  | succ d ih => exact occ_mono1 _ _ _ ih
theorem bod_mono {k k' : Nat} (hk : k ≤ k') {u : Tm} {r : Bool} (h : bod W m n k u = some r) : bod W m n k' u = some r := bod_mono1 (fun _ _ e => occ_mono hk e) h
theorem bod_two {j k : Nat} {u : Tm} {r r' : Bool} (h : bod W m n j u = some r) (h' : bod W m n k u = some r') : r = r' := by
  have e1 := bod_mono (Nat.le_max_left j k) h
  have e2 := bod_mono (Nat.le_max_right j k) h'
  rw [e1] at e2; injection e2
end
def impl_stands.f (k : Nat) (m : List (Int × Tm)) (n : Int) (t : Tm) (sn : List (Nat × Bool)) : Option Bool := if sn = [] then occ k m n k t else none
/-- gone through, and the variable was not there -/
def Fin0 (W : Nat) (m : List (Int × Tm)) (n : Int) (H : Hp) (p : Nat) : Prop := ∃ u j, NodeR 125 H u (encP p) ∧ bod W m n j u = some false
theorem Fin0.ext {W : Nat} {m : List (Int × Tm)} {n : Int} {H H' : Hp} {p : Nat} (hE : Ext H H') (h : Fin0 W m n H p) : Fin0 W m n H' p := by
  obtain ⟨u, j, h1, h2⟩ := h
  exact ⟨u, j, NodeR.ext' hE h1, h2⟩
/-- what the set holds when there is fuel k: what was gone through, and what takes more fuel -/
def JJ (W : Nat) (m : List (Int × Tm)) (n : Int) (H : Hp) (k : Nat) (ps : List Nat) : Prop := ∀ p, p ∈ ps → Fin0 W m n H p ∨ ∃ u, NodeR 125 H u (encP p) ∧ ∀ j, j + 1 ≤ k → bod W m n j u = none
theorem JJ.ext {W : Nat} {m : List (Int × Tm)} {n : Int} {H H' : Hp} {k k' : Nat} {ps : List Nat} (hE : Ext H H') (hk : k' ≤ k) (h : JJ W m n H k ps) : JJ W m n H' k' ps := fun p hp => by
  rcases h p hp with h | ⟨u, h1, h2⟩
  · exact .inl (h.ext hE)
  · exact .inr ⟨u, NodeR.ext' hE h1, fun j hj => h2 j (by omega)⟩
theorem stands_all (W : Nat) (m : List (Int × Tm)) (n : Int) : ∀ (k : Nat) (w : World) (H : Hp) (g2 : Nat) (t : Tm) (g6 gs : Nat) (ps : List Nat) (h3 : MapO encI (node 125) H (hp w) g2 m) (h6 : NodeR 125 H t (.pointer (some ⟨g6, 0, none⟩))) (h9 : Seen 125 H (hp w) gs ps) (hJ : JJ W m n H k ps) (S : Own [is g2, is gs] H w) (r : Bool) (M : occ W m n k t = some r),
    Calls Try.prog 120 #[.iface 109 (.map (some g2)), .int .i64 n, .pointer (some ⟨g6, 0, none⟩), .map (some gs)] w (fun e e_w => ∃ (ps' : List Nat) (H_ : Hp), e = .returned (.bool r) ∧ MapO encI (node 125) H_ (hp e_w) g2 m ∧ Seen 125 H_ (hp e_w) gs ps' ∧ (r = false → ∀ p, p ∈ ps' → p ∈ ps ∨ Fin0 W m n H_ p) ∧ St (anyOf [is g2, is gs]) H w [is g2, is gs] H_ e_w) := by
  intro k
  induction k with
  | zero => intro w H g2 t g6 gs ps h3 h6 h9 hJ S r M; cases M
  | succ k ih =>
    intro w H g2 t g6 gs ps h3 h6 h9 hJ S r M
    by_cases low : occ W m n k t = some r
    · exact ih w H g2 t g6 gs ps h3 h6 h9 (hJ.ext (Ext.refl _) (by omega)) S r low
    rw [occ_succ] at M
    obtain ⟨u, hu, M⟩ := bnd M
    have hmin : ∀ j, j < k → bod W m n j u = none := fun j hj => by
      cases e : bod W m n j u with
      | none => rfl
      | some r' =>
        exfalso
        have e1 : r' = r := bod_two e M
        subst e1
        apply low
        obtain ⟨q, rfl⟩ : ∃ q, k = q + 1 := ⟨k - 1, by omega⟩
        rw [occ_succ, hu, Option.bind_some]
        exact bod_mono (by omega) e
    refine enter (l := [.iface 109 (.map (some g2)), .int .i64 n, .pointer (some ⟨g6, 0, none⟩), .map (some gs)]) 52 Try.func120 rfl rfl rfl ?_
    have S0_ := S.st
    refine wp_seq ?_
    refine wp_region_lit ?_
    refine lv (d := 8) rfl rfl (by kernel_rfl) (e_assign (v := .bool false) rfl) ?_
    refine wpList_nil ?_
    refine then_n ?_
    refine wp_seq ?_
    refine wp_region_lit ?_
    refine lv (d := 11) rfl rfl (by kernel_rfl) (e_move (v := .iface 109 (.map (some g2))) (by kernel_rfl)) ?_
    refine lv (d := 12) rfl rfl (by kernel_rfl) (e_move (v := .pointer (some ⟨g6, 0, none⟩)) (by kernel_rfl)) ?_
    refine lcall (d := 13) rfl rfl (by kernel_rfl) (e_call (l := [.tmp 11, .tmp 12]) (vs := [.iface 109 (.map (some g2)), .pointer (some ⟨g6, 0, none⟩)]) Try.func119 (by kernel_rfl) rfl (by kernel_rfl) rfl) (impl_walk.calls W w H m g2 t g6 h3 h6 (St.own' (Fa := [is g2]) (Fr := [is gs]) S0_) u hu) ?_
    rintro _ w1 ⟨gu, H1, rfl, h3, hn, T1⟩
    refine ⟨_, rfl, ?_⟩
    obtain ⟨S1, K1⟩ := St.call (Fa := [is g2]) (Fr := [is gs]) S0_ T1
    have E1 := T1.ext
    replace h9 := (h9.move (K1.at 0 rfl)).ext E1
    replace hJ := hJ.ext E1 (Nat.le_refl _)
    refine lv (d := 2) rfl rfl (by kernel_rfl) (e_assign (v := .pointer (some ⟨gu, 0, none⟩)) (by kernel_rfl)) ?_
    refine wpList_nil ?_
    refine then_n ?_
    obtain ⟨A1, c1, y1, q1, hh1, hc1, l1, hr1⟩ := node_open hn
    refine wp_seq ?_
    refine wp_seq ?_
    refine wp_region_lit ?_
    refine lv (d := 14) rfl rfl (by kernel_rfl) (e_move (v := .pointer (some ⟨gu, 0, none⟩)) (by kernel_rfl)) ?_
    refine lv (d := 15) rfl rfl (by kernel_rfl) (e_nilCheck (ad := ⟨gu, 0, none⟩) (by kernel_rfl)) ?_
    refine lv (d := 16) rfl rfl (by kernel_rfl) (e_fieldAddr (b := gu) (off := 0) (o := 0) Try.underlying125 rfl rfl (sz := 1) (by kernel_rfl) (by decide) (by kernel_rfl)) ?_
    refine lv (d := 17) rfl rfl (by kernel_rfl) (e_load1 (ad := ⟨gu, 0 + 0, none⟩) (v := .int .i64 u.kind) Try.underlying3 rfl (by kernel_rfl) (blk_cells (S1.inv _ _ hh1) hc1 0 _ rfl)) ?_
    refine lv (d := 18) rfl rfl (by kernel_rfl) (e_eql (k := .i64) (a := u.kind) (b := 0) (by kernel_rfl) rfl) ?_
    refine wpList_nil ?_
    refine then_n ?_
    have M0 := M
    unfold bod at M
    by_cases k0 : u.kind = 0
    · rw [if_pos k0] at M
      refine cond_t rfl (bt k0 (by kernel_rfl)) ?_
      refine wp_seq ?_
      refine wp_region_lit ?_
      refine lv (d := 19) rfl rfl (by kernel_rfl) (e_move (v := .pointer (some ⟨gu, 0, none⟩)) (by kernel_rfl)) ?_
      refine lv (d := 20) rfl rfl (by kernel_rfl) (e_nilCheck (ad := ⟨gu, 0, none⟩) (by kernel_rfl)) ?_
      refine lv (d := 21) rfl rfl (by kernel_rfl) (e_fieldAddr (b := gu) (off := 0) (o := 1) Try.underlying125 rfl rfl (sz := 1) (by kernel_rfl) (by decide) (by kernel_rfl)) ?_
      refine lv (d := 22) rfl rfl (by kernel_rfl) (e_load1 (ad := ⟨gu, 0 + 1, none⟩) (v := .int .i64 u.n) Try.underlying3 rfl (by kernel_rfl) (blk_cells (S1.inv _ _ hh1) hc1 1 _ rfl)) ?_
      refine lv (d := 23) rfl rfl (by kernel_rfl) (e_move (v := .int .i64 n) (by kernel_rfl)) ?_
      refine lv (d := 24) rfl rfl (by kernel_rfl) (e_eql (k := .i64) (a := u.n) (b := n) (by kernel_rfl) (by kernel_rfl)) ?_
      refine lv (d := 8) rfl rfl (by kernel_rfl) (e_assign (v := .bool (decide (u.n = n))) (by kernel_rfl)) ?_
      refine wpList_nil ?_
      refine then_n ?_
      refine wp_ret ?_
      refine then_r ?_
      obtain rfl := Option.some.inj M
      exact ret1 rfl rfl (show _ = .bool (decide (u.n = n)) from (by kernel_rfl)) ⟨ps, H1, rfl, h3, h9, fun _ p hp => .inl hp, S1⟩
    rw [if_neg k0] at M
    refine cond_f rfl (bf k0 (by kernel_rfl)) ?_
    refine wp_skip ?_
    refine then_n ?_
    refine wp_seq ?_
    refine wp_seq ?_
    refine wp_region_lit ?_
    refine lv (d := 25) rfl rfl (by kernel_rfl) (e_move (v := .pointer (some ⟨gu, 0, none⟩)) (by kernel_rfl)) ?_
    refine lv (d := 26) rfl rfl (by kernel_rfl) (e_nilCheck (ad := ⟨gu, 0, none⟩) (by kernel_rfl)) ?_
    refine lv (d := 27) rfl rfl (by kernel_rfl) (e_fieldAddr (b := gu) (off := 0) (o := 0) Try.underlying125 rfl rfl (sz := 1) (by kernel_rfl) (by decide) (by kernel_rfl)) ?_
    refine lv (d := 28) rfl rfl (by kernel_rfl) (e_load1 (ad := ⟨gu, 0 + 0, none⟩) (v := .int .i64 u.kind) Try.underlying3 rfl (by kernel_rfl) (blk_cells (S1.inv _ _ hh1) hc1 0 _ rfl)) ?_
    refine lv (d := 29) rfl rfl (by kernel_rfl) (e_neq (k := .i64) (a := u.kind) (b := 3) (by kernel_rfl) rfl) ?_
    refine lv (d := 30) rfl rfl (by kernel_rfl) (e_move (v := .bool (decide (u.kind ≠ 3))) (by kernel_rfl)) ?_
    by_cases k3 : u.kind ≠ 3
    · rw [if_pos k3] at M
      refine lskip (t := 30) (c := true) rfl (by kernel_rfl) rfl (bt k3 (by kernel_rfl)) rfl rfl ?_
      refine lskip (t := 30) (c := true) rfl (by kernel_rfl) rfl (bt k3 (by kernel_rfl)) rfl rfl ?_
      refine lskip (t := 30) (c := true) rfl (by kernel_rfl) rfl (bt k3 (by kernel_rfl)) rfl rfl ?_
      refine lv (d := 34) rfl rfl (by kernel_rfl) (e_pick_t (v := .bool true) (bt k3 (by kernel_rfl)) rfl) ?_
      refine wpList_nil ?_
      refine then_n ?_
      refine cond_t rfl (by kernel_rfl) ?_
      refine wp_seq ?_
      refine wp_region_lit ?_
      refine lv (d := 8) rfl rfl (by kernel_rfl) (e_assign (v := .bool false) rfl) ?_
      refine wpList_nil ?_
      refine then_n ?_
      refine wp_ret ?_
      refine then_r ?_
      obtain rfl := Option.some.inj M
      exact ret1 rfl rfl (show _ = .bool false from (by kernel_rfl)) ⟨ps, H1, rfl, h3, h9, fun _ p hp => .inl hp, S1⟩
    rw [if_neg k3] at M
    refine lvg (d := 31) (t := 30) rfl (by kernel_rfl) rfl (bf k3 (by kernel_rfl)) rfl (by kernel_rfl) (e_move (v := .map (some gs)) (by kernel_rfl)) ?_
    refine lvg (d := 32) (t := 30) rfl (by kernel_rfl) rfl (bf k3 (by kernel_rfl)) rfl (by kernel_rfl) (e_move (v := encP gu) (by kernel_rfl)) ?_
    refine lvg (d := 33) (t := 30) rfl (by kernel_rfl) rfl (bf k3 (by kernel_rfl)) rfl (by kernel_rfl) (e_seenP h9 S1.inv Try.underlying148 Try.underlying74 (i := nodeT) nodeT_ok nodeT_sz hn (by kernel_rfl) (by kernel_rfl) (by kernel_rfl)) ?_
    refine lv (d := 34) rfl rfl (by kernel_rfl) (e_pick_f (v := .bool (decide (gu ∈ ps))) (bf k3 (by kernel_rfl)) (by kernel_rfl)) ?_
    refine wpList_nil ?_
    refine then_n ?_
    by_cases hin : gu ∈ ps
    · refine cond_t rfl (bt hin (by kernel_rfl)) ?_
      refine wp_seq ?_
      refine wp_region_lit ?_
      refine lv (d := 8) rfl rfl (by kernel_rfl) (e_assign (v := .bool false) rfl) ?_
      refine wpList_nil ?_
      refine then_n ?_
      refine wp_ret ?_
      refine then_r ?_
      have hr : r = false := by
        rcases hJ gu hin with ⟨u', j, e1, e2⟩ | ⟨u', e1, e2⟩
        · have := node_fun _ _ _ e1 hn
          subst this
          exact bod_two M0 e2
        · have := node_fun _ _ _ e1 hn
          subst this
          rw [e2 k (by omega)] at M0; cases M0
      subst hr
      exact ret1 rfl rfl (show _ = .bool false from (by kernel_rfl)) ⟨ps, H1, rfl, h3, h9, fun _ p hp => .inl hp, S1⟩
    refine cond_f rfl (bf hin (by kernel_rfl)) ?_
    refine wp_skip ?_
    refine then_n ?_
    refine wp_seq ?_
    refine wp_region_lit ?_
    refine lv (d := 35) rfl rfl (by kernel_rfl) (e_move (v := .map (some gs)) (by kernel_rfl)) ?_
    refine lv (d := 36) rfl rfl (by kernel_rfl) (e_move (v := encP gu) (by kernel_rfl)) ?_
    have S2 := S1.pull (F := is gs) (Fr := [is g2]) 1 rfl rfl
    refine lse rfl rfl (by kernel_rfl) (e_markP S2 h9 Try.underlying148 Try.underlying74 (i := nodeT) nodeT_ok nodeT_sz hn hin (by kernel_rfl) (by kernel_rfl) rfl) ?_
    rintro w3 ⟨h9', S3, K3⟩
    replace h3 := h3.move (K3.at 0 rfl)
    have S4 := S3.pull (F := is g2) (Fr := [is gs]) 1 rfl rfl
    refine wpList_nil ?_
    refine then_n ?_
    refine wp_seq ?_
    refine wp_seq ?_
    refine wp_region_lit ?_
    refine lv (d := 37) rfl rfl (by kernel_rfl) (e_move (v := .pointer (some ⟨gu, 0, none⟩)) (by kernel_rfl)) ?_
    refine lv (d := 38) rfl rfl (by kernel_rfl) (e_nilCheck (ad := ⟨gu, 0, none⟩) (by kernel_rfl)) ?_
    refine lv (d := 39) rfl rfl (by kernel_rfl) (e_fieldAddr (b := gu) (off := 0) (o := 3) Try.underlying125 rfl rfl (sz := 1) (by kernel_rfl) (by decide) (by kernel_rfl)) ?_
    refine lv (d := 40) rfl rfl (by kernel_rfl) (e_load1 (ad := ⟨gu, 0 + 3, none⟩) (v := .slice A1 u.args.length c1) Try.underlying87 rfl (by kernel_rfl) (blk_cells (S4.inv _ _ hh1) hc1 3 _ rfl)) ?_
    refine lv (d := 41) rfl rfl (by kernel_rfl) (e_len (A := A1) (n := u.args.length) (c := c1) Try.underlying87 (by kernel_rfl)) ?_
    refine lv (d := 42) rfl rfl (by kernel_rfl) (e_move (v := .int .i64 0) rfl) ?_
    refine wpList_nil ?_
    refine then_n ?_
    refine wp_block ?_
    refine wp_loop_g (fun kk a9 w9 => ∃ (f9 : Nat → Value) (i : Nat) (qs : List Nat) (H9 : Hp), kk = u.args.length - i ∧ i ≤ u.args.length ∧ a9 = mk 52 f9 ∧ f9 0 = .iface 109 (.map (some g2)) ∧ f9 1 = .int .i64 n ∧ f9 3 = .map (some gs) ∧ f9 40 = .slice A1 u.args.length c1 ∧ f9 41 = .int .i64 (u.args.length : Int) ∧ f9 42 = .int .i64 (i : Int) ∧ MapO encI (node 125) H9 (hp w9) g2 m ∧ Seen 125 H9 (hp w9) gs qs ∧ (∀ p, p ∈ qs → p ∈ ps ∨ p = gu ∨ Fin0 W m n H9 p) ∧ Ext H1 H9 ∧ St (anyOf [is g2, is gs]) H w [is g2, is gs] H9 w9 ∧ (u.args.drop i).foldr (fun a rest => (occ W m n k a).bind fun b => if b = true then some true else rest) (some false) = some r) (u.args.length - 0) ⟨_, 0, ps ++ [gu], H1, rfl, by omega, rfl, (by kernel_rfl), (by kernel_rfl), (by kernel_rfl), (by kernel_rfl), (by kernel_rfl), (by kernel_rfl), h3, h9', (fun p hp => by
      rcases List.mem_append.1 hp with hp | hp
      · exact .inl hp
      · exact .inr (.inl (by simpa using hp))), Ext.refl _, S4, M⟩ ?_
    clear M h3 h9 h9' S2 S3 S4 K3
    rintro kk a9 w9 ⟨f9, i, qs, H9, rfl, hi, rfl, e0, e1, e3, e40, e41, e42, h3, h9, hq, E9, S9, M⟩
    have hn9 := hn.ext' E9
    have hr9 : Rd (node 125) H9 A1 u.args := hr1.ext E9
    refine wp_seq ?_
    refine wp_region_lit ?_
    refine lv (d := 43) rfl rfl (by kernel_rfl) (e_lss (k := .i64) (a := (i : Int)) (b := (u.args.length : Int)) (by exact e42) (by exact e41)) ?_
    refine wpList_nil ?_
    refine then_n ?_
    refine wp_seq ?_
    by_cases qi : (i : Int) < (u.args.length : Int)
    · refine cond_t rfl (bt qi (by kernel_rfl)) ?_
      refine wp_skip ?_
      refine then_n ?_
      have hil : i < u.args.length := by omega
      rw [List.drop_eq_getElem_cons hil, List.foldr_cons] at M
      obtain ⟨b, hb, M⟩ := bnd M
      refine wp_seq ?_
      refine wp_block ?_
      refine wp_seq ?_
      refine wp_region_lit ?_
      obtain ⟨bb, oo, eA⟩ := Rd.addr hr9 (show ((i : Int)).toNat < u.args.length by omega)
      obtain ⟨y2, r2, k2⟩ := Rd.at hr9 eA (getD_some (Tm.mk 0 0 [] []) (show ((i : Int)).toNat < u.args.length by omega))
      obtain ⟨v2, rfl, r2⟩ := r2
      obtain ⟨ga, rfl⟩ := node_ptr r2
      have hga : u.args.getD ((i : Int)).toNat (Tm.mk 0 0 [] []) = u.args[i] := by
        rw [Int.toNat_natCast, List.getD_eq_getElem?_getD, List.getElem?_eq_getElem hil]; rfl
      rw [hga] at r2
      refine lv (d := 44) rfl rfl (by kernel_rfl) (e_indexAddr (b := bb) (off := oo) (n := u.args.length) (c := c1) (sz := 1) (i := (i : Int)) (k := .i64) Try.underlying87 eA (by kernel_rfl) (by exact e40) (by exact e42) (by omega) qi) ?_
      refine lv (d := 45) rfl rfl (by kernel_rfl) (e_load1 (ad := ⟨bb, oo + ((i : Int)).toNat * 1, none⟩) (v := .pointer (some ⟨ga, 0, none⟩)) Try.underlying74 rfl (by kernel_rfl) (hpx (S9.inv.cell (k2 0 _ rfl)))) ?_
      refine lv (d := 10) rfl rfl (by kernel_rfl) (e_assign (v := .pointer (some ⟨ga, 0, none⟩)) (by kernel_rfl)) ?_
      refine wpList_nil ?_
      refine then_n ?_
      refine wp_seq ?_
      refine wp_region_lit ?_
      refine lv (d := 46) rfl rfl (by kernel_rfl) (e_move (v := .iface 109 (.map (some g2))) (by exact e0)) ?_
      refine lv (d := 47) rfl rfl (by kernel_rfl) (e_move (v := .int .i64 n) (by exact e1)) ?_
      refine lv (d := 48) rfl rfl (by kernel_rfl) (e_move (v := .pointer (some ⟨ga, 0, none⟩)) (by kernel_rfl)) ?_
      refine lv (d := 49) rfl rfl (by kernel_rfl) (e_move (v := .map (some gs)) (by exact e3)) ?_
      have J9 : JJ W m n H9 k qs := fun p hp => by
        rcases hq p hp with h | rfl | h
        · exact (hJ.ext E9 (by omega)) p h
        · exact .inr ⟨u, hn9, fun j hj => hmin j (by omega)⟩
        · exact .inl h
      refine lcall (d := 50) rfl rfl (by kernel_rfl) (e_call (l := [.tmp 46, .tmp 47, .tmp 48, .tmp 49]) (vs := [.iface 109 (.map (some g2)), .int .i64 n, .pointer (some ⟨ga, 0, none⟩), .map (some gs)]) Try.func120 (by kernel_rfl) rfl (by kernel_rfl) rfl) (ih w9 H9 g2 u.args[i] ga gs qs h3 r2 h9 J9 (St.own' (Fa := [is g2, is gs]) (Fr := []) S9) b hb) ?_
      rintro _ w5 ⟨qs', H5, rfl, h3', h9', hq', T5⟩
      refine ⟨_, rfl, ?_⟩
      obtain ⟨S5, K5⟩ := St.call (Fa := [is g2, is gs]) (Fr := []) S9 T5
      have E5 := T5.ext
      refine wpList_nil ?_
      refine then_n ?_
      cases b with
      | true =>
        rw [if_pos rfl] at M
        refine cond_t rfl (by kernel_rfl) ?_
        refine wp_seq ?_
        refine wp_region_lit ?_
        refine lv (d := 8) rfl rfl (by kernel_rfl) (e_assign (v := .bool true) rfl) ?_
        refine wpList_nil ?_
        refine then_n ?_
        refine wp_ret ?_
        refine inb_r ?_
        refine then_r ?_
        refine then_r ?_
        refine inb_r ?_
        refine then_r ?_
        obtain rfl := Option.some.inj M
        exact ret1 rfl rfl (show _ = .bool true from (by kernel_rfl)) ⟨qs', H5, rfl, h3', h9', (fun h => by cases h), S5⟩
      | false =>
        rw [if_neg (by simp)] at M
        refine cond_f rfl (by kernel_rfl) ?_
        refine wp_skip ?_
        refine inb_n ?_
        refine then_n ?_
        refine wp_region_lit ?_
        refine lv (d := 51) rfl rfl (by kernel_rfl) (e_add (k := .i64) (a := (i : Int)) (b := 1) (by exact e42) rfl) ?_
        refine lv (d := 42) rfl rfl (by kernel_rfl) (e_move (v := .int .i64 ((i + 1 : Nat) : Int)) (by rw [show ((i + 1 : Nat) : Int) = IntKind.i64.wrap ((i : Int) + 1) by rw [wrapK (by have := hr1.1; omega)]]; rfl)) ?_
        refine wpList_nil ?_
        refine then_n ?_
        exact ⟨u.args.length - (i + 1), by omega, _, i + 1, qs', H5, rfl, by omega, rfl, (by exact e0), (by exact e1), (by exact e3), (by exact e40), (by exact e41), (by kernel_rfl), h3', h9', (fun p hp => by
          rcases hq' rfl p hp with h | h
          · rcases hq p h with h | h | h
            · exact .inl h
            · exact .inr (.inl h)
            · exact .inr (.inr (h.ext E5))
          · exact .inr (.inr h)), E9.trans E5, S5, M⟩
    refine cond_f rfl (bf qi (by kernel_rfl)) ?_
    refine wp_exit ?_
    refine then_e ?_
    refine then_e ?_
    refine inb_hit ?_
    refine then_n ?_
    rw [List.drop_of_length_le (by omega), List.foldr_nil] at M
    refine wp_seq ?_
    refine wp_region_lit ?_
    refine lv (d := 8) rfl rfl (by kernel_rfl) (e_assign (v := .bool false) rfl) ?_
    refine wpList_nil ?_
    refine then_n ?_
    refine wp_ret ?_
    obtain rfl := Option.some.inj M
    exact ret1 rfl rfl (show _ = .bool false from (by kernel_rfl)) ⟨qs, H9, rfl, h3, h9, (fun _ p hp => by
      rcases hq p hp with h | rfl | h
      · exact .inl h
      · exact .inr ⟨u, k, hn9, M0⟩
      · exact .inr h), S9⟩
theorem impl_stands.calls (k : Nat) (w : World) (H : Hp) (x1 : List (Int × Tm)) (g2 : Nat) (x4 : Int) (x5 : Tm) (g6 : Nat) (x7 : List (Nat × Bool)) (g8 : Nat) (h3 : MapO encI (node 125) H (hp w) g2 x1) (h6 : NodeR 125 H x5 (.pointer (some ⟨g6, 0, none⟩))) (h9 : MapO encP tBool H (hp w) g8 x7) (S : Own [is g2, is g8] H w) (r : Bool) (M : impl_stands.f k x1 x4 x5 x7 = some r) :
    Calls Try.prog 120 #[.iface 109 (.map (some g2)), .int .i64 x4, .pointer (some ⟨g6, 0, none⟩), .map (some g8)] w (fun e e_w => ∃ (H_ : Hp), e = .returned (.bool r) ∧ MapO encI (node 125) H_ (hp e_w) g2 x1 ∧ St (anyOf [is g2, is g8]) H w [is g2] H_ e_w) := by
  unfold impl_stands.f at M
  by_cases hs : x7 = []
  case neg => rw [if_neg hs] at M; cases M
  rw [if_pos hs] at M
  subst hs
  refine Calls.mono (stands_all k x1 x4 k w H g2 x5 g6 g8 [] h3 h6 (Seen.of h9) (fun p hp => by cases hp) S r M) ?_
  rintro e e_w ⟨ps', H_, rfl, a1, _, _, T⟩
  exact ⟨H_, rfl, a1, (T.pull (F := is g8) (Fr := [is g2]) 1 rfl rfl).drop⟩
end Go.Proofs.Ytognefkopbbdnaa
