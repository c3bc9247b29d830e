import Derived.Test.YtminnekeekhjcaaPuFo1
namespace Go.Proofs.Ytminnekeekhjcaa
open Go.Sx Go.Sy
set_option linter.unusedVariables false
set_option linter.unusedSimpArgs false
set_option linter.unusedSectionVars false
set_option maxRecDepth 4000
/-! ### more fuel, the same answer -/
def Le {β : Type} (a b : Option β) : Prop := ∀ r, a = some r → b = some r
section
variable {α β : Type}
theorem Le.refl (a : Option β) : Le a a := fun _ h => h
theorem Le.none (b : Option β) : Le none b := fun _ h => by cases h
theorem Le.ite {c : Prop} [Decidable c] {a b a' b' : Option β} (h1 : Le a a') (h2 : Le b b') : Le (if c then a else b) (if c then a' else b') := by
  by_cases h : c
  · rw [if_pos h, if_pos h]; exact h1
  · rw [if_neg h, if_neg h]; exact h2
theorem Le.bind {o o' : Option α} {f f' : α → Option β} (h1 : Le o o') (h2 : ∀ t, Le (f t) (f' t)) : Le (o.bind f) (o'.bind f') := by
  intro r h
  obtain ⟨t, e1, e2⟩ := Option.bind_eq_some_iff.1 h
  rw [h1 t e1]; exact h2 t r e2
theorem Ev.mono {g : Nat → Option β} {r : β} (hm : ∀ k, Le (g k) (g (k + 1))) {K : Nat} (h : g K = some r) : Ev g r := by
  refine ⟨K, fun k hk => ?_⟩
  obtain ⟨d, rfl⟩ : ∃ d, k = K + d := ⟨k - K, by omega⟩
  clear hk
  induction d with
  | zero => exact h
  | succ d ih => exact hm _ _ ih
end
theorem l3put_mono (xs : List Sy.Op) (n : Sy.Op) (k : Nat) : Le (spec_l3put.f k xs n) (spec_l3put.f (k + 1) xs n) := by
  intro r h
  unfold spec_l3put.f at h ⊢
  by_cases hc : xs.length ≤ 1000 ∧ 3000 ≤ k
  · rw [if_pos hc] at h; rw [if_pos ⟨hc.1, by omega⟩]; exact h
  · rw [if_neg hc] at h; cases h
theorem words_mono : ∀ (k : Nat) (a : List UInt8) (b : List (List UInt8)) (c : List UInt8) (i : Int), Le (spec_l3words.l0 k a b c i) (spec_l3words.l0 (k + 1) a b c i) := by
  intro k
  induction k with
  | zero => intro a b c i; rw [spec_l3words.l0]; exact Le.none _
  | succ k ih =>
    intro a b c i
    rw [spec_l3words.l0, spec_l3words.l0]
    repeat' first | exact ih _ _ _ _ | exact Le.refl _ | apply Le.ite
theorem default_mono : ∀ k : Nat, (∀ a i, Le (spec_DefaultOps.l0 k a i) (spec_DefaultOps.l0 (k + 1) a i)) ∧ ∀ i t a j, Le (spec_DefaultOps.l1 k i t a j) (spec_DefaultOps.l1 (k + 1) i t a j) := by
  intro k
  induction k with
  | zero => exact ⟨fun a i => by rw [spec_DefaultOps.l0]; exact Le.none _, fun i t a j => by rw [spec_DefaultOps.l1]; exact Le.none _⟩
  | succ k ih =>
    refine ⟨fun a i => ?_, fun i t a j => ?_⟩
    · rw [spec_DefaultOps.l0, spec_DefaultOps.l0]
      refine Le.ite (Le.ite (Le.bind (words_mono k _ _ _ _) (fun t => ih.2 _ _ _ _)) (Le.refl _)) (Le.refl _)
    · rw [spec_DefaultOps.l1, spec_DefaultOps.l1]
      exact Le.ite (Le.ite (Le.ite (Le.bind (l3put_mono _ _ k) (fun t => ih.2 _ _ _ _)) (Le.refl _)) (Le.refl _)) (ih.1 _ _)
theorem default_val : ∃ d, Ev (fun k => spec_DefaultOps.f k) d ∧ VOK d := by
  have h : (match spec_DefaultOps.f 4000 with | some d => decide (VOK d) | none => false) = true := by decide +kernel
  cases e : spec_DefaultOps.f 4000 with
  | none => rw [e] at h; cases h
  | some d =>
    rw [e] at h
    exact ⟨d, Ev.mono (fun k => (default_mono k).1 _ _) e, of_decide_eq_true h⟩
/-! ### the program's table -/
theorem c1_val (p t : Int) (L : List (List UInt8)) (hL : L.length ≤ 100) (hn : ∀ x, x ∈ L → x.length ≤ 100) : ∀ (m i k : Nat) (acc : List Sy.Op), i + m = L.length → acc.length ≤ 1000 + i → m < k → impl_DefaultOps_c1.l0 k p t L (i : Int) acc = some (acc ++ (L.drop i).map (fun x => (⟨x, p, t⟩ : Sy.Op))) := by
  intro m
  induction m with
  | zero =>
    intro i k acc h1 h2 h3
    obtain ⟨k, rfl⟩ : ∃ q, k = q + 1 := ⟨k - 1, by omega⟩
    rw [impl_DefaultOps_c1.l0, if_neg (by omega), List.drop_of_length_le (by omega)]; simp
  | succ m ih =>
    intro i k acc h1 h2 h3
    obtain ⟨k, rfl⟩ : ∃ q, k = q + 1 := ⟨k - 1, by omega⟩
    have hi : i < L.length := by omega
    have hx := hn L[i] (List.getElem_mem _)
    rw [impl_DefaultOps_c1.l0, if_pos (by omega), if_pos (by omega), Int.toNat_natCast, getD_at hi, if_pos (by omega), if_pos (by omega), wrap_nat (by omega), ih (i + 1) k _ (by omega) (by rw [List.length_append]; simp; omega) (by omega), List.drop_eq_getElem_cons hi, List.map_cons, List.append_assoc]
    rfl
theorem c1_f (p t : Int) (L : List (List UInt8)) (acc : List Sy.Op) (k : Nat) (hL : (decide (L.length ≤ 100) && L.all (fun x => decide (x.length ≤ 100)) && decide (acc.length ≤ 1000)) = true) (hk : 101 < k) : impl_DefaultOps_c1.f k p t L acc = some (acc ++ L.map (fun x => (⟨x, p, t⟩ : Sy.Op))) := by
  simp only [Bool.and_eq_true, decide_eq_true_eq, List.all_eq_true] at hL
  obtain ⟨⟨h1, h2⟩, h3⟩ := hL
  have := c1_val p t L h1 h2 L.length 0 k acc (by omega) (by omega) (by omega)
  rw [List.drop_zero] at this
  exact this
def lit0 (k : Nat) : Option (List Sy.Op) := ((impl_DefaultOps_c1.f k 1200 0 [([58, 45] : List UInt8), ([45, 45, 62] : List UInt8)] []).bind fun t25 => ((impl_DefaultOps_c1.f k 1200 4 [([58, 45] : List UInt8), ([63, 45] : List UInt8)] t25).bind fun t54 => ((impl_DefaultOps_c1.f k 1150 4 [([100, 121, 110, 97, 109, 105, 99] : List UInt8)] t54).bind fun t83 => ((impl_DefaultOps_c1.f k 1100 1 [([59] : List UInt8)] t83).bind fun t112 => ((impl_DefaultOps_c1.f k 1050 1 [([45, 62] : List UInt8)] t112).bind fun t141 => ((impl_DefaultOps_c1.f k 1000 1 [([44] : List UInt8)] t141).bind fun t170 => ((impl_DefaultOps_c1.f k 900 3 [([92, 43] : List UInt8)] t170).bind fun t199 => ((impl_DefaultOps_c1.f k 700 0 [([61] : List UInt8), ([92, 61] : List UInt8), ([61, 61] : List UInt8), ([92, 61, 61] : List UInt8), ([64, 60] : List UInt8), ([64, 61, 60] : List UInt8), ([64, 62] : List UInt8), ([64, 62, 61] : List UInt8), ([61, 46, 46] : List UInt8), ([105, 115] : List UInt8), ([61, 58, 61] : List UInt8), ([61, 92, 61] : List UInt8), ([60] : List UInt8), ([61, 60] : List UInt8), ([62] : List UInt8), ([62, 61] : List UInt8)] t199).bind fun t228 => ((impl_DefaultOps_c1.f k 500 2 [([43] : List UInt8), ([45] : List UInt8), ([47, 92] : List UInt8), ([92, 47] : List UInt8), ([120, 111, 114] : List UInt8)] t228).bind fun t257 => ((impl_DefaultOps_c1.f k 400 2 [([42] : List UInt8), ([47] : List UInt8), ([47, 47] : List UInt8), ([109, 111, 100] : List UInt8), ([114, 101, 109] : List UInt8), ([60, 60] : List UInt8), ([62, 62] : List UInt8)] t257).bind fun t286 => ((impl_DefaultOps_c1.f k 200 0 [([42, 42] : List UInt8)] t286).bind fun t315 => ((impl_DefaultOps_c1.f k 200 1 [([94] : List UInt8)] t315).bind fun t344 => (impl_DefaultOps_c1.f k 200 3 [([45] : List UInt8), ([43] : List UInt8), ([92] : List UInt8)] t344)))))))))))))
theorem lit0_f (k : Nat) : impl_DefaultOps.f k = (lit0 k).bind (fun t => (impl_sortOps.f k t).bind fun t => some t) := by
  unfold impl_DefaultOps.f lit0
  simp only [Option.bind_assoc]
def lit : List Sy.Op := (lit0 200).getD []
theorem lit0_val (k : Nat) (hk : 101 < k) : lit0 k = some lit := by
  have h : ∀ j, 101 < j → lit0 j = lit0 (102) := by
    intro j hj
    unfold lit0
    rw [c1_f _ _ _ _ j (by decide) hj, c1_f _ _ _ _ 102 (by decide) (by omega), Option.bind_some, Option.bind_some]
    rw [c1_f _ _ _ _ j (by decide) hj, c1_f _ _ _ _ 102 (by decide) (by omega), Option.bind_some, Option.bind_some]
    rw [c1_f _ _ _ _ j (by decide) hj, c1_f _ _ _ _ 102 (by decide) (by omega), Option.bind_some, Option.bind_some]
    rw [c1_f _ _ _ _ j (by decide) hj, c1_f _ _ _ _ 102 (by decide) (by omega), Option.bind_some, Option.bind_some]
    rw [c1_f _ _ _ _ j (by decide) hj, c1_f _ _ _ _ 102 (by decide) (by omega), Option.bind_some, Option.bind_some]
    rw [c1_f _ _ _ _ j (by decide) hj, c1_f _ _ _ _ 102 (by decide) (by omega), Option.bind_some, Option.bind_some]
    rw [c1_f _ _ _ _ j (by decide) hj, c1_f _ _ _ _ 102 (by decide) (by omega), Option.bind_some, Option.bind_some]
    rw [c1_f _ _ _ _ j (by decide) hj, c1_f _ _ _ _ 102 (by decide) (by omega), Option.bind_some, Option.bind_some]
    rw [c1_f _ _ _ _ j (by decide) hj, c1_f _ _ _ _ 102 (by decide) (by omega), Option.bind_some, Option.bind_some]
    rw [c1_f _ _ _ _ j (by decide) hj, c1_f _ _ _ _ 102 (by decide) (by omega), Option.bind_some, Option.bind_some]
    rw [c1_f _ _ _ _ j (by decide) hj, c1_f _ _ _ _ 102 (by decide) (by omega), Option.bind_some, Option.bind_some]
    rw [c1_f _ _ _ _ j (by decide) hj, c1_f _ _ _ _ 102 (by decide) (by omega), Option.bind_some, Option.bind_some]
    rw [c1_f _ _ _ _ j (by decide) hj, c1_f _ _ _ _ 102 (by decide) (by omega)]
  have h2 : (lit0 102).isSome = true := by decide +kernel
  obtain ⟨v, hv⟩ := Option.isSome_iff_exists.1 h2
  have h3 := h 200 (by omega)
  rw [h k hk, lit, h3, hv]; rfl
def dflt : List Sy.Op := lit.foldl (fun acc n => pgo n acc false) []
theorem dflt_ok : VOK dflt ∧ lit.Perm dflt := by decide +kernel
theorem implDefault_val : Ev (fun k => impl_DefaultOps.f k) dflt := by
  have hl : lit.length ≤ 1000 := by
    have h1 := dflt_ok.1.1.1
    rw [dflt_ok.2.length_eq]; omega
  obtain ⟨y, ⟨K, hK⟩, p1, p2⟩ := sortOps_val lit hl
  have hy : y = dflt := sorted_one y _ (p1.trans dflt_ok.2) p2 dflt_ok.1.1.2.2
  subst hy
  refine ⟨K + 102, fun k hk => ?_⟩
  show impl_DefaultOps.f k = _
  have hk2 : impl_sortOps.f k lit = some dflt := hK k (by omega)
  rw [lit0_f, lit0_val k (by omega), Option.bind_some, hk2]; rfl
/-! ### the draws -/
def RI (r : GL4rd) : Prop := 0 ≤ r.i_ ∧ r.b_.length ≤ 500
theorem next_ok {r : GL4rd} (h : RI r) : ∃ v r', spec_l4rd_next_2.f r = some (v, r') ∧ 0 ≤ v ∧ v ≤ 255 ∧ RI r' := by
  unfold spec_l4rd_next_2.f
  by_cases h1 : r.i_ ≥ (r.b_.length : Int)
  · rw [if_pos h1]; exact ⟨0, r, rfl, by omega, by omega, h⟩
  · have h2 := h.2
    have h3 := h.1
    rw [if_neg h1, if_pos h.1, if_pos (by omega)]
    refine ⟨_, _, rfl, by omega, ?_, ?_, h2⟩
    · have := (r.b_.getD r.i_.toNat 0).toNat_lt; omega
    · show 0 ≤ IntKind.i64.wrap _
      rw [wrap_id (by omega) (by omega)]; omega
theorem open_ok (x : List UInt8) : ∃ r, spec_l4open.f x = some r ∧ RI r := by
  unfold spec_l4open.f
  by_cases h : (x.length : Int) > 500
  · rw [if_pos h, if_pos (by omega)]
    exact ⟨_, rfl, Int.le_refl _, by show (x.take 500).length ≤ 500; rw [List.length_take]; omega⟩
  · rw [if_neg h, if_pos (by omega), if_pos (by omega)]
    exact ⟨_, rfl, Int.le_refl _, by show (x.take _).length ≤ 500; rw [List.length_take]; omega⟩
theorem getD_len {L : List (List UInt8)} (h : ∀ x, x ∈ L → x.length ≤ 100) (j : Nat) : (L.getD j []).length ≤ 100 := by
  by_cases hj : j < L.length
  · rw [getD_at hj]; exact h _ (List.getElem_mem _)
  · rw [List.getD_eq_getElem?_getD, List.getElem?_eq_none (by omega)]; simp
theorem name_ok {r : GL4rd} (h : RI r) : ∃ nm r', spec_l4name.f r = some (nm, r') ∧ nm.length ≤ 100 ∧ RI r' := by
  obtain ⟨v, r', e, v0, v1, hr⟩ := next_ok h
  unfold spec_l4name.f
  rw [e, Option.bind_some]
  have e6 : Int.tmod v 6 = v % 6 := Int.tmod_eq_emod_of_nonneg v0
  have e28 : Int.tmod v 28 = v % 28 := Int.tmod_eq_emod_of_nonneg v0
  dsimp only
  generalize hN : [([97] : List UInt8), ([102, 111, 111] : List UInt8), ([98, 49] : List UInt8), ([91, 93] : List UInt8), ([45] : List UInt8), ([43] : List UInt8), ([61] : List UInt8), ([58, 45] : List UInt8), ([44] : List UInt8), ([105, 115] : List UInt8), ([] : List UInt8), ([88, 32, 121] : List UInt8), ([92, 43] : List UInt8), ([123, 125] : List UInt8), ([33] : List UInt8), ([59] : List UInt8), ([46] : List UInt8), ([47, 42] : List UInt8), ([105, 116, 39, 115] : List UInt8), ([10, 128] : List UInt8), ([120, 111, 114] : List UInt8), ([109, 111, 100] : List UInt8), ([124] : List UInt8), ([42] : List UInt8), ([100, 121, 110, 97, 109, 105, 99] : List UInt8), ([64] : List UInt8), ([64, 64] : List UInt8), ([104, 101, 108, 108, 111, 95, 87, 111, 114, 108, 100] : List UInt8)] = N
  have hL : ∀ x, x ∈ N → x.length ≤ 100 := by rw [← hN]; decide
  by_cases hv : v < 180
  · have := getD_len hL (Int.tmod v 6).toNat
    rw [if_pos hv, if_pos (by omega), if_pos (by omega), if_pos (by omega)]
    exact ⟨_, _, rfl, this, hr⟩
  · have := getD_len hL (Int.tmod v 28).toNat
    rw [if_neg hv, if_pos (by omega), if_pos (by omega), if_pos (by omega)]
    exact ⟨_, _, rfl, this, hr⟩
theorem addR_ok {n : Sy.Op} {ops : List Sy.Op} (h : (addR n ops).2 = 0) : ops.any (badO n) = false ∧ (pgo n ops (decide (n.pri = 0))).length ≤ 200 ∧ addR n ops = (pgo n ops (decide (n.pri = 0)), 0) := by
  unfold addR at h ⊢
  cases hb : ops.any (badO n)
  · rw [hb, if_neg (by simp)] at h
    rw [if_neg (by simp)]
    by_cases hl : (pgo n ops (decide (n.pri = 0))).length > 200
    · rw [if_pos hl] at h; cases h
    · rw [if_neg hl]; exact ⟨rfl, by omega, rfl⟩
  · rw [hb, if_pos rfl] at h; cases h
theorem addR_no {n : Sy.Op} {ops : List Sy.Op} (h : (addR n ops).2 ≠ 0) : (addR n ops).1 = [] := by
  unfold addR at h ⊢
  split
  · rfl
  · split
    · rfl
    · rename_i h1 h2; rw [if_neg h1, if_neg h2] at h; exact absurd rfl h
/-- what the reference's AddOp answers for a table of the draws -/
theorem spec_any {ops : List Sy.Op} (hv : VOK ops) (pri typ : Int) (name : List UInt8) (hn : name.length ≤ 1000) : ∃ r : List Sy.Op × Int, Ev (fun k => spec_AddOp.f k ops pri typ name) r ∧ (r.2 = 0 → VOK r.1) := by
  have hl := hv.1.1
  rcases bothAdd (ops := ops) (by omega) pri typ name (by omega) with ⟨_, hf⟩ | ⟨c, h0, _, h2⟩
  · refine ⟨_, specAdd hf hv, fun h => ?_⟩
    obtain ⟨_, h2, h3⟩ := addR_ok h
    rw [h3]
    exact pgo_vok hv hf.nc (fun h => hf.good h) h2
  · exact ⟨_, h2, fun h => absurd h h0⟩
theorem ops_loop4 : ∀ (m : Nat) (i x : Int) (ops : List Sy.Op) (b : List UInt8) (j : Int), (x - i).toNat = m → 0 ≤ i → x ≤ 100 → VOK ops → RI ⟨b, j⟩ → ∃ ops' r', Ev (fun k => spec_l4ops.l1 k x ops i b j) (ops', r') ∧ VOK ops' ∧ RI r' := by
  intro m
  induction m with
  | zero =>
    intro i x ops b j h1 h2 h3 hv hr
    exact ⟨ops, ⟨b, j⟩, Ev.succ (fun k => by rw [spec_l4ops.l1, if_neg (by omega)]) (Ev.ret _), hv, hr⟩
  | succ m ih =>
    intro i x ops b j h1 h2 h3 hv hr
    obtain ⟨v, r1, e1, v0, v1, hr1⟩ := next_ok hr
    obtain ⟨u, r2, e2, u0, u1, hr2⟩ := next_ok hr1
    have e14 : Int.tmod v 14 = v % 14 := Int.tmod_eq_emod_of_nonneg v0
    have e10 : Int.tmod u 10 = u % 10 := Int.tmod_eq_emod_of_nonneg u0
    have hL : ∀ q, (([([64, 64] : List UInt8), ([114] : List UInt8), ([113] : List UInt8), ([45] : List UInt8), ([112] : List UInt8), ([61] : List UInt8), ([97] : List UInt8), ([88, 32, 121] : List UInt8), ([43] : List UInt8), ([33] : List UInt8), ([59] : List UInt8), ([92, 43] : List UInt8), ([102, 111, 111] : List UInt8), ([46] : List UInt8)] : List (List UInt8)).getD q []).length ≤ 100 := fun q => getD_len (by decide) q
    have hq := hL (Int.tmod v 14).toNat
    obtain ⟨r, er, hr3⟩ := spec_any hv ([700, 200, 900, 500, 1200, 1, 999, 1000, 0, 700].getD (((Int.tmod u 10)).toNat) (0 : Int)) (Int.tmod (IntKind.i64.wrap (Int.tdiv u 10)) 7) _ (Nat.le_trans hq (by omega))
    have nx : ∀ ops', VOK ops' → ∃ ops2 r', Ev (fun k => spec_l4ops.l1 k x ops' (IntKind.i64.wrap (i + 1)) r2.b_ r2.i_) (ops2, r') ∧ VOK ops2 ∧ RI r' := fun ops' h => by
      rw [wrap_id (n := i + 1) (by omega) (by omega)]
      exact ih (i + 1) x ops' r2.b_ r2.i_ (by omega) (by omega) h3 h hr2
    have step : ∀ k, spec_l4ops.l1 (k + 1) x ops i b j = (spec_AddOp.f k ops ([700, 200, 900, 500, 1200, 1, 999, 1000, 0, 700].getD (((Int.tmod u 10)).toNat) (0 : Int)) (Int.tmod (IntKind.i64.wrap (Int.tdiv u 10)) 7) ([([64, 64] : List UInt8), ([114] : List UInt8), ([113] : List UInt8), ([45] : List UInt8), ([112] : List UInt8), ([61] : List UInt8), ([97] : List UInt8), ([88, 32, 121] : List UInt8), ([43] : List UInt8), ([33] : List UInt8), ([59] : List UInt8), ([92, 43] : List UInt8), ([102, 111, 111] : List UInt8), ([46] : List UInt8)].getD (((Int.tmod v 14)).toNat) ([] : List UInt8))).bind fun t211 => (if t211.2 = 0 then (spec_l4ops.l1 k x t211.1 (IntKind.i64.wrap (i + 1)) r2.b_ r2.i_) else (spec_l4ops.l1 k x ops (IntKind.i64.wrap (i + 1)) r2.b_ r2.i_)) := fun k => by
      rw [spec_l4ops.l1, if_pos (by omega), e1, Option.bind_some]
      dsimp only
      rw [if_pos (by omega), if_pos (by omega), if_pos (by omega), e2, Option.bind_some]
      dsimp only
      rw [if_pos (by omega), if_pos (by omega)]
    by_cases hc : r.2 = 0
    · obtain ⟨o2, r', g1, g2, g3⟩ := nx r.1 (hr3 hc)
      exact ⟨o2, r', Ev.succ step (Ev.bind er (Ev.of (fun k => if_pos hc) g1)), g2, g3⟩
    · obtain ⟨o2, r', g1, g2, g3⟩ := nx ops hv
      exact ⟨o2, r', Ev.succ step (Ev.bind er (Ev.of (fun k => if_neg hc) g1)), g2, g3⟩
theorem l4ops_ok {r : GL4rd} (h : RI r) : ∃ ops r', Ev (fun k => spec_l4ops.f k r) (ops, r') ∧ VOK ops ∧ RI r' := by
  obtain ⟨d, hd, hv⟩ := default_val
  obtain ⟨v, r1, e1, v0, v1, hr1⟩ := next_ok h
  have e6 : Int.tmod v 6 = v % 6 := Int.tmod_eq_emod_of_nonneg v0
  by_cases hc : Int.tmod v 6 = 0
  · obtain ⟨u, r2, e2, u0, u1, hr2⟩ := next_ok hr1
    have e4 : Int.tmod u 4 = u % 4 := Int.tmod_eq_emod_of_nonneg u0
    obtain ⟨o2, r', g1, g2, g3⟩ := ops_loop4 _ 0 (Int.tmod u 4) (pgo ⟨[44], 1000, 1⟩ [] (decide ((1000 : Int) = 0))) r2.b_ r2.i_ rfl (by omega) (by omega) (by decide) hr2
    refine ⟨o2, r', Ev.bind hd ?_, g2, g3⟩
    refine Ev.of (h := fun k => (spec_l3put.f k [] (⟨[(44 : UInt8)], 1000, 1⟩ : Sy.Op)).bind fun t70 => ((spec_l4rd_next_2.f r1).bind fun t83 => (spec_l4ops.l0 k t70 (Int.tmod t83.1 4) t83.2.b_ t83.2.i_))) (fun k => ?_) (Ev.bind ⟨3000, fun k hk => if_pos ⟨by simp, hk⟩⟩ (Ev.of (fun k => ?_) g1))
    · rw [e1, Option.bind_some, if_pos hc]
    · rw [e2, Option.bind_some]; rfl
  · obtain ⟨o2, r', g1, g2, g3⟩ := ops_loop4 _ 0 (Int.tmod v 6) d r1.b_ r1.i_ rfl (by omega) (by omega) hv hr1
    refine ⟨o2, r', Ev.bind hd (Ev.of (fun k => ?_) g1), g2, g3⟩
    rw [e1, Option.bind_some, if_neg hc]; rfl
theorem fill_ok : ∀ (m : Nat) (ops : List Sy.Op) (b : List UInt8) (j : Int), 300 - ops.length = m → ops.length ≤ 300 → RI ⟨b, j⟩ → ∃ ops' r', Ev (fun k => spec_l4spoilOps.l0 k ops b j) (ops', r') ∧ ops'.length ≤ 300 ∧ RI r' := by
  intro m
  induction m with
  | zero =>
    intro ops b j h1 h2 hr
    obtain ⟨v, r1, e1, v0, v1, hr1⟩ := next_ok hr
    have e2 : Int.tmod v 2 = v % 2 := Int.tmod_eq_emod_of_nonneg v0
    refine ⟨ops, r1, Ev.succ (fun k => ?_) (Ev.ret _), h2, hr1⟩
    rw [spec_l4spoilOps.l0, e1, Option.bind_some, wrap_id (n := 200 + Int.tmod v 2) (by omega) (by omega), if_neg (by omega)]
  | succ m ih =>
    intro ops b j h1 h2 hr
    obtain ⟨v, r1, e1, v0, v1, hr1⟩ := next_ok hr
    have e2 : Int.tmod v 2 = v % 2 := Int.tmod_eq_emod_of_nonneg v0
    by_cases hc : (ops.length : Int) < IntKind.i64.wrap (200 + Int.tmod v 2)
    · obtain ⟨o2, r', g1, g2, g3⟩ := ih (ops ++ [(⟨[(122 : UInt8), (122 : UInt8), (b8 ((IntKind.i64.wrap (65 + (IntKind.i64.wrap (Int.tdiv (ops.length : Int) 26)))))), (b8 ((IntKind.i64.wrap (65 + (Int.tmod (ops.length : Int) 26)))))], 700, 0⟩ : Sy.Op)]) r1.b_ r1.i_ (by rw [List.length_append]; simp; omega) (by rw [List.length_append]; simp; omega) hr1
      refine ⟨o2, r', Ev.succ (fun k => ?_) g1, g2, g3⟩
      rw [spec_l4spoilOps.l0, e1, Option.bind_some, if_pos hc, if_pos (by omega)]
    · refine ⟨ops, r1, Ev.succ (fun k => ?_) (Ev.ret _), h2, hr1⟩
      rw [spec_l4spoilOps.l0, e1, Option.bind_some, if_neg hc]
theorem spoil_ok {ops : List Sy.Op} {r : GL4rd} (hv : VOK ops) (hr : RI r) : ∃ ops' r', Ev (fun k => spec_l4spoilOps.f k ops r) (ops', r') ∧ ops'.length ≤ 300 ∧ RI r' := by
  obtain ⟨v, r1, e1, v0, v1, hr1⟩ := next_ok hr
  obtain ⟨u, r2, e2, u0, u1, hr2⟩ := next_ok hr1
  obtain ⟨x, r3, e3, x0, x1, hr3⟩ := next_ok hr2
  have hl := hv.1.1
  have hn : 0 < ops.length := by
    cases ops with
    | nil => have := hv.2; simp [cc] at this
    | cons a b => simp
  obtain ⟨i, hi, ei⟩ : ∃ i : Nat, i < ops.length ∧ Int.tmod u (ops.length : Int) = (i : Int) := by
    have h1 := Int.tmod_nonneg (ops.length : Int) u0
    have h2 := Int.tmod_lt_of_pos u (show (0 : Int) < (ops.length : Int) by omega)
    exact ⟨(Int.tmod u (ops.length : Int)).toNat, by omega, by omega⟩
  have hnm : (ops.getD i z45).name.length ≤ 100 := by
    rw [getD_at hi]
    have := hv.1.2.1 ops[i] (List.getElem_mem _)
    unfold goodOp at this
    have := of_decide_eq_true this
    omega
  have hw : IntKind.i64.wrap ((i : Int) + 1) = ((i + 1 : Nat) : Int) := wrap_nat (by omega)
  have st : ∀ y : Sy.Op, (ops.set i y).length ≤ 300 := fun y => by rw [List.length_set]; omega
  unfold spec_l4spoilOps.f
  simp only [e1, e2, e3, Option.bind_some, ei, hw, Int.toNat_natCast]
  have cond : ∀ {β : Type} (A B : Option β), (if (ops.length : Int) ≠ 0 then A else B) = A := fun A B => if_pos (by omega)
  simp only [cond, if_pos (show (0 : Int) ≤ (i : Int) by omega), if_pos (show (i : Int) < (ops.length : Int) by omega), if_pos (show ops.length + 1 ≤ 3518437208883 by omega), if_pos (show (i : Int) ≤ (ops.length : Int) by omega), if_pos (show (0 : Int) ≤ ((i + 1 : Nat) : Int) by omega), if_pos (show ((i + 1 : Nat) : Int) ≤ (ops.length : Int) by omega), if_pos (show i ≤ i + 1 by omega), if_pos (show (ops.getD i z45).name.length + 1 ≤ 140737488355328 by omega)]
  by_cases c0 : Int.tmod v 8 = 0
  · exact ⟨_, _, Ev.of (fun k => if_pos c0) (Ev.ret _), st _, hr3⟩
  simp only [if_neg c0]
  by_cases c1 : Int.tmod v 8 = 1
  · exact ⟨_, _, Ev.of (fun k => if_pos c1) (Ev.ret _), st _, hr3⟩
  simp only [if_neg c1]
  by_cases c2 : Int.tmod v 8 = 2
  · exact ⟨_, _, Ev.of (fun k => if_pos c2) (Ev.ret _), st _, hr2⟩
  simp only [if_neg c2]
  by_cases c3 : Int.tmod v 8 = 3
  · exact ⟨_, _, Ev.of (fun k => if_pos c3) (Ev.ret _), st _, hr2⟩
  simp only [if_neg c3]
  by_cases c4 : Int.tmod v 8 = 4
  · exact ⟨_, _, Ev.of (fun k => if_pos c4) (Ev.ret _), by rw [List.length_append]; simp; omega, hr2⟩
  simp only [if_neg c4]
  by_cases c5 : Int.tmod v 8 = 5
  · exact ⟨_, _, Ev.of (fun k => if_pos c5) (Ev.ret _), by rw [List.length_append, List.length_take, List.length_drop]; omega, hr2⟩
  simp only [if_neg c5]
  by_cases c6 : Int.tmod v 8 = 6
  · exact ⟨_, _, Ev.of (fun k => if_pos c6) (Ev.ret _), st _, hr2⟩
  simp only [if_neg c6]
  exact fill_ok _ ops r2.b_ r2.i_ rfl (by omega) hr2
theorem drawl0_ok (t : Int × GL4rd) (ops : List Sy.Op) (b : List UInt8) (j : Int) (h : RI ⟨b, j⟩) : ∃ pri typ name, (∀ k, spec_DrawAddOp.l0 k t ops b j = some (ops, pri, typ, name)) ∧ name.length ≤ 100 := by
  obtain ⟨v, r1, e1, v0, v1, hr1⟩ := next_ok h
  obtain ⟨u, r2, e2, u0, u1, hr2⟩ := next_ok hr1
  obtain ⟨nm, r3, e3, hn, _⟩ := name_ok hr2
  unfold spec_DrawAddOp.l0
  simp only [e1, e2, e3, Option.bind_some]
  by_cases h1 : t.1 = 1
  · simp only [if_pos h1]
    by_cases h2 : t.1 = 2
    · simp only [if_pos h2]; exact ⟨_, _, _, fun _ => rfl, hn⟩
    · simp only [if_neg h2]; exact ⟨_, _, _, fun _ => rfl, hn⟩
  · simp only [if_neg h1]
    by_cases h2 : t.1 = 2
    · simp only [if_pos h2]; exact ⟨_, _, _, fun _ => rfl, hn⟩
    · simp only [if_neg h2]; exact ⟨_, _, _, fun _ => rfl, hn⟩
theorem draw_ok (x : List UInt8) : ∃ ops pri typ name, Ev (fun k => spec_DrawAddOp.f k x) (ops, pri, typ, name) ∧ ops.length ≤ 300 ∧ name.length ≤ 100 := by
  obtain ⟨r0, e0, h0⟩ := open_ok x
  obtain ⟨v, r1, e1, v0, v1, hr1⟩ := next_ok h0
  obtain ⟨ops, r2, e2, hv, hr2⟩ := l4ops_ok hr1
  have top : ∀ k, spec_DrawAddOp.f k x = (spec_l4ops.f k r1).bind fun t33 => (if (Int.tmod v 16) = 0 then ((spec_l4spoilOps.f k t33.1 t33.2).bind fun t74 => (spec_DrawAddOp.l0 0 (v, r1) t74.1 t74.2.b_ t74.2.i_)) else (spec_DrawAddOp.l0 0 (v, r1) t33.1 t33.2.b_ t33.2.i_)) := fun k => by
    rw [spec_DrawAddOp.f, e0, Option.bind_some, e1, Option.bind_some]
  by_cases hc : Int.tmod v 16 = 0
  · obtain ⟨ops', r3, e3, hl, hr3⟩ := spoil_ok hv hr2
    obtain ⟨pri, typ, name, e4, hn⟩ := drawl0_ok (v, r1) ops' r3.b_ r3.i_ hr3
    have q : Ev (fun k => (spec_l4spoilOps.f k ops r2).bind fun t74 => (spec_DrawAddOp.l0 0 (v, r1) t74.1 t74.2.b_ t74.2.i_)) (ops', pri, typ, name) := Ev.bind (h := fun _ t74 => spec_DrawAddOp.l0 0 (v, r1) t74.1 t74.2.b_ t74.2.i_) e3 ⟨0, fun _ _ => e4 0⟩
    exact ⟨ops', pri, typ, name, Ev.of top (Ev.bind e2 (Ev.of (fun k => if_pos hc) q)), hl, hn⟩
  · obtain ⟨pri, typ, name, e4, hn⟩ := drawl0_ok (v, r1) ops r2.b_ r2.i_ hr2
    have q : Ev (fun _ => spec_DrawAddOp.l0 0 (v, r1) ops r2.b_ r2.i_) (ops, pri, typ, name) := ⟨0, fun _ _ => e4 0⟩
    exact ⟨ops, pri, typ, name, Ev.of top (Ev.bind e2 (Ev.of (fun k => if_neg hc) q)), by have := hv.1.1; omega, hn⟩
/-! ### the law -/
theorem names_ok {r : List Sy.Op} (hv : VOK r) : ∀ o, o ∈ r → o.name.length ≤ 1000 := fun o ho => by
  have := hv.1.2.1 o ho
  unfold goodOp at this
  have := of_decide_eq_true this
  omega
theorem Ev.at {β : Type} {g : Nat → Option β} {r : β} (h : Ev g r) : ∃ K, ∀ k, K ≤ k → g k = some r := h
theorem FnOps_bad (x : List UInt8) (hx : ¬ (x.length : Int) > 1048576) (ops : List Sy.Op) (pri typ : Int) (name : List UInt8) (D : List Sy.Op) (ed : Ev (fun k => spec_DrawAddOp.f k x) (ops, pri, typ, name)) (dd : Ev (fun k => impl_DefaultOps.f k) D) (dv : ∀ k, 2097153 < k → impl_ValidOps.f k D = some true)
    (c : Int) (h0 : c ≠ 0) (h1 : Ev (fun k => impl_AddOp.f k ops pri typ name) ([], c)) (h2 : Ev (fun k => spec_AddOp.f k ops pri typ name) ([], c)) : ∃ k, laws_FnOps.f k x = some true := by
  obtain ⟨K1, k1⟩ := ed.at
  obtain ⟨K2, k2⟩ := dd.at
  obtain ⟨K3, k3⟩ := h1.at
  obtain ⟨K4, k4⟩ := h2.at
  obtain ⟨k, hk⟩ : ∃ k, k = K1 + K2 + K3 + K4 + 3000000 := ⟨_, rfl⟩
  refine ⟨k, ?_⟩
  have f1 : spec_DrawAddOp.f k x = some (ops, pri, typ, name) := k1 k (by omega)
  have f2 : impl_DefaultOps.f k = some D := k2 k (by omega)
  have f3 : impl_AddOp.f k ops pri typ name = some ([], c) := k3 k (by omega)
  have f4 : spec_AddOp.f k ops pri typ name = some ([], c) := k4 k (by omega)
  have f5 := dv k (by omega)
  have f6 : laws_sameOps.f k [] [] = some true := sameOps_id [] k (by simp) (by simp) (by simp; omega)
  rw [laws_FnOps.f, if_neg hx, f1, Option.bind_some]
  dsimp only
  rw [f4, Option.bind_some, Option.bind_some]
  dsimp only
  rw [f3, Option.bind_some]
  dsimp only
  rw [if_neg (fun h => h rfl), f6, Option.bind_some, if_neg (fun h => h rfl), f2, Option.bind_some, f5, Option.bind_some, if_neg (fun h => h rfl), if_pos h0]
theorem FnOps_good (x : List UInt8) (hx : ¬ (x.length : Int) > 1048576) (ops : List Sy.Op) (pri typ : Int) (name : List UInt8) (D got out : List Sy.Op) (ed : Ev (fun k => spec_DrawAddOp.f k x) (ops, pri, typ, name)) (dd : Ev (fun k => impl_DefaultOps.f k) D) (dv : ∀ k, 2097153 < k → impl_ValidOps.f k D = some true)
    (e1 : Ev (fun k => impl_AddOp.f k ops pri typ name) (got, 0)) (e2 : Ev (fun k => spec_AddOp.f k ops pri typ name) (got, 0)) (a1 : Ev (fun k => impl_AddOp.f k got pri typ name) (got, 0)) (z1 : Ev (fun k => impl_AddOp.f k got 0 typ name) (out, 0)) (z2 : Ev (fun k => impl_AddOp.f k ops 0 typ name) (out, 0))
    (hgot : VOK got) (hol : out.length ≤ 200) (hon : ∀ o, o ∈ out → o.name.length ≤ 1000) : ∃ k, laws_FnOps.f k x = some true := by
  obtain ⟨K1, k1⟩ := ed.at
  obtain ⟨K2, k2⟩ := dd.at
  obtain ⟨K3, k3⟩ := e1.at
  obtain ⟨K4, k4⟩ := e2.at
  obtain ⟨K5, k5⟩ := a1.at
  obtain ⟨K6, k6⟩ := z1.at
  obtain ⟨K7, k7⟩ := z2.at
  obtain ⟨k, hk⟩ : ∃ k, k = K1 + K2 + K3 + K4 + K5 + K6 + K7 + 3000000 := ⟨_, rfl⟩
  refine ⟨k, ?_⟩
  have f1 : spec_DrawAddOp.f k x = some (ops, pri, typ, name) := k1 k (by omega)
  have f2 : impl_DefaultOps.f k = some D := k2 k (by omega)
  have f3 : impl_AddOp.f k ops pri typ name = some (got, 0) := k3 k (by omega)
  have f4 : spec_AddOp.f k ops pri typ name = some (got, 0) := k4 k (by omega)
  have f5 : impl_AddOp.f k got pri typ name = some (got, 0) := k5 k (by omega)
  have f6 : impl_AddOp.f k got 0 typ name = some (out, 0) := k6 k (by omega)
  have f7 : impl_AddOp.f k ops 0 typ name = some (out, 0) := k7 k (by omega)
  have f8 := dv k (by omega)
  have hgl := hgot.1.1
  have f9 : laws_sameOps.f k got got = some true := sameOps_id got k (by omega) (names_ok hgot) (by omega)
  have f10 : laws_sameOps.f k out out = some true := sameOps_id out k (by omega) hon (by omega)
  have f11 := (vok_val hgot (show 2097153 < k by omega)).2
  rw [laws_FnOps.f, if_neg hx, f1, Option.bind_some]
  dsimp only
  rw [f4, Option.bind_some, Option.bind_some]
  dsimp only
  rw [f3, Option.bind_some]
  dsimp only
  rw [if_neg (fun h => h rfl), f9, Option.bind_some, if_neg (fun h => h rfl), f2, Option.bind_some, f8, Option.bind_some, if_neg (fun h => h rfl), if_neg (fun h => h rfl), f5, Option.bind_some, f6, Option.bind_some, f7, Option.bind_some, f11, Option.bind_some, if_pos rfl, if_pos rfl, if_pos rfl, if_pos rfl]
  dsimp only
  rw [f9, Option.bind_some, if_pos rfl, f10, Option.bind_some]
theorem pg0 (name : List UInt8) (pri typ : Int) (tb : List Sy.Op) : pgo ⟨name, 0, typ⟩ tb (decide ((⟨name, 0, typ⟩ : Sy.Op).pri = 0)) = tb.filter (fun o => !sameO ⟨name, pri, typ⟩ o) := by
  have h : decide ((⟨name, 0, typ⟩ : Sy.Op).pri = 0) = true := decide_eq_true rfl
  have e : ∀ o, sameO ⟨name, 0, typ⟩ o = sameO ⟨name, pri, typ⟩ o := fun o => rfl
  rw [h, pgo_true]
  exact List.filter_congr (fun o _ => by rw [e])
theorem nb0 (name : List UInt8) (pri typ : Int) (tb : List Sy.Op) (h : tb.any (badO ⟨name, pri, typ⟩) = false) : tb.any (badO ⟨name, 0, typ⟩) = false := by
  rw [List.any_eq_false] at h ⊢
  intro o ho
  have e : badO ⟨name, 0, typ⟩ o = badO ⟨name, pri, typ⟩ o := rfl
  rw [e]; exact h o ho
theorem FnOps_plain (x : List UInt8) : ∃ k, laws_FnOps.f k x = some true := by
  by_cases hx : (x.length : Int) > 1048576
  · exact ⟨0, by rw [laws_FnOps.f, if_pos hx]⟩
  obtain ⟨ops, pri, typ, name, ed, hl, hn⟩ := draw_ok x
  have dv := fun k (hk : 2097153 < k) => (vok_val dflt_ok.1 hk).2
  rcases bothAdd (ops := ops) (by omega) pri typ name (by omega) with ⟨hv, hf⟩ | ⟨c, h0, h1, h2⟩
  rotate_left
  · exact FnOps_bad x hx ops pri typ name dflt ed implDefault_val dv c h0 h1 h2
  have e1 := implAdd hf hv
  have e2 := specAdd hf hv
  by_cases hc : (addR ⟨name, pri, typ⟩ ops).2 = 0
  rotate_left
  · have e : addR ⟨name, pri, typ⟩ ops = ([], (addR ⟨name, pri, typ⟩ ops).2) := Prod.ext (addR_no hc) rfl
    rw [e] at e1 e2
    exact FnOps_bad x hx ops pri typ name dflt ed implDefault_val dv _ hc e1 e2
  obtain ⟨b1, b2, b3⟩ := addR_ok hc
  rw [b3] at e1 e2
  have hgot := pgo_vok (n := ⟨name, pri, typ⟩) hv hf.nc (fun h => hf.good h) b2
  have hf0 : Fine 0 typ name := ⟨hf.n1, hf.n2, by decide, by decide, hf.t1, hf.t2, hf.nc, hf.ns⟩
  have nb := nobad_pgo b1 (decide ((⟨name, pri, typ⟩ : Sy.Op).pri = 0))
  have pp := pgo_pgo (n := ⟨name, pri, typ⟩) hv.1.2.2 (decide ((⟨name, pri, typ⟩ : Sy.Op).pri = 0))
  have fe := filter_pgo ⟨name, pri, typ⟩ ops (decide ((⟨name, pri, typ⟩ : Sy.Op).pri = 0))
  -- again
  have a1 := implAdd hf hgot
  have ea : addR ⟨name, pri, typ⟩ (pgo ⟨name, pri, typ⟩ ops (decide ((⟨name, pri, typ⟩ : Sy.Op).pri = 0))) = (pgo ⟨name, pri, typ⟩ ops (decide ((⟨name, pri, typ⟩ : Sy.Op).pri = 0)), 0) := by
    unfold addR
    rw [nb, if_neg (by simp), pp, if_neg (by have := hgot.1.1; omega)]
  rw [ea] at a1
  -- with priority 0
  have zero : ∀ tb : List Sy.Op, VOK tb → tb.any (badO ⟨name, pri, typ⟩) = false → Ev (fun k => impl_AddOp.f k tb 0 typ name) (tb.filter (fun o => !sameO ⟨name, pri, typ⟩ o), 0) := fun tb hb hnb => by
    have := implAdd hf0 hb
    have e : addR ⟨name, 0, typ⟩ tb = (tb.filter (fun o => !sameO ⟨name, pri, typ⟩ o), 0) := by
      unfold addR
      have hle := List.length_filter_le (fun o => !sameO ⟨name, pri, typ⟩ o) tb
      rw [nb0 name pri typ tb hnb, if_neg (by simp), pg0 name pri typ tb, if_neg (by have := hb.1.1; omega)]
    rw [e] at this; exact this
  have z1 := zero _ hgot nb
  have z2 := zero ops hv b1
  rw [fe] at z1
  refine FnOps_good x hx ops pri typ name dflt _ _ ed implDefault_val dv e1 e2 a1 z1 z2 hgot ?_ (fun o ho => names_ok hv o (List.mem_filter.1 ho).1)
  have := List.length_filter_le (fun o => !sameO ⟨name, pri, typ⟩ o) ops
  have := hv.1.1
  omega
end Go.Proofs.Ytminnekeekhjcaa
