import Derived.Test.YtnigifmkjmbfiaaWkUs2
namespace Go.Proofs.Ytnigifmkjmbfiaa
open Go.Sx Go.Sy
attribute [local irreducible] Go.wpList Go.wpStill Go.wpQuiet Go.Code.wp
set_option maxRecDepth 100000
set_option maxHeartbeats 1000000
set_option linter.unusedVariables false
set_option linter.unusedSimpArgs false

/-! impl_Store_points -/
def impl_Store_points.f (x1 : Store) (x10 : Cell) : Option Bool := ((impl_wordOk.f x10).bind fun t25 => (if ¬ (t25 = true) then some false else (if x10.kind = 0 then (if x10.n ≥ 0 then (if x10.n < (x1.cells.length : Int) then (if 0 ≤ x10.n then some (decide (((x1.cells.getD ((x10.n).toNat) z36).kind) ≠ 3)) else none) else some false) else some false) else (if x10.kind = 4 then (if x10.n ≥ 0 then (if x10.n < (x1.cells.length : Int) then (if 0 ≤ x10.n then some (decide (((x1.cells.getD ((x10.n).toNat) z36).kind) = 3)) else none) else some false) else some false) else some true))))
theorem impl_Store_points.calls (w : World) (H : Hp) (x1 : Store) (A2 : Option Addr) (c3 : Nat) (A6 : Option Addr) (c7 : Nat) (x10 : Cell) (A11 : Option Addr) (c12 : Nat) (h4 : Rd st36 H A2 x1.cells) (l5 : x1.cells.length ≤ c3) (h8 : Rd tInt H A6 x1.trail) (l9 : x1.trail.length ≤ c7) (h13 : Rd tByte H A11 x10.text) (l14 : x10.text.length ≤ c12) (S : Own [] H w) (r : Bool) (M : impl_Store_points.f x1 x10 = some r) :
    Calls Try.prog 43 #[.agg #[.slice A2 x1.cells.length c3, .slice A6 x1.trail.length c7], .agg #[.int .i64 x10.kind, .int .i64 x10.n, .slice A11 x10.text.length c12]] w (fun e e_w => e = .returned (.bool r) ∧ Chg no w e_w) := by
  rw [impl_Store_points.f] at M
  refine enter (l := [.agg #[.slice A2 x1.cells.length c3, .slice A6 x1.trail.length c7], .agg #[.int .i64 x10.kind, .int .i64 x10.n, .slice A11 x10.text.length c12]]) 56 Try.func43 rfl rfl rfl ?_
  have S0_ := S.st
  refine wp_seq (wR ?_)
  refine lW 2 (nB #[.slice A2 x1.cells.length c3, .slice A6 x1.trail.length c7] 34 S0_) ?_
  rintro _ w15 ⟨g16, rfl, b17, S18, K19⟩
  refine lW 3 (nB #[.int .i64 x10.kind, .int .i64 x10.n, .slice A11 x10.text.length c12] 36 S18) ?_
  rintro _ w20 ⟨g21, rfl, b22, S23, K24⟩
  replace b17 := K24.blk 0 rfl b17
  refine lV 4 (eA (.bool false)) (wN (then_n (wp_seq (wp_seq (wR (lV 5 (e_loadS (b := g21) (off := 0) (cs := [.int .i64 x10.kind, .int .i64 x10.n, .slice A11 x10.text.length c12]) Try.underlying36 rfl (by kernel_rfl) (by kernel_rfl) (blk_cells b22 rfl)) ?_))))))
  obtain ⟨t25, u26, M⟩ := bnd M
  refine lC 6 (eC [.tmp 5] [.agg #[.int .i64 x10.kind, .int .i64 x10.n, .slice A11 x10.text.length c12]] Try.func67) (impl_wordOk.calls w20 H x10 A11 c12 h13 l14 S23.own0 t25 u26) ?_
  rintro _ w27 ⟨rfl, C28⟩
  refine ⟨_, rfl, ?_⟩
  obtain ⟨S29, K30⟩ := S23.still C28
  replace b22 := K30.blk 0 rfl b22
  replace b17 := K30.blk 1 rfl b17
  refine lV 7 (e_notv (c := t25) (by kernel_rfl)) (wN (then_n ?_))
  by_cases q31 : ¬ (t25 = true)
  · replace M := ifp q31 M
    refine cT (bT q31) (wp_seq (wR (lV 4 (eA (.bool false)) (wN (then_n (wp_ret (then_r ?_)))))))
    obtain rfl := Option.some.inj M
    exact ret1 rfl rfl  (show _ = .bool false from (by kernel_rfl)) ⟨rfl, S29.chg⟩
  replace M := ifn q31 M
  refine cF (bF q31) (wp_skip (then_n (wp_seq (wp_seq (wR (lV 8 (eD g21 0 0 1 Try.underlying36) (lV 9 (eL ⟨g21, 0 + 0, none⟩ (.int .i64 x10.kind) Try.underlying3 (blk_cell b22 rfl)) ?_)))))))
  refine wN (then_n (wp_block (wp_seq (wR (lV 11 (eEq .i64 x10.kind 0) (lV 10 (eA (.bool (decide (x10.kind = 0)))) (wN ?_)))))))
  refine then_n ?_
  by_cases q32 : x10.kind = 0
  · replace M := ifp q32 M
    refine cT (bT q32) (wp_seq (wR (lV 12 (eD g21 0 1 1 Try.underlying36) (lV 13 (eL ⟨g21, 0 + 1, none⟩ (.int .i64 x10.n) Try.underlying3 (blk_cell b22 rfl)) (lV 14 (e_geq (k := .i64) (a := x10.n) (b := 0) (by kernel_rfl) rfl) (lV 15 (eM (.bool (decide (x10.n ≥ 0)))) ?_))))))
    by_cases q33 : x10.n ≥ 0
    · replace M := ifp q33 M
      refine lG 16 15 (bT q33) (eD g21 0 1 1 Try.underlying36) (lG 17 15 (bT q33) (eL ⟨g21, 0 + 1, none⟩ (.int .i64 x10.n) Try.underlying3 (blk_cell b22 rfl)) (lG 18 15 (bT q33) (eD g16 0 0 1 Try.underlying34) (lG 19 15 (bT q33) (eL ⟨g16, 0 + 0, none⟩ (.slice A2 x1.cells.length c3) Try.underlying32 (blk_cell b17 rfl)) (lG 20 15 (bT q33) (e_len (A := A2) (n := x1.cells.length) (c := c3) Try.underlying32 (by kernel_rfl)) (lG 21 15 (bT q33) (eLt .i64 x10.n (x1.cells.length : Int)) (lV 22 (eT (.bool (decide (x10.n < (x1.cells.length : Int)))) (bT q33)) (lV 23 (eM (.bool (decide (x10.n < (x1.cells.length : Int))))) ?_)))))))
      by_cases q34 : x10.n < (x1.cells.length : Int)
      · replace M := ifp q34 M
        refine lG 24 23 (bT q34) (eD g16 0 0 1 Try.underlying34) (lG 25 23 (bT q34) (eL ⟨g16, 0 + 0, none⟩ (.slice A2 x1.cells.length c3) Try.underlying32 (blk_cell b17 rfl)) (lG 26 23 (bT q34) (eD g21 0 1 1 Try.underlying36) (lG 27 23 (bT q34) (eL ⟨g21, 0 + 1, none⟩ (.int .i64 x10.n) Try.underlying3 (blk_cell b22 rfl)) ?_)))
        obtain ⟨q35, M⟩ := chk M
        obtain ⟨b36, o37, e38⟩ := Rd.addr h4 (show (x10.n).toNat < x1.cells.length by omega)
        obtain ⟨y39, r40, k41⟩ := Rd.at h4 e38 (getD_some z36 (show (x10.n).toNat < x1.cells.length by omega))
        obtain ⟨A42, c43, rfl, l44, h45⟩ := st36_open r40
        refine lG 28 23 (bT q34) (eI b36 o37 x1.cells.length c3 3 x10.n .i64 Try.underlying32 e38 q35 q34) (lG 29 23 (bT q34) (eD b36 (o37 + (x10.n : Int).toNat * 3) 0 1 Try.underlying36) (lG 30 23 (bT q34) (eL ⟨b36, o37 + (x10.n : Int).toNat * 3 + 0, none⟩ (.int .i64 ((x1.cells.getD ((x10.n).toNat) z36).kind)) Try.underlying3 (hpx (S29.inv.cell (k41 0 _ rfl)))) (lG 31 23 (bT q34) (eNe .i64 (x1.cells.getD ((x10.n).toNat) z36).kind 3) (lV 32 (eT (.bool (decide (((x1.cells.getD ((x10.n).toNat) z36).kind) ≠ 3))) (bT q34)) (lV 4 (eA (.bool (decide (((x1.cells.getD ((x10.n).toNat) z36).kind) ≠ 3)))) (wN (then_n ?_)))))))
        refine wp_ret (inb_r (then_r ?_))
        obtain rfl := Option.some.inj M
        exact ret1 rfl rfl  (show _ = .bool (decide (((x1.cells.getD ((x10.n).toNat) z36).kind) ≠ 3)) from (by kernel_rfl)) ⟨rfl, S29.chg⟩
      replace M := ifn q34 M
      refine lK 23 false (bF q34) ?_
      refine lK 23 false (bF q34) ?_
      refine lK 23 false (bF q34) ?_
      refine lK 23 false (bF q34) ?_
      refine lK 23 false (bF q34) ?_
      refine lK 23 false (bF q34) ?_
      refine lK 23 false (bF q34) ?_
      refine lK 23 false (bF q34) ?_
      refine lV 32 (eF (.bool false) (bF q34)) (lV 4 (eA (.bool false)) (wN (then_n (wp_ret (inb_r (then_r ?_))))))
      obtain rfl := Option.some.inj M
      exact ret1 rfl rfl  (show _ = .bool false from (by kernel_rfl)) ⟨rfl, S29.chg⟩
    replace M := ifn q33 M
    refine lK 15 false (bF q33) ?_
    refine lK 15 false (bF q33) ?_
    refine lK 15 false (bF q33) ?_
    refine lK 15 false (bF q33) ?_
    refine lK 15 false (bF q33) ?_
    refine lK 15 false (bF q33) ?_
    refine lV 22 (eF (.bool false) (bF q33)) (lV 23 (eM (.bool false)) ?_)
    refine lJ 23 false ?_
    refine lJ 23 false ?_
    refine lJ 23 false ?_
    refine lJ 23 false ?_
    refine lJ 23 false ?_
    refine lJ 23 false ?_
    refine lJ 23 false ?_
    refine lJ 23 false ?_
    refine lV 32 (eF (.bool false)) (lV 4 (eA (.bool false)) (wN (then_n (wp_ret (inb_r (then_r ?_))))))
    obtain rfl := Option.some.inj M
    exact ret1 rfl rfl  (show _ = .bool false from (by kernel_rfl)) ⟨rfl, S29.chg⟩
  replace M := ifn q32 M
  refine cF (bF q32) (wp_seq (wR (lV 34 (eEq .i64 x10.kind 4) (lV 33 (eA (.bool (decide (x10.kind = 4)))) (wN (then_n ?_))))))
  by_cases q46 : x10.kind = 4
  · replace M := ifp q46 M
    refine cT (bT q46) (wp_seq (wR (lV 35 (eD g21 0 1 1 Try.underlying36) (lV 36 (eL ⟨g21, 0 + 1, none⟩ (.int .i64 x10.n) Try.underlying3 (blk_cell b22 rfl)) (lV 37 (e_geq (k := .i64) (a := x10.n) (b := 0) (by kernel_rfl) rfl) (lV 38 (eM (.bool (decide (x10.n ≥ 0)))) ?_))))))
    by_cases q47 : x10.n ≥ 0
    · replace M := ifp q47 M
      refine lG 39 38 (bT q47) (eD g21 0 1 1 Try.underlying36) (lG 40 38 (bT q47) (eL ⟨g21, 0 + 1, none⟩ (.int .i64 x10.n) Try.underlying3 (blk_cell b22 rfl)) (lG 41 38 (bT q47) (eD g16 0 0 1 Try.underlying34) (lG 42 38 (bT q47) (eL ⟨g16, 0 + 0, none⟩ (.slice A2 x1.cells.length c3) Try.underlying32 (blk_cell b17 rfl)) (lG 43 38 (bT q47) (e_len (A := A2) (n := x1.cells.length) (c := c3) Try.underlying32 (by kernel_rfl)) (lG 44 38 (bT q47) (eLt .i64 x10.n (x1.cells.length : Int)) (lV 45 (eT (.bool (decide (x10.n < (x1.cells.length : Int)))) (bT q47)) (lV 46 (eM (.bool (decide (x10.n < (x1.cells.length : Int))))) ?_)))))))
      by_cases q48 : x10.n < (x1.cells.length : Int)
      · replace M := ifp q48 M
        refine lG 47 46 (bT q48) (eD g16 0 0 1 Try.underlying34) (lG 48 46 (bT q48) (eL ⟨g16, 0 + 0, none⟩ (.slice A2 x1.cells.length c3) Try.underlying32 (blk_cell b17 rfl)) (lG 49 46 (bT q48) (eD g21 0 1 1 Try.underlying36) (lG 50 46 (bT q48) (eL ⟨g21, 0 + 1, none⟩ (.int .i64 x10.n) Try.underlying3 (blk_cell b22 rfl)) ?_)))
        obtain ⟨q49, M⟩ := chk M
        obtain ⟨b50, o51, e52⟩ := Rd.addr h4 (show (x10.n).toNat < x1.cells.length by omega)
        obtain ⟨y53, r54, k55⟩ := Rd.at h4 e52 (getD_some z36 (show (x10.n).toNat < x1.cells.length by omega))
        obtain ⟨A56, c57, rfl, l58, h59⟩ := st36_open r54
        refine lG 51 46 (bT q48) (eI b50 o51 x1.cells.length c3 3 x10.n .i64 Try.underlying32 e52 q49 q48) (lG 52 46 (bT q48) (eD b50 (o51 + (x10.n : Int).toNat * 3) 0 1 Try.underlying36) (lG 53 46 (bT q48) (eL ⟨b50, o51 + (x10.n : Int).toNat * 3 + 0, none⟩ (.int .i64 ((x1.cells.getD ((x10.n).toNat) z36).kind)) Try.underlying3 (hpx (S29.inv.cell (k55 0 _ rfl)))) (lG 54 46 (bT q48) (eEq .i64 (x1.cells.getD ((x10.n).toNat) z36).kind 3) (lV 55 (eT (.bool (decide (((x1.cells.getD ((x10.n).toNat) z36).kind) = 3))) (bT q48)) (lV 4 (eA (.bool (decide (((x1.cells.getD ((x10.n).toNat) z36).kind) = 3)))) (wN (then_n ?_)))))))
        refine wp_ret (inb_r (then_r ?_))
        obtain rfl := Option.some.inj M
        exact ret1 rfl rfl  (show _ = .bool (decide (((x1.cells.getD ((x10.n).toNat) z36).kind) = 3)) from (by kernel_rfl)) ⟨rfl, S29.chg⟩
      replace M := ifn q48 M
      refine lK 46 false (bF q48) ?_
      refine lK 46 false (bF q48) ?_
      refine lK 46 false (bF q48) ?_
      refine lK 46 false (bF q48) ?_
      refine lK 46 false (bF q48) ?_
      refine lK 46 false (bF q48) ?_
      refine lK 46 false (bF q48) ?_
      refine lK 46 false (bF q48) ?_
      refine lV 55 (eF (.bool false) (bF q48)) (lV 4 (eA (.bool false)) (wN (then_n (wp_ret (inb_r (then_r ?_))))))
      obtain rfl := Option.some.inj M
      exact ret1 rfl rfl  (show _ = .bool false from (by kernel_rfl)) ⟨rfl, S29.chg⟩
    replace M := ifn q47 M
    refine lK 38 false (bF q47) ?_
    refine lK 38 false (bF q47) ?_
    refine lK 38 false (bF q47) ?_
    refine lK 38 false (bF q47) ?_
    refine lK 38 false (bF q47) ?_
    refine lK 38 false (bF q47) ?_
    refine lV 45 (eF (.bool false) (bF q47)) (lV 46 (eM (.bool false)) ?_)
    refine lJ 46 false ?_
    refine lJ 46 false ?_
    refine lJ 46 false ?_
    refine lJ 46 false ?_
    refine lJ 46 false ?_
    refine lJ 46 false ?_
    refine lJ 46 false ?_
    refine lJ 46 false ?_
    refine lV 55 (eF (.bool false)) (lV 4 (eA (.bool false)) (wN (then_n (wp_ret (inb_r (then_r ?_))))))
    obtain rfl := Option.some.inj M
    exact ret1 rfl rfl  (show _ = .bool false from (by kernel_rfl)) ⟨rfl, S29.chg⟩
  replace M := ifn q46 M
  refine cF (bF q46) (wp_skip (inb_n (then_n (wp_seq (wR (lV 4 (eA (.bool true)) (wN ?_)))))))
  refine then_n (wp_ret ?_)
  obtain rfl := Option.some.inj M
  exact ret1 rfl rfl  (show _ = .bool true from (by kernel_rfl)) ⟨rfl, S29.chg⟩

/-! impl_Store_ok_c1 -/
structure GStep where
  at_ : Int
  next_ : Int
  deriving Inhabited
def st86 : Ty GStep := iso (pair tInt tInt) (fun x => (x.at_, x.next_))
theorem st86_open {H : Hp} {x : GStep} {cs : List Value} (h : st86.R H x cs) : cs = [.int .i64 x.at_, .int .i64 x.next_] := by
  obtain ⟨_, _, rfl, rfl, rfl⟩ := h
  exact rfl
theorem st86_mkR {H : Hp} {x : GStep} : st86.R H x [.int .i64 x.at_, .int .i64 x.next_] := ⟨[.int .i64 x.at_], [.int .i64 x.next_], rfl, rfl, rfl⟩
theorem st86_mkO {H X : Hp} {x : GStep} : st86.O H X no x [.int .i64 x.at_, .int .i64 x.next_] := (pairO0 (a := tInt) (b := tInt) (x := (x.at_, x.next_)) (c0 := [.int .i64 x.at_]) (c1 := [.int .i64 x.next_]) (F := no) rfl rfl)
theorem st86_openO {H X : Hp} {F : Foot} {x : GStep} {cs : List Value} (h : st86.O H X F x cs) : cs = [.int .i64 x.at_, .int .i64 x.next_] := by
  obtain ⟨_, _, K0, L0, rfl, rfl, rfl, d0, s0⟩ := h
  exact rfl
theorem st86_RO : RO st86 := (ro_iso (ro_pair (ro_scal _ _) (ro_scal _ _)))
theorem st86_c0 {H X : Hp} {F : Foot} {x : GStep} {cs : List Value} (h : st86.O H X F x cs) : cs[0]? = some (.int .i64 x.at_) := by obtain rfl := st86_openO h; rfl
theorem st86_r0 {H : Hp} {x : GStep} {cs : List Value} (h : st86.R H x cs) : cs[0]? = some (.int .i64 x.at_) := by obtain rfl := st86_open h; rfl
theorem st86_c1 {H X : Hp} {F : Foot} {x : GStep} {cs : List Value} (h : st86.O H X F x cs) : cs[1]? = some (.int .i64 x.next_) := by obtain rfl := st86_openO h; rfl
theorem st86_r1 {H : Hp} {x : GStep} {cs : List Value} (h : st86.R H x cs) : cs[1]? = some (.int .i64 x.next_) := by obtain rfl := st86_open h; rfl
theorem st86_u0 {H X : Hp} {F1 F2 : Foot} {x : GStep} (y : Int) {cs : List Value} (h : st86.O H X F1 x cs) : st86.O H X (or2 F1 F2) {x with at_ := y} (cs.take 0 ++ [.int .i64 y] ++ cs.drop 1) := by
  obtain rfl := st86_openO h
  exact st86.O_mono (fun _ h => h.elim) (st86_mkO (x := {x with at_ := y}))
theorem st86_u1 {H X : Hp} {F1 F2 : Foot} {x : GStep} (y : Int) {cs : List Value} (h : st86.O H X F1 x cs) : st86.O H X (or2 F1 F2) {x with next_ := y} (cs.take 1 ++ [.int .i64 y] ++ cs.drop 2) := by
  obtain rfl := st86_openO h
  exact st86.O_mono (fun _ h => h.elim) (st86_mkO (x := {x with next_ := y}))
def z86 : GStep := ⟨(0 : Int), (0 : Int)⟩
theorem z86_O (H X : Hp) : st86.O H X no z86 [.int .i64 (0 : Int), .int .i64 (0 : Int)] := st86_mkO (x := z86)
theorem z86_R (H : Hp) : st86.R H z86 [.int .i64 (0 : Int), .int .i64 (0 : Int)] := st86_mkR (x := z86)
def impl_Store_ok_c1.f (x1 : Int) (x2 : Int) (x3 : Store) : Option (Int × Bool) := (if 0 ≤ x1 then (if x1 < (x3.cells.length : Int) then (if ((x3.cells.getD ((x1).toNat) z36).kind) = 0 then (if ((x3.cells.getD ((x1).toNat) z36).n) ≠ x1 then (if x2 = 0 then some ((x3.cells.getD ((x1).toNat) z36).n, true) else (if ((x3.cells.getD ((x1).toNat) z36).kind) = 4 then (if 0 ≤ ((x3.cells.getD ((x1).toNat) z36).n) then (if ((x3.cells.getD ((x1).toNat) z36).n) < (x3.cells.length : Int) then (if x2 < ((x3.cells.getD (((x3.cells.getD ((x1).toNat) z36).n).toNat) z36).n) then some ((IntKind.i64.wrap ((IntKind.i64.wrap (((x3.cells.getD ((x1).toNat) z36).n) + 1)) + x2)), true) else some (0, false)) else none) else none) else some (0, false))) else (if ((x3.cells.getD ((x1).toNat) z36).kind) = 4 then (if 0 ≤ ((x3.cells.getD ((x1).toNat) z36).n) then (if ((x3.cells.getD ((x1).toNat) z36).n) < (x3.cells.length : Int) then (if x2 < ((x3.cells.getD (((x3.cells.getD ((x1).toNat) z36).n).toNat) z36).n) then some ((IntKind.i64.wrap ((IntKind.i64.wrap (((x3.cells.getD ((x1).toNat) z36).n) + 1)) + x2)), true) else some (0, false)) else none) else none) else some (0, false))) else (if ((x3.cells.getD ((x1).toNat) z36).kind) = 4 then (if 0 ≤ ((x3.cells.getD ((x1).toNat) z36).n) then (if ((x3.cells.getD ((x1).toNat) z36).n) < (x3.cells.length : Int) then (if x2 < ((x3.cells.getD (((x3.cells.getD ((x1).toNat) z36).n).toNat) z36).n) then some ((IntKind.i64.wrap ((IntKind.i64.wrap (((x3.cells.getD ((x1).toNat) z36).n) + 1)) + x2)), true) else some (0, false)) else none) else none) else some (0, false))) else none) else none)
theorem impl_Store_ok_c1.calls (w : World) (H : Hp) (x1 : Int) (x2 : Int) (x3 : Store) (g4 : Nat) (A6 : Option Addr) (c7 : Nat) (A10 : Option Addr) (c11 : Nat) (h8 : Rd st36 H A6 x3.cells) (l9 : x3.cells.length ≤ c7) (h12 : Rd tInt H A10 x3.trail) (l13 : x3.trail.length ≤ c11) (b5 : H g4 = some (.cells #[.slice A6 x3.cells.length c7, .slice A10 x3.trail.length c11] 34 (0, 0))) (S : Own [] H w) (r : Int × Bool) (M : impl_Store_ok_c1.f x1 x2 x3 = some r) :
    Calls Try.prog 66 #[.int .i64 x1, .int .i64 x2, .pointer (some ⟨g4, 0, none⟩)] w (fun e e_w => e = .returned (.tuple #[.int .i64 r.1, .bool r.2]) ∧ Chg no w e_w) := by
  rw [impl_Store_ok_c1.f] at M
  refine enter (l := [.int .i64 x1, .int .i64 x2, .pointer (some ⟨g4, 0, none⟩)]) 49 Try.func66 rfl rfl rfl ?_
  have S0_ := S.st
  refine wp_seq (wR (lV 5 (eA (.int .i64 0)) (lV 6 (eA (.bool false)) (wN (then_n (wp_seq (wR ?_)))))))
  refine lV 8 (eD g4 0 0 1 Try.underlying34) (lV 9 (eL ⟨g4, 0 + 0, none⟩ (.slice A6 x3.cells.length c7) Try.underlying32 (blk_cell (S0_.inv _ _ b5) rfl)) (lV 10 (eM (.int .i64 x1)) ?_))
  obtain ⟨q14, M⟩ := chk M
  obtain ⟨q15, M⟩ := chk M
  obtain ⟨b16, o17, e18⟩ := Rd.addr h8 (show (x1).toNat < x3.cells.length by omega)
  obtain ⟨y19, r20, k21⟩ := Rd.at h8 e18 (getD_some z36 (show (x1).toNat < x3.cells.length by omega))
  obtain ⟨A22, c23, rfl, l24, h25⟩ := st36_open r20
  refine lV 11 (eI b16 o17 x3.cells.length c7 3 x1 .i64 Try.underlying32 e18 q14 q15) (lV 12 (e_loadS (b := b16) (off := o17 + (x1 : Int).toNat * 3) (cs := [.int .i64 ((x3.cells.getD ((x1).toNat) z36).kind), .int .i64 ((x3.cells.getD ((x1).toNat) z36).n), .slice A22 ((x3.cells.getD ((x1).toNat) z36).text).length c23]) Try.underlying36 rfl (by kernel_rfl) (by kernel_rfl) (fun j_ u_ e_ => (hpx (S0_.inv.cell (k21 j_ u_ e_))))) ?_)
  refine lW 7 (nB #[.int .i64 0, .int .i64 0, .slice none 0 0] 36 S0_) ?_
  rintro _ w26 ⟨g27, rfl, b28, S29, K30⟩
  refine lE (eSa g27 0 [.int .i64 ((x3.cells.getD ((x1).toNat) z36).kind), .int .i64 ((x3.cells.getD ((x1).toNat) z36).n), .slice A22 ((x3.cells.getD ((x1).toNat) z36).text).length c23] S29 b28) ?_
  rintro w31 ⟨b32, S33, K34⟩
  clear b28
  refine wN (then_n (wp_seq (wp_block (wp_seq (wR (lV 14 (eD g27 0 0 1 Try.underlying36) (lV 15 (eL ⟨g27, 0 + 0, none⟩ (.int .i64 ((x3.cells.getD ((x1).toNat) z36).kind)) Try.underlying3 (blk_cell b32 rfl)) ?_)))))))
  refine lV 16 (eEq .i64 (x3.cells.getD ((x1).toNat) z36).kind 0) (lV 17 (eM (.bool (decide (((x3.cells.getD ((x1).toNat) z36).kind) = 0)))) ?_)
  by_cases q35 : ((x3.cells.getD ((x1).toNat) z36).kind) = 0
  · replace M := ifp q35 M
    refine lG 18 17 (bT q35) (eD g27 0 1 1 Try.underlying36) (lG 19 17 (bT q35) (eL ⟨g27, 0 + 1, none⟩ (.int .i64 ((x3.cells.getD ((x1).toNat) z36).n)) Try.underlying3 (blk_cell b32 rfl)) (lG 20 17 (bT q35) (eM (.int .i64 x1)) (lG 21 17 (bT q35) (eNe .i64 (x3.cells.getD ((x1).toNat) z36).n x1) (lV 22 (eT (.bool (decide (((x3.cells.getD ((x1).toNat) z36).n) ≠ x1))) (bT q35)) (lV 23 (eM (.bool (decide (((x3.cells.getD ((x1).toNat) z36).n) ≠ x1)))) ?_)))))
    by_cases q36 : ((x3.cells.getD ((x1).toNat) z36).n) ≠ x1
    · replace M := ifp q36 M
      refine lG 24 23 (bT q36) (eM (.int .i64 x2)) (lG 25 23 (bT q36) (eEq .i64 x2 0) (lV 26 (eT (.bool (decide (x2 = 0))) (bT q36)) (lV 13 (eA (.bool (decide (x2 = 0)))) (wN (then_n ?_)))))
      by_cases q37 : x2 = 0
      · replace M := ifp q37 M
        refine cT (bT q37) (wp_seq (wR (lV 27 (eD g27 0 1 1 Try.underlying36) (lV 28 (eL ⟨g27, 0 + 1, none⟩ (.int .i64 ((x3.cells.getD ((x1).toNat) z36).n)) Try.underlying3 (blk_cell b32 rfl)) (lV 5 (eA (.int .i64 ((x3.cells.getD ((x1).toNat) z36).n))) (lV 6 (eA (.bool true)) (wN ?_)))))))
        refine then_n (wp_ret (inb_r (then_r ?_)))
        obtain rfl := Option.some.inj M
        exact ret2 rfl rfl rfl (show _ = .int .i64 ((x3.cells.getD ((x1).toNat) z36).n) from (by kernel_rfl)) (show _ = .bool true from (by kernel_rfl)) ⟨rfl, S33.chg⟩
      replace M := ifn q37 M
      refine cF (bF q37) (wp_seq (wR (lV 30 (eD g27 0 0 1 Try.underlying36) (lV 31 (eL ⟨g27, 0 + 0, none⟩ (.int .i64 ((x3.cells.getD ((x1).toNat) z36).kind)) Try.underlying3 (blk_cell b32 rfl)) (lV 32 (eEq .i64 (x3.cells.getD ((x1).toNat) z36).kind 4) (lV 33 (eM (.bool (decide (((x3.cells.getD ((x1).toNat) z36).kind) = 4)))) ?_))))))
      by_cases q38 : ((x3.cells.getD ((x1).toNat) z36).kind) = 4
      · replace M := ifp q38 M
        refine lG 34 33 (bT q38) (eM (.int .i64 x2)) (lG 35 33 (bT q38) (eD g4 0 0 1 Try.underlying34) (lG 36 33 (bT q38) (eL ⟨g4, 0 + 0, none⟩ (.slice A6 x3.cells.length c7) Try.underlying32 (blk_cell (S33.inv _ _ b5) rfl)) (lG 37 33 (bT q38) (eD g27 0 1 1 Try.underlying36) (lG 38 33 (bT q38) (eL ⟨g27, 0 + 1, none⟩ (.int .i64 ((x3.cells.getD ((x1).toNat) z36).n)) Try.underlying3 (blk_cell b32 rfl)) ?_))))
        obtain ⟨q39, M⟩ := chk M
        obtain ⟨q40, M⟩ := chk M
        obtain ⟨b41, o42, e43⟩ := Rd.addr h8 (show ((x3.cells.getD ((x1).toNat) z36).n).toNat < x3.cells.length by omega)
        obtain ⟨y44, r45, k46⟩ := Rd.at h8 e43 (getD_some z36 (show ((x3.cells.getD ((x1).toNat) z36).n).toNat < x3.cells.length by omega))
        obtain ⟨A47, c48, rfl, l49, h50⟩ := st36_open r45
        refine lG 39 33 (bT q38) (eI b41 o42 x3.cells.length c7 3 (x3.cells.getD ((x1).toNat) z36).n .i64 Try.underlying32 e43 q39 q40) (lG 40 33 (bT q38) (eD b41 (o42 + ((x3.cells.getD ((x1).toNat) z36).n : Int).toNat * 3) 1 1 Try.underlying36) (lG 41 33 (bT q38) (eL ⟨b41, o42 + ((x3.cells.getD ((x1).toNat) z36).n : Int).toNat * 3 + 1, none⟩ (.int .i64 ((x3.cells.getD (((x3.cells.getD ((x1).toNat) z36).n).toNat) z36).n)) Try.underlying3 (hpx (S33.inv.cell (k46 1 _ rfl)))) (lG 42 33 (bT q38) (eLt .i64 x2 (x3.cells.getD (((x3.cells.getD ((x1).toNat) z36).n).toNat) z36).n) (lV 43 (eT (.bool (decide (x2 < ((x3.cells.getD (((x3.cells.getD ((x1).toNat) z36).n).toNat) z36).n)))) (bT q38)) (lV 29 (eA (.bool (decide (x2 < ((x3.cells.getD (((x3.cells.getD ((x1).toNat) z36).n).toNat) z36).n))))) (wN (then_n ?_)))))))
        by_cases q51 : x2 < ((x3.cells.getD (((x3.cells.getD ((x1).toNat) z36).n).toNat) z36).n)
        · replace M := ifp q51 M
          refine cT (bT q51) (wp_seq (wR (lV 44 (eD g27 0 1 1 Try.underlying36) (lV 45 (eL ⟨g27, 0 + 1, none⟩ (.int .i64 ((x3.cells.getD ((x1).toNat) z36).n)) Try.underlying3 (blk_cell b32 rfl)) (lV 46 (eAdd .i64 (x3.cells.getD ((x1).toNat) z36).n 1) (lV 47 (eM (.int .i64 x2)) (lV 48 (eAdd .i64 (IntKind.i64.wrap (((x3.cells.getD ((x1).toNat) z36).n) + 1)) x2) ?_)))))))
          refine lV 5 (eA (.int .i64 (IntKind.i64.wrap ((IntKind.i64.wrap (((x3.cells.getD ((x1).toNat) z36).n) + 1)) + x2)))) (lV 6 (eA (.bool true)) (wN (then_n (wp_ret (inb_r (then_r ?_))))))
          obtain rfl := Option.some.inj M
          exact ret2 rfl rfl rfl (show _ = .int .i64 (IntKind.i64.wrap ((IntKind.i64.wrap (((x3.cells.getD ((x1).toNat) z36).n) + 1)) + x2)) from (by kernel_rfl)) (show _ = .bool true from (by kernel_rfl)) ⟨rfl, S33.chg⟩
        replace M := ifn q51 M
        refine cF (bF q51) (wp_skip (inb_n (then_n (wp_seq (wR (lV 5 (eA (.int .i64 0)) (lV 6 (eA (.bool false)) ?_)))))))
        refine wN (then_n (wp_ret ?_))
        obtain rfl := Option.some.inj M
        exact ret2 rfl rfl rfl (show _ = .int .i64 0 from (by kernel_rfl)) (show _ = .bool false from (by kernel_rfl)) ⟨rfl, S33.chg⟩
      replace M := ifn q38 M
      refine lK 33 false (bF q38) ?_
      refine lK 33 false (bF q38) ?_
      refine lK 33 false (bF q38) ?_
      refine lK 33 false (bF q38) ?_
      refine lK 33 false (bF q38) ?_
      refine lK 33 false (bF q38) ?_
      refine lK 33 false (bF q38) ?_
      refine lK 33 false (bF q38) ?_
      refine lK 33 false (bF q38) ?_
      refine lV 43 (eF (.bool false) (bF q38)) (lV 29 (eA (.bool false)) (wN (then_n (cond_f rfl (by kernel_rfl) (wp_skip (inb_n (then_n ?_)))))))
      refine wp_seq (wR (lV 5 (eA (.int .i64 0)) (lV 6 (eA (.bool false)) (wN (then_n (wp_ret ?_))))))
      obtain rfl := Option.some.inj M
      exact ret2 rfl rfl rfl (show _ = .int .i64 0 from (by kernel_rfl)) (show _ = .bool false from (by kernel_rfl)) ⟨rfl, S33.chg⟩
    replace M := ifn q36 M
    refine lK 23 false (bF q36) ?_
    refine lK 23 false (bF q36) ?_
    refine lV 26 (eF (.bool false) (bF q36)) (lV 13 (eA (.bool false)) (wN (then_n (cond_f rfl (by kernel_rfl) (wp_seq (wR (lV 30 (eD g27 0 0 1 Try.underlying36) ?_)))))))
    refine lV 31 (eL ⟨g27, 0 + 0, none⟩ (.int .i64 ((x3.cells.getD ((x1).toNat) z36).kind)) Try.underlying3 (blk_cell b32 rfl)) (lV 32 (eEq .i64 (x3.cells.getD ((x1).toNat) z36).kind 4) (lV 33 (eM (.bool (decide (((x3.cells.getD ((x1).toNat) z36).kind) = 4)))) ?_))
    by_cases q52 : ((x3.cells.getD ((x1).toNat) z36).kind) = 4
    · replace M := ifp q52 M
      refine lG 34 33 (bT q52) (eM (.int .i64 x2)) (lG 35 33 (bT q52) (eD g4 0 0 1 Try.underlying34) (lG 36 33 (bT q52) (eL ⟨g4, 0 + 0, none⟩ (.slice A6 x3.cells.length c7) Try.underlying32 (blk_cell (S33.inv _ _ b5) rfl)) (lG 37 33 (bT q52) (eD g27 0 1 1 Try.underlying36) (lG 38 33 (bT q52) (eL ⟨g27, 0 + 1, none⟩ (.int .i64 ((x3.cells.getD ((x1).toNat) z36).n)) Try.underlying3 (blk_cell b32 rfl)) ?_))))
      obtain ⟨q53, M⟩ := chk M
      obtain ⟨q54, M⟩ := chk M
      obtain ⟨b55, o56, e57⟩ := Rd.addr h8 (show ((x3.cells.getD ((x1).toNat) z36).n).toNat < x3.cells.length by omega)
      obtain ⟨y58, r59, k60⟩ := Rd.at h8 e57 (getD_some z36 (show ((x3.cells.getD ((x1).toNat) z36).n).toNat < x3.cells.length by omega))
      obtain ⟨A61, c62, rfl, l63, h64⟩ := st36_open r59
      refine lG 39 33 (bT q52) (eI b55 o56 x3.cells.length c7 3 (x3.cells.getD ((x1).toNat) z36).n .i64 Try.underlying32 e57 q53 q54) (lG 40 33 (bT q52) (eD b55 (o56 + ((x3.cells.getD ((x1).toNat) z36).n : Int).toNat * 3) 1 1 Try.underlying36) (lG 41 33 (bT q52) (eL ⟨b55, o56 + ((x3.cells.getD ((x1).toNat) z36).n : Int).toNat * 3 + 1, none⟩ (.int .i64 ((x3.cells.getD (((x3.cells.getD ((x1).toNat) z36).n).toNat) z36).n)) Try.underlying3 (hpx (S33.inv.cell (k60 1 _ rfl)))) (lG 42 33 (bT q52) (eLt .i64 x2 (x3.cells.getD (((x3.cells.getD ((x1).toNat) z36).n).toNat) z36).n) (lV 43 (eT (.bool (decide (x2 < ((x3.cells.getD (((x3.cells.getD ((x1).toNat) z36).n).toNat) z36).n)))) (bT q52)) (lV 29 (eA (.bool (decide (x2 < ((x3.cells.getD (((x3.cells.getD ((x1).toNat) z36).n).toNat) z36).n))))) (wN (then_n ?_)))))))
      by_cases q65 : x2 < ((x3.cells.getD (((x3.cells.getD ((x1).toNat) z36).n).toNat) z36).n)
      · replace M := ifp q65 M
        refine cT (bT q65) (wp_seq (wR (lV 44 (eD g27 0 1 1 Try.underlying36) (lV 45 (eL ⟨g27, 0 + 1, none⟩ (.int .i64 ((x3.cells.getD ((x1).toNat) z36).n)) Try.underlying3 (blk_cell b32 rfl)) (lV 46 (eAdd .i64 (x3.cells.getD ((x1).toNat) z36).n 1) (lV 47 (eM (.int .i64 x2)) (lV 48 (eAdd .i64 (IntKind.i64.wrap (((x3.cells.getD ((x1).toNat) z36).n) + 1)) x2) ?_)))))))
        refine lV 5 (eA (.int .i64 (IntKind.i64.wrap ((IntKind.i64.wrap (((x3.cells.getD ((x1).toNat) z36).n) + 1)) + x2)))) (lV 6 (eA (.bool true)) (wN (then_n (wp_ret (inb_r (then_r ?_))))))
        obtain rfl := Option.some.inj M
        exact ret2 rfl rfl rfl (show _ = .int .i64 (IntKind.i64.wrap ((IntKind.i64.wrap (((x3.cells.getD ((x1).toNat) z36).n) + 1)) + x2)) from (by kernel_rfl)) (show _ = .bool true from (by kernel_rfl)) ⟨rfl, S33.chg⟩
      replace M := ifn q65 M
      refine cF (bF q65) (wp_skip (inb_n (then_n (wp_seq (wR (lV 5 (eA (.int .i64 0)) (lV 6 (eA (.bool false)) ?_)))))))
      refine wN (then_n (wp_ret ?_))
      obtain rfl := Option.some.inj M
      exact ret2 rfl rfl rfl (show _ = .int .i64 0 from (by kernel_rfl)) (show _ = .bool false from (by kernel_rfl)) ⟨rfl, S33.chg⟩
    replace M := ifn q52 M
    refine lK 33 false (bF q52) ?_
    refine lK 33 false (bF q52) ?_
    refine lK 33 false (bF q52) ?_
    refine lK 33 false (bF q52) ?_
    refine lK 33 false (bF q52) ?_
    refine lK 33 false (bF q52) ?_
    refine lK 33 false (bF q52) ?_
    refine lK 33 false (bF q52) ?_
    refine lK 33 false (bF q52) ?_
    refine lV 43 (eF (.bool false) (bF q52)) (lV 29 (eA (.bool false)) (wN (then_n (cond_f rfl (by kernel_rfl) (wp_skip (inb_n (then_n ?_)))))))
    refine wp_seq (wR (lV 5 (eA (.int .i64 0)) (lV 6 (eA (.bool false)) (wN (then_n (wp_ret ?_))))))
    obtain rfl := Option.some.inj M
    exact ret2 rfl rfl rfl (show _ = .int .i64 0 from (by kernel_rfl)) (show _ = .bool false from (by kernel_rfl)) ⟨rfl, S33.chg⟩
  replace M := ifn q35 M
  refine lK 17 false (bF q35) ?_
  refine lK 17 false (bF q35) ?_
  refine lK 17 false (bF q35) ?_
  refine lK 17 false (bF q35) ?_
  refine lV 22 (eF (.bool false) (bF q35)) (lV 23 (eM (.bool false)) ?_)
  refine lJ 23 false ?_
  refine lJ 23 false ?_
  refine lV 26 (eF (.bool false)) (lV 13 (eA (.bool false)) (wN (then_n (cond_f rfl (by kernel_rfl) (wp_seq (wR (lV 30 (eD g27 0 0 1 Try.underlying36) ?_)))))))
  refine lV 31 (eL ⟨g27, 0 + 0, none⟩ (.int .i64 ((x3.cells.getD ((x1).toNat) z36).kind)) Try.underlying3 (blk_cell b32 rfl)) (lV 32 (eEq .i64 (x3.cells.getD ((x1).toNat) z36).kind 4) (lV 33 (eM (.bool (decide (((x3.cells.getD ((x1).toNat) z36).kind) = 4)))) ?_))
  by_cases q66 : ((x3.cells.getD ((x1).toNat) z36).kind) = 4
  · replace M := ifp q66 M
    refine lG 34 33 (bT q66) (eM (.int .i64 x2)) (lG 35 33 (bT q66) (eD g4 0 0 1 Try.underlying34) (lG 36 33 (bT q66) (eL ⟨g4, 0 + 0, none⟩ (.slice A6 x3.cells.length c7) Try.underlying32 (blk_cell (S33.inv _ _ b5) rfl)) (lG 37 33 (bT q66) (eD g27 0 1 1 Try.underlying36) (lG 38 33 (bT q66) (eL ⟨g27, 0 + 1, none⟩ (.int .i64 ((x3.cells.getD ((x1).toNat) z36).n)) Try.underlying3 (blk_cell b32 rfl)) ?_))))
    obtain ⟨q67, M⟩ := chk M
    obtain ⟨q68, M⟩ := chk M
    obtain ⟨b69, o70, e71⟩ := Rd.addr h8 (show ((x3.cells.getD ((x1).toNat) z36).n).toNat < x3.cells.length by omega)
    obtain ⟨y72, r73, k74⟩ := Rd.at h8 e71 (getD_some z36 (show ((x3.cells.getD ((x1).toNat) z36).n).toNat < x3.cells.length by omega))
    obtain ⟨A75, c76, rfl, l77, h78⟩ := st36_open r73
    refine lG 39 33 (bT q66) (eI b69 o70 x3.cells.length c7 3 (x3.cells.getD ((x1).toNat) z36).n .i64 Try.underlying32 e71 q67 q68) (lG 40 33 (bT q66) (eD b69 (o70 + ((x3.cells.getD ((x1).toNat) z36).n : Int).toNat * 3) 1 1 Try.underlying36) (lG 41 33 (bT q66) (eL ⟨b69, o70 + ((x3.cells.getD ((x1).toNat) z36).n : Int).toNat * 3 + 1, none⟩ (.int .i64 ((x3.cells.getD (((x3.cells.getD ((x1).toNat) z36).n).toNat) z36).n)) Try.underlying3 (hpx (S33.inv.cell (k74 1 _ rfl)))) (lG 42 33 (bT q66) (eLt .i64 x2 (x3.cells.getD (((x3.cells.getD ((x1).toNat) z36).n).toNat) z36).n) (lV 43 (eT (.bool (decide (x2 < ((x3.cells.getD (((x3.cells.getD ((x1).toNat) z36).n).toNat) z36).n)))) (bT q66)) (lV 29 (eA (.bool (decide (x2 < ((x3.cells.getD (((x3.cells.getD ((x1).toNat) z36).n).toNat) z36).n))))) (wN (then_n ?_)))))))
    by_cases q79 : x2 < ((x3.cells.getD (((x3.cells.getD ((x1).toNat) z36).n).toNat) z36).n)
    · replace M := ifp q79 M
      refine cT (bT q79) (wp_seq (wR (lV 44 (eD g27 0 1 1 Try.underlying36) (lV 45 (eL ⟨g27, 0 + 1, none⟩ (.int .i64 ((x3.cells.getD ((x1).toNat) z36).n)) Try.underlying3 (blk_cell b32 rfl)) (lV 46 (eAdd .i64 (x3.cells.getD ((x1).toNat) z36).n 1) (lV 47 (eM (.int .i64 x2)) (lV 48 (eAdd .i64 (IntKind.i64.wrap (((x3.cells.getD ((x1).toNat) z36).n) + 1)) x2) ?_)))))))
      refine lV 5 (eA (.int .i64 (IntKind.i64.wrap ((IntKind.i64.wrap (((x3.cells.getD ((x1).toNat) z36).n) + 1)) + x2)))) (lV 6 (eA (.bool true)) (wN (then_n (wp_ret (inb_r (then_r ?_))))))
      obtain rfl := Option.some.inj M
      exact ret2 rfl rfl rfl (show _ = .int .i64 (IntKind.i64.wrap ((IntKind.i64.wrap (((x3.cells.getD ((x1).toNat) z36).n) + 1)) + x2)) from (by kernel_rfl)) (show _ = .bool true from (by kernel_rfl)) ⟨rfl, S33.chg⟩
    replace M := ifn q79 M
    refine cF (bF q79) (wp_skip (inb_n (then_n (wp_seq (wR (lV 5 (eA (.int .i64 0)) (lV 6 (eA (.bool false)) ?_)))))))
    refine wN (then_n (wp_ret ?_))
    obtain rfl := Option.some.inj M
    exact ret2 rfl rfl rfl (show _ = .int .i64 0 from (by kernel_rfl)) (show _ = .bool false from (by kernel_rfl)) ⟨rfl, S33.chg⟩
  replace M := ifn q66 M
  refine lK 33 false (bF q66) ?_
  refine lK 33 false (bF q66) ?_
  refine lK 33 false (bF q66) ?_
  refine lK 33 false (bF q66) ?_
  refine lK 33 false (bF q66) ?_
  refine lK 33 false (bF q66) ?_
  refine lK 33 false (bF q66) ?_
  refine lK 33 false (bF q66) ?_
  refine lK 33 false (bF q66) ?_
  refine lV 43 (eF (.bool false) (bF q66)) (lV 29 (eA (.bool false)) (wN (then_n (cond_f rfl (by kernel_rfl) (wp_skip (inb_n (then_n ?_)))))))
  refine wp_seq (wR (lV 5 (eA (.int .i64 0)) (lV 6 (eA (.bool false)) (wN (then_n (wp_ret ?_))))))
  obtain rfl := Option.some.inj M
  exact ret2 rfl rfl rfl (show _ = .int .i64 0 from (by kernel_rfl)) (show _ = .bool false from (by kernel_rfl)) ⟨rfl, S33.chg⟩

/-! impl_Store_ok -/
mutual
def impl_Store_ok.l3 : Nat → Store → Int → (List UInt8) → Option Bool
  | 0, _, _, _ => none
  | k146 + 1, x1, x132, x134 => (if x132 < (x1.cells.length : Int) then (if 0 ≤ x132 then (if ((x1.cells.getD ((x132).toNat) z36).kind) = 3 then (impl_Store_ok.l3 k146 x1 (IntKind.i64.wrap (x132 + 1)) x134) else (if x132 < (((x1.cells.length : Int)).toNat : Int) then (if ((x134.getD ((x132).toNat) (0 : UInt8)).toNat : Int) ≠ 0 then (impl_Store_ok.l3 k146 x1 (IntKind.i64.wrap (x132 + 1)) x134) else (impl_Store_ok.l4 k146 x1 x132 [(⟨x132, 0⟩ : GStep)] (x134.set ((x132).toNat) (1 : UInt8)))) else none)) else none) else some true)
def impl_Store_ok.l4 : Nat → Store → Int → (List GStep) → (List UInt8) → Option Bool
  | 0, _, _, _, _ => none
  | k226 + 1, x1, x132, x202, x208 => (if (x202.length : Int) > 0 then (if 0 ≤ (IntKind.i64.wrap ((x202.length : Int) - 1)) then (if (IntKind.i64.wrap ((x202.length : Int) - 1)) < (x202.length : Int) then ((impl_Store_ok_c1.f ((x202.getD (((IntKind.i64.wrap ((x202.length : Int) - 1))).toNat) z86).at_) ((x202.getD (((IntKind.i64.wrap ((x202.length : Int) - 1))).toNat) z86).next_) x1).bind fun t261 => (if ¬ (t261.2 = true) then (if 0 ≤ ((x202.getD (((IntKind.i64.wrap ((x202.length : Int) - 1))).toNat) z86).at_) then (if ((x202.getD (((IntKind.i64.wrap ((x202.length : Int) - 1))).toNat) z86).at_) < (((x1.cells.length : Int)).toNat : Int) then (if (IntKind.i64.wrap ((x202.length : Int) - 1)) ≤ (x202.length : Int) then (impl_Store_ok.l4 k226 x1 x132 (x202.take (((IntKind.i64.wrap ((x202.length : Int) - 1)) : Int).toNat)) (x208.set (((x202.getD (((IntKind.i64.wrap ((x202.length : Int) - 1))).toNat) z86).at_).toNat) (2 : UInt8))) else none) else none) else none) else (if 0 ≤ t261.1 then (if t261.1 < (((x1.cells.length : Int)).toNat : Int) then (if ((x208.getD ((t261.1).toNat) (0 : UInt8)).toNat : Int) = 0 then (if x202.length + 1 ≤ 8796093022208 then (impl_Store_ok.l4 k226 x1 x132 ((x202.set (((IntKind.i64.wrap ((x202.length : Int) - 1))).toNat) ({(x202.getD (((IntKind.i64.wrap ((x202.length : Int) - 1))).toNat) z86) with next_ := (IntKind.i64.wrap (((x202.getD (((IntKind.i64.wrap ((x202.length : Int) - 1))).toNat) z86).next_) + 1))})) ++ [(⟨t261.1, 0⟩ : GStep)]) (x208.set ((t261.1).toNat) (1 : UInt8))) else none) else (if ((x208.getD ((t261.1).toNat) (0 : UInt8)).toNat : Int) = 1 then some false else (impl_Store_ok.l4 k226 x1 x132 (x202.set (((IntKind.i64.wrap ((x202.length : Int) - 1))).toNat) ({(x202.getD (((IntKind.i64.wrap ((x202.length : Int) - 1))).toNat) z86) with next_ := (IntKind.i64.wrap (((x202.getD (((IntKind.i64.wrap ((x202.length : Int) - 1))).toNat) z86).next_) + 1))})) x208))) else none) else none))) else none) else none) else (impl_Store_ok.l3 k226 x1 (IntKind.i64.wrap (x132 + 1)) x208))
end
def impl_Store_ok.l2 : Nat → Store → Int → Option Bool
  | 0, _, _ => none
  | k97 + 1, x1, x87 => (if x87 < (x1.trail.length : Int) then (if 0 ≤ x87 then (if (x1.trail.getD ((x87).toNat) (0 : Int)) < 0 then some false else (if (x1.trail.getD ((x87).toNat) (0 : Int)) ≥ (x1.cells.length : Int) then some false else (if 0 ≤ (x1.trail.getD ((x87).toNat) (0 : Int)) then (if (x1.trail.getD ((x87).toNat) (0 : Int)) < (x1.cells.length : Int) then (if ((x1.cells.getD (((x1.trail.getD ((x87).toNat) (0 : Int))).toNat) z36).kind) = 3 then some false else (impl_Store_ok.l2 k97 x1 (IntKind.i64.wrap (x87 + 1)))) else none) else none))) else none) else (if 0 ≤ (x1.cells.length : Int) then (if ((x1.cells.length : Int)).toNat ≤ 281474976710656 then (impl_Store_ok.l3 k97 x1 0 (List.replicate ((x1.cells.length : Int)).toNat (0 : UInt8))) else none) else none))
mutual
def impl_Store_ok.l0 : Nat → Store → Int → Int → Option Bool
  | 0, _, _, _ => none
  | k31 + 1, x1, x19, x20 => (if x20 < (x1.cells.length : Int) then (if 0 ≤ x20 then (if ((x1.cells.getD ((x20).toNat) z36).kind) = 3 then (if x19 > 0 then some false else (if ((x1.cells.getD ((x20).toNat) z36).n) < 1 then some false else (if ((x1.cells.getD ((x20).toNat) z36).n) > 20 then some false else (if (((x1.cells.getD ((x20).toNat) z36).text).length : Int) > 100 then some false else (impl_Store_ok.l1 k31 x1 x20 ((x1.cells.getD ((x20).toNat) z36).n)))))) else ((impl_Store_points.f x1 (x1.cells.getD ((x20).toNat) z36)).bind fun t74 => (if ¬ (t74 = true) then some false else (impl_Store_ok.l1 k31 x1 x20 (if (IntKind.i64.wrap (x19 - 1)) > 0 then (IntKind.i64.wrap (x19 - 1)) else 0))))) else none) else (if x19 > 0 then some false else (impl_Store_ok.l2 k31 x1 0)))
def impl_Store_ok.l1 : Nat → Store → Int → Int → Option Bool
  | 0, _, _, _ => none
  | k45 + 1, x1, x20, x35 => (impl_Store_ok.l0 k45 x1 x35 (IntKind.i64.wrap (x20 + 1)))
end
def impl_Store_ok.f (k : Nat) (x1 : Store) : Option Bool := (if (x1.cells.length : Int) > 20000 then some false else (if (x1.trail.length : Int) > 20000 then some false else (impl_Store_ok.l0 k x1 0 0)))
theorem impl_Store_ok.calls (k : Nat) (w : World) (H : Hp) (x1 : Store) (A2 : Option Addr) (c3 : Nat) (A6 : Option Addr) (c7 : Nat) (h4 : Rd st36 H A2 x1.cells) (l5 : x1.cells.length ≤ c3) (h8 : Rd tInt H A6 x1.trail) (l9 : x1.trail.length ≤ c7) (S : Own [] H w) (r : Bool) (M : impl_Store_ok.f k x1 = some r) :
    Calls Try.prog 42 #[.agg #[.slice A2 x1.cells.length c3, .slice A6 x1.trail.length c7]] w (fun e e_w => e = .returned (.bool r) ∧ Chg no w e_w) := by
  rw [impl_Store_ok.f] at M
  refine enter (l := [.agg #[.slice A2 x1.cells.length c3, .slice A6 x1.trail.length c7]]) 179 Try.func42 rfl rfl rfl ?_
  have S0_ := S.st
  refine wp_seq (wR ?_)
  refine lW 1 (nB #[.slice A2 x1.cells.length c3, .slice A6 x1.trail.length c7] 34 S0_) ?_
  rintro _ w10 ⟨g11, rfl, b12, S13, K14⟩
  refine lV 2 (eA (.bool false)) (wN (then_n (wp_seq (wp_seq (wR (lV 16 (eD g11 0 0 1 Try.underlying34) (lV 17 (eL ⟨g11, 0 + 0, none⟩ (.slice A2 x1.cells.length c3) Try.underlying32 (blk_cell b12 rfl)) ?_)))))))
  refine lV 18 (e_len (A := A2) (n := x1.cells.length) (c := c3) Try.underlying32 (by kernel_rfl)) (lV 19 (e_gtr (k := .i64) (a := (x1.cells.length : Int)) (b := 20000) (by kernel_rfl) rfl) (lV 20 (eM (.bool (decide ((x1.cells.length : Int) > 20000)))) ?_))
  by_cases q15 : (x1.cells.length : Int) > 20000
  · replace M := ifp q15 M
    refine lK 20 true (bT q15) ?_
    refine lK 20 true (bT q15) ?_
    refine lK 20 true (bT q15) ?_
    refine lK 20 true (bT q15) ?_
    refine lV 25 (eT (.bool true) (bT q15)) (wN (then_n (cond_t rfl (by kernel_rfl) (wp_seq (wR (lV 2 (eA (.bool false)) (wN ?_)))))))
    refine then_n (wp_ret (then_r ?_))
    obtain rfl := Option.some.inj M
    exact ret1 rfl rfl  (show _ = .bool false from (by kernel_rfl)) ⟨rfl, S13.chg⟩
  replace M := ifn q15 M
  refine lG 21 20 (bF q15) (eD g11 0 1 1 Try.underlying34) (lG 22 20 (bF q15) (eL ⟨g11, 0 + 1, none⟩ (.slice A6 x1.trail.length c7) Try.underlying23 (blk_cell b12 rfl)) (lG 23 20 (bF q15) (e_len (A := A6) (n := x1.trail.length) (c := c7) Try.underlying23 (by kernel_rfl)) (lG 24 20 (bF q15) (e_gtr (k := .i64) (a := (x1.trail.length : Int)) (b := 20000) (by kernel_rfl) rfl) (lV 25 (eF (.bool (decide ((x1.trail.length : Int) > 20000))) (bF q15)) (wN (then_n ?_))))))
  by_cases q16 : (x1.trail.length : Int) > 20000
  · replace M := ifp q16 M
    refine cT (bT q16) (wp_seq (wR (lV 2 (eA (.bool false)) (wN (then_n (wp_ret (then_r ?_)))))))
    obtain rfl := Option.some.inj M
    exact ret1 rfl rfl  (show _ = .bool false from (by kernel_rfl)) ⟨rfl, S13.chg⟩
  replace M := ifn q16 M
  refine cF (bF q16) (wp_skip (then_n (wp_seq (wR (lV 3 (eA (.int .i64 0)) (wN (then_n ?_)))))))
  refine wp_seq (wp_seq (wR (lV 26 (eD g11 0 0 1 Try.underlying34) (lV 27 (eL ⟨g11, 0 + 0, none⟩ (.slice A2 x1.cells.length c3) Try.underlying32 (blk_cell b12 rfl)) (lV 28 (e_len (A := A2) (n := x1.cells.length) (c := c3) Try.underlying32 (by kernel_rfl)) (lV 29 (eM (.int .i64 0)) (wN ?_)))))))
  refine then_n (wp_block ?_)
  refine wp_loop_g (fun k29 a30 w17 => ∃ (f18 : Nat → Value) (x19 : Int) (x20 : Int), a30 = mk 179 f18 ∧ f18 1 = .pointer (some ⟨g11, 0, none⟩) ∧ f18 3 = .int .i64 x19 ∧ f18 27 = .slice A2 x1.cells.length c3 ∧ f18 28 = .int .i64 (x1.cells.length : Int) ∧ f18 29 = .int .i64 x20 ∧ w17.heap[g11]? = some (.cells #[.slice A2 x1.cells.length c3, .slice A6 x1.trail.length c7] 34 (0, 0)) ∧ St (anyOf []) H w [(is g11)] H w17 ∧ impl_Store_ok.l0 k29 x1 x19 x20 = some r) k ⟨_, 0, 0, rfl, (by kernel_rfl), (by kernel_rfl), (by kernel_rfl), (by kernel_rfl), (by kernel_rfl), b12, S13, M⟩ ?_
  clear M
  rintro k29 a30 w17 ⟨f18, x19, x20, rfl, e21, e22, e23, e24, e25, b12, S26, M⟩
  rcases k29 with _ | k31
  · rw [impl_Store_ok.l0] at M
    cases M
  rw [impl_Store_ok.l0] at M
  refine wp_seq (wR (lV 30 (eLt .i64 x20 (x1.cells.length : Int) (by exact e25) (by exact e24)) (wN (then_n (wp_seq ?_)))))
  by_cases q32 : x20 < (x1.cells.length : Int)
  · replace M := ifp q32 M
    refine cT (bT q32) (wp_skip (then_n ?_))
    refine wp_seq_cut (fun a44 w33 => ∃ (k46 : Nat), k46 ≤ k31 ∧ ∃ (f34 : Nat → Value) (x35 : Int), a44 = mk 179 f34 ∧ f34 1 = .pointer (some ⟨g11, 0, none⟩) ∧ f34 3 = .int .i64 x35 ∧ f34 27 = .slice A2 x1.cells.length c3 ∧ f34 28 = .int .i64 (x1.cells.length : Int) ∧ f34 29 = .int .i64 x20 ∧ w33.heap[g11]? = some (.cells #[.slice A2 x1.cells.length c3, .slice A6 x1.trail.length c7] 34 (0, 0)) ∧ St (anyOf []) H w [(is g11)] H w33 ∧ impl_Store_ok.l1 k46 x1 x20 x35 = some r) ?_ ?_
    · refine wp_block (wp_seq (wR ?_))
      obtain ⟨q47, M⟩ := chk M
      obtain ⟨b48, o49, e50⟩ := Rd.addr h4 (show (x20).toNat < x1.cells.length by omega)
      obtain ⟨y51, r52, k53⟩ := Rd.at h4 e50 (getD_some z36 (show (x20).toNat < x1.cells.length by omega))
      obtain ⟨A54, c55, rfl, l56, h57⟩ := st36_open r52
      refine lV 31 (e_indexAddr (b := b48) (off := o49) (n := x1.cells.length) (c := c3) (sz := 3) (i := x20) (k := .i64) Try.underlying32 e50 (by kernel_rfl) (by exact e23) (by exact e25) q47 q32) (lV 32 (e_loadS (b := b48) (off := o49 + (x20 : Int).toNat * 3) (cs := [.int .i64 ((x1.cells.getD ((x20).toNat) z36).kind), .int .i64 ((x1.cells.getD ((x20).toNat) z36).n), .slice A54 ((x1.cells.getD ((x20).toNat) z36).text).length c55]) Try.underlying36 rfl (by kernel_rfl) (by kernel_rfl) (fun j_ u_ e_ => (hpx (S26.inv.cell (k53 j_ u_ e_))))) ?_)
      refine lW 5 (nB #[.int .i64 0, .int .i64 0, .slice none 0 0] 36 S26) ?_
      rintro _ w58 ⟨g59, rfl, b60, S61, K62⟩
      replace b12 := K62.blk 0 rfl b12
      refine lE (eSa g59 0 [.int .i64 ((x1.cells.getD ((x20).toNat) z36).kind), .int .i64 ((x1.cells.getD ((x20).toNat) z36).n), .slice A54 ((x1.cells.getD ((x20).toNat) z36).text).length c55] S61 b60) ?_
      rintro w63 ⟨b64, S65, K66⟩
      replace b12 := K66.blk 0 rfl b12
      clear b60
      refine wN (then_n (wp_seq (wp_seq (wR (lV 33 (eD g59 0 0 1 Try.underlying36) (lV 34 (eL ⟨g59, 0 + 0, none⟩ (.int .i64 ((x1.cells.getD ((x20).toNat) z36).kind)) Try.underlying3 (blk_cell b64 rfl)) (lV 35 (eEq .i64 (x1.cells.getD ((x20).toNat) z36).kind 3) ?_)))))))
      refine wN (then_n ?_)
      by_cases q67 : ((x1.cells.getD ((x20).toNat) z36).kind) = 3
      · replace M := ifp q67 M
        refine cT (bT q67) (wp_seq (wp_seq (wR (lV 36 (eM (.int .i64 x19) (by exact e22)) (lV 37 (e_gtr (k := .i64) (a := x19) (b := 0) (by kernel_rfl) rfl) (lV 38 (eM (.bool (decide (x19 > 0)))) ?_))))))
        by_cases q68 : x19 > 0
        · replace M := ifp q68 M
          refine lK 38 true (bT q68) ?_
          refine lK 38 true (bT q68) ?_
          refine lK 38 true (bT q68) ?_
          refine lV 42 (eT (.bool true) (bT q68)) (lV 43 (eM (.bool true)) ?_)
          refine lJ 43 true ?_
          refine lJ 43 true ?_
          refine lJ 43 true ?_
          refine lV 47 (eT (.bool true)) (lV 48 (eM (.bool true)) ?_)
          refine lJ 48 true ?_
          refine lJ 48 true ?_
          refine lJ 48 true ?_
          refine lJ 48 true ?_
          refine lV 53 (eT (.bool true)) (wN (then_n (cond_t rfl (by kernel_rfl) (wp_seq (wR (lV 2 (eA (.bool false)) (wN ?_)))))))
          refine then_n (wp_ret (then_r (then_r (inb_r (then_r (then_r (inb_r ?_)))))))
          refine then_r ?_
          obtain rfl := Option.some.inj M
          exact ret1 rfl rfl  (show _ = .bool false from (by kernel_rfl)) ⟨rfl, S65.chg⟩
        replace M := ifn q68 M
        refine lG 39 38 (bF q68) (eD g59 0 1 1 Try.underlying36) (lG 40 38 (bF q68) (eL ⟨g59, 0 + 1, none⟩ (.int .i64 ((x1.cells.getD ((x20).toNat) z36).n)) Try.underlying3 (blk_cell b64 rfl)) (lG 41 38 (bF q68) (eLt .i64 (x1.cells.getD ((x20).toNat) z36).n 1) (lV 42 (eF (.bool (decide (((x1.cells.getD ((x20).toNat) z36).n) < 1))) (bF q68)) (lV 43 (eM (.bool (decide (((x1.cells.getD ((x20).toNat) z36).n) < 1)))) ?_))))
        by_cases q69 : ((x1.cells.getD ((x20).toNat) z36).n) < 1
        · replace M := ifp q69 M
          refine lK 43 true (bT q69) ?_
          refine lK 43 true (bT q69) ?_
          refine lK 43 true (bT q69) ?_
          refine lV 47 (eT (.bool true) (bT q69)) (lV 48 (eM (.bool true)) ?_)
          refine lJ 48 true ?_
          refine lJ 48 true ?_
          refine lJ 48 true ?_
          refine lJ 48 true ?_
          refine lV 53 (eT (.bool true)) (wN (then_n (cond_t rfl (by kernel_rfl) (wp_seq (wR (lV 2 (eA (.bool false)) (wN ?_)))))))
          refine then_n (wp_ret (then_r (then_r (inb_r (then_r (then_r (inb_r ?_)))))))
          refine then_r ?_
          obtain rfl := Option.some.inj M
          exact ret1 rfl rfl  (show _ = .bool false from (by kernel_rfl)) ⟨rfl, S65.chg⟩
        replace M := ifn q69 M
        refine lG 44 43 (bF q69) (eD g59 0 1 1 Try.underlying36) (lG 45 43 (bF q69) (eL ⟨g59, 0 + 1, none⟩ (.int .i64 ((x1.cells.getD ((x20).toNat) z36).n)) Try.underlying3 (blk_cell b64 rfl)) (lG 46 43 (bF q69) (e_gtr (k := .i64) (a := (x1.cells.getD ((x20).toNat) z36).n) (b := 20) (by kernel_rfl) rfl) (lV 47 (eF (.bool (decide (((x1.cells.getD ((x20).toNat) z36).n) > 20))) (bF q69)) (lV 48 (eM (.bool (decide (((x1.cells.getD ((x20).toNat) z36).n) > 20)))) ?_))))
        by_cases q70 : ((x1.cells.getD ((x20).toNat) z36).n) > 20
        · replace M := ifp q70 M
          refine lK 48 true (bT q70) ?_
          refine lK 48 true (bT q70) ?_
          refine lK 48 true (bT q70) ?_
          refine lK 48 true (bT q70) ?_
          refine lV 53 (eT (.bool true) (bT q70)) (wN (then_n (cond_t rfl (by kernel_rfl) (wp_seq (wR (lV 2 (eA (.bool false)) (wN ?_)))))))
          refine then_n (wp_ret (then_r (then_r (inb_r (then_r (then_r (inb_r ?_)))))))
          refine then_r ?_
          obtain rfl := Option.some.inj M
          exact ret1 rfl rfl  (show _ = .bool false from (by kernel_rfl)) ⟨rfl, S65.chg⟩
        replace M := ifn q70 M
        refine lG 49 48 (bF q70) (eD g59 0 2 1 Try.underlying36) (lG 50 48 (bF q70) (eL ⟨g59, 0 + 2, none⟩ (.slice A54 ((x1.cells.getD ((x20).toNat) z36).text).length c55) Try.underlying26 (blk_cell b64 rfl)) (lG 51 48 (bF q70) (e_len (A := A54) (n := ((x1.cells.getD ((x20).toNat) z36).text).length) (c := c55) Try.underlying26 (by kernel_rfl)) (lG 52 48 (bF q70) (e_gtr (k := .i64) (a := (((x1.cells.getD ((x20).toNat) z36).text).length : Int)) (b := 100) (by kernel_rfl) rfl) (lV 53 (eF (.bool (decide ((((x1.cells.getD ((x20).toNat) z36).text).length : Int) > 100))) (bF q70)) (wN (then_n ?_))))))
        by_cases q71 : (((x1.cells.getD ((x20).toNat) z36).text).length : Int) > 100
        · replace M := ifp q71 M
          refine cT (bT q71) (wp_seq (wR (lV 2 (eA (.bool false)) (wN (then_n (wp_ret (then_r ?_)))))))
          refine then_r (inb_r (then_r (then_r (inb_r (then_r ?_)))))
          obtain rfl := Option.some.inj M
          exact ret1 rfl rfl  (show _ = .bool false from (by kernel_rfl)) ⟨rfl, S65.chg⟩
        replace M := ifn q71 M
        refine cF (bF q71) (wp_skip (then_n (wp_seq (wR (lV 54 (eD g59 0 1 1 Try.underlying36) (lV 55 (eL ⟨g59, 0 + 1, none⟩ (.int .i64 ((x1.cells.getD ((x20).toNat) z36).n)) Try.underlying3 (blk_cell b64 rfl)) (lV 3 (eA (.int .i64 ((x1.cells.getD ((x20).toNat) z36).n))) ?_)))))))
        refine wN (then_n (wp_exit (then_e (inb_hit (then_n ?_)))))
        have S72 := S65.pulls [(is g11), (is g59)] [1] rfl
        have S73 := St.first (Fa := [(is g11)]) (Fr := [(is g59)]) S72
        exact ⟨k31, (by omega), _, ((x1.cells.getD ((x20).toNat) z36).n), rfl, (by exact e21), (by kernel_rfl), (by exact e23), (by exact e24), (by exact e25), b12, S73, M⟩
      replace M := ifn q67 M
      refine cF (bF q67) (wp_skip (then_n (wp_seq (wp_seq (wR (lV 56 (e_loadS (b := g11) (off := 0) (cs := [.slice A2 x1.cells.length c3, .slice A6 x1.trail.length c7]) Try.underlying34 rfl (by kernel_rfl) (by exact e21) (blk_cells b12 rfl)) (lV 57 (e_loadS (b := g59) (off := 0) (cs := [.int .i64 ((x1.cells.getD ((x20).toNat) z36).kind), .int .i64 ((x1.cells.getD ((x20).toNat) z36).n), .slice A54 ((x1.cells.getD ((x20).toNat) z36).text).length c55]) Try.underlying36 rfl (by kernel_rfl) (by kernel_rfl) (blk_cells b64 rfl)) ?_)))))))
      obtain ⟨t74, u75, M⟩ := bnd M
      refine lC 58 (eC [.tmp 56, .tmp 57] [.agg #[.slice A2 x1.cells.length c3, .slice A6 x1.trail.length c7], .agg #[.int .i64 ((x1.cells.getD ((x20).toNat) z36).kind), .int .i64 ((x1.cells.getD ((x20).toNat) z36).n), .slice A54 ((x1.cells.getD ((x20).toNat) z36).text).length c55]] Try.func43) (impl_Store_points.calls w63 H x1 A2 c3 A6 c7 (x1.cells.getD ((x20).toNat) z36) A54 c55 h4 l5 h8 l9 h57 l56 S65.own0 t74 u75) ?_
      rintro _ w76 ⟨rfl, C77⟩
      refine ⟨_, rfl, ?_⟩
      obtain ⟨S78, K79⟩ := S65.still C77
      replace b12 := K79.blk 1 rfl b12
      refine lV 59 (e_notv (c := t74) (by kernel_rfl)) (wN (then_n ?_))
      by_cases q80 : ¬ (t74 = true)
      · replace M := ifp q80 M
        refine cT (bT q80) (wp_seq (wR (lV 2 (eA (.bool false)) (wN (then_n (wp_ret (then_r ?_)))))))
        refine inb_r (then_r (then_r (inb_r (then_r ?_))))
        obtain rfl := Option.some.inj M
        exact ret1 rfl rfl  (show _ = .bool false from (by kernel_rfl)) ⟨rfl, S78.chg⟩
      replace M := ifn q80 M
      refine cF (bF q80) (wp_skip (then_n (wR (lV 60 (eM (.int .i64 x19) (by exact e22)) (lV 61 (e_sub (k := .i64) (a := x19) (b := 1) (by kernel_rfl) rfl) (lV 62 (e_max (k := .i64) (a := 0) (b := (IntKind.i64.wrap (x19 - 1))) rfl (by kernel_rfl)) (lV 3 (eA (.int .i64 (if (IntKind.i64.wrap (x19 - 1)) > 0 then (IntKind.i64.wrap (x19 - 1)) else 0))) ?_)))))))
      refine wN (inb_n (then_n ?_))
      have S81 := S78.pulls [(is g11), (is g59)] [1] rfl
      have S82 := St.first (Fa := [(is g11)]) (Fr := [(is g59)]) S81
      exact ⟨k31, (by omega), _, (if (IntKind.i64.wrap (x19 - 1)) > 0 then (IntKind.i64.wrap (x19 - 1)) else 0), rfl, (by exact e21), (by kernel_rfl), (by exact e23), (by exact e24), (by exact e25), b12, S82, M⟩
    clear M
    rintro a44 w33 ⟨k46, z83, f34, x35, rfl, e36, e37, e38, e39, e40, b12, S41, M⟩
    rcases k46 with _ | k45
    · rw [impl_Store_ok.l1] at M
      cases M
    rw [impl_Store_ok.l1] at M
    refine wR (lV 63 (eAdd .i64 x20 1 (by exact e40)) (lV 29 (eM (.int .i64 (IntKind.i64.wrap (x20 + 1)))) (wN (then_n ?_))))
    exact ⟨k45, (by omega), _, x35, (IntKind.i64.wrap (x20 + 1)), rfl, (by exact e36), (by exact e37), (by exact e38), (by exact e39), (by kernel_rfl), b12, S41, M⟩
  replace M := ifn q32 M
  refine cF (bF q32) (wp_exit (then_e (then_e (inb_hit (then_n (wp_seq (wp_seq ?_)))))))
  refine wR (lV 64 (eM (.int .i64 x19) (by exact e22)) (lV 65 (e_gtr (k := .i64) (a := x19) (b := 0) (by kernel_rfl) rfl) (wN (then_n ?_))))
  by_cases q84 : x19 > 0
  · replace M := ifp q84 M
    refine cT (bT q84) (wp_seq (wR (lV 2 (eA (.bool false)) (wN (then_n (wp_ret (then_r ?_)))))))
    obtain rfl := Option.some.inj M
    exact ret1 rfl rfl  (show _ = .bool false from (by kernel_rfl)) ⟨rfl, S26.chg⟩
  replace M := ifn q84 M
  refine cF (bF q84) (wp_skip (then_n (wp_seq (wp_seq (wR (lV 66 (eD g11 0 1 1 Try.underlying34 (by exact e21)) (lV 67 (eL ⟨g11, 0 + 1, none⟩ (.slice A6 x1.trail.length c7) Try.underlying23 (blk_cell b12 rfl)) ?_)))))))
  refine lV 68 (e_len (A := A6) (n := x1.trail.length) (c := c7) Try.underlying23 (by kernel_rfl)) (lV 69 (eM (.int .i64 0)) (wN (then_n (wp_block ?_))))
  refine wp_loop_g (fun k95 a96 w85 => ∃ (f86 : Nat → Value) (x87 : Int), k95 ≤ k31 ∧ a96 = mk 179 f86 ∧ f86 1 = .pointer (some ⟨g11, 0, none⟩) ∧ f86 67 = .slice A6 x1.trail.length c7 ∧ f86 68 = .int .i64 (x1.trail.length : Int) ∧ f86 69 = .int .i64 x87 ∧ w85.heap[g11]? = some (.cells #[.slice A2 x1.cells.length c3, .slice A6 x1.trail.length c7] 34 (0, 0)) ∧ St (anyOf []) H w [(is g11)] H w85 ∧ impl_Store_ok.l2 k95 x1 x87 = some r) k31 ⟨_, 0, (by omega), rfl, (by exact e21), (by kernel_rfl), (by kernel_rfl), (by kernel_rfl), b12, S26, M⟩ ?_
  clear M
  rintro k95 a96 w85 ⟨f86, x87, z94, rfl, e88, e89, e90, e91, b12, S92, M⟩
  rcases k95 with _ | k97
  · rw [impl_Store_ok.l2] at M
    cases M
  rw [impl_Store_ok.l2] at M
  refine wp_seq (wR (lV 70 (eLt .i64 x87 (x1.trail.length : Int) (by exact e91) (by exact e90)) (wN (then_n (wp_seq ?_)))))
  by_cases q98 : x87 < (x1.trail.length : Int)
  · replace M := ifp q98 M
    refine cT (bT q98) (wp_skip (then_n (wp_seq (wp_block (wp_seq (wR ?_))))))
    obtain ⟨q99, M⟩ := chk M
    obtain ⟨b100, o101, e102⟩ := Rd.addr h8 (show (x87).toNat < x1.trail.length by omega)
    obtain ⟨y103, r104, k105⟩ := Rd.at h8 e102 (getD_some (0 : Int) (show (x87).toNat < x1.trail.length by omega))
    obtain rfl := r104
    refine lV 71 (e_indexAddr (b := b100) (off := o101) (n := x1.trail.length) (c := c7) (sz := 1) (i := x87) (k := .i64) Try.underlying23 e102 (by kernel_rfl) (by exact e89) (by exact e91) q99 q98) (lV 72 (eL ⟨b100, o101 + (x87 : Int).toNat * 1, none⟩ (.int .i64 (x1.trail.getD ((x87).toNat) (0 : Int))) Try.underlying3 (hpx (S92.inv.cell (k105 0 _ rfl)))) (lV 7 (eA (.int .i64 (x1.trail.getD ((x87).toNat) (0 : Int)))) (wN (then_n (wp_seq (wR (lV 73 (eM (.int .i64 (x1.trail.getD ((x87).toNat) (0 : Int)))) ?_)))))))
    refine lV 74 (eLt .i64 (x1.trail.getD ((x87).toNat) (0 : Int)) 0) (lV 75 (eM (.bool (decide ((x1.trail.getD ((x87).toNat) (0 : Int)) < 0)))) ?_)
    by_cases q106 : (x1.trail.getD ((x87).toNat) (0 : Int)) < 0
    · replace M := ifp q106 M
      refine lK 75 true (bT q106) ?_
      refine lK 75 true (bT q106) ?_
      refine lK 75 true (bT q106) ?_
      refine lK 75 true (bT q106) ?_
      refine lK 75 true (bT q106) ?_
      refine lV 81 (eT (.bool true) (bT q106)) (lV 82 (eM (.bool true)) ?_)
      refine lJ 82 true ?_
      refine lJ 82 true ?_
      refine lJ 82 true ?_
      refine lJ 82 true ?_
      refine lJ 82 true ?_
      refine lJ 82 true ?_
      refine lJ 82 true ?_
      refine lV 90 (eT (.bool true)) (wN (then_n (cond_t rfl (by kernel_rfl) (wp_seq (wR (lV 2 (eA (.bool false)) (wN ?_)))))))
      refine then_n (wp_ret (inb_r (then_r (then_r (inb_r (then_r ?_))))))
      obtain rfl := Option.some.inj M
      exact ret1 rfl rfl  (show _ = .bool false from (by kernel_rfl)) ⟨rfl, S92.chg⟩
    replace M := ifn q106 M
    refine lG 76 75 (bF q106) (eM (.int .i64 (x1.trail.getD ((x87).toNat) (0 : Int)))) (lG 77 75 (bF q106) (eD g11 0 0 1 Try.underlying34 (by exact e88)) (lG 78 75 (bF q106) (eL ⟨g11, 0 + 0, none⟩ (.slice A2 x1.cells.length c3) Try.underlying32 (blk_cell b12 rfl)) (lG 79 75 (bF q106) (e_len (A := A2) (n := x1.cells.length) (c := c3) Try.underlying32 (by kernel_rfl)) (lG 80 75 (bF q106) (e_geq (k := .i64) (a := (x1.trail.getD ((x87).toNat) (0 : Int))) (b := (x1.cells.length : Int)) (by kernel_rfl) (by kernel_rfl)) (lV 81 (eF (.bool (decide ((x1.trail.getD ((x87).toNat) (0 : Int)) ≥ (x1.cells.length : Int)))) (bF q106)) (lV 82 (eM (.bool (decide ((x1.trail.getD ((x87).toNat) (0 : Int)) ≥ (x1.cells.length : Int))))) ?_))))))
    by_cases q107 : (x1.trail.getD ((x87).toNat) (0 : Int)) ≥ (x1.cells.length : Int)
    · replace M := ifp q107 M
      refine lK 82 true (bT q107) ?_
      refine lK 82 true (bT q107) ?_
      refine lK 82 true (bT q107) ?_
      refine lK 82 true (bT q107) ?_
      refine lK 82 true (bT q107) ?_
      refine lK 82 true (bT q107) ?_
      refine lK 82 true (bT q107) ?_
      refine lV 90 (eT (.bool true) (bT q107)) (wN (then_n (cond_t rfl (by kernel_rfl) (wp_seq (wR (lV 2 (eA (.bool false)) (wN ?_)))))))
      refine then_n (wp_ret (inb_r (then_r (then_r (inb_r (then_r ?_))))))
      obtain rfl := Option.some.inj M
      exact ret1 rfl rfl  (show _ = .bool false from (by kernel_rfl)) ⟨rfl, S92.chg⟩
    replace M := ifn q107 M
    refine lG 83 82 (bF q107) (eD g11 0 0 1 Try.underlying34 (by exact e88)) (lG 84 82 (bF q107) (eL ⟨g11, 0 + 0, none⟩ (.slice A2 x1.cells.length c3) Try.underlying32 (blk_cell b12 rfl)) (lG 85 82 (bF q107) (eM (.int .i64 (x1.trail.getD ((x87).toNat) (0 : Int)))) ?_))
    obtain ⟨q108, M⟩ := chk M
    obtain ⟨q109, M⟩ := chk M
    obtain ⟨b110, o111, e112⟩ := Rd.addr h4 (show ((x1.trail.getD ((x87).toNat) (0 : Int))).toNat < x1.cells.length by omega)
    obtain ⟨y113, r114, k115⟩ := Rd.at h4 e112 (getD_some z36 (show ((x1.trail.getD ((x87).toNat) (0 : Int))).toNat < x1.cells.length by omega))
    obtain ⟨A116, c117, rfl, l118, h119⟩ := st36_open r114
    refine lG 86 82 (bF q107) (eI b110 o111 x1.cells.length c3 3 (x1.trail.getD ((x87).toNat) (0 : Int)) .i64 Try.underlying32 e112 q108 q109) (lG 87 82 (bF q107) (eD b110 (o111 + ((x1.trail.getD ((x87).toNat) (0 : Int)) : Int).toNat * 3) 0 1 Try.underlying36) (lG 88 82 (bF q107) (eL ⟨b110, o111 + ((x1.trail.getD ((x87).toNat) (0 : Int)) : Int).toNat * 3 + 0, none⟩ (.int .i64 ((x1.cells.getD (((x1.trail.getD ((x87).toNat) (0 : Int))).toNat) z36).kind)) Try.underlying3 (hpx (S92.inv.cell (k115 0 _ rfl)))) (lG 89 82 (bF q107) (eEq .i64 (x1.cells.getD (((x1.trail.getD ((x87).toNat) (0 : Int))).toNat) z36).kind 3) (lV 90 (eF (.bool (decide (((x1.cells.getD (((x1.trail.getD ((x87).toNat) (0 : Int))).toNat) z36).kind) = 3))) (bF q107)) (wN (then_n ?_))))))
    by_cases q120 : ((x1.cells.getD (((x1.trail.getD ((x87).toNat) (0 : Int))).toNat) z36).kind) = 3
    · replace M := ifp q120 M
      refine cT (bT q120) (wp_seq (wR (lV 2 (eA (.bool false)) (wN (then_n (wp_ret (inb_r ?_)))))))
      refine then_r (then_r (inb_r (then_r ?_)))
      obtain rfl := Option.some.inj M
      exact ret1 rfl rfl  (show _ = .bool false from (by kernel_rfl)) ⟨rfl, S92.chg⟩
    replace M := ifn q120 M
    refine cF (bF q120) (wp_skip (inb_n (then_n (wR (lV 91 (eAdd .i64 x87 1 (by exact e91)) (lV 69 (eM (.int .i64 (IntKind.i64.wrap (x87 + 1)))) (wN ?_)))))))
    refine then_n ?_
    exact ⟨k97, (by omega), _, (IntKind.i64.wrap (x87 + 1)), (by omega), rfl, (by exact e88), (by exact e89), (by exact e90), (by kernel_rfl), b12, S92, M⟩
  replace M := ifn q98 M
  refine cF (bF q98) (wp_exit (then_e (then_e (inb_hit (then_n (wp_seq (wR ?_)))))))
  refine lV 92 (eD g11 0 0 1 Try.underlying34 (by exact e88)) (lV 93 (eL ⟨g11, 0 + 0, none⟩ (.slice A2 x1.cells.length c3) Try.underlying32 (blk_cell b12 rfl)) (lV 94 (e_len (A := A2) (n := x1.cells.length) (c := c3) Try.underlying32 (by kernel_rfl)) ?_))
  obtain ⟨q121, M⟩ := chk M
  obtain ⟨q122, M⟩ := chk M
  refine lW 95 (e_make (d := tByte) (k := .i64) (k2 := .i64) (n := (x1.cells.length : Int)) (z := .int .u8 0) (zx := (0 : UInt8)) (bytes := 1) S92 Try.underlying26 (by kernel_rfl) rfl (by decide) (fun _ => rfl) (by kernel_rfl) (by kernel_rfl) q121 (by omega) (by omega)) ?_
  rintro _ w123 ⟨A124, c125, F126, rfl, h127, S128, K129⟩
  replace b12 := K129.blk 0 rfl b12
  refine lV 8 (eA (.slice A124 (((x1.cells.length : Int)).toNat) c125)) (wN (then_n (wp_seq (wR (lV 96 (e_makeFunc (cs := [.tmp 1]) (vs := [.pointer (some ⟨g11, 0, none⟩)]) (map_c (by exact e88) rfl)) (lV 9 (eA (.func (.func 66) #[] #[.pointer (some ⟨g11, 0, none⟩)])) (wN ?_)))))))
  refine then_n (wp_seq (wp_seq (wR (lV 97 (eD g11 0 0 1 Try.underlying34 (by exact e88)) (lV 98 (eL ⟨g11, 0 + 0, none⟩ (.slice A2 x1.cells.length c3) Try.underlying32 (blk_cell b12 rfl)) (lV 99 (e_len (A := A2) (n := x1.cells.length) (c := c3) Try.underlying32 (by kernel_rfl)) (lV 100 (eM (.int .i64 0)) ?_)))))))
  refine wN (then_n (wp_block ?_))
  refine wp_loop_g (fun k144 a145 w130 => ∃ (f131 : Nat → Value) (x132 : Int) (F133 : Foot) (x134 : List UInt8), k144 ≤ k97 ∧ a145 = mk 179 f131 ∧ f131 8 = .slice A124 (((x1.cells.length : Int)).toNat) c125 ∧ f131 9 = .func (.func 66) #[] #[.pointer (some ⟨g11, 0, none⟩)] ∧ f131 98 = .slice A2 x1.cells.length c3 ∧ f131 99 = .int .i64 (x1.cells.length : Int) ∧ f131 100 = .int .i64 x132 ∧ Row tByte 5 H (hp w130) F133 A124 c125 x134 ∧ w130.heap[g11]? = some (.cells #[.slice A2 x1.cells.length c3, .slice A6 x1.trail.length c7] 34 (0, 0)) ∧ x134.length = ((x1.cells.length : Int)).toNat ∧ St (anyOf []) H w [F133, (is g11)] H w130 ∧ impl_Store_ok.l3 k144 x1 x132 x134 = some r) k97 ⟨_, 0, F126, (List.replicate ((x1.cells.length : Int)).toNat (0 : UInt8)), (by omega), rfl, (by kernel_rfl), (by kernel_rfl), (by kernel_rfl), (by kernel_rfl), (by kernel_rfl), h127, b12, List.length_replicate, S128, M⟩ ?_
  clear M
  rintro k144 a145 w130 ⟨f131, x132, F133, x134, z143, rfl, e136, e137, e138, e139, e140, h127, b12, n135, S141, M⟩
  rcases k144 with _ | k146
  · rw [impl_Store_ok.l3] at M
    cases M
  rw [impl_Store_ok.l3] at M
  refine wp_seq (wR (lV 101 (eLt .i64 x132 (x1.cells.length : Int) (by exact e140) (by exact e139)) (wN (then_n (wp_seq ?_)))))
  by_cases q147 : x132 < (x1.cells.length : Int)
  · replace M := ifp q147 M
    refine cT (bT q147) (wp_skip (then_n (wp_seq (wp_block (wp_seq (wR (lV 102 (eM (.int .i64 x132) (by exact e140)) ?_)))))))
    obtain ⟨q148, M⟩ := chk M
    obtain ⟨b149, o150, e151⟩ := Rd.addr h4 (show (x132).toNat < x1.cells.length by omega)
    obtain ⟨y152, r153, k154⟩ := Rd.at h4 e151 (getD_some z36 (show (x132).toNat < x1.cells.length by omega))
    obtain ⟨A155, c156, rfl, l157, h158⟩ := st36_open r153
    refine lV 103 (e_indexAddr (b := b149) (off := o150) (n := x1.cells.length) (c := c3) (sz := 3) (i := x132) (k := .i64) Try.underlying32 e151 (by kernel_rfl) (by exact e138) (by exact e140) q148 q147) (lV 104 (e_loadS (b := b149) (off := o150 + (x132 : Int).toNat * 3) (cs := [.int .i64 ((x1.cells.getD ((x132).toNat) z36).kind), .int .i64 ((x1.cells.getD ((x132).toNat) z36).n), .slice A155 ((x1.cells.getD ((x132).toNat) z36).text).length c156]) Try.underlying36 rfl (by kernel_rfl) (by kernel_rfl) (fun j_ u_ e_ => (hpx (S141.inv.cell (k154 j_ u_ e_))))) ?_)
    refine lW 11 (nB #[.int .i64 0, .int .i64 0, .slice none 0 0] 36 S141) ?_
    rintro _ w159 ⟨g160, rfl, b161, S162, K163⟩
    replace h127 := h127.move (K163.at 0 rfl)
    replace b12 := K163.blk 1 rfl b12
    refine lV 10 (eA (.int .i64 x132)) ?_
    refine lE (eSa g160 0 [.int .i64 ((x1.cells.getD ((x132).toNat) z36).kind), .int .i64 ((x1.cells.getD ((x132).toNat) z36).n), .slice A155 ((x1.cells.getD ((x132).toNat) z36).text).length c156] S162 b161) ?_
    rintro w164 ⟨b165, S166, K167⟩
    replace h127 := h127.move (K167.at 0 rfl)
    replace b12 := K167.blk 1 rfl b12
    clear b161
    refine wN (then_n (wp_seq (wp_seq (wR (lV 105 (eD g160 0 0 1 Try.underlying36) (lV 106 (eL ⟨g160, 0 + 0, none⟩ (.int .i64 ((x1.cells.getD ((x132).toNat) z36).kind)) Try.underlying3 (blk_cell b165 rfl)) (lV 107 (eEq .i64 (x1.cells.getD ((x132).toNat) z36).kind 3) ?_)))))))
    refine lV 108 (eM (.bool (decide (((x1.cells.getD ((x132).toNat) z36).kind) = 3)))) ?_
    by_cases q168 : ((x1.cells.getD ((x132).toNat) z36).kind) = 3
    · replace M := ifp q168 M
      refine lK 108 true (bT q168) ?_
      refine lK 108 true (bT q168) ?_
      refine lK 108 true (bT q168) ?_
      refine lK 108 true (bT q168) ?_
      refine lK 108 true (bT q168) ?_
      refine lV 114 (eT (.bool true) (bT q168)) (wN (then_n (cond_t rfl (by kernel_rfl) (wp_exit (then_e (inb_hit (then_n ?_)))))))
      refine wR (lV 178 (eAdd .i64 x132 1 (by exact e140)) (lV 100 (eM (.int .i64 (IntKind.i64.wrap (x132 + 1)))) (wN (then_n ?_))))
      have S170 := S166.pulls [F133, (is g11), (is g160)] [2, 2] rfl
      have S171 := St.first (Fa := [F133, (is g11)]) (Fr := [(is g160)]) S170
      exact ⟨k146, (by omega), _, (IntKind.i64.wrap (x132 + 1)), F133, x134, (by omega), rfl, (by exact e136), (by exact e137), (by exact e138), (by exact e139), (by kernel_rfl), h127, b12, n135, S171, M⟩
    replace M := ifn q168 M
    refine lG 109 108 (bF q168) (eM (.slice A124 (((x1.cells.length : Int)).toNat) c125) (by exact e136)) (lG 110 108 (bF q168) (eM (.int .i64 x132)) ?_)
    obtain ⟨q172, M⟩ := chk M
    obtain ⟨b173, e175⟩ := Row.addr h127 (show (x132).toNat < x134.length by have : x134.length = ((x1.cells.length : Int)).toNat := n135; omega)
    refine lG 111 108 (bF q168) (eI b173 0 ((x1.cells.length : Int)).toNat c125 1 x132 .i64 Try.underlying26 e175 q148 q172) (lG 112 108 (bF q168) (eL ⟨b173, 0 + (x132 : Int).toNat * 1, none⟩ (.int .u8 ((x134.getD ((x132).toNat) (0 : UInt8)).toNat : Int)) Try.underlying5 (hpx (Row.pick (j := 0) (u := .int .u8 ((x134.getD ((x132).toNat) (0 : UInt8)).toNat : Int)) h127 e175 (getD_some (0 : UInt8) (show (x132).toNat < x134.length by have : x134.length = ((x1.cells.length : Int)).toNat := n135; omega)) (fun _ _ o_ => by rw [show _ = _ from o_]; rfl)))) (lG 113 108 (bF q168) (eNe .u8 ((x134.getD ((x132).toNat) (0 : UInt8)).toNat : Int) 0) (lV 114 (eF (.bool (decide (((x134.getD ((x132).toNat) (0 : UInt8)).toNat : Int) ≠ 0))) (bF q168)) (wN (then_n ?_)))))
    by_cases q176 : ((x134.getD ((x132).toNat) (0 : UInt8)).toNat : Int) ≠ 0
    · replace M := ifp q176 M
      refine cT (bT q176) (wp_exit (then_e (inb_hit (then_n (wR (lV 178 (eAdd .i64 x132 1 (by exact e140)) (lV 100 (eM (.int .i64 (IntKind.i64.wrap (x132 + 1)))) ?_)))))))
      refine wN (then_n ?_)
      have S178 := S166.pulls [F133, (is g11), (is g160)] [2, 2] rfl
      have S179 := St.first (Fa := [F133, (is g11)]) (Fr := [(is g160)]) S178
      exact ⟨k146, (by omega), _, (IntKind.i64.wrap (x132 + 1)), F133, x134, (by omega), rfl, (by exact e136), (by exact e137), (by exact e138), (by exact e139), (by kernel_rfl), h127, b12, n135, S179, M⟩
    replace M := ifn q176 M
    refine cF (bF q176) (wp_skip (then_n (wp_seq (wR (lV 115 (eM (.int .i64 x132)) (lV 116 (show _ = Result.ok (Next.value (.agg #[.int .i64 x132, .int .i64 0])) w164 from by kernel_rfl) ?_))))))
    refine lW 117 (new_blk (v := fun g_ => .slice (some ⟨g_, 0, none⟩) 1 1) (cs := #[.int .i64 x132, .int .i64 0]) (t := 86) S166 (by kernel_rfl)) ?_
    rintro _ w180 ⟨g181, rfl, b182, S183, K184⟩
    replace h127 := h127.move (K184.at 1 rfl)
    replace b12 := K184.blk 2 rfl b12
    have S185 := S183.unit
    have S186 := S185.pulls [(is g181), no, (is g160), F133, (is g11)] [1] rfl
    obtain ⟨h187, S188⟩ := row_lit (d := st86) (xs := [(⟨x132, 0⟩ : GStep)]) S186 b182 rfl (elsO_one1 (st86_mkO (x := (⟨x132, 0⟩ : GStep)))) (Nat.le_of_ble_eq_true rfl)
    refine lV 12 (eA (.slice (some ⟨g181, 0, none⟩) 1 1)) (wN (then_n (wp_seq (wR (lV 118 (eM (.slice A124 (((x1.cells.length : Int)).toNat) c125) (by exact e136)) (lV 119 (eM (.int .i64 x132)) ?_))))))
    obtain ⟨b189, e191⟩ := Row.addr h127 (show (x132).toNat < x134.length by have : x134.length = ((x1.cells.length : Int)).toNat := n135; omega)
    refine lV 120 (eI b189 0 ((x1.cells.length : Int)).toNat c125 1 x132 .i64 Try.underlying26 e191 q148 q172) ?_
    have S192 := S188.pulls [F133, (or2 (is g181) no), (is g160), (is g11)] [2] rfl
    have S193 := S192.unit
    have S194 := S193.pulls [F133, no, (or2 (is g181) no), (is g160), (is g11)] [1] rfl
    refine lE (e_setel (d := tByte) (b := b189) (i := (x132).toNat) (v := .int .u8 1) (vs := [.int .u8 1]) (yv := (1 : UInt8)) S194 (by kernel_rfl) e191 rfl rfl (by kernel_rfl) h127 (show (x132).toNat < x134.length by have : x134.length = ((x1.cells.length : Int)).toNat := n135; omega) rfl) ?_
    rintro w195 ⟨F197, h196, S198, K199⟩
    replace h187 := h187.move (K199.at 0 rfl)
    replace b12 := K199.blk 2 rfl b12
    clear h127
    refine wN (then_n (wp_block ?_))
    have S229 := S198.pulls [F197, (is g11), (or2 (is g181) no), (is g160)] [1, 3, 2] rfl
    have S230 := St.first (Fa := [F197, (is g11), (or2 (is g181) no)]) (Fr := [(is g160)]) S229
    refine wp_loop_g (fun k224 a225 w200 => ∃ (f201 : Nat → Value) (x202 : List GStep) (A203 : Option Addr) (c204 : Nat) (F205 : Foot) (F207 : Foot) (x208 : List UInt8), k224 ≤ k146 ∧ a225 = mk 179 f201 ∧ f201 8 = .slice A124 (((x1.cells.length : Int)).toNat) c125 ∧ f201 9 = .func (.func 66) #[] #[.pointer (some ⟨g11, 0, none⟩)] ∧ f201 12 = .slice A203 x202.length c204 ∧ f201 98 = .slice A2 x1.cells.length c3 ∧ f201 99 = .int .i64 (x1.cells.length : Int) ∧ f201 100 = .int .i64 x132 ∧ f201 109 = .slice A124 (((x1.cells.length : Int)).toNat) c125 ∧ f201 110 = .int .i64 x132 ∧ f201 111 = .pointer (some ⟨b173, 0 + (x132 : Int).toNat * 1, none⟩) ∧ f201 112 = .int .u8 ((x134.getD ((x132).toNat) (0 : UInt8)).toNat : Int) ∧ f201 113 = .bool (decide (((x134.getD ((x132).toNat) (0 : UInt8)).toNat : Int) ≠ 0)) ∧ Row tByte 5 H (hp w200) F207 A124 c125 x208 ∧ w200.heap[g11]? = some (.cells #[.slice A2 x1.cells.length c3, .slice A6 x1.trail.length c7] 34 (0, 0)) ∧ Row st86 86 H (hp w200) F205 A203 c204 x202 ∧ x208.length = ((x1.cells.length : Int)).toNat ∧ St (anyOf []) H w [F207, (is g11), F205] H w200 ∧ impl_Store_ok.l4 k224 x1 x132 x202 x208 = some r) k146 ⟨_, [(⟨x132, 0⟩ : GStep)], (some ⟨g181, 0, none⟩), 1, (or2 (is g181) no), F197, (x134.set ((x132).toNat) (1 : UInt8)), (by omega), rfl, (by exact e136), (by exact e137), (by kernel_rfl), (by exact e138), (by exact e139), (by exact e140), (by kernel_rfl), (by kernel_rfl), (by kernel_rfl), (by kernel_rfl), (by kernel_rfl), h196, b12, h187, (List.length_set.trans n135), S230, M⟩ ?_
    clear M
    rintro k224 a225 w200 ⟨f201, x202, A203, c204, F205, F207, x208, z223, rfl, e210, e211, e212, e213, e214, e215, e216, e217, e218, e219, e220, h196, b12, h206, n209, S221, M⟩
    rcases k224 with _ | k226
    · rw [impl_Store_ok.l4] at M
      cases M
    rw [impl_Store_ok.l4] at M
    refine wp_seq (wp_seq (wR (lV 121 (eM (.slice A203 x202.length c204) (by exact e212)) (lV 122 (e_len (A := A203) (n := x202.length) (c := c204) Try.underlying87 (by kernel_rfl)) (lV 123 (e_gtr (k := .i64) (a := (x202.length : Int)) (b := 0) (by kernel_rfl) rfl) (wN (then_n ?_)))))))
    by_cases q231 : (x202.length : Int) > 0
    · replace M := ifp q231 M
      refine cT (bT q231) (wp_skip (then_n (wp_block (wp_seq (wR (lV 124 (eM (.slice A203 x202.length c204) (by exact e212)) (lV 125 (eM (.slice A203 x202.length c204) (by exact e212)) ?_)))))))
      refine lV 126 (e_len (A := A203) (n := x202.length) (c := c204) Try.underlying87 (by kernel_rfl)) (lV 127 (e_sub (k := .i64) (a := (x202.length : Int)) (b := 1) (by kernel_rfl) rfl) ?_)
      obtain ⟨q232, M⟩ := chk M
      obtain ⟨q233, M⟩ := chk M
      obtain ⟨b234, e236⟩ := Row.addr h206 (show ((IntKind.i64.wrap ((x202.length : Int) - 1))).toNat < x202.length by omega)
      refine lV 128 (eI b234 0 x202.length c204 2 (IntKind.i64.wrap ((x202.length : Int) - 1)) .i64 Try.underlying87 e236 q232 q233) (lV 13 (eA (.pointer (some ⟨b234, 0 + ((IntKind.i64.wrap ((x202.length : Int) - 1)) : Int).toNat * 2, none⟩))) (wN (then_n (wp_seq ?_))))
      refine region_mix (S := (fun (L_ : Array Bool) (w_ : World) => Ext H (hp w_) ∧ (∀ b_, F205 b_ → hp w_ b_ = hp w200 b_))) (by kernel_rfl) S221 ?_
      intro w237 S238 K239 hc240
      have o241 := h206
      have hs242 : (fun (L_ : Array Bool) (w_ : World) => Ext H (hp w_) ∧ (∀ b_, F205 b_ → hp w_ b_ = hp w200 b_)) (Array.replicate 15 false) w237 := ⟨S238.inv, (fun b_ h_ => K239.at 2 rfl b_ h_)⟩
      replace h196 := h196.move (K239.at 0 rfl)
      replace b12 := K239.blk 1 rfl b12
      replace h206 := h206.move (K239.at 2 rfl)
      refine xV 0 130 rfl hc240 hs242 (fun L_ w_ hc_ hu_ hs_ => eM (.func (.func 66) #[] #[.pointer (some ⟨g11, 0, none⟩)]) (by exact e211)) ?_; intro hc243 hs244
      refine xV 1 131 rfl hc243 hs244 (fun L_ w_ hc_ hu_ hs_ => eM (.pointer (some ⟨b234, 0 + ((IntKind.i64.wrap ((x202.length : Int) - 1)) : Int).toNat * 2, none⟩))) ?_; intro hc245 hs246
      refine xV 2 132 rfl hc245 hs246 (fun L_ w_ hc_ hu_ hs_ => eN ⟨b234, 0 + ((IntKind.i64.wrap ((x202.length : Int) - 1)) : Int).toNat * 2, none⟩) ?_; intro hc247 hs248
      refine xV 3 133 rfl hc247 hs248 (fun L_ w_ hc_ hu_ hs_ => eD b234 (0 + ((IntKind.i64.wrap ((x202.length : Int) - 1)) : Int).toNat * 2) 0 1 Try.underlying86) ?_; intro hc249 hs250
      refine xV 4 134 rfl hc249 hs250 (fun L_ w_ hc_ hu_ hs_ => eL ⟨b234, 0 + ((IntKind.i64.wrap ((x202.length : Int) - 1)) : Int).toNat * 2 + 0, none⟩ (.int .i64 ((x202.getD (((IntKind.i64.wrap ((x202.length : Int) - 1))).toNat) z86).at_)) Try.underlying3 (hpx (Row.pick (j := 0) (u := .int .i64 ((x202.getD (((IntKind.i64.wrap ((x202.length : Int) - 1))).toNat) z86).at_)) (o241.move hs_.2) e236 (getD_some z86 (show ((IntKind.i64.wrap ((x202.length : Int) - 1))).toNat < x202.length by omega)) (fun _ _ o_ => st86_c0 o_)))) ?_; intro hc251 hs252
      refine xO 5 hc251 ?_
      refine yO 5 135 rfl hs252 (eM (.pointer (some ⟨b234, 0 + ((IntKind.i64.wrap ((x202.length : Int) - 1)) : Int).toNat * 2, none⟩))) ?_; intro hc253 hs254
      refine xO 6 hc253 ?_
      refine yO 6 136 rfl hs254 (eN ⟨b234, 0 + ((IntKind.i64.wrap ((x202.length : Int) - 1)) : Int).toNat * 2, none⟩) ?_; intro hc255 hs256
      refine xO 7 hc255 ?_
      refine yO 7 137 rfl hs256 (eD b234 (0 + ((IntKind.i64.wrap ((x202.length : Int) - 1)) : Int).toNat * 2) 1 1 Try.underlying86) ?_; intro hc257 hs258
      refine xO 8 hc257 ?_
      refine yO 8 138 rfl hs258 (eL ⟨b234, 0 + ((IntKind.i64.wrap ((x202.length : Int) - 1)) : Int).toNat * 2 + 1, none⟩ (.int .i64 ((x202.getD (((IntKind.i64.wrap ((x202.length : Int) - 1))).toNat) z86).next_)) Try.underlying3 (hpx (Row.pick (j := 1) (u := .int .i64 ((x202.getD (((IntKind.i64.wrap ((x202.length : Int) - 1))).toNat) z86).next_)) h206 e236 (getD_some z86 (show ((IntKind.i64.wrap ((x202.length : Int) - 1))).toNat < x202.length by omega)) (fun _ _ o_ => st86_c1 o_)))) ?_; intro hc259 hs260
      obtain ⟨t261, u262, M⟩ := bnd M
      refine xO 9 hc259 ?_
      refine yC 9 rfl (e_callv (l := [.tmp 134, .tmp 138]) (vs := [.int .i64 ((x202.getD (((IntKind.i64.wrap ((x202.length : Int) - 1))).toNat) z86).at_), .int .i64 ((x202.getD (((IntKind.i64.wrap ((x202.length : Int) - 1))).toNat) z86).next_)]) (cs := [.pointer (some ⟨g11, 0, none⟩)]) Try.func66 (by kernel_rfl) rfl (by kernel_rfl) (by kernel_rfl)) (by have S263 := S238.pull (F := (is g11)) (Fr := [F207, F205]) 1 rfl rfl; obtain ⟨H264, S265, E266, h267, z268⟩ := S263.frzBlk b12; replace h196 := h196.ext E266; replace h206 := h206.ext E266; exact (impl_Store_ok_c1.calls w237 H264 ((x202.getD (((IntKind.i64.wrap ((x202.length : Int) - 1))).toNat) z86).at_) ((x202.getD (((IntKind.i64.wrap ((x202.length : Int) - 1))).toNat) z86).next_) x1 g11 A2 c3 A6 c7 (h4.ext E266) l5 (h8.ext E266) l9 h267 S265.own0 t261 u262)) ?_
      rintro hc271 _ w269 ⟨rfl, C270⟩
      refine ⟨_, rfl, ?_⟩
      obtain ⟨S272, K273⟩ := S238.still C270
      replace h196 := h196.move (K273.at 0 rfl)
      replace b12 := K273.blk 1 rfl b12
      replace h206 := h206.move (K273.at 2 rfl)
      refine ⟨⟨S272.inv, (fun b_ h_ => (K273.at 2 rfl b_ h_).trans (hs260.2 b_ h_))⟩, fun hs274 => ?_⟩
      refine xO 10 hc271 ?_
      refine yO 10 129 rfl hs274 (eM (.tuple #[.int .i64 t261.1, .bool t261.2])) ?_; intro hc275 hs276
      refine xV 11 140 rfl hc275 hs276 (fun L_ w_ hc_ hu_ hs_ => e_extract (vs := #[.int .i64 t261.1, .bool t261.2]) (v := .int .i64 t261.1) (by kernel_rfl) rfl) ?_; intro hc277 hs278
      refine xV 12 141 rfl hc277 hs278 (fun L_ w_ hc_ hu_ hs_ => e_extract (vs := #[.int .i64 t261.1, .bool t261.2]) (v := .bool t261.2) (by kernel_rfl) rfl) ?_; intro hc279 hs280
      refine xO 13 hc279 ?_
      refine yO 13 14 rfl hs280 (eA (.int .i64 t261.1)) ?_; intro hc281 hs282
      refine xO 14 hc281 ?_
      refine yO 14 15 rfl hs282 (eA (.bool t261.2)) ?_; intro hc283 hs284
      refine xn (by kernel_rfl) ?_ _
      refine then_n (wp_seq (wp_seq (wR (lV 142 (eM (.bool t261.2)) (lV 143 (e_notv (c := t261.2) (by kernel_rfl)) (wN (then_n ?_)))))))
      by_cases q285 : ¬ (t261.2 = true)
      · replace M := ifp q285 M
        refine cT (bT q285) (wp_seq (wR (lV 144 (eM (.slice A124 (((x1.cells.length : Int)).toNat) c125) (by exact e210)) (lV 145 (eM (.pointer (some ⟨b234, 0 + ((IntKind.i64.wrap ((x202.length : Int) - 1)) : Int).toNat * 2, none⟩))) (lV 146 (eN ⟨b234, 0 + ((IntKind.i64.wrap ((x202.length : Int) - 1)) : Int).toNat * 2, none⟩) (lV 147 (eD b234 (0 + ((IntKind.i64.wrap ((x202.length : Int) - 1)) : Int).toNat * 2) 0 1 Try.underlying86) (lV 148 (eL ⟨b234, 0 + ((IntKind.i64.wrap ((x202.length : Int) - 1)) : Int).toNat * 2 + 0, none⟩ (.int .i64 ((x202.getD (((IntKind.i64.wrap ((x202.length : Int) - 1))).toNat) z86).at_)) Try.underlying3 (hpx (Row.pick (j := 0) (u := .int .i64 ((x202.getD (((IntKind.i64.wrap ((x202.length : Int) - 1))).toNat) z86).at_)) h206 e236 (getD_some z86 (show ((IntKind.i64.wrap ((x202.length : Int) - 1))).toNat < x202.length by omega)) (fun _ _ o_ => st86_c0 o_)))) ?_)))))))
        obtain ⟨q286, M⟩ := chk M
        obtain ⟨q287, M⟩ := chk M
        obtain ⟨b288, e290⟩ := Row.addr h196 (show ((x202.getD (((IntKind.i64.wrap ((x202.length : Int) - 1))).toNat) z86).at_).toNat < x208.length by have : x208.length = ((x1.cells.length : Int)).toNat := n209; omega)
        refine lV 149 (eI b288 0 ((x1.cells.length : Int)).toNat c125 1 (x202.getD (((IntKind.i64.wrap ((x202.length : Int) - 1))).toNat) z86).at_ .i64 Try.underlying26 e290 q286 q287) ?_
        have S291 := S272.unit
        have S292 := S291.pulls [F207, no, (is g11), F205] [1] rfl
        refine lE (e_setel (d := tByte) (b := b288) (i := ((x202.getD (((IntKind.i64.wrap ((x202.length : Int) - 1))).toNat) z86).at_).toNat) (v := .int .u8 2) (vs := [.int .u8 2]) (yv := (2 : UInt8)) S292 (by kernel_rfl) e290 rfl rfl (by kernel_rfl) h196 (show ((x202.getD (((IntKind.i64.wrap ((x202.length : Int) - 1))).toNat) z86).at_).toNat < x208.length by have : x208.length = ((x1.cells.length : Int)).toNat := n209; omega) rfl) ?_
        rintro w293 ⟨F295, h294, S296, K297⟩
        replace b12 := K297.blk 0 rfl b12
        replace h206 := h206.move (K297.at 1 rfl)
        clear h196
        refine wN (then_n (wp_seq (wR (lV 150 (eM (.slice A203 x202.length c204) (by exact e212)) (lV 151 (eM (.slice A203 x202.length c204) (by exact e212)) (lV 152 (e_len (A := A203) (n := x202.length) (c := c204) Try.underlying87 (by kernel_rfl)) (lV 153 (e_sub (k := .i64) (a := (x202.length : Int)) (b := 1) (by kernel_rfl) rfl) ?_)))))))
        obtain ⟨q298, M⟩ := chk M
        refine lV 154 (e_slice_h (xs := x202) (n := x202.length) (m := 2) (cap := c204) (A := A203) (b := (IntKind.i64.wrap ((x202.length : Int) - 1))) (k2 := .i64) Try.underlying87 (by kernel_rfl) (by kernel_rfl) (by kernel_rfl) q232 q298 (by have := h206.le; have := (rfl : x202.length = x202.length); omega) (take_len q232 q298 rfl)) ?_
        have h299 := h206.cut (n := ((IntKind.i64.wrap ((x202.length : Int) - 1)) : Int).toNat) (by have := (rfl : x202.length = x202.length); omega)
        clear h206
        refine lV 12 (eA (.slice A203 ((x202.take (((IntKind.i64.wrap ((x202.length : Int) - 1)) : Int).toNat)).length) c204)) (wN (then_n (wp_exit (then_e (inb_hit (then_n ?_))))))
        exact ⟨k226, (by omega), _, (x202.take (((IntKind.i64.wrap ((x202.length : Int) - 1)) : Int).toNat)), A203, c204, F205, F295, (x208.set (((x202.getD (((IntKind.i64.wrap ((x202.length : Int) - 1))).toNat) z86).at_).toNat) (2 : UInt8)), (by omega), rfl, (by exact e210), (by exact e211), (by kernel_rfl), (by exact e213), (by exact e214), (by exact e215), (by exact e216), (by exact e217), (by exact e218), (by exact e219), (by exact e220), h294, b12, h299, (List.length_set.trans n209), S296, M⟩
      replace M := ifn q285 M
      refine cF (bF q285) (wp_skip (then_n (wp_seq (wR (lV 155 (eM (.pointer (some ⟨b234, 0 + ((IntKind.i64.wrap ((x202.length : Int) - 1)) : Int).toNat * 2, none⟩))) (lV 156 (eN ⟨b234, 0 + ((IntKind.i64.wrap ((x202.length : Int) - 1)) : Int).toNat * 2, none⟩) (lV 157 (eD b234 (0 + ((IntKind.i64.wrap ((x202.length : Int) - 1)) : Int).toNat * 2) 1 1 Try.underlying86) ?_)))))))
      refine lV 158 (eL ⟨b234, 0 + ((IntKind.i64.wrap ((x202.length : Int) - 1)) : Int).toNat * 2 + 1, none⟩ (.int .i64 ((x202.getD (((IntKind.i64.wrap ((x202.length : Int) - 1))).toNat) z86).next_)) Try.underlying3 (hpx (Row.pick (j := 1) (u := .int .i64 ((x202.getD (((IntKind.i64.wrap ((x202.length : Int) - 1))).toNat) z86).next_)) h206 e236 (getD_some z86 (show ((IntKind.i64.wrap ((x202.length : Int) - 1))).toNat < x202.length by omega)) (fun _ _ o_ => st86_c1 o_)))) (lV 159 (eAdd .i64 (x202.getD (((IntKind.i64.wrap ((x202.length : Int) - 1))).toNat) z86).next_ 1) (lV 160 (eN ⟨b234, 0 + ((IntKind.i64.wrap ((x202.length : Int) - 1)) : Int).toNat * 2, none⟩) (lV 161 (eD b234 (0 + ((IntKind.i64.wrap ((x202.length : Int) - 1)) : Int).toNat * 2) 1 1 Try.underlying86) ?_)))
      have S300 := S272.pulls [F205, F207, (is g11)] [2] rfl
      have S301 := S300.unit
      have S302 := S301.pulls [F205, no, F207, (is g11)] [1] rfl
      refine lE (e_setpart (d := st86) (b := b234) (i := ((IntKind.i64.wrap ((x202.length : Int) - 1))).toNat) (j := 1) (v := .int .i64 (IntKind.i64.wrap (((x202.getD (((IntKind.i64.wrap ((x202.length : Int) - 1))).toNat) z86).next_) + 1))) (vs := [.int .i64 (IntKind.i64.wrap (((x202.getD (((IntKind.i64.wrap ((x202.length : Int) - 1))).toNat) z86).next_) + 1))]) (yv := {(x202.getD (((IntKind.i64.wrap ((x202.length : Int) - 1))).toNat) z86) with next_ := (IntKind.i64.wrap (((x202.getD (((IntKind.i64.wrap ((x202.length : Int) - 1))).toNat) z86).next_) + 1))}) S302 (by kernel_rfl) e236 (by kernel_rfl) rfl (by kernel_rfl) h206 (getD_some z86 (show ((IntKind.i64.wrap ((x202.length : Int) - 1))).toNat < x202.length by omega)) (Nat.le_of_ble_eq_true rfl) (List.forall_mem_cons.2 ⟨rfl, (fun _ h_ => by cases h_)⟩) (fun _ _ _ o_ => st86_u1 (IntKind.i64.wrap (((x202.getD (((IntKind.i64.wrap ((x202.length : Int) - 1))).toNat) z86).next_) + 1)) o_)) ?_
      rintro w303 ⟨F305, h304, S306, K307⟩
      replace h196 := h196.move (K307.at 0 rfl)
      replace b12 := K307.blk 1 rfl b12
      clear h206
      refine wN (then_n (wp_seq (wR (lV 162 (eM (.slice A124 (((x1.cells.length : Int)).toNat) c125) (by exact e210)) (lV 163 (eM (.int .i64 t261.1)) ?_)))))
      obtain ⟨q308, M⟩ := chk M
      obtain ⟨q309, M⟩ := chk M
      obtain ⟨b310, e312⟩ := Row.addr h196 (show (t261.1).toNat < x208.length by have : x208.length = ((x1.cells.length : Int)).toNat := n209; omega)
      refine lV 164 (eI b310 0 ((x1.cells.length : Int)).toNat c125 1 t261.1 .i64 Try.underlying26 e312 q308 q309) (lV 165 (eL ⟨b310, 0 + (t261.1 : Int).toNat * 1, none⟩ (.int .u8 ((x208.getD ((t261.1).toNat) (0 : UInt8)).toNat : Int)) Try.underlying5 (hpx (Row.pick (j := 0) (u := .int .u8 ((x208.getD ((t261.1).toNat) (0 : UInt8)).toNat : Int)) h196 e312 (getD_some (0 : UInt8) (show (t261.1).toNat < x208.length by have : x208.length = ((x1.cells.length : Int)).toNat := n209; omega)) (fun _ _ o_ => by rw [show _ = _ from o_]; rfl)))) (wN (then_n (wp_block (wp_seq (wR (lV 167 (eEq .u8 ((x208.getD ((t261.1).toNat) (0 : UInt8)).toNat : Int) 0) ?_)))))))
      refine lV 166 (eA (.bool (decide (((x208.getD ((t261.1).toNat) (0 : UInt8)).toNat : Int) = 0)))) (wN (then_n ?_))
      by_cases q313 : ((x208.getD ((t261.1).toNat) (0 : UInt8)).toNat : Int) = 0
      · replace M := ifp q313 M
        refine cT (bT q313) (wp_seq (wR (lV 168 (eM (.slice A124 (((x1.cells.length : Int)).toNat) c125) (by exact e210)) (lV 169 (eM (.int .i64 t261.1)) ?_))))
        obtain ⟨b314, e316⟩ := Row.addr h196 (show (t261.1).toNat < x208.length by have : x208.length = ((x1.cells.length : Int)).toNat := n209; omega)
        refine lV 170 (eI b314 0 ((x1.cells.length : Int)).toNat c125 1 t261.1 .i64 Try.underlying26 e316 q308 q309) ?_
        have S317 := S306.pulls [F207, F305, (is g11)] [1] rfl
        have S318 := S317.unit
        have S319 := S318.pulls [F207, no, F305, (is g11)] [1] rfl
        refine lE (e_setel (d := tByte) (b := b314) (i := (t261.1).toNat) (v := .int .u8 1) (vs := [.int .u8 1]) (yv := (1 : UInt8)) S319 (by kernel_rfl) e316 rfl rfl (by kernel_rfl) h196 (show (t261.1).toNat < x208.length by have : x208.length = ((x1.cells.length : Int)).toNat := n209; omega) rfl) ?_
        rintro w320 ⟨F322, h321, S323, K324⟩
        replace h304 := h304.move (K324.at 0 rfl)
        replace b12 := K324.blk 1 rfl b12
        clear h196
        refine wN (then_n (wR (lV 171 (eM (.slice A203 x202.length c204) (by exact e212)) (lV 172 (eM (.int .i64 t261.1)) (lV 173 (show _ = Result.ok (Next.value (.agg #[.int .i64 t261.1, .int .i64 0])) w320 from by kernel_rfl) ?_)))))
        refine lW 174 (new_blk (v := fun g_ => .slice (some ⟨g_, 0, none⟩) 1 1) (cs := #[.int .i64 t261.1, .int .i64 0]) (t := 86) S323 (by kernel_rfl)) ?_
        rintro _ w325 ⟨g326, rfl, b327, S328, K329⟩
        replace h321 := h321.move (K329.at 0 rfl)
        replace h304 := h304.move (K329.at 1 rfl)
        replace b12 := K329.blk 2 rfl b12
        obtain ⟨q330, M⟩ := chk M
        have S331 := S328.pulls [F305, (is g326), F322, (is g11)] [2] rfl
        have S332 := S331.unit
        have S333 := S332.pulls [F305, no, (is g326), F322, (is g11)] [1] rfl
        refine lW 175 (e_append (d := st86) (n := x202.length) (xs := (x202.set (((IntKind.i64.wrap ((x202.length : Int) - 1))).toNat) ({(x202.getD (((IntKind.i64.wrap ((x202.length : Int) - 1))).toNat) z86) with next_ := (IntKind.i64.wrap (((x202.getD (((IntKind.i64.wrap ((x202.length : Int) - 1))).toNat) z86).next_) + 1))}))) (cap := c204) (A := A203) (ys := [(⟨t261.1, 0⟩ : GStep)]) (A2 := (some ⟨g326, 0, none⟩)) (c2 := 1) (z := .agg #[.int .i64 0, .int .i64 0]) (bytes := 16) S333 Try.underlying87 (by kernel_rfl) rfl (by decide) (by kernel_rfl) (List.length_set.trans rfl) (by kernel_rfl) h304 (elsO_one1 (st86_mkO (x := (⟨t261.1, 0⟩ : GStep)))) (.inr (blk_news b327 rfl)) (show (x202.length + [(⟨t261.1, 0⟩ : GStep)].length) * 16 ≤ _ by first | omega | (simp only [List.length_cons, List.length_nil]; omega)) (by decide)) ?_
        rintro _ w334 ⟨A335, c336, F337, rfl, h338, S339, K340⟩
        replace h321 := h321.move (K340.at 1 rfl)
        replace b12 := K340.blk 2 rfl b12
        refine lV 12 (eA (.slice A335 (((x202.set (((IntKind.i64.wrap ((x202.length : Int) - 1))).toNat) ({(x202.getD (((IntKind.i64.wrap ((x202.length : Int) - 1))).toNat) z86) with next_ := (IntKind.i64.wrap (((x202.getD (((IntKind.i64.wrap ((x202.length : Int) - 1))).toNat) z86).next_) + 1))})) ++ [(⟨t261.1, 0⟩ : GStep)]).length) c336)) (wN (inb_n (inb_n (then_n ?_))))
        have S342 := S339.pulls [F322, (is g11), F337, (is g326)] [3, 3] rfl
        have S343 := St.first (Fa := [F322, (is g11), F337]) (Fr := [(is g326)]) S342
        exact ⟨k226, (by omega), _, ((x202.set (((IntKind.i64.wrap ((x202.length : Int) - 1))).toNat) ({(x202.getD (((IntKind.i64.wrap ((x202.length : Int) - 1))).toNat) z86) with next_ := (IntKind.i64.wrap (((x202.getD (((IntKind.i64.wrap ((x202.length : Int) - 1))).toNat) z86).next_) + 1))})) ++ [(⟨t261.1, 0⟩ : GStep)]), A335, c336, F337, F322, (x208.set ((t261.1).toNat) (1 : UInt8)), (by omega), rfl, (by exact e210), (by exact e211), (by kernel_rfl), (by exact e213), (by exact e214), (by exact e215), (by exact e216), (by exact e217), (by exact e218), (by exact e219), (by exact e220), h321, b12, h338, (List.length_set.trans n209), S343, M⟩
      replace M := ifn q313 M
      refine cF (bF q313) (wp_seq (wR (lV 177 (eEq .u8 ((x208.getD ((t261.1).toNat) (0 : UInt8)).toNat : Int) 1) (lV 176 (eA (.bool (decide (((x208.getD ((t261.1).toNat) (0 : UInt8)).toNat : Int) = 1)))) (wN (then_n ?_))))))
      by_cases q344 : ((x208.getD ((t261.1).toNat) (0 : UInt8)).toNat : Int) = 1
      · replace M := ifp q344 M
        refine cT (bT q344) (wp_seq (wR (lV 2 (eA (.bool false)) (wN (then_n (wp_ret (inb_r ?_)))))))
        refine inb_r (then_r (inb_r (inb_r (then_r (then_r (inb_r (then_r ?_)))))))
        obtain rfl := Option.some.inj M
        exact ret1 rfl rfl  (show _ = .bool false from (by kernel_rfl)) ⟨rfl, S306.chg⟩
      replace M := ifn q344 M
      refine cF (bF q344) (wp_skip (inb_n (inb_n (then_n ?_))))
      have S346 := S306.pulls [F207, (is g11), F305] [2, 2] rfl
      exact ⟨k226, (by omega), _, (x202.set (((IntKind.i64.wrap ((x202.length : Int) - 1))).toNat) ({(x202.getD (((IntKind.i64.wrap ((x202.length : Int) - 1))).toNat) z86) with next_ := (IntKind.i64.wrap (((x202.getD (((IntKind.i64.wrap ((x202.length : Int) - 1))).toNat) z86).next_) + 1))})), A203, c204, F305, F207, x208, (by omega), rfl, (by exact e210), (by exact e211), (by rw [(show (x202.set (((IntKind.i64.wrap ((x202.length : Int) - 1))).toNat) ({(x202.getD (((IntKind.i64.wrap ((x202.length : Int) - 1))).toNat) z86) with next_ := (IntKind.i64.wrap (((x202.getD (((IntKind.i64.wrap ((x202.length : Int) - 1))).toNat) z86).next_) + 1))})).length = x202.length from (List.length_set.trans rfl))]; exact (by exact e212)), (by exact e213), (by exact e214), (by exact e215), (by exact e216), (by exact e217), (by exact e218), (by exact e219), (by exact e220), h196, b12, h304, n209, S346, M⟩
    replace M := ifn q231 M
    refine cF (bF q231) (wp_exit (then_e (then_e (inb_hit (inb_n (then_n (wR ?_)))))))
    refine lV 178 (eAdd .i64 x132 1 (by exact e215)) (lV 100 (eM (.int .i64 (IntKind.i64.wrap (x132 + 1)))) (wN (then_n ?_)))
    have S348 := S221.pulls [F207, (is g11), F205] [1, 1] rfl
    have S349 := St.first (Fa := [F207, (is g11)]) (Fr := [F205]) S348
    exact ⟨k226, (by omega), _, (IntKind.i64.wrap (x132 + 1)), F207, x208, (by omega), rfl, (by exact e210), (by exact e211), (by exact e213), (by exact e214), (by kernel_rfl), h196, b12, n209, S349, M⟩
  replace M := ifn q147 M
  refine cF (bF q147) (wp_exit (then_e (then_e (inb_hit (then_n (wp_seq (wR ?_)))))))
  refine lV 2 (eA (.bool true)) (wN (then_n (wp_ret ?_)))
  obtain rfl := Option.some.inj M
  exact ret1 rfl rfl  (show _ = .bool true from (by kernel_rfl)) ⟨rfl, S141.chg⟩

/-! impl_ValidStore -/
def impl_ValidStore.f (k : Nat) (x1 : Store) (x10 : Cell) : Option Bool := ((impl_Store_ok.f k x1).bind fun t25 => (if t25 = true then ((impl_Store_points.f x1 x10).bind fun t32 => some t32) else some false))
theorem impl_ValidStore.calls (k : Nat) (w : World) (H : Hp) (x1 : Store) (A2 : Option Addr) (c3 : Nat) (A6 : Option Addr) (c7 : Nat) (x10 : Cell) (A11 : Option Addr) (c12 : Nat) (h4 : Rd st36 H A2 x1.cells) (l5 : x1.cells.length ≤ c3) (h8 : Rd tInt H A6 x1.trail) (l9 : x1.trail.length ≤ c7) (h13 : Rd tByte H A11 x10.text) (l14 : x10.text.length ≤ c12) (S : Own [] H w) (r : Bool) (M : impl_ValidStore.f k x1 x10 = some r) :
    Calls Try.prog 14 #[.agg #[.slice A2 x1.cells.length c3, .slice A6 x1.trail.length c7], .agg #[.int .i64 x10.kind, .int .i64 x10.n, .slice A11 x10.text.length c12]] w (fun e e_w => e = .returned (.bool r) ∧ Chg no w e_w) := by
  rw [impl_ValidStore.f] at M
  refine enter (l := [.agg #[.slice A2 x1.cells.length c3, .slice A6 x1.trail.length c7], .agg #[.int .i64 x10.kind, .int .i64 x10.n, .slice A11 x10.text.length c12]]) 12 Try.func14 rfl rfl rfl ?_
  have S0_ := S.st
  refine wp_seq (wR ?_)
  refine lW 2 (nB #[.slice A2 x1.cells.length c3, .slice A6 x1.trail.length c7] 34 S0_) ?_
  rintro _ w15 ⟨g16, rfl, b17, S18, K19⟩
  refine lW 3 (nB #[.int .i64 x10.kind, .int .i64 x10.n, .slice A11 x10.text.length c12] 36 S18) ?_
  rintro _ w20 ⟨g21, rfl, b22, S23, K24⟩
  replace b17 := K24.blk 0 rfl b17
  refine lV 4 (eA (.bool false)) (wN (then_n (wp_seq (wR (lV 5 (e_loadS (b := g16) (off := 0) (cs := [.slice A2 x1.cells.length c3, .slice A6 x1.trail.length c7]) Try.underlying34 rfl (by kernel_rfl) (by kernel_rfl) (blk_cells b17 rfl)) ?_)))))
  obtain ⟨t25, u26, M⟩ := bnd M
  refine lC 6 (eC [.tmp 5] [.agg #[.slice A2 x1.cells.length c3, .slice A6 x1.trail.length c7]] Try.func42) (impl_Store_ok.calls k w20 H x1 A2 c3 A6 c7 h4 l5 h8 l9 S23.own0 t25 u26) ?_
  rintro _ w27 ⟨rfl, C28⟩
  refine ⟨_, rfl, ?_⟩
  obtain ⟨S29, K30⟩ := S23.still C28
  replace b22 := K30.blk 0 rfl b22
  replace b17 := K30.blk 1 rfl b17
  refine lV 7 (eM (.bool t25)) ?_
  by_cases q31 : t25 = true
  · replace M := ifp q31 M
    refine lG 8 7 (bvt q31 (by kernel_rfl)) (e_loadS (b := g16) (off := 0) (cs := [.slice A2 x1.cells.length c3, .slice A6 x1.trail.length c7]) Try.underlying34 rfl (by kernel_rfl) (by kernel_rfl) (blk_cells b17 rfl)) (lG 9 7 (bvt q31 (by kernel_rfl)) (e_loadS (b := g21) (off := 0) (cs := [.int .i64 x10.kind, .int .i64 x10.n, .slice A11 x10.text.length c12]) Try.underlying36 rfl (by kernel_rfl) (by kernel_rfl) (blk_cells b22 rfl)) ?_)
    obtain ⟨t32, u33, M⟩ := bnd M
    refine lcallg (d := 10) (t := 7) rfl (by kernel_rfl) rfl (bvt q31 (by kernel_rfl)) rfl (by kernel_rfl) (eC [.tmp 8, .tmp 9] [.agg #[.slice A2 x1.cells.length c3, .slice A6 x1.trail.length c7], .agg #[.int .i64 x10.kind, .int .i64 x10.n, .slice A11 x10.text.length c12]] Try.func43) (impl_Store_points.calls w27 H x1 A2 c3 A6 c7 x10 A11 c12 h4 l5 h8 l9 h13 l14 S29.own0 t32 u33) ?_
    rintro _ w34 ⟨rfl, C35⟩
    refine ⟨_, rfl, ?_⟩
    obtain ⟨S36, K37⟩ := S29.still C35
    refine lV 11 (eT (.bool t32) (bvt q31 (by kernel_rfl))) (lV 4 (eA (.bool t32)) (wN (then_n (wp_ret ?_))))
    obtain rfl := Option.some.inj M
    exact ret1 rfl rfl  (show _ = .bool t32 from (by kernel_rfl)) ⟨rfl, S36.chg⟩
  replace M := ifn q31 M
  refine lK 7 false (bvf q31 (by kernel_rfl)) ?_
  refine lK 7 false (bvf q31 (by kernel_rfl)) ?_
  refine lK 7 false (bvf q31 (by kernel_rfl)) ?_
  refine lV 11 (eF (.bool false) (bvf q31 (by kernel_rfl))) (lV 4 (eA (.bool false)) (wN (then_n (wp_ret ?_))))
  obtain rfl := Option.some.inj M
  exact ret1 rfl rfl  (show _ = .bool false from (by kernel_rfl)) ⟨rfl, S29.chg⟩

/-! impl_copyCell -/
def impl_copyCell.f (x1 : Cell) : Option Cell := (if 0 + x1.text.length ≤ 140737488355328 then some (⟨x1.kind, x1.n, (([] : List UInt8) ++ x1.text)⟩ : Cell) else none)
theorem impl_copyCell.calls (w : World) (H : Hp) (x1 : Cell) (A2 : Option Addr) (c3 : Nat) (h4 : Rd tByte H A2 x1.text) (l5 : x1.text.length ≤ c3) (S : Own [] H w) (r : Cell) (M : impl_copyCell.f x1 = some r) :
    Calls Try.prog 49 #[.agg #[.int .i64 x1.kind, .int .i64 x1.n, .slice A2 x1.text.length c3]] w (fun e e_w => ∃ (A_1 : Option Addr) (c_1 : Nat) (F_1 : Foot) (H_ : Hp), e = .returned (.agg #[.int .i64 r.kind, .int .i64 r.n, .slice A_1 r.text.length c_1]) ∧ Row tByte 5 H_ (hp e_w) F_1 A_1 c_1 r.text ∧ St (anyOf []) H w [F_1] H_ e_w) := by
  rw [impl_copyCell.f] at M
  refine enter (l := [.agg #[.int .i64 x1.kind, .int .i64 x1.n, .slice A2 x1.text.length c3]]) 9 Try.func49 rfl rfl rfl ?_
  have S0_ := S.st
  refine wp_seq (wR ?_)
  refine lW 1 (nB #[.int .i64 x1.kind, .int .i64 x1.n, .slice A2 x1.text.length c3] 36 S0_) ?_
  rintro _ w6 ⟨g7, rfl, b8, S9, K10⟩
  refine lW 2 (nB #[.int .i64 0, .int .i64 0, .slice none 0 0] 36 S9) ?_
  rintro _ w11 ⟨g12, rfl, b13, S14, K15⟩
  replace b8 := K15.blk 0 rfl b8
  refine wN (then_n (wp_seq (wR ?_)))
  refine lW 3 (new_blk (v := fun g_ => .slice (some ⟨g_, 0, none⟩) 0 0) (cs := #[]) (t := 5) S14 (by kernel_rfl)) ?_
  rintro _ w16 ⟨g17, rfl, b18, S19, K20⟩
  replace b13 := K20.blk 0 rfl b13
  replace b8 := K20.blk 1 rfl b8
  have S21 := S19.unit
  have S22 := S21.pulls [(is g17), no, (is g12), (is g7)] [1] rfl
  obtain ⟨h23, S24⟩ := row_lit (d := tByte) (xs := ([] : List UInt8)) S22 b18 rfl (elsO_nil _ _ _ no) (Nat.le_of_ble_eq_true rfl)
  refine lV 4 (eD g7 0 2 1 Try.underlying36) (lV 5 (eL ⟨g7, 0 + 2, none⟩ (.slice A2 x1.text.length c3) Try.underlying26 (blk_cell b8 rfl)) ?_)
  obtain ⟨y25, h26, h27⟩ := Rd.news (d := tByte) (ro_scal _ _) S24 h4
  obtain ⟨q28, M⟩ := chk M
  have S29 := S24.unit
  have S30 := S29.pulls [(or2 (is g17) no), no, (is g12), (is g7)] [1] rfl
  refine lW 6 (e_append (d := tByte) (n := 0) (xs := ([] : List UInt8)) (cap := 0) (A := (some ⟨g17, 0, none⟩)) (ys := x1.text) (A2 := A2) (c2 := c3) (z := .int .u8 0) (bytes := 1) S30 Try.underlying26 (by kernel_rfl) rfl (by decide) (by kernel_rfl) rfl (by kernel_rfl) h23 h26 h27 (show (0 + x1.text.length) * 1 ≤ _ by first | omega | (simp only [List.length_cons, List.length_nil]; omega)) (by decide)) ?_
  rintro _ w31 ⟨A32, c33, F34, rfl, h35, S36, K37⟩
  replace b13 := K37.blk 0 rfl b13
  replace b8 := K37.blk 1 rfl b8
  refine lV 7 (eD g7 0 2 1 Try.underlying36) ?_
  have S38 := S36.pulls [(is g7), F34, (is g12)] [2] rfl
  refine lE (eS g7 (0 + 2) (.slice A32 ((([] : List UInt8) ++ x1.text).length) c33) #[.int .i64 x1.kind, .int .i64 x1.n, .slice A32 ((([] : List UInt8) ++ x1.text).length) c33] [.slice A32 ((([] : List UInt8) ++ x1.text).length) c33] S38 b8) ?_
  rintro w39 ⟨b40, S41, K42⟩
  replace h35 := h35.move (K42.at 0 rfl)
  replace b13 := K42.blk 1 rfl b13
  clear b8
  refine wN (then_n (wp_seq (wR (lV 8 (e_loadS (b := g7) (off := 0) (cs := [.int .i64 x1.kind, .int .i64 x1.n, .slice A32 ((([] : List UInt8) ++ x1.text).length) c33]) Try.underlying36 rfl (by kernel_rfl) (by kernel_rfl) (blk_cells b40 rfl)) ?_))))
  have S43 := S41.pulls [(is g12), (is g7), F34] [2] rfl
  refine lE (eSa g12 0 [.int .i64 x1.kind, .int .i64 x1.n, .slice A32 ((([] : List UInt8) ++ x1.text).length) c33] S43 b13) ?_
  rintro w44 ⟨b45, S46, K47⟩
  replace h35 := h35.move (K47.at 1 rfl)
  clear b13
  refine wN (then_n (wp_ret ?_))
  obtain rfl := Option.some.inj M
  have S48 := S46.pulls [F34, (is g12), (is g7)] [2] rfl
  have S49 := St.first (Fa := [F34]) (Fr := [(is g12), (is g7)]) S48
  exact retS (ty := 36) (cur := #[.int .i64 x1.kind, .int .i64 x1.n, .slice A32 ((([] : List UInt8) ++ x1.text).length) c33]) rfl rfl (by kernel_rfl) b45 Try.underlying36 rfl (by kernel_rfl) ⟨A32, c33, F34, H, rfl, h35, S49⟩

/-! impl_copyStore -/
def impl_copyStore.l0 : Nat → Store → Int → (List Cell) → Option Store
  | 0, _, _, _ => none
  | k71 + 1, x1, x55, x56 => (if x55 < (x1.cells.length : Int) then (if 0 ≤ x55 then ((impl_copyCell.f (x1.cells.getD ((x55).toNat) z36)).bind fun t110 => (if x56.length + 1 ≤ 3518437208883 then (impl_copyStore.l0 k71 x1 (IntKind.i64.wrap (x55 + 1)) (x56 ++ [t110])) else none)) else none) else some (⟨x56, (([] : List Int) ++ x1.trail)⟩ : Store))
def impl_copyStore.f (k : Nat) (x1 : Store) : Option Store := (if 0 + x1.trail.length ≤ 17592186044416 then (impl_copyStore.l0 k x1 0 []) else none)
theorem impl_copyStore.calls (k : Nat) (w : World) (H : Hp) (x1 : Store) (A2 : Option Addr) (c3 : Nat) (A6 : Option Addr) (c7 : Nat) (h4 : Rd st36 H A2 x1.cells) (l5 : x1.cells.length ≤ c3) (h8 : Rd tInt H A6 x1.trail) (l9 : x1.trail.length ≤ c7) (S : Own [] H w) (r : Store) (M : impl_copyStore.f k x1 = some r) :
    Calls Try.prog 58 #[.agg #[.slice A2 x1.cells.length c3, .slice A6 x1.trail.length c7]] w (fun e e_w => ∃ (A_1 : Option Addr) (c_1 : Nat) (F_1 : Foot) (A_2 : Option Addr) (c_2 : Nat) (F_2 : Foot) (H_ : Hp), e = .returned (.agg #[.slice A_1 r.cells.length c_1, .slice A_2 r.trail.length c_2]) ∧ Row st36 36 H_ (hp e_w) F_1 A_1 c_1 r.cells ∧ Row tInt 3 H_ (hp e_w) F_2 A_2 c_2 r.trail ∧ St (anyOf []) H w [F_1, F_2] H_ e_w) := by
  rw [impl_copyStore.f] at M
  refine enter (l := [.agg #[.slice A2 x1.cells.length c3, .slice A6 x1.trail.length c7]]) 27 Try.func58 rfl rfl rfl ?_
  have S0_ := S.st
  refine wp_seq (wR ?_)
  refine lW 1 (nB #[.slice A2 x1.cells.length c3, .slice A6 x1.trail.length c7] 34 S0_) ?_
  rintro _ w10 ⟨g11, rfl, b12, S13, K14⟩
  refine lW 2 (nB #[.slice none 0 0, .slice none 0 0] 34 S13) ?_
  rintro _ w15 ⟨g16, rfl, b17, S18, K19⟩
  replace b12 := K19.blk 0 rfl b12
  refine wN (then_n (wp_seq (wR ?_)))
  refine lW 6 (new_blk (v := fun g_ => .slice (some ⟨g_, 0, none⟩) 0 0) (cs := #[]) (t := 3) S18 (by kernel_rfl)) ?_
  rintro _ w20 ⟨g21, rfl, b22, S23, K24⟩
  replace b17 := K24.blk 0 rfl b17
  replace b12 := K24.blk 1 rfl b12
  have S25 := S23.unit
  have S26 := S25.pulls [(is g21), no, (is g16), (is g11)] [1] rfl
  obtain ⟨h27, S28⟩ := row_lit (d := tInt) (xs := ([] : List Int)) S26 b22 rfl (elsO_nil _ _ _ no) (Nat.le_of_ble_eq_true rfl)
  refine lV 7 (eD g11 0 1 1 Try.underlying34) (lV 8 (eL ⟨g11, 0 + 1, none⟩ (.slice A6 x1.trail.length c7) Try.underlying23 (blk_cell b12 rfl)) ?_)
  obtain ⟨y29, h30, h31⟩ := Rd.news (d := tInt) (ro_scal _ _) S28 h8
  obtain ⟨q32, M⟩ := chk M
  have S33 := S28.unit
  have S34 := S33.pulls [(or2 (is g21) no), no, (is g16), (is g11)] [1] rfl
  refine lW 9 (e_append (d := tInt) (n := 0) (xs := ([] : List Int)) (cap := 0) (A := (some ⟨g21, 0, none⟩)) (ys := x1.trail) (A2 := A6) (c2 := c7) (z := .int .i64 0) (bytes := 8) S34 Try.underlying23 (by kernel_rfl) rfl (by decide) (by kernel_rfl) rfl (by kernel_rfl) h27 h30 h31 (show (0 + x1.trail.length) * 8 ≤ _ by first | omega | (simp only [List.length_cons, List.length_nil]; omega)) (by decide)) ?_
  rintro _ w35 ⟨A36, c37, F38, rfl, h39, S40, K41⟩
  replace b17 := K41.blk 0 rfl b17
  replace b12 := K41.blk 1 rfl b12
  refine lV 10 (show _ = Result.ok (Next.value (.agg #[.slice none 0 0, .slice A36 ((([] : List Int) ++ x1.trail).length) c37])) w35 from by kernel_rfl) ?_
  refine lW 3 (nB #[.slice none 0 0, .slice none 0 0] 34 S40) ?_
  rintro _ w42 ⟨g43, rfl, b44, S45, K46⟩
  replace h39 := h39.move (K46.at 0 rfl)
  replace b17 := K46.blk 1 rfl b17
  replace b12 := K46.blk 2 rfl b12
  refine lE (eSa g43 0 [.slice none 0 0, .slice A36 ((([] : List Int) ++ x1.trail).length) c37] S45 b44) ?_
  rintro w47 ⟨b48, S49, K50⟩
  replace h39 := h39.move (K50.at 0 rfl)
  replace b17 := K50.blk 1 rfl b17
  replace b12 := K50.blk 2 rfl b12
  clear b44
  refine wN (then_n (wp_seq (wp_seq (wR (lV 11 (eD g11 0 0 1 Try.underlying34) (lV 12 (eL ⟨g11, 0 + 0, none⟩ (.slice A2 x1.cells.length c3) Try.underlying32 (blk_cell b12 rfl)) (lV 13 (e_len (A := A2) (n := x1.cells.length) (c := c3) Try.underlying32 (by kernel_rfl)) ?_)))))))
  refine lV 14 (eM (.int .i64 0)) (wN (then_n (wp_block ?_)))
  have S72 := S49.unit
  have S75 := S72.pulls [(is g43), F38, (is g16), no, (is g11)] [3, 3, 3] rfl
  have S76 := St.first (Fa := [(is g43), F38, (is g16), no]) (Fr := [(is g11)]) S75
  refine wp_loop_g (fun k69 a70 w51 => ∃ (f52 : Nat → Value) (H53 : Hp) (x55 : Int) (x56 : List Cell) (A57 : Option Addr) (c58 : Nat) (F59 : Foot), a70 = mk 27 f52 ∧ f52 2 = .pointer (some ⟨g16, 0, none⟩) ∧ f52 3 = .pointer (some ⟨g43, 0, none⟩) ∧ f52 12 = .slice A2 x1.cells.length c3 ∧ f52 13 = .int .i64 (x1.cells.length : Int) ∧ f52 14 = .int .i64 x55 ∧ w51.heap[g43]? = some (.cells #[.slice A57 x56.length c58, .slice A36 ((([] : List Int) ++ x1.trail).length) c37] 34 (0, 0)) ∧ Row tInt 3 H53 (hp w51) F38 A36 c37 (([] : List Int) ++ x1.trail) ∧ w51.heap[g16]? = some (.cells #[.slice none 0 0, .slice none 0 0] 34 (0, 0)) ∧ Row st36 36 H53 (hp w51) F59 A57 c58 x56 ∧ Ext H H53 ∧ St (anyOf []) H w [(is g43), F38, (is g16), F59] H53 w51 ∧ impl_copyStore.l0 k69 x1 x55 x56 = some r) k ⟨_, H, 0, [], none, 0, no, rfl, (by kernel_rfl), (by kernel_rfl), (by kernel_rfl), (by kernel_rfl), (by kernel_rfl), b48, h39, b17, (Row.nil _ _ _ _ _), (Ext.refl _), S76, M⟩ ?_
  clear M
  rintro k69 a70 w51 ⟨f52, H53, x55, x56, A57, c58, F59, rfl, e61, e62, e63, e64, e65, b48, h39, b17, h60, Y54, S66, M⟩
  rcases k69 with _ | k71
  · rw [impl_copyStore.l0] at M
    cases M
  rw [impl_copyStore.l0] at M
  refine wp_seq (wR (lV 15 (eLt .i64 x55 (x1.cells.length : Int) (by exact e65) (by exact e64)) (wN (then_n (wp_seq ?_)))))
  by_cases q77 : x55 < (x1.cells.length : Int)
  · replace M := ifp q77 M
    refine cT (bT q77) (wp_skip (then_n (wp_seq (wp_block (wp_seq (wR ?_))))))
    obtain ⟨q78, M⟩ := chk M
    obtain ⟨b79, o80, e81⟩ := Rd.addr h4 (show (x55).toNat < x1.cells.length by omega)
    obtain ⟨y82, r83, k84⟩ := Rd.at h4 e81 (getD_some z36 (show (x55).toNat < x1.cells.length by omega))
    obtain ⟨A85, c86, rfl, l87, h88⟩ := st36_open r83
    refine lV 16 (e_indexAddr (b := b79) (off := o80) (n := x1.cells.length) (c := c3) (sz := 3) (i := x55) (k := .i64) Try.underlying32 e81 (by kernel_rfl) (by exact e63) (by exact e65) q78 q77) (lV 17 (e_loadS (b := b79) (off := o80 + (x55 : Int).toNat * 3) (cs := [.int .i64 ((x1.cells.getD ((x55).toNat) z36).kind), .int .i64 ((x1.cells.getD ((x55).toNat) z36).n), .slice A85 ((x1.cells.getD ((x55).toNat) z36).text).length c86]) Try.underlying36 rfl (by kernel_rfl) (by kernel_rfl) (fun j_ u_ e_ => (hpx (S66.inv.cell (Y54.cell (k84 j_ u_ e_)))))) ?_)
    refine lW 5 (nB #[.int .i64 0, .int .i64 0, .slice none 0 0] 36 S66) ?_
    rintro _ w89 ⟨g90, rfl, b91, S92, K93⟩
    replace b48 := K93.blk 0 rfl b48
    replace h39 := h39.move (K93.at 1 rfl)
    replace b17 := K93.blk 2 rfl b17
    replace h60 := h60.move (K93.at 3 rfl)
    refine lE (eSa g90 0 [.int .i64 ((x1.cells.getD ((x55).toNat) z36).kind), .int .i64 ((x1.cells.getD ((x55).toNat) z36).n), .slice A85 ((x1.cells.getD ((x55).toNat) z36).text).length c86] S92 b91) ?_
    rintro w94 ⟨b95, S96, K97⟩
    replace b48 := K97.blk 0 rfl b48
    replace h39 := h39.move (K97.at 1 rfl)
    replace b17 := K97.blk 2 rfl b17
    replace h60 := h60.move (K97.at 3 rfl)
    clear b91
    refine wN (then_n ?_)
    refine region_mix (S := (fun (L_ : Array Bool) (w_ : World) => Ext H53 (hp w_) ∧ (L_.getD 7 true = false → (∀ b_, (is g43) b_ → hp w_ b_ = hp w94 b_)))) (by kernel_rfl) S96 ?_
    intro w98 S99 K100 hc101
    have o102 := b48
    have hs103 : (fun (L_ : Array Bool) (w_ : World) => Ext H53 (hp w_) ∧ (L_.getD 7 true = false → (∀ b_, (is g43) b_ → hp w_ b_ = hp w94 b_))) (Array.replicate 8 false) w98 := ⟨S99.inv, (fun _ => (fun b_ h_ => K100.at 1 rfl b_ h_))⟩
    replace b95 := K100.blk 0 rfl b95
    replace b48 := K100.blk 1 rfl b48
    replace h39 := h39.move (K100.at 2 rfl)
    replace b17 := K100.blk 3 rfl b17
    replace h60 := h60.move (K100.at 4 rfl)
    refine xW 0 18 rfl (fun L_ w_ => by simp only [getD_set_ne true (show (0 : Nat) ≠ 7 by decide)]) hc101 hs103 (fun L_ w_ hc_ hu_ hs_ => eD g43 0 0 1 Try.underlying34 (by exact e62)) ?_; intro hc104 hs105
    refine xW 1 19 rfl (fun L_ w_ => by simp only [getD_set_ne true (show (1 : Nat) ≠ 7 by decide)]) hc104 hs105 (fun L_ w_ hc_ hu_ hs_ => eL ⟨g43, 0 + 0, none⟩ (.slice A57 x56.length c58) Try.underlying32 (blk_cell (((hs_.2 (unl 9 7 1 hc_ hu_ (by kernel_rfl))) _ rfl).trans o102) rfl)) ?_; intro hc106 hs107
    refine xO 2 hc106 ?_
    refine yP 2 20 rfl (fun L_ w_ => by simp only [getD_set_ne true (show (2 : Nat) ≠ 7 by decide)]) hs107 (e_loadS (b := g90) (off := 0) (cs := [.int .i64 ((x1.cells.getD ((x55).toNat) z36).kind), .int .i64 ((x1.cells.getD ((x55).toNat) z36).n), .slice A85 ((x1.cells.getD ((x55).toNat) z36).text).length c86]) Try.underlying36 rfl (by kernel_rfl) (by kernel_rfl) (blk_cells b95 rfl)) ?_; intro hc108 hs109
    obtain ⟨t110, u111, M⟩ := bnd M
    refine xO 3 hc108 ?_
    refine yC 3 rfl (eC [.tmp 20] [.agg #[.int .i64 ((x1.cells.getD ((x55).toNat) z36).kind), .int .i64 ((x1.cells.getD ((x55).toNat) z36).n), .slice A85 ((x1.cells.getD ((x55).toNat) z36).text).length c86]] Try.func49) (impl_copyCell.calls w98 H53 (x1.cells.getD ((x55).toNat) z36) A85 c86 (h88.ext Y54) l87 (St.own' (Fa := []) (Fr := [(is g90), (is g43), F38, (is g16), F59]) S99) t110 u111) ?_
    rintro hc119 _ w112 ⟨A115, c116, F118, H113, rfl, h117, T114⟩
    refine ⟨_, rfl, ?_⟩
    obtain ⟨S120, K121⟩ := St.call (Fa := []) (Fr := [(is g90), (is g43), F38, (is g16), F59]) S99 T114
    replace b48 := K121.blk 1 rfl b48
    replace h39 := h39.move (K121.at 2 rfl)
    replace b17 := K121.blk 3 rfl b17
    replace h60 := h60.move (K121.at 4 rfl)
    have E122 := T114.ext
    replace h39 := h39.ext E122
    replace h60 := h60.ext E122
    refine ⟨⟨(Ext.trans E122 S120.inv), (fun q_ => (fun b_ h_ => (K121.at 1 rfl b_ h_).trans ((hs109.2 (by decide +kernel)) b_ h_)))⟩, fun hs123 => ?_⟩
    refine xO 4 hc119 ?_
    refine yE 4 22 rfl (new_blk (v := fun g_ => .slice (some ⟨g_, 0, none⟩) 1 1) (cs := #[.int .i64 t110.kind, .int .i64 t110.n, .slice A115 t110.text.length c116]) (t := 36) S120 (by kernel_rfl)) ?_
    rintro hc129 _ w124 ⟨g125, rfl, b126, S127, K128⟩
    replace h117 := h117.move (K128.at 0 rfl)
    replace b48 := K128.blk 2 rfl b48
    replace h39 := h39.move (K128.at 3 rfl)
    replace b17 := K128.blk 4 rfl b17
    replace h60 := h60.move (K128.at 5 rfl)
    refine ⟨⟨(Ext.trans E122 S127.inv), (fun q_ => (fun b_ h_ => (K128.at 2 rfl b_ h_).trans ((hs123.2 (by decide +kernel)) b_ h_)))⟩, fun hs130 => ?_⟩
    obtain ⟨q131, M⟩ := chk M
    have S133 := S127.pulls [F59, F118, (is g125), (is g90), (is g43), F38, (is g16)] [1, 6] rfl
    refine xO 5 hc129 ?_
    refine yE 5 23 rfl (e_append (d := st36) (n := x56.length) (xs := x56) (cap := c58) (A := A57) (ys := [t110]) (A2 := (some ⟨g125, 0, none⟩)) (c2 := 1) (z := .agg #[.int .i64 0, .int .i64 0, .slice none 0 0]) (bytes := 40) S133 Try.underlying32 (by kernel_rfl) rfl (by decide) (by kernel_rfl) rfl (by kernel_rfl) h60 (elsO_one1 (st36_mkO (x := t110) h117)) (.inr (blk_news b126 rfl)) (show (x56.length + [t110].length) * 40 ≤ _ by first | omega | (simp only [List.length_cons, List.length_nil]; omega)) (by decide)) ?_
    rintro hc141 _ w134 ⟨A135, c136, F137, rfl, h138, S139, K140⟩
    replace b48 := K140.blk 2 rfl b48
    replace h39 := h39.move (K140.at 3 rfl)
    replace b17 := K140.blk 4 rfl b17
    refine ⟨⟨(Ext.trans E122 S139.inv), (fun q_ => (fun b_ h_ => (K140.at 2 rfl b_ h_).trans ((hs130.2 (by decide +kernel)) b_ h_)))⟩, fun hs142 => ?_⟩
    refine xO 6 hc141 ?_
    refine yP 6 24 rfl (fun L_ w_ => by simp only [getD_set_ne true (show (6 : Nat) ≠ 7 by decide)]) hs142 (eD g43 0 0 1 Try.underlying34 (by exact e62)) ?_; intro hc143 hs144
    have S145 := S139.pulls [(is g43), F137, (is g125), (is g90), F38, (is g16)] [3] rfl
    refine xO 7 hc143 ?_
    refine yS 7 rfl (eS g43 (0 + 0) (.slice A135 ((x56 ++ [t110]).length) c136) #[.slice A135 ((x56 ++ [t110]).length) c136, .slice A36 ((([] : List Int) ++ x1.trail).length) c37] [.slice A135 ((x56 ++ [t110]).length) c136] S145 b48) ?_
    rintro hc150 w146 ⟨b147, S148, K149⟩
    replace h138 := h138.move (K149.at 0 rfl)
    replace h39 := h39.move (K149.at 3 rfl)
    replace b17 := K149.blk 4 rfl b17
    refine ⟨⟨(Ext.trans E122 S148.inv), (fun q_ => absurd q_ (by decide +kernel))⟩, fun hs151 => ?_⟩
    clear b48
    refine xn (by kernel_rfl) ?_ _
    refine inb_n (then_n (wR (lV 25 (eAdd .i64 x55 1 (by exact e65)) (lV 14 (eM (.int .i64 (IntKind.i64.wrap (x55 + 1)))) (wN (then_n ?_))))))
    have S155 := S148.pulls [(is g43), F38, (is g16), F137, (is g125), (is g90)] [1, 5, 5, 3] rfl
    have S156 := St.first (Fa := [(is g43), F38, (is g16), F137]) (Fr := [(is g125), (is g90)]) S155
    exact ⟨k71, (by omega), _, H113, (IntKind.i64.wrap (x55 + 1)), (x56 ++ [t110]), A135, c136, F137, rfl, (by exact e61), (by exact e62), (by exact e63), (by exact e64), (by kernel_rfl), b147, h39, b17, h138, (Y54.trans E122), S156, M⟩
  replace M := ifn q77 M
  refine cF (bF q77) (wp_exit (then_e (then_e (inb_hit (then_n (wp_seq (wR ?_)))))))
  refine lV 26 (e_loadS (b := g43) (off := 0) (cs := [.slice A57 x56.length c58, .slice A36 ((([] : List Int) ++ x1.trail).length) c37]) Try.underlying34 rfl (by kernel_rfl) (by exact e62) (blk_cells b48 rfl)) ?_
  have S157 := S66.pulls [(is g16), (is g43), F38, F59] [2] rfl
  refine lE (eSa g16 0 [.slice A57 x56.length c58, .slice A36 ((([] : List Int) ++ x1.trail).length) c37] S157 b17 (by exact e61)) ?_
  rintro w158 ⟨b159, S160, K161⟩
  replace h39 := h39.move (K161.at 1 rfl)
  replace h60 := h60.move (K161.at 2 rfl)
  clear b17
  refine wN (then_n (wp_ret ?_))
  obtain rfl := Option.some.inj M
  have S163 := S160.pulls [F59, F38, (is g16), (is g43)] [2, 3] rfl
  have S164 := St.first (Fa := [F59, F38]) (Fr := [(is g16), (is g43)]) S163
  exact retS (ty := 34) (cur := #[.slice A57 x56.length c58, .slice A36 ((([] : List Int) ++ x1.trail).length) c37]) rfl rfl (by exact e61) b159 Try.underlying34 rfl (by kernel_rfl) ⟨A57, c58, F59, A36, c37, F38, H53, rfl, h60, h39, S164⟩

/-! impl_Store_deref -/
structure GT97 where
  p0_ : Cell
  p1_ : Cell
  deriving Inhabited
def st97 : Ty GT97 := iso (pair st36 st36) (fun x => (x.p0_, x.p1_))
theorem st97_open {H : Hp} {x : GT97} {cs : List Value} (h : st97.R H x cs) : ∃ (A2 : Option Addr) (c2 : Nat) (A5 : Option Addr) (c5 : Nat), cs = [.int .i64 x.p0_.kind, .int .i64 x.p0_.n, .slice A2 x.p0_.text.length c2, .int .i64 x.p1_.kind, .int .i64 x.p1_.n, .slice A5 x.p1_.text.length c5] ∧ x.p0_.text.length ≤ c2 ∧ Rd tByte H A2 x.p0_.text ∧ x.p1_.text.length ≤ c5 ∧ Rd tByte H A5 x.p1_.text := by
  obtain ⟨_, _, rfl, ⟨_, _, rfl, rfl, ⟨_, _, rfl, rfl, ⟨A2, c2, rfl, l2, h2⟩⟩⟩, ⟨_, _, rfl, rfl, ⟨_, _, rfl, rfl, ⟨A5, c5, rfl, l5, h5⟩⟩⟩⟩ := h
  exact ⟨A2, c2, A5, c5, rfl, l2, h2, l5, h5⟩
theorem st97_mkR {H : Hp} {x : GT97} {A2 : Option Addr} {c2 : Nat} {A5 : Option Addr} {c5 : Nat} (l2 : x.p0_.text.length ≤ c2) (h2 : Rd tByte H A2 x.p0_.text) (l5 : x.p1_.text.length ≤ c5) (h5 : Rd tByte H A5 x.p1_.text) : st97.R H x [.int .i64 x.p0_.kind, .int .i64 x.p0_.n, .slice A2 x.p0_.text.length c2, .int .i64 x.p1_.kind, .int .i64 x.p1_.n, .slice A5 x.p1_.text.length c5] := ⟨[.int .i64 x.p0_.kind, .int .i64 x.p0_.n, .slice A2 x.p0_.text.length c2], [.int .i64 x.p1_.kind, .int .i64 x.p1_.n, .slice A5 x.p1_.text.length c5], rfl, ⟨[.int .i64 x.p0_.kind], [.int .i64 x.p0_.n, .slice A2 x.p0_.text.length c2], rfl, rfl, ⟨[.int .i64 x.p0_.n], [.slice A2 x.p0_.text.length c2], rfl, rfl, ⟨A2, c2, rfl, l2, h2⟩⟩⟩, ⟨[.int .i64 x.p1_.kind], [.int .i64 x.p1_.n, .slice A5 x.p1_.text.length c5], rfl, rfl, ⟨[.int .i64 x.p1_.n], [.slice A5 x.p1_.text.length c5], rfl, rfl, ⟨A5, c5, rfl, l5, h5⟩⟩⟩⟩
theorem st97_mkO {H X : Hp} {F2 : Foot} {F5 : Foot} {x : GT97} {A2 : Option Addr} {c2 : Nat} {A5 : Option Addr} {c5 : Nat} (h2 : Row tByte 5 H X F2 A2 c2 x.p0_.text) (h5 : Row tByte 5 H X F5 A5 c5 x.p1_.text) (d2_5 : Dj F2 F5) : st97.O H X (or2 F2 F5) x [.int .i64 x.p0_.kind, .int .i64 x.p0_.n, .slice A2 x.p0_.text.length c2, .int .i64 x.p1_.kind, .int .i64 x.p1_.n, .slice A5 x.p1_.text.length c5] := (pairO2 (a := st36) (b := st36) (x := (x.p0_, x.p1_)) (c0 := [.int .i64 x.p0_.kind, .int .i64 x.p0_.n, .slice A2 x.p0_.text.length c2]) (c1 := [.int .i64 x.p1_.kind, .int .i64 x.p1_.n, .slice A5 x.p1_.text.length c5]) (pairO0 (a := tInt) (b := (pair tInt sl5)) (x := (x.p0_.kind, (x.p0_.n, x.p0_.text))) (c0 := [.int .i64 x.p0_.kind]) (c1 := [.int .i64 x.p0_.n, .slice A2 x.p0_.text.length c2]) rfl (pairO0 (a := tInt) (b := sl5) (x := (x.p0_.n, x.p0_.text)) (c0 := [.int .i64 x.p0_.n]) (c1 := [.slice A2 x.p0_.text.length c2]) rfl ⟨A2, c2, rfl, h2⟩)) (pairO0 (a := tInt) (b := (pair tInt sl5)) (x := (x.p1_.kind, (x.p1_.n, x.p1_.text))) (c0 := [.int .i64 x.p1_.kind]) (c1 := [.int .i64 x.p1_.n, .slice A5 x.p1_.text.length c5]) rfl (pairO0 (a := tInt) (b := sl5) (x := (x.p1_.n, x.p1_.text)) (c0 := [.int .i64 x.p1_.n]) (c1 := [.slice A5 x.p1_.text.length c5]) rfl ⟨A5, c5, rfl, h5⟩)) d2_5)
theorem st97_openO {H X : Hp} {F : Foot} {x : GT97} {cs : List Value} (h : st97.O H X F x cs) : ∃ (A2 : Option Addr) (c2 : Nat) (A5 : Option Addr) (c5 : Nat) (F2 : Foot) (F5 : Foot), cs = [.int .i64 x.p0_.kind, .int .i64 x.p0_.n, .slice A2 x.p0_.text.length c2, .int .i64 x.p1_.kind, .int .i64 x.p1_.n, .slice A5 x.p1_.text.length c5] ∧ Row tByte 5 H X F2 A2 c2 x.p0_.text ∧ Row tByte 5 H X F5 A5 c5 x.p1_.text ∧ (∀ b, F2 b → F b) ∧ (∀ b, F5 b → F b) ∧ Dj F2 F5 := by
  obtain ⟨_, _, K4, L4, rfl, ⟨_, _, K1, L1, rfl, rfl, ⟨_, _, K0, L0, rfl, rfl, ⟨A2, c2, rfl, h2⟩, d0, s0⟩, d1, s1⟩, ⟨_, _, K3, L3, rfl, rfl, ⟨_, _, K2, L2, rfl, rfl, ⟨A5, c5, rfl, h5⟩, d2, s2⟩, d3, s3⟩, d4, s4⟩ := h
  exact ⟨A2, c2, A5, c5, _, _, rfl, h2, h5, fun b hb => s4 b (.inl (s1 b (.inr (s0 b (.inr (hb)))))), fun b hb => s4 b (.inr (s3 b (.inr (s2 b (.inr (hb)))))), fun b hb hb2 => d4 b (s1 b (.inr (s0 b (.inr (hb))))) (s3 b (.inr (s2 b (.inr (hb2)))))⟩
theorem st97_c0 {H X : Hp} {F : Foot} {x : GT97} {cs : List Value} (h : st97.O H X F x cs) : cs[0]? = some (.int .i64 x.p0_.kind) := by obtain ⟨_, _, _, _, _, _, rfl, _, _, _, _, _⟩ := st97_openO h; rfl
theorem st97_r0 {H : Hp} {x : GT97} {cs : List Value} (h : st97.R H x cs) : cs[0]? = some (.int .i64 x.p0_.kind) := by obtain ⟨_, _, _, _, rfl, _, _, _, _⟩ := st97_open h; rfl
theorem st97_c1 {H X : Hp} {F : Foot} {x : GT97} {cs : List Value} (h : st97.O H X F x cs) : cs[1]? = some (.int .i64 x.p0_.n) := by obtain ⟨_, _, _, _, _, _, rfl, _, _, _, _, _⟩ := st97_openO h; rfl
theorem st97_r1 {H : Hp} {x : GT97} {cs : List Value} (h : st97.R H x cs) : cs[1]? = some (.int .i64 x.p0_.n) := by obtain ⟨_, _, _, _, rfl, _, _, _, _⟩ := st97_open h; rfl
theorem st97_c3 {H X : Hp} {F : Foot} {x : GT97} {cs : List Value} (h : st97.O H X F x cs) : cs[3]? = some (.int .i64 x.p1_.kind) := by obtain ⟨_, _, _, _, _, _, rfl, _, _, _, _, _⟩ := st97_openO h; rfl
theorem st97_r3 {H : Hp} {x : GT97} {cs : List Value} (h : st97.R H x cs) : cs[3]? = some (.int .i64 x.p1_.kind) := by obtain ⟨_, _, _, _, rfl, _, _, _, _⟩ := st97_open h; rfl
theorem st97_c4 {H X : Hp} {F : Foot} {x : GT97} {cs : List Value} (h : st97.O H X F x cs) : cs[4]? = some (.int .i64 x.p1_.n) := by obtain ⟨_, _, _, _, _, _, rfl, _, _, _, _, _⟩ := st97_openO h; rfl
theorem st97_r4 {H : Hp} {x : GT97} {cs : List Value} (h : st97.R H x cs) : cs[4]? = some (.int .i64 x.p1_.n) := by obtain ⟨_, _, _, _, rfl, _, _, _, _⟩ := st97_open h; rfl
def z97 : GT97 := ⟨z36, z36⟩
theorem z97_R (H : Hp) : st97.R H z97 [.int .i64 (0 : Int), .int .i64 (0 : Int), .slice none 0 0, .int .i64 (0 : Int), .int .i64 (0 : Int), .slice none 0 0] := st97_mkR (x := z97) (Nat.le_refl _) (Rd.nil _ _ _) (Nat.le_refl _) (Rd.nil _ _ _)
def impl_Store_deref.l0 : Nat → Store → Int → Int → (List UInt8) → Option Cell
  | 0, _, _, _, _ => none
  | k44 + 1, x1, x29, x30, x31 => (if x29 = 0 then (if 0 ≤ x30 then (if x30 < (x1.cells.length : Int) then (if ((x1.cells.getD ((x30).toNat) z36).kind) = 0 then (if ¬ (((x1.cells.getD ((x30).toNat) z36).n) = x30) then (impl_Store_deref.l0 k44 x1 ((x1.cells.getD ((x30).toNat) z36).kind) ((x1.cells.getD ((x30).toNat) z36).n) ((x1.cells.getD ((x30).toNat) z36).text)) else some (⟨x29, x30, x31⟩ : Cell)) else (impl_Store_deref.l0 k44 x1 ((x1.cells.getD ((x30).toNat) z36).kind) ((x1.cells.getD ((x30).toNat) z36).n) ((x1.cells.getD ((x30).toNat) z36).text))) else none) else none) else some (⟨x29, x30, x31⟩ : Cell))
def impl_Store_deref.f (k : Nat) (x1 : Store) (x12 : Cell) : Option Cell := (impl_Store_deref.l0 k x1 x12.kind x12.n x12.text)
theorem impl_Store_deref.calls (k : Nat) (w : World) (H : Hp) (x1 : Store) (g2 : Nat) (A4 : Option Addr) (c5 : Nat) (A8 : Option Addr) (c9 : Nat) (x12 : Cell) (A13 : Option Addr) (c14 : Nat) (h6 : Rd st36 H A4 x1.cells) (l7 : x1.cells.length ≤ c5) (h10 : Rd tInt H A8 x1.trail) (l11 : x1.trail.length ≤ c9) (b3 : H g2 = some (.cells #[.slice A4 x1.cells.length c5, .slice A8 x1.trail.length c9] 34 (0, 0))) (h15 : Rd tByte H A13 x12.text) (l16 : x12.text.length ≤ c14) (S : Own [] H w) (r : Cell) (M : impl_Store_deref.f k x1 x12 = some r) :
    Calls Try.prog 50 #[.pointer (some ⟨g2, 0, none⟩), .agg #[.int .i64 x12.kind, .int .i64 x12.n, .slice A13 x12.text.length c14]] w (fun e e_w => ∃ (A_1 : Option Addr) (c_1 : Nat) (H_ : Hp), e = .returned (.agg #[.int .i64 r.kind, .int .i64 r.n, .slice A_1 r.text.length c_1]) ∧ Rd tByte H_ A_1 r.text ∧ r.text.length ≤ c_1 ∧ St (anyOf []) H w [] H_ e_w) := by
  rw [impl_Store_deref.f] at M
  refine enter (l := [.pointer (some ⟨g2, 0, none⟩), .agg #[.int .i64 x12.kind, .int .i64 x12.n, .slice A13 x12.text.length c14]]) 44 Try.func50 rfl rfl rfl ?_
  have S0_ := S.st
  refine wp_seq (wR ?_)
  refine lW 3 (nB #[.int .i64 x12.kind, .int .i64 x12.n, .slice A13 x12.text.length c14] 36 S0_) ?_
  rintro _ w17 ⟨g18, rfl, b19, S20, K21⟩
  refine lW 4 (nB #[.int .i64 0, .int .i64 0, .slice none 0 0] 36 S20) ?_
  rintro _ w22 ⟨g23, rfl, b24, S25, K26⟩
  replace b19 := K26.blk 0 rfl b19
  refine wN (then_n (wp_seq (wp_block ?_)))
  refine wp_loop_g (fun k42 a43 w27 => ∃ (f28 : Nat → Value) (x29 : Int) (x30 : Int) (x31 : List UInt8) (A32 : Option Addr) (c33 : Nat), a43 = mk 44 f28 ∧ f28 0 = .pointer (some ⟨g2, 0, none⟩) ∧ f28 3 = .pointer (some ⟨g18, 0, none⟩) ∧ f28 4 = .pointer (some ⟨g23, 0, none⟩) ∧ w27.heap[g23]? = some (.cells #[.int .i64 0, .int .i64 0, .slice none 0 0] 36 (0, 0)) ∧ w27.heap[g18]? = some (.cells #[.int .i64 x29, .int .i64 x30, .slice A32 x31.length c33] 36 (0, 0)) ∧ Rd tByte H A32 x31 ∧ x31.length ≤ c33 ∧ St (anyOf []) H w [(is g23), (is g18)] H w27 ∧ impl_Store_deref.l0 k42 x1 x29 x30 x31 = some r) k ⟨_, x12.kind, x12.n, x12.text, A13, c14, rfl, (by kernel_rfl), (by kernel_rfl), (by kernel_rfl), b24, b19, h15, l16, S25, M⟩ ?_
  clear M
  rintro k42 a43 w27 ⟨f28, x29, x30, x31, A32, c33, rfl, e36, e37, e38, b24, b19, h34, l35, S39, M⟩
  rcases k42 with _ | k44
  · rw [impl_Store_deref.l0] at M
    cases M
  rw [impl_Store_deref.l0] at M
  refine wp_seq (wp_seq ?_)
  refine region_still (by kernel_rfl) (by kernel_rfl) S39 ?_
  intro w45 S46 K47
  replace b24 := K47.blk 0 rfl b24
  replace b19 := K47.blk 1 rfl b19
  refine sV 5 (eD g18 0 0 1 Try.underlying36 (by exact e37)) (sV 6 (eL ⟨g18, 0 + 0, none⟩ (.int .i64 x29) Try.underlying3 (blk_cell b19 rfl)) (sV 7 (eEq .i64 x29 0) (sV 8 (eM (.bool (decide (x29 = 0)))) ?_)))
  by_cases q48 : x29 = 0
  · replace M := ifp q48 M
    refine sG 9 8 (bT q48) (eM (.pointer (some ⟨g2, 0, none⟩)) (by exact e36)) (sG 10 8 (bT q48) (eN ⟨g2, 0, none⟩) (sG 11 8 (bT q48) (eD g2 0 0 1 Try.underlying34) (sG 12 8 (bT q48) (eL ⟨g2, 0 + 0, none⟩ (.slice A4 x1.cells.length c5) Try.underlying32 (blk_cell (S46.inv _ _ b3) rfl)) (sG 13 8 (bT q48) (eD g18 0 1 1 Try.underlying36 (by exact e37)) (sG 14 8 (bT q48) (eL ⟨g18, 0 + 1, none⟩ (.int .i64 x30) Try.underlying3 (blk_cell b19 rfl)) ?_)))))
    obtain ⟨q49, M⟩ := chk M
    obtain ⟨q50, M⟩ := chk M
    obtain ⟨b51, o52, e53⟩ := Rd.addr h6 (show (x30).toNat < x1.cells.length by omega)
    obtain ⟨y54, r55, k56⟩ := Rd.at h6 e53 (getD_some z36 (show (x30).toNat < x1.cells.length by omega))
    obtain ⟨A57, c58, rfl, l59, h60⟩ := st36_open r55
    refine sG 15 8 (bT q48) (eI b51 o52 x1.cells.length c5 3 x30 .i64 Try.underlying32 e53 q49 q50) (sG 16 8 (bT q48) (eD b51 (o52 + (x30 : Int).toNat * 3) 0 1 Try.underlying36) (sG 17 8 (bT q48) (eL ⟨b51, o52 + (x30 : Int).toNat * 3 + 0, none⟩ (.int .i64 ((x1.cells.getD ((x30).toNat) z36).kind)) Try.underlying3 (hpx (S46.inv.cell (k56 0 _ rfl)))) (sG 18 8 (bT q48) (eEq .i64 (x1.cells.getD ((x30).toNat) z36).kind 0) (sG 19 8 (bT q48) (eM (.bool (decide (((x1.cells.getD ((x30).toNat) z36).kind) = 0)))) ?_))))
    by_cases q61 : ((x1.cells.getD ((x30).toNat) z36).kind) = 0
    · replace M := ifp q61 M
      refine sG 20 19 (bT q61) (eM (.pointer (some ⟨g2, 0, none⟩)) (by exact e36)) (sG 21 19 (bT q61) (eN ⟨g2, 0, none⟩) (sG 22 19 (bT q61) (eD g2 0 0 1 Try.underlying34) (sG 23 19 (bT q61) (eL ⟨g2, 0 + 0, none⟩ (.slice A4 x1.cells.length c5) Try.underlying32 (blk_cell (S46.inv _ _ b3) rfl)) (sG 24 19 (bT q61) (eD g18 0 1 1 Try.underlying36 (by exact e37)) (sG 25 19 (bT q61) (eL ⟨g18, 0 + 1, none⟩ (.int .i64 x30) Try.underlying3 (blk_cell b19 rfl)) ?_)))))
      obtain ⟨b62, o63, e64⟩ := Rd.addr h6 (show (x30).toNat < x1.cells.length by omega)
      obtain ⟨y65, r66, k67⟩ := Rd.at h6 e64 (getD_some z36 (show (x30).toNat < x1.cells.length by omega))
      obtain ⟨A68, c69, rfl, l70, h71⟩ := st36_open r66
      refine sG 26 19 (bT q61) (eI b62 o63 x1.cells.length c5 3 x30 .i64 Try.underlying32 e64 q49 q50) (sG 27 19 (bT q61) (eD b62 (o63 + (x30 : Int).toNat * 3) 1 1 Try.underlying36) (sG 28 19 (bT q61) (eL ⟨b62, o63 + (x30 : Int).toNat * 3 + 1, none⟩ (.int .i64 ((x1.cells.getD ((x30).toNat) z36).n)) Try.underlying3 (hpx (S46.inv.cell (k67 1 _ rfl)))) (sG 29 19 (bT q61) (eD g18 0 1 1 Try.underlying36 (by exact e37)) (sG 30 19 (bT q61) (eL ⟨g18, 0 + 1, none⟩ (.int .i64 x30) Try.underlying3 (blk_cell b19 rfl)) (sG 31 19 (bT q61) (eEq .i64 (x1.cells.getD ((x30).toNat) z36).n x30) (sG 32 8 (bT q48) (eT (.bool (decide (((x1.cells.getD ((x30).toNat) z36).n) = x30))) (bT q61)) (sG 33 8 (bT q48) (e_notd (c := ((x1.cells.getD ((x30).toNat) z36).n) = x30) (by kernel_rfl)) ?_)))))))
      refine sV 34 (eT (.bool (decide (¬ (((x1.cells.getD ((x30).toNat) z36).n) = x30)))) (bT q48)) (wpStill_nil (then_n ?_))
      by_cases q72 : ¬ (((x1.cells.getD ((x30).toNat) z36).n) = x30)
      · replace M := ifp q72 M
        refine cT (bT q72) (wp_skip (then_n (wp_block ?_)))
        refine region_mix (S := (fun (L_ : Array Bool) (w_ : World) => Ext H (hp w_) ∧ True)) (by kernel_rfl) S46 ?_
        intro w73 S74 K75 hc76
        have hs77 : (fun (L_ : Array Bool) (w_ : World) => Ext H (hp w_) ∧ True) (Array.replicate 9 false) w73 := ⟨S74.inv, trivial⟩
        replace b24 := K75.blk 0 rfl b24
        replace b19 := K75.blk 1 rfl b19
        refine xV 0 35 rfl hc76 hs77 (fun L_ w_ hc_ hu_ hs_ => eM (.pointer (some ⟨g2, 0, none⟩)) (by exact e36)) ?_; intro hc78 hs79
        refine xV 1 36 rfl hc78 hs79 (fun L_ w_ hc_ hu_ hs_ => eN ⟨g2, 0, none⟩) ?_; intro hc80 hs81
        refine xV 2 37 rfl hc80 hs81 (fun L_ w_ hc_ hu_ hs_ => eD g2 0 0 1 Try.underlying34) ?_; intro hc82 hs83
        refine xV 3 38 rfl hc82 hs83 (fun L_ w_ hc_ hu_ hs_ => eL ⟨g2, 0 + 0, none⟩ (.slice A4 x1.cells.length c5) Try.underlying32 (blk_cell (hs_.1 _ _ b3) rfl)) ?_; intro hc84 hs85
        refine xO 4 hc84 ?_
        refine yO 4 39 rfl hs85 (eD g18 0 1 1 Try.underlying36 (by exact e37)) ?_; intro hc86 hs87
        refine xO 5 hc86 ?_
        refine yO 5 40 rfl hs87 (eL ⟨g18, 0 + 1, none⟩ (.int .i64 x30) Try.underlying3 (blk_cell b19 rfl)) ?_; intro hc88 hs89
        obtain ⟨b90, o91, e92⟩ := Rd.addr h6 (show (x30).toNat < x1.cells.length by omega)
        obtain ⟨y93, r94, k95⟩ := Rd.at h6 e92 (getD_some z36 (show (x30).toNat < x1.cells.length by omega))
        obtain ⟨A96, c97, rfl, l98, h99⟩ := st36_open r94
        refine xO 6 hc88 ?_
        refine yO 6 41 rfl hs89 (eI b90 o91 x1.cells.length c5 3 x30 .i64 Try.underlying32 e92 q49 q50) ?_; intro hc100 hs101
        refine xO 7 hc100 ?_
        refine yO 7 42 rfl hs101 (e_loadS (b := b90) (off := o91 + (x30 : Int).toNat * 3) (cs := [.int .i64 ((x1.cells.getD ((x30).toNat) z36).kind), .int .i64 ((x1.cells.getD ((x30).toNat) z36).n), .slice A96 ((x1.cells.getD ((x30).toNat) z36).text).length c97]) Try.underlying36 rfl (by kernel_rfl) (by kernel_rfl) (fun j_ u_ e_ => (hpx (S74.inv.cell (k95 j_ u_ e_))))) ?_; intro hc102 hs103
        have S104 := S74.pulls [(is g18), (is g23)] [1] rfl
        refine xO 8 hc102 ?_
        refine yS 8 rfl (eSa g18 0 [.int .i64 ((x1.cells.getD ((x30).toNat) z36).kind), .int .i64 ((x1.cells.getD ((x30).toNat) z36).n), .slice A96 ((x1.cells.getD ((x30).toNat) z36).text).length c97] S104 b19 (by exact e37)) ?_
        rintro hc109 w105 ⟨b106, S107, K108⟩
        replace b24 := K108.blk 0 rfl b24
        refine ⟨⟨S107.inv, trivial⟩, fun hs110 => ?_⟩
        clear b19
        refine xn (by kernel_rfl) ?_ _
        refine inb_n (then_n ?_)
        have S111 := S107.pulls [(is g23), (is g18)] [1] rfl
        exact ⟨k44, (by omega), _, ((x1.cells.getD ((x30).toNat) z36).kind), ((x1.cells.getD ((x30).toNat) z36).n), ((x1.cells.getD ((x30).toNat) z36).text), A96, c97, rfl, (by exact e36), (by exact e37), (by exact e38), b24, b106, h99, l98, S111, M⟩
      replace M := ifn q72 M
      refine cF (bF q72) (wp_exit (then_e (then_e (inb_hit (then_n (wp_seq (wR ?_)))))))
      refine lV 43 (e_loadS (b := g18) (off := 0) (cs := [.int .i64 x29, .int .i64 x30, .slice A32 x31.length c33]) Try.underlying36 rfl (by kernel_rfl) (by exact e37) (blk_cells b19 rfl)) ?_
      refine lE (eSa g23 0 [.int .i64 x29, .int .i64 x30, .slice A32 x31.length c33] S46 b24 (by exact e38)) ?_
      rintro w112 ⟨b113, S114, K115⟩
      clear b24
      refine wN (then_n (wp_ret ?_))
      obtain rfl := Option.some.inj M
      have S116 := St.first (Fa := []) (Fr := [(is g23), (is g18)]) S114
      exact retS (ty := 36) (cur := #[.int .i64 x29, .int .i64 x30, .slice A32 x31.length c33]) rfl rfl (by exact e38) b113 Try.underlying36 rfl (by kernel_rfl) ⟨A32, c33, H, rfl, h34, l35, S116⟩
    replace M := ifn q61 M
    refine sK 19 false (bF q61) ?_
    refine sK 19 false (bF q61) ?_
    refine sK 19 false (bF q61) ?_
    refine sK 19 false (bF q61) ?_
    refine sK 19 false (bF q61) ?_
    refine sK 19 false (bF q61) ?_
    refine sK 19 false (bF q61) ?_
    refine sK 19 false (bF q61) ?_
    refine sK 19 false (bF q61) ?_
    refine sK 19 false (bF q61) ?_
    refine sK 19 false (bF q61) ?_
    refine sK 19 false (bF q61) ?_
    refine sG 32 8 (bT q48) (eF (.bool false) (bF q61)) (sG 33 8 (bT q48) (e_not (c := false) (by kernel_rfl)) (sV 34 (eT (.bool true) (bT q48)) (wpStill_nil (then_n (cond_t rfl (by kernel_rfl) (wp_skip (then_n ?_)))))))
    refine wp_block ?_
    refine region_mix (S := (fun (L_ : Array Bool) (w_ : World) => Ext H (hp w_) ∧ True)) (by kernel_rfl) S46 ?_
    intro w117 S118 K119 hc120
    have hs121 : (fun (L_ : Array Bool) (w_ : World) => Ext H (hp w_) ∧ True) (Array.replicate 9 false) w117 := ⟨S118.inv, trivial⟩
    replace b24 := K119.blk 0 rfl b24
    replace b19 := K119.blk 1 rfl b19
    refine xV 0 35 rfl hc120 hs121 (fun L_ w_ hc_ hu_ hs_ => eM (.pointer (some ⟨g2, 0, none⟩)) (by exact e36)) ?_; intro hc122 hs123
    refine xV 1 36 rfl hc122 hs123 (fun L_ w_ hc_ hu_ hs_ => eN ⟨g2, 0, none⟩) ?_; intro hc124 hs125
    refine xV 2 37 rfl hc124 hs125 (fun L_ w_ hc_ hu_ hs_ => eD g2 0 0 1 Try.underlying34) ?_; intro hc126 hs127
    refine xV 3 38 rfl hc126 hs127 (fun L_ w_ hc_ hu_ hs_ => eL ⟨g2, 0 + 0, none⟩ (.slice A4 x1.cells.length c5) Try.underlying32 (blk_cell (hs_.1 _ _ b3) rfl)) ?_; intro hc128 hs129
    refine xO 4 hc128 ?_
    refine yO 4 39 rfl hs129 (eD g18 0 1 1 Try.underlying36 (by exact e37)) ?_; intro hc130 hs131
    refine xO 5 hc130 ?_
    refine yO 5 40 rfl hs131 (eL ⟨g18, 0 + 1, none⟩ (.int .i64 x30) Try.underlying3 (blk_cell b19 rfl)) ?_; intro hc132 hs133
    obtain ⟨b134, o135, e136⟩ := Rd.addr h6 (show (x30).toNat < x1.cells.length by omega)
    obtain ⟨y137, r138, k139⟩ := Rd.at h6 e136 (getD_some z36 (show (x30).toNat < x1.cells.length by omega))
    obtain ⟨A140, c141, rfl, l142, h143⟩ := st36_open r138
    refine xO 6 hc132 ?_
    refine yO 6 41 rfl hs133 (eI b134 o135 x1.cells.length c5 3 x30 .i64 Try.underlying32 e136 q49 q50) ?_; intro hc144 hs145
    refine xO 7 hc144 ?_
    refine yO 7 42 rfl hs145 (e_loadS (b := b134) (off := o135 + (x30 : Int).toNat * 3) (cs := [.int .i64 ((x1.cells.getD ((x30).toNat) z36).kind), .int .i64 ((x1.cells.getD ((x30).toNat) z36).n), .slice A140 ((x1.cells.getD ((x30).toNat) z36).text).length c141]) Try.underlying36 rfl (by kernel_rfl) (by kernel_rfl) (fun j_ u_ e_ => (hpx (S118.inv.cell (k139 j_ u_ e_))))) ?_; intro hc146 hs147
    have S148 := S118.pulls [(is g18), (is g23)] [1] rfl
    refine xO 8 hc146 ?_
    refine yS 8 rfl (eSa g18 0 [.int .i64 ((x1.cells.getD ((x30).toNat) z36).kind), .int .i64 ((x1.cells.getD ((x30).toNat) z36).n), .slice A140 ((x1.cells.getD ((x30).toNat) z36).text).length c141] S148 b19 (by exact e37)) ?_
    rintro hc153 w149 ⟨b150, S151, K152⟩
    replace b24 := K152.blk 0 rfl b24
    refine ⟨⟨S151.inv, trivial⟩, fun hs154 => ?_⟩
    clear b19
    refine xn (by kernel_rfl) ?_ _
    refine inb_n (then_n ?_)
    have S155 := S151.pulls [(is g23), (is g18)] [1] rfl
    exact ⟨k44, (by omega), _, ((x1.cells.getD ((x30).toNat) z36).kind), ((x1.cells.getD ((x30).toNat) z36).n), ((x1.cells.getD ((x30).toNat) z36).text), A140, c141, rfl, (by exact e36), (by exact e37), (by exact e38), b24, b150, h143, l142, S155, M⟩
  replace M := ifn q48 M
  refine sK 8 false (bF q48) ?_
  refine sK 8 false (bF q48) ?_
  refine sK 8 false (bF q48) ?_
  refine sK 8 false (bF q48) ?_
  refine sK 8 false (bF q48) ?_
  refine sK 8 false (bF q48) ?_
  refine sK 8 false (bF q48) ?_
  refine sK 8 false (bF q48) ?_
  refine sK 8 false (bF q48) ?_
  refine sK 8 false (bF q48) ?_
  refine sK 8 false (bF q48) ?_
  refine sskipu (t := 19) rfl (by kernel_rfl) rfl (by kernel_rfl) rfl ?_
  refine sskipu (t := 19) rfl (by kernel_rfl) rfl (by kernel_rfl) rfl ?_
  refine sskipu (t := 19) rfl (by kernel_rfl) rfl (by kernel_rfl) rfl ?_
  refine sskipu (t := 19) rfl (by kernel_rfl) rfl (by kernel_rfl) rfl ?_
  refine sskipu (t := 19) rfl (by kernel_rfl) rfl (by kernel_rfl) rfl ?_
  refine sskipu (t := 19) rfl (by kernel_rfl) rfl (by kernel_rfl) rfl ?_
  refine sskipu (t := 19) rfl (by kernel_rfl) rfl (by kernel_rfl) rfl ?_
  refine sskipu (t := 19) rfl (by kernel_rfl) rfl (by kernel_rfl) rfl ?_
  refine sskipu (t := 19) rfl (by kernel_rfl) rfl (by kernel_rfl) rfl ?_
  refine sskipu (t := 19) rfl (by kernel_rfl) rfl (by kernel_rfl) rfl ?_
  refine sskipu (t := 19) rfl (by kernel_rfl) rfl (by kernel_rfl) rfl ?_
  refine sskipu (t := 19) rfl (by kernel_rfl) rfl (by kernel_rfl) rfl ?_
  refine sK 8 false (bF q48) ?_
  refine sK 8 false (bF q48) ?_
  refine sV 34 (eF (.bool false) (bF q48)) (wpStill_nil (then_n (cond_f rfl (by kernel_rfl) (wp_exit (then_e (then_e (inb_hit ?_)))))))
  refine then_n (wp_seq (wR (lV 43 (e_loadS (b := g18) (off := 0) (cs := [.int .i64 x29, .int .i64 x30, .slice A32 x31.length c33]) Try.underlying36 rfl (by kernel_rfl) (by exact e37) (blk_cells b19 rfl)) ?_)))
  refine lE (eSa g23 0 [.int .i64 x29, .int .i64 x30, .slice A32 x31.length c33] S46 b24 (by exact e38)) ?_
  rintro w156 ⟨b157, S158, K159⟩
  clear b24
  refine wN (then_n (wp_ret ?_))
  obtain rfl := Option.some.inj M
  have S160 := St.first (Fa := []) (Fr := [(is g23), (is g18)]) S158
  exact retS (ty := 36) (cur := #[.int .i64 x29, .int .i64 x30, .slice A32 x31.length c33]) rfl rfl (by exact e38) b157 Try.underlying36 rfl (by kernel_rfl) ⟨A32, c33, H, rfl, h34, l35, S160⟩

/-! impl_ref -/
def impl_ref.f (x1 : Int) : Option Cell := some (⟨0, x1, []⟩ : Cell)
theorem impl_ref.calls (w : World) (H : Hp) (x1 : Int) (S : Own [] H w) (r : Cell) (M : impl_ref.f x1 = some r) :
    Calls Try.prog 69 #[.int .i64 x1] w (fun e e_w => ∃ (A_1 : Option Addr) (c_1 : Nat) (F_1 : Foot) (H_ : Hp), e = .returned (.agg #[.int .i64 r.kind, .int .i64 r.n, .slice A_1 r.text.length c_1]) ∧ Row tByte 5 H_ (hp e_w) F_1 A_1 c_1 r.text ∧ St (anyOf []) H w [F_1] H_ e_w) := by
  rw [impl_ref.f] at M
  refine enter (l := [.int .i64 x1]) 5 Try.func69 rfl rfl rfl ?_
  have S0_ := S.st
  refine wp_seq (wR ?_)
  refine lW 2 (nB #[.int .i64 0, .int .i64 0, .slice none 0 0] 36 S0_) ?_
  rintro _ w2 ⟨g3, rfl, b4, S5, K6⟩
  refine wN (then_n (wp_seq (wR (lV 3 (eM (.int .i64 x1)) (lV 4 (show _ = Result.ok (Next.value (.agg #[.int .i64 0, .int .i64 x1, .slice none 0 0])) w2 from by kernel_rfl) ?_)))))
  refine lE (eSa g3 0 [.int .i64 0, .int .i64 x1, .slice none 0 0] S5 b4) ?_
  rintro w7 ⟨b8, S9, K10⟩
  clear b4
  refine wN (then_n (wp_ret ?_))
  obtain rfl := Option.some.inj M
  have S11 := S9.unit
  have S12 := St.first (Fa := [no]) (Fr := [(is g3)]) S11
  exact retS (ty := 36) (cur := #[.int .i64 0, .int .i64 x1, .slice none 0 0]) rfl rfl (by kernel_rfl) b8 Try.underlying36 rfl (by kernel_rfl) ⟨none, 0, no, H, rfl, (Row.nil _ _ _ _ no), S12⟩

/-! impl_Store_within -/
mutual
def impl_Store_within.l0 : Nat → Store → Int → Cell → Int → (List (Int × Bool)) → Option (Bool × (List (Int × Bool)))
  | 0, _, _, _, _, _ => none
  | k70 + 1, x1, x12, t26, x58, x59 => (if 0 ≤ t26.n then (if t26.n < (x1.cells.length : Int) then (if x58 ≤ ((x1.cells.getD ((t26.n).toNat) z36).n) then (if 0 ≤ (IntKind.i64.wrap (t26.n + x58)) then (if (IntKind.i64.wrap (t26.n + x58)) < (x1.cells.length : Int) then ((impl_Store_within.f k70 x1 x12 (x1.cells.getD (((IntKind.i64.wrap (t26.n + x58))).toNat) z36) x59).bind fun t131 => (if t131.1 = true then some (true, t131.2) else (impl_Store_within.l0 k70 x1 x12 t26 (IntKind.i64.wrap (x58 + 1)) t131.2))) else none) else none) else some (false, x59)) else none) else none)
def impl_Store_within.f : Nat → Store → Int → Cell → (List (Int × Bool)) → Option (Bool × (List (Int × Bool)))
  | 0, _, _, _, _ => none
  | k1_ + 1, x1, x12, x13, x18 => ((impl_Store_deref.f k1_ x1 x13).bind fun t26 => (if t26.kind = 0 then some ((decide (t26.n = x12)), x18) else (if t26.kind = 4 then (if ((mget x18 t26.n).getD false) = true then some (false, x18) else (impl_Store_within.l0 k1_ x1 x12 t26 1 (mset x18 t26.n true))) else some (false, x18))))
end
theorem impl_Store_within.all : ∀ (K : Nat), (∀ (k : Nat), k < K → ∀ (w : World) (H : Hp) (x1 : Store) (g2 : Nat) (A4 : Option Addr) (c5 : Nat) (A8 : Option Addr) (c9 : Nat) (x12 : Int) (x13 : Cell) (A14 : Option Addr) (c15 : Nat) (x18 : List (Int × Bool)) (g19 : Nat) (h6 : Rd st36 H A4 x1.cells) (l7 : x1.cells.length ≤ c5) (h10 : Rd tInt H A8 x1.trail) (l11 : x1.trail.length ≤ c9) (b3 : H g2 = some (.cells #[.slice A4 x1.cells.length c5, .slice A8 x1.trail.length c9] 34 (0, 0))) (h16 : Rd tByte H A14 x13.text) (l17 : x13.text.length ≤ c15) (h20 : MapO encI tBool H (hp w) g19 x18) (S : Own [(is g19)] H w) (r : Bool × (List (Int × Bool))) (M : impl_Store_within.f k x1 x12 x13 x18 = some r), Calls Try.prog 72 #[.pointer (some ⟨g2, 0, none⟩), .int .i64 x12, .agg #[.int .i64 x13.kind, .int .i64 x13.n, .slice A14 x13.text.length c15], .map (some g19)] w (fun e e_w => ∃ (H_ : Hp), e = .returned (.bool r.1) ∧ MapO encI tBool H_ (hp e_w) g19 r.2 ∧ St (anyOf [(is g19)]) H w [(is g19)] H_ e_w)) := by
  intro K
  induction K with
  | zero => intro k hk; omega
  | succ K ih =>
    intro k hk w H x1 g2 A4 c5 A8 c9 x12 x13 A14 c15 x18 g19 h6 l7 h10 l11 b3 h16 l17 h20 S r M
    rcases k with _ | k1_
    · rw [impl_Store_within.f] at M
      cases M
    rw [impl_Store_within.f] at M
    refine enter (l := [.pointer (some ⟨g2, 0, none⟩), .int .i64 x12, .agg #[.int .i64 x13.kind, .int .i64 x13.n, .slice A14 x13.text.length c15], .map (some g19)]) 57 Try.func72 rfl rfl rfl ?_
    have S0_ := S.st
    refine wp_seq (wR ?_)
    refine lW 6 (nB #[.int .i64 x13.kind, .int .i64 x13.n, .slice A14 x13.text.length c15] 36 S0_) ?_
    rintro _ w21 ⟨g22, rfl, b23, S24, K25⟩
    replace h20 := h20.move (K25.at 0 rfl)
    refine lV 8 (eA (.bool false)) (wN (then_n (wp_seq (wR (lV 10 (eM (.pointer (some ⟨g2, 0, none⟩))) (lV 11 (e_loadS (b := g22) (off := 0) (cs := [.int .i64 x13.kind, .int .i64 x13.n, .slice A14 x13.text.length c15]) Try.underlying36 rfl (by kernel_rfl) (by kernel_rfl) (blk_cells b23 rfl)) ?_))))))
    obtain ⟨t26, u27, M⟩ := bnd M
    refine lC 12 (eC [.tmp 10, .tmp 11] [.pointer (some ⟨g2, 0, none⟩), .agg #[.int .i64 x13.kind, .int .i64 x13.n, .slice A14 x13.text.length c15]] Try.func50) (impl_Store_deref.calls k1_ w21 H x1 g2 A4 c5 A8 c9 x13 A14 c15 h6 l7 h10 l11 b3 h16 l17 (St.own' (Fa := []) (Fr := [(is g22), (is g19)]) S24) t26 u27) ?_
    rintro _ w28 ⟨A31, c32, H29, rfl, h33, l34, T30⟩
    refine ⟨_, rfl, ?_⟩
    obtain ⟨S35, K36⟩ := St.call (Fa := []) (Fr := [(is g22), (is g19)]) S24 T30
    replace b23 := K36.blk 0 rfl b23
    replace h20 := h20.move (K36.at 1 rfl)
    have E37 := T30.ext
    replace h20 := h20.ext E37
    refine lE (eSa g22 0 [.int .i64 t26.kind, .int .i64 t26.n, .slice A31 t26.text.length c32] S35 b23) ?_
    rintro w38 ⟨b39, S40, K41⟩
    replace h20 := h20.move (K41.at 0 rfl)
    clear b23
    refine wN (then_n (wp_seq (wp_seq (wR (lV 13 (eD g22 0 0 1 Try.underlying36) (lV 14 (eL ⟨g22, 0 + 0, none⟩ (.int .i64 t26.kind) Try.underlying3 (blk_cell b39 rfl)) (wN ?_)))))))
    refine then_n (wp_block (wp_seq (wR (lV 16 (eEq .i64 t26.kind 0) (lV 15 (eA (.bool (decide (t26.kind = 0)))) (wN (then_n ?_)))))))
    by_cases q42 : t26.kind = 0
    · replace M := ifp q42 M
      refine cT (bT q42) (wp_seq (wR (lV 17 (eD g22 0 1 1 Try.underlying36) (lV 18 (eL ⟨g22, 0 + 1, none⟩ (.int .i64 t26.n) Try.underlying3 (blk_cell b39 rfl)) (lV 19 (eM (.int .i64 x12)) (lV 20 (eEq .i64 t26.n x12) (lV 8 (eA (.bool (decide (t26.n = x12)))) ?_)))))))
      refine wN (then_n (wp_ret (inb_r (then_r ?_))))
      obtain rfl := Option.some.inj M
      have S43 := S40.pulls [(is g19), (is g22)] [1] rfl
      have S44 := St.first (Fa := [(is g19)]) (Fr := [(is g22)]) S43
      exact ret1 rfl rfl  (show _ = .bool (decide (t26.n = x12)) from (by kernel_rfl)) ⟨H29, rfl, h20, S44⟩
    replace M := ifn q42 M
    refine cF (bF q42) (wp_seq (wR (lV 22 (eEq .i64 t26.kind 4) (lV 21 (eA (.bool (decide (t26.kind = 4)))) (wN (then_n ?_))))))
    by_cases q45 : t26.kind = 4
    · replace M := ifp q45 M
      refine cT (bT q45) (wp_seq (wp_seq (wR (lV 23 (eM (.map (some g19))) (lV 24 (eD g22 0 1 1 Try.underlying36) (lV 25 (eL ⟨g22, 0 + 1, none⟩ (.int .i64 t26.n) Try.underlying3 (blk_cell b39 rfl)) (lV 26 (e_look1_s (k := t26.n) false h20 keyI Try.underlying96 Try.underlying3 (by kernel_rfl) (by kernel_rfl) (by kernel_rfl)) ?_)))))))
      refine wN (then_n ?_)
      by_cases q46 : ((mget x18 t26.n).getD false) = true
      · replace M := ifp q46 M
        refine cT (bvt q46 (by kernel_rfl)) (wp_seq (wR (lV 8 (eA (.bool false)) (wN (then_n (wp_ret (then_r ?_)))))))
        refine inb_r (then_r ?_)
        obtain rfl := Option.some.inj M
        have S47 := S40.pulls [(is g19), (is g22)] [1] rfl
        have S48 := St.first (Fa := [(is g19)]) (Fr := [(is g22)]) S47
        exact ret1 rfl rfl  (show _ = .bool false from (by kernel_rfl)) ⟨H29, rfl, h20, S48⟩
      replace M := ifn q46 M
      refine cF (bvf q46 (by kernel_rfl)) (wp_skip (then_n (wp_seq (wR (lV 27 (eM (.map (some g19))) (lV 28 (eD g22 0 1 1 Try.underlying36) (lV 29 (eL ⟨g22, 0 + 1, none⟩ (.int .i64 t26.n) Try.underlying3 (blk_cell b39 rfl)) ?_)))))))
      have S49 := S40.pulls [(is g19), (is g22)] [1] rfl
      refine lE (e_mapUpdate (k := t26.n) (a := true) S49 h20 keyI Try.underlying96 Try.underlying3 (by kernel_rfl) (by kernel_rfl) rfl rfl) ?_
      rintro w50 ⟨h51, S52, K53⟩
      replace b39 := K53.blk 0 rfl b39
      clear h20
      refine wN (then_n (wp_seq (wR (lV 9 (eA (.int .i64 1)) (wN (then_n (wp_block ?_)))))))
      refine wp_loop_g (fun k68 a69 w54 => ∃ (f55 : Nat → Value) (H56 : Hp) (x58 : Int) (x59 : List (Int × Bool)), k68 < K ∧ a69 = mk 57 f55 ∧ f55 0 = .pointer (some ⟨g2, 0, none⟩) ∧ f55 1 = .int .i64 x12 ∧ f55 3 = .map (some g19) ∧ f55 6 = .pointer (some ⟨g22, 0, none⟩) ∧ f55 9 = .int .i64 x58 ∧ MapO encI tBool H56 (hp w54) g19 x59 ∧ w54.heap[g22]? = some (.cells #[.int .i64 t26.kind, .int .i64 t26.n, .slice A31 t26.text.length c32] 36 (0, 0)) ∧ Ext H29 H56 ∧ St (anyOf [(is g19)]) H w [(is g19), (is g22)] H56 w54 ∧ impl_Store_within.l0 k68 x1 x12 t26 x58 x59 = some r) k1_ ⟨_, H29, 1, (mset x18 t26.n true), (by omega), rfl, (by kernel_rfl), (by kernel_rfl), (by kernel_rfl), (by kernel_rfl), (by kernel_rfl), h51, b39, (Ext.refl _), S52, M⟩ ?_
      clear M
      rintro k68 a69 w54 ⟨f55, H56, x58, x59, z66, rfl, e60, e61, e62, e63, e64, h51, b39, Y57, S65, M⟩
      rcases k68 with _ | k70
      · rw [impl_Store_within.l0] at M
        cases M
      rw [impl_Store_within.l0] at M
      refine wp_seq (wp_seq ?_)
      refine region_still (by kernel_rfl) (by kernel_rfl) S65 ?_
      intro w71 S72 K73
      replace h51 := h51.move (K73.at 0 rfl)
      replace b39 := K73.blk 1 rfl b39
      refine sV 30 (eM (.int .i64 x58) (by exact e64)) (sV 31 (eM (.pointer (some ⟨g2, 0, none⟩)) (by exact e60)) (sV 32 (eN ⟨g2, 0, none⟩) (sV 33 (eD g2 0 0 1 Try.underlying34) (sV 34 (eL ⟨g2, 0 + 0, none⟩ (.slice A4 x1.cells.length c5) Try.underlying32 (blk_cell (S72.inv _ _ ((E37.trans Y57) _ _ b3)) rfl)) (sV 35 (eD g22 0 1 1 Try.underlying36 (by exact e63)) (sV 36 (eL ⟨g22, 0 + 1, none⟩ (.int .i64 t26.n) Try.underlying3 (blk_cell b39 rfl)) ?_))))))
      obtain ⟨q74, M⟩ := chk M
      obtain ⟨q75, M⟩ := chk M
      obtain ⟨b76, o77, e78⟩ := Rd.addr h6 (show (t26.n).toNat < x1.cells.length by omega)
      obtain ⟨y79, r80, k81⟩ := Rd.at h6 e78 (getD_some z36 (show (t26.n).toNat < x1.cells.length by omega))
      obtain ⟨A82, c83, rfl, l84, h85⟩ := st36_open r80
      refine sV 37 (eI b76 o77 x1.cells.length c5 3 t26.n .i64 Try.underlying32 e78 q74 q75) (sV 38 (eD b76 (o77 + (t26.n : Int).toNat * 3) 1 1 Try.underlying36) (sV 39 (eL ⟨b76, o77 + (t26.n : Int).toNat * 3 + 1, none⟩ (.int .i64 ((x1.cells.getD ((t26.n).toNat) z36).n)) Try.underlying3 (hpx (S72.inv.cell ((E37.trans Y57).cell (k81 1 _ rfl))))) (sV 40 (e_leq (k := .i64) (a := x58) (b := (x1.cells.getD ((t26.n).toNat) z36).n) (by kernel_rfl) (by kernel_rfl)) (wpStill_nil (then_n ?_)))))
      by_cases q86 : x58 ≤ ((x1.cells.getD ((t26.n).toNat) z36).n)
      · replace M := ifp q86 M
        refine cT (bT q86) (wp_skip (then_n (wp_seq (wp_block (wp_seq ?_)))))
        refine region_mix (S := (fun (L_ : Array Bool) (w_ : World) => Ext H56 (hp w_) ∧ (∀ b_, (is g22) b_ → hp w_ b_ = hp w71 b_))) (by kernel_rfl) S72 ?_
        intro w87 S88 K89 hc90
        have o91 := b39
        have hs92 : (fun (L_ : Array Bool) (w_ : World) => Ext H56 (hp w_) ∧ (∀ b_, (is g22) b_ → hp w_ b_ = hp w71 b_)) (Array.replicate 14 false) w87 := ⟨S88.inv, (fun b_ h_ => K89.at 1 rfl b_ h_)⟩
        replace h51 := h51.move (K89.at 0 rfl)
        replace b39 := K89.blk 1 rfl b39
        refine xV 0 43 rfl hc90 hs92 (fun L_ w_ hc_ hu_ hs_ => eM (.pointer (some ⟨g2, 0, none⟩)) (by exact e60)) ?_; intro hc93 hs94
        refine xV 1 44 rfl hc93 hs94 (fun L_ w_ hc_ hu_ hs_ => eM (.int .i64 x12) (by exact e61)) ?_; intro hc95 hs96
        refine xV 2 45 rfl hc95 hs96 (fun L_ w_ hc_ hu_ hs_ => eM (.pointer (some ⟨g2, 0, none⟩)) (by exact e60)) ?_; intro hc97 hs98
        refine xV 3 46 rfl hc97 hs98 (fun L_ w_ hc_ hu_ hs_ => eN ⟨g2, 0, none⟩) ?_; intro hc99 hs100
        refine xV 4 47 rfl hc99 hs100 (fun L_ w_ hc_ hu_ hs_ => eD g2 0 0 1 Try.underlying34) ?_; intro hc101 hs102
        refine xV 5 48 rfl hc101 hs102 (fun L_ w_ hc_ hu_ hs_ => eL ⟨g2, 0 + 0, none⟩ (.slice A4 x1.cells.length c5) Try.underlying32 (blk_cell (hs_.1 _ _ ((E37.trans Y57) _ _ b3)) rfl)) ?_; intro hc103 hs104
        refine xV 6 49 rfl hc103 hs104 (fun L_ w_ hc_ hu_ hs_ => eD g22 0 1 1 Try.underlying36 (by exact e63)) ?_; intro hc105 hs106
        refine xV 7 50 rfl hc105 hs106 (fun L_ w_ hc_ hu_ hs_ => eL ⟨g22, 0 + 1, none⟩ (.int .i64 t26.n) Try.underlying3 (blk_cell ((hs_.2 _ rfl).trans o91) rfl)) ?_; intro hc107 hs108
        refine xV 8 51 rfl hc107 hs108 (fun L_ w_ hc_ hu_ hs_ => eM (.int .i64 x58) (by exact e64)) ?_; intro hc109 hs110
        refine xV 9 52 rfl hc109 hs110 (fun L_ w_ hc_ hu_ hs_ => eAdd .i64 t26.n x58) ?_; intro hc111 hs112
        obtain ⟨q113, M⟩ := chk M
        obtain ⟨q114, M⟩ := chk M
        obtain ⟨b115, o116, e117⟩ := Rd.addr h6 (show ((IntKind.i64.wrap (t26.n + x58))).toNat < x1.cells.length by omega)
        obtain ⟨y118, r119, k120⟩ := Rd.at h6 e117 (getD_some z36 (show ((IntKind.i64.wrap (t26.n + x58))).toNat < x1.cells.length by omega))
        obtain ⟨A121, c122, rfl, l123, h124⟩ := st36_open r119
        refine xV 10 53 rfl hc111 hs112 (fun L_ w_ hc_ hu_ hs_ => eI b115 o116 x1.cells.length c5 3 (IntKind.i64.wrap (t26.n + x58)) .i64 Try.underlying32 e117 q113 q114) ?_; intro hc125 hs126
        refine xV 11 54 rfl hc125 hs126 (fun L_ w_ hc_ hu_ hs_ => e_loadS (b := b115) (off := o116 + ((IntKind.i64.wrap (t26.n + x58)) : Int).toNat * 3) (cs := [.int .i64 ((x1.cells.getD (((IntKind.i64.wrap (t26.n + x58))).toNat) z36).kind), .int .i64 ((x1.cells.getD (((IntKind.i64.wrap (t26.n + x58))).toNat) z36).n), .slice A121 ((x1.cells.getD (((IntKind.i64.wrap (t26.n + x58))).toNat) z36).text).length c122]) Try.underlying36 rfl (by kernel_rfl) (by kernel_rfl) (fun j_ u_ e_ => (hpx (hs_.1.cell ((E37.trans Y57).cell (k120 j_ u_ e_)))))) ?_; intro hc127 hs128
        refine xO 12 hc127 ?_
        refine yO 12 55 rfl hs128 (eM (.map (some g19)) (by exact e62)) ?_; intro hc129 hs130
        obtain ⟨t131, u132, M⟩ := bnd M
        refine xO 13 hc129 ?_
        refine yC 13 rfl (eC [.tmp 43, .tmp 44, .tmp 54, .tmp 55] [.pointer (some ⟨g2, 0, none⟩), .int .i64 x12, .agg #[.int .i64 ((x1.cells.getD (((IntKind.i64.wrap (t26.n + x58))).toNat) z36).kind), .int .i64 ((x1.cells.getD (((IntKind.i64.wrap (t26.n + x58))).toNat) z36).n), .slice A121 ((x1.cells.getD (((IntKind.i64.wrap (t26.n + x58))).toNat) z36).text).length c122], .map (some g19)] Try.func72) (ih k70 (by omega) w87 H56 x1 g2 A4 c5 A8 c9 x12 (x1.cells.getD (((IntKind.i64.wrap (t26.n + x58))).toNat) z36) A121 c122 x59 g19 (h6.ext (E37.trans Y57)) l7 (h10.ext (E37.trans Y57)) l11 ((E37.trans Y57) _ _ b3) (h124.ext (E37.trans Y57)) l123 h51 (St.own' (Fa := [(is g19)]) (Fr := [(is g22)]) S88) t131 u132) ?_
        rintro hc137 _ w133 ⟨H134, rfl, h136, T135⟩
        refine ⟨_, rfl, ?_⟩
        obtain ⟨S138, K139⟩ := St.call (Fa := [(is g19)]) (Fr := [(is g22)]) S88 T135
        replace b39 := K139.blk 0 rfl b39
        have E140 := T135.ext
        refine ⟨⟨(Ext.trans E140 S138.inv), (fun b_ h_ => (K139.at 0 rfl b_ h_).trans (hs130.2 b_ h_))⟩, fun hs141 => ?_⟩
        refine xn (by kernel_rfl) ?_ _
        refine then_n ?_
        by_cases q142 : t131.1 = true
        · replace M := ifp q142 M
          refine cT (bvt q142 (by kernel_rfl)) (wp_seq (wR (lV 8 (eA (.bool true)) (wN (then_n (wp_ret (inb_r ?_)))))))
          refine then_r (then_r (inb_r (inb_r (then_r ?_))))
          obtain rfl := Option.some.inj M
          have S143 := St.first (Fa := [(is g19)]) (Fr := [(is g22)]) S138
          exact ret1 rfl rfl  (show _ = .bool true from (by kernel_rfl)) ⟨H134, rfl, h136, S143⟩
        replace M := ifn q142 M
        refine cF (bvf q142 (by kernel_rfl)) (wp_skip (inb_n (then_n (wR (lV 41 (eM (.int .i64 x58) (by exact e64)) (lV 42 (eAdd .i64 x58 1) (lV 9 (eA (.int .i64 (IntKind.i64.wrap (x58 + 1)))) ?_)))))))
        refine wN (then_n ?_)
        exact ⟨k70, (by omega), _, H134, (IntKind.i64.wrap (x58 + 1)), t131.2, (by omega), rfl, (by exact e60), (by exact e61), (by exact e62), (by exact e63), (by kernel_rfl), h136, b39, (Y57.trans E140), S138, M⟩
      replace M := ifn q86 M
      refine cF (bF q86) (wp_exit (then_e (then_e (inb_hit (inb_n (then_n (wp_seq ?_)))))))
      refine wR (lV 8 (eA (.bool false)) (wN (then_n (wp_ret ?_))))
      obtain rfl := Option.some.inj M
      have S144 := St.first (Fa := [(is g19)]) (Fr := [(is g22)]) S72
      exact ret1 rfl rfl  (show _ = .bool false from (by kernel_rfl)) ⟨H56, rfl, h51, S144⟩
    replace M := ifn q45 M
    refine cF (bF q45) (wp_skip (inb_n (then_n (wp_seq (wR (lV 8 (eA (.bool false)) (wN ?_)))))))
    refine then_n (wp_ret ?_)
    obtain rfl := Option.some.inj M
    have S145 := S40.pulls [(is g19), (is g22)] [1] rfl
    have S146 := St.first (Fa := [(is g19)]) (Fr := [(is g22)]) S145
    exact ret1 rfl rfl  (show _ = .bool false from (by kernel_rfl)) ⟨H29, rfl, h20, S146⟩
theorem impl_Store_within.calls (k : Nat) (w : World) (H : Hp) (x1 : Store) (g2 : Nat) (A4 : Option Addr) (c5 : Nat) (A8 : Option Addr) (c9 : Nat) (x12 : Int) (x13 : Cell) (A14 : Option Addr) (c15 : Nat) (x18 : List (Int × Bool)) (g19 : Nat) (h6 : Rd st36 H A4 x1.cells) (l7 : x1.cells.length ≤ c5) (h10 : Rd tInt H A8 x1.trail) (l11 : x1.trail.length ≤ c9) (b3 : H g2 = some (.cells #[.slice A4 x1.cells.length c5, .slice A8 x1.trail.length c9] 34 (0, 0))) (h16 : Rd tByte H A14 x13.text) (l17 : x13.text.length ≤ c15) (h20 : MapO encI tBool H (hp w) g19 x18) (S : Own [(is g19)] H w) (r : Bool × (List (Int × Bool))) (M : impl_Store_within.f k x1 x12 x13 x18 = some r) :
    Calls Try.prog 72 #[.pointer (some ⟨g2, 0, none⟩), .int .i64 x12, .agg #[.int .i64 x13.kind, .int .i64 x13.n, .slice A14 x13.text.length c15], .map (some g19)] w (fun e e_w => ∃ (H_ : Hp), e = .returned (.bool r.1) ∧ MapO encI tBool H_ (hp e_w) g19 r.2 ∧ St (anyOf [(is g19)]) H w [(is g19)] H_ e_w) := (impl_Store_within.all (k + 1)) k (Nat.lt_succ_self k) w H x1 g2 A4 c5 A8 c9 x12 x13 A14 c15 x18 g19 h6 l7 h10 l11 b3 h16 l17 h20 S r M

/-! impl_Store_deref -/
def impl_Store_deref_2.l0 : Nat → Store → Int → Int → (List UInt8) → Option Cell
  | 0, _, _, _, _ => none
  | k44 + 1, x1, x29, x30, x31 => (if x29 = 0 then (if 0 ≤ x30 then (if x30 < (x1.cells.length : Int) then (if ((x1.cells.getD ((x30).toNat) z36).kind) = 0 then (if ¬ (((x1.cells.getD ((x30).toNat) z36).n) = x30) then (impl_Store_deref_2.l0 k44 x1 ((x1.cells.getD ((x30).toNat) z36).kind) ((x1.cells.getD ((x30).toNat) z36).n) ((x1.cells.getD ((x30).toNat) z36).text)) else some (⟨x29, x30, x31⟩ : Cell)) else (impl_Store_deref_2.l0 k44 x1 ((x1.cells.getD ((x30).toNat) z36).kind) ((x1.cells.getD ((x30).toNat) z36).n) ((x1.cells.getD ((x30).toNat) z36).text))) else none) else none) else some (⟨x29, x30, x31⟩ : Cell))
def impl_Store_deref_2.f (k : Nat) (x1 : Store) (x12 : Cell) : Option Cell := (impl_Store_deref_2.l0 k x1 x12.kind x12.n x12.text)
theorem impl_Store_deref_2.calls (k : Nat) (w : World) (H : Hp) (x1 : Store) (g2 : Nat) (A4 : Option Addr) (c5 : Nat) (F7 : Foot) (A8 : Option Addr) (c9 : Nat) (F11 : Foot) (x12 : Cell) (A13 : Option Addr) (c14 : Nat) (h6 : Row (ro st36) 36 H (hp w) F7 A4 c5 x1.cells) (h10 : Row tInt 3 H (hp w) F11 A8 c9 x1.trail) (b3 : w.heap[g2]? = some (.cells #[.slice A4 x1.cells.length c5, .slice A8 x1.trail.length c9] 34 (0, 0))) (h15 : Rd tByte H A13 x12.text) (l16 : x12.text.length ≤ c14) (S : Own [F7, F11, (is g2)] H w) (r : Cell) (M : impl_Store_deref_2.f k x1 x12 = some r) :
    Calls Try.prog 50 #[.pointer (some ⟨g2, 0, none⟩), .agg #[.int .i64 x12.kind, .int .i64 x12.n, .slice A13 x12.text.length c14]] w (fun e e_w => ∃ (A_1 : Option Addr) (c_1 : Nat) (H_ : Hp), e = .returned (.agg #[.int .i64 r.kind, .int .i64 r.n, .slice A_1 r.text.length c_1]) ∧ Row (ro st36) 36 H_ (hp e_w) F7 A4 c5 x1.cells ∧ Row tInt 3 H_ (hp e_w) F11 A8 c9 x1.trail ∧ e_w.heap[g2]? = some (.cells #[.slice A4 x1.cells.length c5, .slice A8 x1.trail.length c9] 34 (0, 0)) ∧ Rd tByte H_ A_1 r.text ∧ r.text.length ≤ c_1 ∧ St (anyOf [F7, F11, (is g2)]) H w [F7, F11, (is g2)] H_ e_w) := by
  rw [impl_Store_deref_2.f] at M
  refine enter (l := [.pointer (some ⟨g2, 0, none⟩), .agg #[.int .i64 x12.kind, .int .i64 x12.n, .slice A13 x12.text.length c14]]) 44 Try.func50 rfl rfl rfl ?_
  have S0_ := S.st
  refine wp_seq (wR ?_)
  refine lW 3 (nB #[.int .i64 x12.kind, .int .i64 x12.n, .slice A13 x12.text.length c14] 36 S0_) ?_
  rintro _ w17 ⟨g18, rfl, b19, S20, K21⟩
  replace h6 := h6.move (K21.at 0 rfl)
  replace h10 := h10.move (K21.at 1 rfl)
  replace b3 := K21.blk 2 rfl b3
  refine lW 4 (nB #[.int .i64 0, .int .i64 0, .slice none 0 0] 36 S20) ?_
  rintro _ w22 ⟨g23, rfl, b24, S25, K26⟩
  replace b19 := K26.blk 0 rfl b19
  replace h6 := h6.move (K26.at 1 rfl)
  replace h10 := h10.move (K26.at 2 rfl)
  replace b3 := K26.blk 3 rfl b3
  refine wN (then_n (wp_seq (wp_block ?_)))
  refine wp_loop_g (fun k42 a43 w27 => ∃ (f28 : Nat → Value) (x29 : Int) (x30 : Int) (x31 : List UInt8) (A32 : Option Addr) (c33 : Nat), a43 = mk 44 f28 ∧ f28 0 = .pointer (some ⟨g2, 0, none⟩) ∧ f28 3 = .pointer (some ⟨g18, 0, none⟩) ∧ f28 4 = .pointer (some ⟨g23, 0, none⟩) ∧ w27.heap[g23]? = some (.cells #[.int .i64 0, .int .i64 0, .slice none 0 0] 36 (0, 0)) ∧ w27.heap[g18]? = some (.cells #[.int .i64 x29, .int .i64 x30, .slice A32 x31.length c33] 36 (0, 0)) ∧ Row (ro st36) 36 H (hp w27) F7 A4 c5 x1.cells ∧ Row tInt 3 H (hp w27) F11 A8 c9 x1.trail ∧ w27.heap[g2]? = some (.cells #[.slice A4 x1.cells.length c5, .slice A8 x1.trail.length c9] 34 (0, 0)) ∧ Rd tByte H A32 x31 ∧ x31.length ≤ c33 ∧ St (anyOf [F7, F11, (is g2)]) H w [(is g23), (is g18), F7, F11, (is g2)] H w27 ∧ impl_Store_deref_2.l0 k42 x1 x29 x30 x31 = some r) k ⟨_, x12.kind, x12.n, x12.text, A13, c14, rfl, (by kernel_rfl), (by kernel_rfl), (by kernel_rfl), b24, b19, h6, h10, b3, h15, l16, S25, M⟩ ?_
  clear M
  rintro k42 a43 w27 ⟨f28, x29, x30, x31, A32, c33, rfl, e36, e37, e38, b24, b19, h6, h10, b3, h34, l35, S39, M⟩
  rcases k42 with _ | k44
  · rw [impl_Store_deref_2.l0] at M
    cases M
  rw [impl_Store_deref_2.l0] at M
  refine wp_seq (wp_seq ?_)
  refine region_still (by kernel_rfl) (by kernel_rfl) S39 ?_
  intro w45 S46 K47
  replace b24 := K47.blk 0 rfl b24
  replace b19 := K47.blk 1 rfl b19
  replace h6 := h6.move (K47.at 2 rfl)
  replace h10 := h10.move (K47.at 3 rfl)
  replace b3 := K47.blk 4 rfl b3
  refine sV 5 (eD g18 0 0 1 Try.underlying36 (by exact e37)) (sV 6 (eL ⟨g18, 0 + 0, none⟩ (.int .i64 x29) Try.underlying3 (blk_cell b19 rfl)) (sV 7 (eEq .i64 x29 0) (sV 8 (eM (.bool (decide (x29 = 0)))) ?_)))
  by_cases q48 : x29 = 0
  · replace M := ifp q48 M
    refine sG 9 8 (bT q48) (eM (.pointer (some ⟨g2, 0, none⟩)) (by exact e36)) (sG 10 8 (bT q48) (eN ⟨g2, 0, none⟩) (sG 11 8 (bT q48) (eD g2 0 0 1 Try.underlying34) (sG 12 8 (bT q48) (eL ⟨g2, 0 + 0, none⟩ (.slice A4 x1.cells.length c5) Try.underlying32 (blk_cell b3 rfl)) (sG 13 8 (bT q48) (eD g18 0 1 1 Try.underlying36 (by exact e37)) (sG 14 8 (bT q48) (eL ⟨g18, 0 + 1, none⟩ (.int .i64 x30) Try.underlying3 (blk_cell b19 rfl)) ?_)))))
    obtain ⟨q49, M⟩ := chk M
    obtain ⟨q50, M⟩ := chk M
    obtain ⟨b51, e53⟩ := Row.addr h6 (show (x30).toNat < x1.cells.length by omega)
    refine sG 15 8 (bT q48) (eI b51 0 x1.cells.length c5 3 x30 .i64 Try.underlying32 e53 q49 q50) (sG 16 8 (bT q48) (eD b51 (0 + (x30 : Int).toNat * 3) 0 1 Try.underlying36) (sG 17 8 (bT q48) (eL ⟨b51, 0 + (x30 : Int).toNat * 3 + 0, none⟩ (.int .i64 ((x1.cells.getD ((x30).toNat) z36).kind)) Try.underlying3 (hpx (Row.pick (j := 0) (u := .int .i64 ((x1.cells.getD ((x30).toNat) z36).kind)) h6 e53 (getD_some z36 (show (x30).toNat < x1.cells.length by omega)) (fun _ _ o_ => st36_r0 o_)))) (sG 18 8 (bT q48) (eEq .i64 (x1.cells.getD ((x30).toNat) z36).kind 0) (sG 19 8 (bT q48) (eM (.bool (decide (((x1.cells.getD ((x30).toNat) z36).kind) = 0)))) ?_))))
    by_cases q54 : ((x1.cells.getD ((x30).toNat) z36).kind) = 0
    · replace M := ifp q54 M
      refine sG 20 19 (bT q54) (eM (.pointer (some ⟨g2, 0, none⟩)) (by exact e36)) (sG 21 19 (bT q54) (eN ⟨g2, 0, none⟩) (sG 22 19 (bT q54) (eD g2 0 0 1 Try.underlying34) (sG 23 19 (bT q54) (eL ⟨g2, 0 + 0, none⟩ (.slice A4 x1.cells.length c5) Try.underlying32 (blk_cell b3 rfl)) (sG 24 19 (bT q54) (eD g18 0 1 1 Try.underlying36 (by exact e37)) (sG 25 19 (bT q54) (eL ⟨g18, 0 + 1, none⟩ (.int .i64 x30) Try.underlying3 (blk_cell b19 rfl)) ?_)))))
      obtain ⟨b55, e57⟩ := Row.addr h6 (show (x30).toNat < x1.cells.length by omega)
      refine sG 26 19 (bT q54) (eI b55 0 x1.cells.length c5 3 x30 .i64 Try.underlying32 e57 q49 q50) (sG 27 19 (bT q54) (eD b55 (0 + (x30 : Int).toNat * 3) 1 1 Try.underlying36) (sG 28 19 (bT q54) (eL ⟨b55, 0 + (x30 : Int).toNat * 3 + 1, none⟩ (.int .i64 ((x1.cells.getD ((x30).toNat) z36).n)) Try.underlying3 (hpx (Row.pick (j := 1) (u := .int .i64 ((x1.cells.getD ((x30).toNat) z36).n)) h6 e57 (getD_some z36 (show (x30).toNat < x1.cells.length by omega)) (fun _ _ o_ => st36_r1 o_)))) (sG 29 19 (bT q54) (eD g18 0 1 1 Try.underlying36 (by exact e37)) (sG 30 19 (bT q54) (eL ⟨g18, 0 + 1, none⟩ (.int .i64 x30) Try.underlying3 (blk_cell b19 rfl)) (sG 31 19 (bT q54) (eEq .i64 (x1.cells.getD ((x30).toNat) z36).n x30) (sG 32 8 (bT q48) (eT (.bool (decide (((x1.cells.getD ((x30).toNat) z36).n) = x30))) (bT q54)) (sG 33 8 (bT q48) (e_notd (c := ((x1.cells.getD ((x30).toNat) z36).n) = x30) (by kernel_rfl)) ?_)))))))
      refine sV 34 (eT (.bool (decide (¬ (((x1.cells.getD ((x30).toNat) z36).n) = x30)))) (bT q48)) (wpStill_nil (then_n ?_))
      by_cases q58 : ¬ (((x1.cells.getD ((x30).toNat) z36).n) = x30)
      · replace M := ifp q58 M
        refine cT (bT q58) (wp_skip (then_n (wp_block ?_)))
        refine region_mix (S := (fun (L_ : Array Bool) (w_ : World) => Ext H (hp w_) ∧ (∀ b_, (is g2) b_ → hp w_ b_ = hp w45 b_))) (by kernel_rfl) S46 ?_
        intro w59 S60 K61 hc62
        have o63 := b3
        have hs64 : (fun (L_ : Array Bool) (w_ : World) => Ext H (hp w_) ∧ (∀ b_, (is g2) b_ → hp w_ b_ = hp w45 b_)) (Array.replicate 9 false) w59 := ⟨S60.inv, (fun b_ h_ => K61.at 4 rfl b_ h_)⟩
        replace b24 := K61.blk 0 rfl b24
        replace b19 := K61.blk 1 rfl b19
        replace h6 := h6.move (K61.at 2 rfl)
        replace h10 := h10.move (K61.at 3 rfl)
        replace b3 := K61.blk 4 rfl b3
        refine xV 0 35 rfl hc62 hs64 (fun L_ w_ hc_ hu_ hs_ => eM (.pointer (some ⟨g2, 0, none⟩)) (by exact e36)) ?_; intro hc65 hs66
        refine xV 1 36 rfl hc65 hs66 (fun L_ w_ hc_ hu_ hs_ => eN ⟨g2, 0, none⟩) ?_; intro hc67 hs68
        refine xV 2 37 rfl hc67 hs68 (fun L_ w_ hc_ hu_ hs_ => eD g2 0 0 1 Try.underlying34) ?_; intro hc69 hs70
        refine xV 3 38 rfl hc69 hs70 (fun L_ w_ hc_ hu_ hs_ => eL ⟨g2, 0 + 0, none⟩ (.slice A4 x1.cells.length c5) Try.underlying32 (blk_cell ((hs_.2 _ rfl).trans o63) rfl)) ?_; intro hc71 hs72
        refine xO 4 hc71 ?_
        refine yO 4 39 rfl hs72 (eD g18 0 1 1 Try.underlying36 (by exact e37)) ?_; intro hc73 hs74
        refine xO 5 hc73 ?_
        refine yO 5 40 rfl hs74 (eL ⟨g18, 0 + 1, none⟩ (.int .i64 x30) Try.underlying3 (blk_cell b19 rfl)) ?_; intro hc75 hs76
        obtain ⟨b77, e79⟩ := Row.addr h6 (show (x30).toNat < x1.cells.length by omega)
        refine xO 6 hc75 ?_
        refine yO 6 41 rfl hs76 (eI b77 0 x1.cells.length c5 3 x30 .i64 Try.underlying32 e79 q49 q50) ?_; intro hc80 hs81
        obtain ⟨y82, F83, r84, s85, k86⟩ := Row.at h6 e79 (getD_some z36 (show (x30).toNat < x1.cells.length by omega))
        obtain ⟨A87, c88, rfl, l89, h90⟩ := st36_open r84
        refine xO 7 hc80 ?_
        refine yO 7 42 rfl hs81 (e_loadS (b := b77) (off := 0 + (x30 : Int).toNat * 3) (cs := [.int .i64 ((x1.cells.getD ((x30).toNat) z36).kind), .int .i64 ((x1.cells.getD ((x30).toNat) z36).n), .slice A87 ((x1.cells.getD ((x30).toNat) z36).text).length c88]) Try.underlying36 rfl (by kernel_rfl) (by kernel_rfl) (fun j_ u_ e_ => (hpx (k86 j_ u_ e_)))) ?_; intro hc91 hs92
        have S93 := S60.pulls [(is g18), (is g23), F7, F11, (is g2)] [1] rfl
        refine xO 8 hc91 ?_
        refine yS 8 rfl (eSa g18 0 [.int .i64 ((x1.cells.getD ((x30).toNat) z36).kind), .int .i64 ((x1.cells.getD ((x30).toNat) z36).n), .slice A87 ((x1.cells.getD ((x30).toNat) z36).text).length c88] S93 b19 (by exact e37)) ?_
        rintro hc98 w94 ⟨b95, S96, K97⟩
        replace b24 := K97.blk 0 rfl b24
        replace h6 := h6.move (K97.at 1 rfl)
        replace h10 := h10.move (K97.at 2 rfl)
        replace b3 := K97.blk 3 rfl b3
        refine ⟨⟨S96.inv, (fun b_ h_ => (K97.at 3 rfl b_ h_).trans (hs92.2 b_ h_))⟩, fun hs99 => ?_⟩
        clear b19
        refine xn (by kernel_rfl) ?_ _
        refine inb_n (then_n ?_)
        have S104 := S96.pulls [(is g23), (is g18), F7, F11, (is g2)] [4, 4, 4, 3, 4] rfl
        exact ⟨k44, (by omega), _, ((x1.cells.getD ((x30).toNat) z36).kind), ((x1.cells.getD ((x30).toNat) z36).n), ((x1.cells.getD ((x30).toNat) z36).text), A87, c88, rfl, (by exact e36), (by exact e37), (by exact e38), b24, b95, h6, h10, b3, h90, l89, S104, M⟩
      replace M := ifn q58 M
      refine cF (bF q58) (wp_exit (then_e (then_e (inb_hit (then_n (wp_seq (wR ?_)))))))
      refine lV 43 (e_loadS (b := g18) (off := 0) (cs := [.int .i64 x29, .int .i64 x30, .slice A32 x31.length c33]) Try.underlying36 rfl (by kernel_rfl) (by exact e37) (blk_cells b19 rfl)) ?_
      refine lE (eSa g23 0 [.int .i64 x29, .int .i64 x30, .slice A32 x31.length c33] S46 b24 (by exact e38)) ?_
      rintro w105 ⟨b106, S107, K108⟩
      replace h6 := h6.move (K108.at 1 rfl)
      replace h10 := h10.move (K108.at 2 rfl)
      replace b3 := K108.blk 3 rfl b3
      clear b24
      refine wN (then_n (wp_ret ?_))
      obtain rfl := Option.some.inj M
      have S111 := S107.pulls [F7, F11, (is g2), (is g23), (is g18)] [4, 4, 4] rfl
      have S112 := St.first (Fa := [F7, F11, (is g2)]) (Fr := [(is g23), (is g18)]) S111
      exact retS (ty := 36) (cur := #[.int .i64 x29, .int .i64 x30, .slice A32 x31.length c33]) rfl rfl (by exact e38) b106 Try.underlying36 rfl (by kernel_rfl) ⟨A32, c33, H, rfl, h6, h10, b3, h34, l35, S112⟩
    replace M := ifn q54 M
    refine sK 19 false (bF q54) ?_
    refine sK 19 false (bF q54) ?_
    refine sK 19 false (bF q54) ?_
    refine sK 19 false (bF q54) ?_
    refine sK 19 false (bF q54) ?_
    refine sK 19 false (bF q54) ?_
    refine sK 19 false (bF q54) ?_
    refine sK 19 false (bF q54) ?_
    refine sK 19 false (bF q54) ?_
    refine sK 19 false (bF q54) ?_
    refine sK 19 false (bF q54) ?_
    refine sK 19 false (bF q54) ?_
    refine sG 32 8 (bT q48) (eF (.bool false) (bF q54)) (sG 33 8 (bT q48) (e_not (c := false) (by kernel_rfl)) (sV 34 (eT (.bool true) (bT q48)) (wpStill_nil (then_n (cond_t rfl (by kernel_rfl) (wp_skip (then_n ?_)))))))
    refine wp_block ?_
    refine region_mix (S := (fun (L_ : Array Bool) (w_ : World) => Ext H (hp w_) ∧ (∀ b_, (is g2) b_ → hp w_ b_ = hp w45 b_))) (by kernel_rfl) S46 ?_
    intro w113 S114 K115 hc116
    have o117 := b3
    have hs118 : (fun (L_ : Array Bool) (w_ : World) => Ext H (hp w_) ∧ (∀ b_, (is g2) b_ → hp w_ b_ = hp w45 b_)) (Array.replicate 9 false) w113 := ⟨S114.inv, (fun b_ h_ => K115.at 4 rfl b_ h_)⟩
    replace b24 := K115.blk 0 rfl b24
    replace b19 := K115.blk 1 rfl b19
    replace h6 := h6.move (K115.at 2 rfl)
    replace h10 := h10.move (K115.at 3 rfl)
    replace b3 := K115.blk 4 rfl b3
    refine xV 0 35 rfl hc116 hs118 (fun L_ w_ hc_ hu_ hs_ => eM (.pointer (some ⟨g2, 0, none⟩)) (by exact e36)) ?_; intro hc119 hs120
    refine xV 1 36 rfl hc119 hs120 (fun L_ w_ hc_ hu_ hs_ => eN ⟨g2, 0, none⟩) ?_; intro hc121 hs122
    refine xV 2 37 rfl hc121 hs122 (fun L_ w_ hc_ hu_ hs_ => eD g2 0 0 1 Try.underlying34) ?_; intro hc123 hs124
    refine xV 3 38 rfl hc123 hs124 (fun L_ w_ hc_ hu_ hs_ => eL ⟨g2, 0 + 0, none⟩ (.slice A4 x1.cells.length c5) Try.underlying32 (blk_cell ((hs_.2 _ rfl).trans o117) rfl)) ?_; intro hc125 hs126
    refine xO 4 hc125 ?_
    refine yO 4 39 rfl hs126 (eD g18 0 1 1 Try.underlying36 (by exact e37)) ?_; intro hc127 hs128
    refine xO 5 hc127 ?_
    refine yO 5 40 rfl hs128 (eL ⟨g18, 0 + 1, none⟩ (.int .i64 x30) Try.underlying3 (blk_cell b19 rfl)) ?_; intro hc129 hs130
    obtain ⟨b131, e133⟩ := Row.addr h6 (show (x30).toNat < x1.cells.length by omega)
    refine xO 6 hc129 ?_
    refine yO 6 41 rfl hs130 (eI b131 0 x1.cells.length c5 3 x30 .i64 Try.underlying32 e133 q49 q50) ?_; intro hc134 hs135
    obtain ⟨y136, F137, r138, s139, k140⟩ := Row.at h6 e133 (getD_some z36 (show (x30).toNat < x1.cells.length by omega))
    obtain ⟨A141, c142, rfl, l143, h144⟩ := st36_open r138
    refine xO 7 hc134 ?_
    refine yO 7 42 rfl hs135 (e_loadS (b := b131) (off := 0 + (x30 : Int).toNat * 3) (cs := [.int .i64 ((x1.cells.getD ((x30).toNat) z36).kind), .int .i64 ((x1.cells.getD ((x30).toNat) z36).n), .slice A141 ((x1.cells.getD ((x30).toNat) z36).text).length c142]) Try.underlying36 rfl (by kernel_rfl) (by kernel_rfl) (fun j_ u_ e_ => (hpx (k140 j_ u_ e_)))) ?_; intro hc145 hs146
    have S147 := S114.pulls [(is g18), (is g23), F7, F11, (is g2)] [1] rfl
    refine xO 8 hc145 ?_
    refine yS 8 rfl (eSa g18 0 [.int .i64 ((x1.cells.getD ((x30).toNat) z36).kind), .int .i64 ((x1.cells.getD ((x30).toNat) z36).n), .slice A141 ((x1.cells.getD ((x30).toNat) z36).text).length c142] S147 b19 (by exact e37)) ?_
    rintro hc152 w148 ⟨b149, S150, K151⟩
    replace b24 := K151.blk 0 rfl b24
    replace h6 := h6.move (K151.at 1 rfl)
    replace h10 := h10.move (K151.at 2 rfl)
    replace b3 := K151.blk 3 rfl b3
    refine ⟨⟨S150.inv, (fun b_ h_ => (K151.at 3 rfl b_ h_).trans (hs146.2 b_ h_))⟩, fun hs153 => ?_⟩
    clear b19
    refine xn (by kernel_rfl) ?_ _
    refine inb_n (then_n ?_)
    have S158 := S150.pulls [(is g23), (is g18), F7, F11, (is g2)] [4, 4, 4, 3, 4] rfl
    exact ⟨k44, (by omega), _, ((x1.cells.getD ((x30).toNat) z36).kind), ((x1.cells.getD ((x30).toNat) z36).n), ((x1.cells.getD ((x30).toNat) z36).text), A141, c142, rfl, (by exact e36), (by exact e37), (by exact e38), b24, b149, h6, h10, b3, h144, l143, S158, M⟩
  replace M := ifn q48 M
  refine sK 8 false (bF q48) ?_
  refine sK 8 false (bF q48) ?_
  refine sK 8 false (bF q48) ?_
  refine sK 8 false (bF q48) ?_
  refine sK 8 false (bF q48) ?_
  refine sK 8 false (bF q48) ?_
  refine sK 8 false (bF q48) ?_
  refine sK 8 false (bF q48) ?_
  refine sK 8 false (bF q48) ?_
  refine sK 8 false (bF q48) ?_
  refine sK 8 false (bF q48) ?_
  refine sskipu (t := 19) rfl (by kernel_rfl) rfl (by kernel_rfl) rfl ?_
  refine sskipu (t := 19) rfl (by kernel_rfl) rfl (by kernel_rfl) rfl ?_
  refine sskipu (t := 19) rfl (by kernel_rfl) rfl (by kernel_rfl) rfl ?_
  refine sskipu (t := 19) rfl (by kernel_rfl) rfl (by kernel_rfl) rfl ?_
  refine sskipu (t := 19) rfl (by kernel_rfl) rfl (by kernel_rfl) rfl ?_
  refine sskipu (t := 19) rfl (by kernel_rfl) rfl (by kernel_rfl) rfl ?_
  refine sskipu (t := 19) rfl (by kernel_rfl) rfl (by kernel_rfl) rfl ?_
  refine sskipu (t := 19) rfl (by kernel_rfl) rfl (by kernel_rfl) rfl ?_
  refine sskipu (t := 19) rfl (by kernel_rfl) rfl (by kernel_rfl) rfl ?_
  refine sskipu (t := 19) rfl (by kernel_rfl) rfl (by kernel_rfl) rfl ?_
  refine sskipu (t := 19) rfl (by kernel_rfl) rfl (by kernel_rfl) rfl ?_
  refine sskipu (t := 19) rfl (by kernel_rfl) rfl (by kernel_rfl) rfl ?_
  refine sK 8 false (bF q48) ?_
  refine sK 8 false (bF q48) ?_
  refine sV 34 (eF (.bool false) (bF q48)) (wpStill_nil (then_n (cond_f rfl (by kernel_rfl) (wp_exit (then_e (then_e (inb_hit ?_)))))))
  refine then_n (wp_seq (wR (lV 43 (e_loadS (b := g18) (off := 0) (cs := [.int .i64 x29, .int .i64 x30, .slice A32 x31.length c33]) Try.underlying36 rfl (by kernel_rfl) (by exact e37) (blk_cells b19 rfl)) ?_)))
  refine lE (eSa g23 0 [.int .i64 x29, .int .i64 x30, .slice A32 x31.length c33] S46 b24 (by exact e38)) ?_
  rintro w159 ⟨b160, S161, K162⟩
  replace h6 := h6.move (K162.at 1 rfl)
  replace h10 := h10.move (K162.at 2 rfl)
  replace b3 := K162.blk 3 rfl b3
  clear b24
  refine wN (then_n (wp_ret ?_))
  obtain rfl := Option.some.inj M
  have S165 := S161.pulls [F7, F11, (is g2), (is g23), (is g18)] [4, 4, 4] rfl
  have S166 := St.first (Fa := [F7, F11, (is g2)]) (Fr := [(is g23), (is g18)]) S165
  exact retS (ty := 36) (cur := #[.int .i64 x29, .int .i64 x30, .slice A32 x31.length c33]) rfl rfl (by exact e38) b160 Try.underlying36 rfl (by kernel_rfl) ⟨A32, c33, H, rfl, h6, h10, b3, h34, l35, S166⟩
end Go.Proofs.Ytnigifmkjmbfiaa
