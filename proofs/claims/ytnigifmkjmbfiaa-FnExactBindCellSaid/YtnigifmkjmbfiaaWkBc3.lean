import Derived.Test.YtnigifmkjmbfiaaWkBc2
namespace Go.Proofs.Ytnigifmkjmbfiaa
open Go.Sx Go.Sy
attribute [local irreducible] Go.wpList Go.wpStill Go.wpQuiet Go.Code.wp
set_option maxRecDepth 100000
set_option maxHeartbeats 1000000
set_option linter.unusedVariables false
set_option linter.unusedSimpArgs false

/-! impl_Store_ok_c1 -/
structure GStep where
  at_ : Int
  next_ : Int
  deriving Inhabited
def st86 : Ty GStep := iso (pair tInt tInt) (fun x => (x.at_, x.next_))
theorem st86_open {H : Hp} {x : GStep} {cs : List Value} (h : st86.R H x cs) : cs = [.int .i64 x.at_, .int .i64 x.next_] := by
  obtain ⟨_, _, rfl, rfl, rfl⟩ := h
  exact rfl
theorem st86_mkR {H : Hp} {x : GStep} : st86.R H x [.int .i64 x.at_, .int .i64 x.next_] := ⟨[.int .i64 x.at_], [.int .i64 x.next_], rfl, rfl, rfl⟩
theorem st86_mkO {H X : Hp} {x : GStep} : st86.O H X no x [.int .i64 x.at_, .int .i64 x.next_] := (pairO0 (a := tInt) (b := tInt) (x := (x.at_, x.next_)) (c0 := [.int .i64 x.at_]) (c1 := [.int .i64 x.next_]) (F := no) rfl rfl)
theorem st86_openO {H X : Hp} {F : Foot} {x : GStep} {cs : List Value} (h : st86.O H X F x cs) : cs = [.int .i64 x.at_, .int .i64 x.next_] := by
  obtain ⟨_, _, K0, L0, rfl, rfl, rfl, d0, s0⟩ := h
  exact rfl
theorem st86_RO : RO st86 := (ro_iso (ro_pair (ro_scal _ _) (ro_scal _ _)))
theorem st86_c0 {H X : Hp} {F : Foot} {x : GStep} {cs : List Value} (h : st86.O H X F x cs) : cs[0]? = some (.int .i64 x.at_) := by obtain rfl := st86_openO h; rfl
theorem st86_r0 {H : Hp} {x : GStep} {cs : List Value} (h : st86.R H x cs) : cs[0]? = some (.int .i64 x.at_) := by obtain rfl := st86_open h; rfl
theorem st86_c1 {H X : Hp} {F : Foot} {x : GStep} {cs : List Value} (h : st86.O H X F x cs) : cs[1]? = some (.int .i64 x.next_) := by obtain rfl := st86_openO h; rfl
theorem st86_r1 {H : Hp} {x : GStep} {cs : List Value} (h : st86.R H x cs) : cs[1]? = some (.int .i64 x.next_) := by obtain rfl := st86_open h; rfl
theorem st86_u0 {H X : Hp} {F1 F2 : Foot} {x : GStep} (y : Int) {cs : List Value} (h : st86.O H X F1 x cs) : st86.O H X (or2 F1 F2) {x with at_ := y} (cs.take 0 ++ [.int .i64 y] ++ cs.drop 1) := by
  obtain rfl := st86_openO h
  exact st86.O_mono (fun _ h => h.elim) (st86_mkO (x := {x with at_ := y}))
theorem st86_u1 {H X : Hp} {F1 F2 : Foot} {x : GStep} (y : Int) {cs : List Value} (h : st86.O H X F1 x cs) : st86.O H X (or2 F1 F2) {x with next_ := y} (cs.take 1 ++ [.int .i64 y] ++ cs.drop 2) := by
  obtain rfl := st86_openO h
  exact st86.O_mono (fun _ h => h.elim) (st86_mkO (x := {x with next_ := y}))
def z86 : GStep := ⟨(0 : Int), (0 : Int)⟩
theorem z86_O (H X : Hp) : st86.O H X no z86 [.int .i64 (0 : Int), .int .i64 (0 : Int)] := st86_mkO (x := z86)
theorem z86_R (H : Hp) : st86.R H z86 [.int .i64 (0 : Int), .int .i64 (0 : Int)] := st86_mkR (x := z86)
def impl_Store_ok_c1.f (x1 : Int) (x2 : Int) (x3 : Store) : Option (Int × Bool) := (if 0 ≤ x1 then (if x1 < (x3.cells.length : Int) then (if ((x3.cells.getD ((x1).toNat) z36).kind) = 0 then (if ((x3.cells.getD ((x1).toNat) z36).n) ≠ x1 then (if x2 = 0 then some ((x3.cells.getD ((x1).toNat) z36).n, true) else (if ((x3.cells.getD ((x1).toNat) z36).kind) = 4 then (if 0 ≤ ((x3.cells.getD ((x1).toNat) z36).n) then (if ((x3.cells.getD ((x1).toNat) z36).n) < (x3.cells.length : Int) then (if x2 < ((x3.cells.getD (((x3.cells.getD ((x1).toNat) z36).n).toNat) z36).n) then some ((IntKind.i64.wrap ((IntKind.i64.wrap (((x3.cells.getD ((x1).toNat) z36).n) + 1)) + x2)), true) else some (0, false)) else none) else none) else some (0, false))) else (if ((x3.cells.getD ((x1).toNat) z36).kind) = 4 then (if 0 ≤ ((x3.cells.getD ((x1).toNat) z36).n) then (if ((x3.cells.getD ((x1).toNat) z36).n) < (x3.cells.length : Int) then (if x2 < ((x3.cells.getD (((x3.cells.getD ((x1).toNat) z36).n).toNat) z36).n) then some ((IntKind.i64.wrap ((IntKind.i64.wrap (((x3.cells.getD ((x1).toNat) z36).n) + 1)) + x2)), true) else some (0, false)) else none) else none) else some (0, false))) else (if ((x3.cells.getD ((x1).toNat) z36).kind) = 4 then (if 0 ≤ ((x3.cells.getD ((x1).toNat) z36).n) then (if ((x3.cells.getD ((x1).toNat) z36).n) < (x3.cells.length : Int) then (if x2 < ((x3.cells.getD (((x3.cells.getD ((x1).toNat) z36).n).toNat) z36).n) then some ((IntKind.i64.wrap ((IntKind.i64.wrap (((x3.cells.getD ((x1).toNat) z36).n) + 1)) + x2)), true) else some (0, false)) else none) else none) else some (0, false))) else none) else none)
theorem impl_Store_ok_c1.calls (w : World) (H : Hp) (x1 : Int) (x2 : Int) (x3 : Store) (g4 : Nat) (A6 : Option Addr) (c7 : Nat) (A10 : Option Addr) (c11 : Nat) (h8 : Rd st36 H A6 x3.cells) (l9 : x3.cells.length ≤ c7) (h12 : Rd tInt H A10 x3.trail) (l13 : x3.trail.length ≤ c11) (b5 : H g4 = some (.cells #[.slice A6 x3.cells.length c7, .slice A10 x3.trail.length c11] 34 (0, 0))) (S : Own [] H w) (r : Int × Bool) (M : impl_Store_ok_c1.f x1 x2 x3 = some r) :
    Calls Try.prog 66 #[.int .i64 x1, .int .i64 x2, .pointer (some ⟨g4, 0, none⟩)] w (fun e e_w => e = .returned (.tuple #[.int .i64 r.1, .bool r.2]) ∧ Chg no w e_w) := by
  rw [impl_Store_ok_c1.f] at M
  refine enter (l := [.int .i64 x1, .int .i64 x2, .pointer (some ⟨g4, 0, none⟩)]) 49 Try.func66 rfl rfl rfl ?_
  have S0_ := S.st
  refine wp_seq (wp_region_lit (lv (d := 5) rfl rfl (by kernel_rfl) (e_assign (v := .int .i64 0) rfl) (lv (d := 6) rfl rfl (by kernel_rfl) (e_assign (v := .bool false) rfl) (wpList_nil (then_n (wp_seq (wp_region_lit ?_)))))))
  refine lv (d := 8) rfl rfl (by kernel_rfl) (e_fieldAddr (b := g4) (off := 0) (o := 0) Try.underlying34 rfl rfl (sz := 1) (by kernel_rfl) (by decide) (by kernel_rfl)) (lv (d := 9) rfl rfl (by kernel_rfl) (e_load1 (ad := ⟨g4, 0 + 0, none⟩) (v := .slice A6 x3.cells.length c7) Try.underlying32 rfl (by kernel_rfl) (blk_cell (S0_.inv _ _ b5) rfl)) (lv (d := 10) rfl rfl (by kernel_rfl) (e_move (v := .int .i64 x1) (by kernel_rfl)) ?_))
  obtain ⟨q14, M⟩ := chk M
  obtain ⟨q15, M⟩ := chk M
  obtain ⟨b16, o17, e18⟩ := Rd.addr h8 (show (x1).toNat < x3.cells.length by omega)
  obtain ⟨y19, r20, k21⟩ := Rd.at h8 e18 (getD_some z36 (show (x1).toNat < x3.cells.length by omega))
  obtain ⟨A22, c23, rfl, l24, h25⟩ := st36_open r20
  refine lv (d := 11) rfl rfl (by kernel_rfl) (e_indexAddr (b := b16) (off := o17) (n := x3.cells.length) (c := c7) (sz := 3) (i := x1) (k := .i64) Try.underlying32 e18 (by kernel_rfl) (by kernel_rfl) (by kernel_rfl) q14 q15) (lv (d := 12) rfl rfl (by kernel_rfl) (e_loadS (b := b16) (off := o17 + (x1 : Int).toNat * 3) (cs := [.int .i64 ((x3.cells.getD ((x1).toNat) z36).kind), .int .i64 ((x3.cells.getD ((x1).toNat) z36).n), .slice A22 ((x3.cells.getD ((x1).toNat) z36).text).length c23]) Try.underlying36 rfl (by kernel_rfl) (by kernel_rfl) (fun j_ u_ e_ => (hpx (S0_.inv.cell (k21 j_ u_ e_))))) ?_)
  refine lve (d := 7) rfl rfl (by kernel_rfl) (new_blk (v := fun g_ => .pointer (some ⟨g_, 0, none⟩)) (cs := #[.int .i64 0, .int .i64 0, .slice none 0 0]) (t := 36) S0_ (by kernel_rfl)) ?_
  rintro _ w26 ⟨g27, rfl, b28, S29, K30⟩
  refine lse rfl rfl (by kernel_rfl) (e_store (g := g27) (o := 0) (v := .agg #[.int .i64 ((x3.cells.getD ((x1).toNat) z36).kind), .int .i64 ((x3.cells.getD ((x1).toNat) z36).n), .slice A22 ((x3.cells.getD ((x1).toNat) z36).text).length c23]) (cur' := #[.int .i64 ((x3.cells.getD ((x1).toNat) z36).kind), .int .i64 ((x3.cells.getD ((x1).toNat) z36).n), .slice A22 ((x3.cells.getD ((x1).toNat) z36).text).length c23]) (vs := [.int .i64 ((x3.cells.getD ((x1).toNat) z36).kind), .int .i64 ((x3.cells.getD ((x1).toNat) z36).n), .slice A22 ((x3.cells.getD ((x1).toNat) z36).text).length c23]) S29 (by kernel_rfl) (by kernel_rfl) rfl (by kernel_rfl) b28 (Nat.le_of_ble_eq_true rfl) (List.forall_mem_cons.2 ⟨rfl, (List.forall_mem_cons.2 ⟨rfl, (List.forall_mem_cons.2 ⟨rfl, (fun _ h_ => by cases h_)⟩)⟩)⟩) rfl) ?_
  rintro w31 ⟨b32, S33, K34⟩
  clear b28
  refine wpList_nil (then_n (wp_seq (wp_block (wp_seq (wp_region_lit (lv (d := 14) rfl rfl (by kernel_rfl) (e_fieldAddr (b := g27) (off := 0) (o := 0) Try.underlying36 rfl rfl (sz := 1) (by kernel_rfl) (by decide) (by kernel_rfl)) (lv (d := 15) rfl rfl (by kernel_rfl) (e_load1 (ad := ⟨g27, 0 + 0, none⟩) (v := .int .i64 ((x3.cells.getD ((x1).toNat) z36).kind)) Try.underlying3 rfl (by kernel_rfl) (blk_cell b32 rfl)) ?_)))))))
  refine lv (d := 16) rfl rfl (by kernel_rfl) (e_eql (k := .i64) (a := (x3.cells.getD ((x1).toNat) z36).kind) (b := 0) (by kernel_rfl) rfl) (lv (d := 17) rfl rfl (by kernel_rfl) (e_move (v := .bool (decide (((x3.cells.getD ((x1).toNat) z36).kind) = 0))) (by kernel_rfl)) ?_)
  by_cases q35 : ((x3.cells.getD ((x1).toNat) z36).kind) = 0
  · replace M := ifp q35 M
    refine lvg (d := 18) (t := 17) rfl (by kernel_rfl) rfl (bt q35 (by kernel_rfl)) rfl (by kernel_rfl) (e_fieldAddr (b := g27) (off := 0) (o := 1) Try.underlying36 rfl rfl (sz := 1) (by kernel_rfl) (by decide) (by kernel_rfl)) (lvg (d := 19) (t := 17) rfl (by kernel_rfl) rfl (bt q35 (by kernel_rfl)) rfl (by kernel_rfl) (e_load1 (ad := ⟨g27, 0 + 1, none⟩) (v := .int .i64 ((x3.cells.getD ((x1).toNat) z36).n)) Try.underlying3 rfl (by kernel_rfl) (blk_cell b32 rfl)) (lvg (d := 20) (t := 17) rfl (by kernel_rfl) rfl (bt q35 (by kernel_rfl)) rfl (by kernel_rfl) (e_move (v := .int .i64 x1) (by kernel_rfl)) (lvg (d := 21) (t := 17) rfl (by kernel_rfl) rfl (bt q35 (by kernel_rfl)) rfl (by kernel_rfl) (e_neq (k := .i64) (a := (x3.cells.getD ((x1).toNat) z36).n) (b := x1) (by kernel_rfl) (by kernel_rfl)) (lv (d := 22) rfl rfl (by kernel_rfl) (e_pick_t (v := .bool (decide (((x3.cells.getD ((x1).toNat) z36).n) ≠ x1))) (bt q35 (by kernel_rfl)) (by kernel_rfl)) (lv (d := 23) rfl rfl (by kernel_rfl) (e_move (v := .bool (decide (((x3.cells.getD ((x1).toNat) z36).n) ≠ x1))) (by kernel_rfl)) ?_)))))
    by_cases q36 : ((x3.cells.getD ((x1).toNat) z36).n) ≠ x1
    · replace M := ifp q36 M
      refine lvg (d := 24) (t := 23) rfl (by kernel_rfl) rfl (bt q36 (by kernel_rfl)) rfl (by kernel_rfl) (e_move (v := .int .i64 x2) (by kernel_rfl)) (lvg (d := 25) (t := 23) rfl (by kernel_rfl) rfl (bt q36 (by kernel_rfl)) rfl (by kernel_rfl) (e_eql (k := .i64) (a := x2) (b := 0) (by kernel_rfl) rfl) (lv (d := 26) rfl rfl (by kernel_rfl) (e_pick_t (v := .bool (decide (x2 = 0))) (bt q36 (by kernel_rfl)) (by kernel_rfl)) (lv (d := 13) rfl rfl (by kernel_rfl) (e_assign (v := .bool (decide (x2 = 0))) (by kernel_rfl)) (wpList_nil (then_n ?_)))))
      by_cases q37 : x2 = 0
      · replace M := ifp q37 M
        refine cond_t rfl (bt q37 (by kernel_rfl)) (wp_seq (wp_region_lit (lv (d := 27) rfl rfl (by kernel_rfl) (e_fieldAddr (b := g27) (off := 0) (o := 1) Try.underlying36 rfl rfl (sz := 1) (by kernel_rfl) (by decide) (by kernel_rfl)) (lv (d := 28) rfl rfl (by kernel_rfl) (e_load1 (ad := ⟨g27, 0 + 1, none⟩) (v := .int .i64 ((x3.cells.getD ((x1).toNat) z36).n)) Try.underlying3 rfl (by kernel_rfl) (blk_cell b32 rfl)) (lv (d := 5) rfl rfl (by kernel_rfl) (e_assign (v := .int .i64 ((x3.cells.getD ((x1).toNat) z36).n)) (by kernel_rfl)) (lv (d := 6) rfl rfl (by kernel_rfl) (e_assign (v := .bool true) rfl) (wpList_nil ?_)))))))
        refine then_n (wp_ret (inb_r (then_r ?_)))
        obtain rfl := Option.some.inj M
        exact ret2 rfl rfl rfl (show _ = .int .i64 ((x3.cells.getD ((x1).toNat) z36).n) from (by kernel_rfl)) (show _ = .bool true from (by kernel_rfl)) ⟨rfl, S33.chg⟩
      replace M := ifn q37 M
      refine cond_f rfl (bf q37 (by kernel_rfl)) (wp_seq (wp_region_lit (lv (d := 30) rfl rfl (by kernel_rfl) (e_fieldAddr (b := g27) (off := 0) (o := 0) Try.underlying36 rfl rfl (sz := 1) (by kernel_rfl) (by decide) (by kernel_rfl)) (lv (d := 31) rfl rfl (by kernel_rfl) (e_load1 (ad := ⟨g27, 0 + 0, none⟩) (v := .int .i64 ((x3.cells.getD ((x1).toNat) z36).kind)) Try.underlying3 rfl (by kernel_rfl) (blk_cell b32 rfl)) (lv (d := 32) rfl rfl (by kernel_rfl) (e_eql (k := .i64) (a := (x3.cells.getD ((x1).toNat) z36).kind) (b := 4) (by kernel_rfl) rfl) (lv (d := 33) rfl rfl (by kernel_rfl) (e_move (v := .bool (decide (((x3.cells.getD ((x1).toNat) z36).kind) = 4))) (by kernel_rfl)) ?_))))))
      by_cases q38 : ((x3.cells.getD ((x1).toNat) z36).kind) = 4
      · replace M := ifp q38 M
        refine lvg (d := 34) (t := 33) rfl (by kernel_rfl) rfl (bt q38 (by kernel_rfl)) rfl (by kernel_rfl) (e_move (v := .int .i64 x2) (by kernel_rfl)) (lvg (d := 35) (t := 33) rfl (by kernel_rfl) rfl (bt q38 (by kernel_rfl)) rfl (by kernel_rfl) (e_fieldAddr (b := g4) (off := 0) (o := 0) Try.underlying34 rfl rfl (sz := 1) (by kernel_rfl) (by decide) (by kernel_rfl)) (lvg (d := 36) (t := 33) rfl (by kernel_rfl) rfl (bt q38 (by kernel_rfl)) rfl (by kernel_rfl) (e_load1 (ad := ⟨g4, 0 + 0, none⟩) (v := .slice A6 x3.cells.length c7) Try.underlying32 rfl (by kernel_rfl) (blk_cell (S33.inv _ _ b5) rfl)) (lvg (d := 37) (t := 33) rfl (by kernel_rfl) rfl (bt q38 (by kernel_rfl)) rfl (by kernel_rfl) (e_fieldAddr (b := g27) (off := 0) (o := 1) Try.underlying36 rfl rfl (sz := 1) (by kernel_rfl) (by decide) (by kernel_rfl)) (lvg (d := 38) (t := 33) rfl (by kernel_rfl) rfl (bt q38 (by kernel_rfl)) rfl (by kernel_rfl) (e_load1 (ad := ⟨g27, 0 + 1, none⟩) (v := .int .i64 ((x3.cells.getD ((x1).toNat) z36).n)) Try.underlying3 rfl (by kernel_rfl) (blk_cell b32 rfl)) ?_))))
        obtain ⟨q39, M⟩ := chk M
        obtain ⟨q40, M⟩ := chk M
        obtain ⟨b41, o42, e43⟩ := Rd.addr h8 (show ((x3.cells.getD ((x1).toNat) z36).n).toNat < x3.cells.length by omega)
        obtain ⟨y44, r45, k46⟩ := Rd.at h8 e43 (getD_some z36 (show ((x3.cells.getD ((x1).toNat) z36).n).toNat < x3.cells.length by omega))
        obtain ⟨A47, c48, rfl, l49, h50⟩ := st36_open r45
        refine lvg (d := 39) (t := 33) rfl (by kernel_rfl) rfl (bt q38 (by kernel_rfl)) rfl (by kernel_rfl) (e_indexAddr (b := b41) (off := o42) (n := x3.cells.length) (c := c7) (sz := 3) (i := (x3.cells.getD ((x1).toNat) z36).n) (k := .i64) Try.underlying32 e43 (by kernel_rfl) (by kernel_rfl) (by kernel_rfl) q39 q40) (lvg (d := 40) (t := 33) rfl (by kernel_rfl) rfl (bt q38 (by kernel_rfl)) rfl (by kernel_rfl) (e_fieldAddr (b := b41) (off := o42 + ((x3.cells.getD ((x1).toNat) z36).n : Int).toNat * 3) (o := 1) Try.underlying36 rfl rfl (sz := 1) (by kernel_rfl) (by decide) (by kernel_rfl)) (lvg (d := 41) (t := 33) rfl (by kernel_rfl) rfl (bt q38 (by kernel_rfl)) rfl (by kernel_rfl) (e_load1 (ad := ⟨b41, o42 + ((x3.cells.getD ((x1).toNat) z36).n : Int).toNat * 3 + 1, none⟩) (v := .int .i64 ((x3.cells.getD (((x3.cells.getD ((x1).toNat) z36).n).toNat) z36).n)) Try.underlying3 rfl (by kernel_rfl) (hpx (S33.inv.cell (k46 1 _ rfl)))) (lvg (d := 42) (t := 33) rfl (by kernel_rfl) rfl (bt q38 (by kernel_rfl)) rfl (by kernel_rfl) (e_lss (k := .i64) (a := x2) (b := (x3.cells.getD (((x3.cells.getD ((x1).toNat) z36).n).toNat) z36).n) (by kernel_rfl) (by kernel_rfl)) (lv (d := 43) rfl rfl (by kernel_rfl) (e_pick_t (v := .bool (decide (x2 < ((x3.cells.getD (((x3.cells.getD ((x1).toNat) z36).n).toNat) z36).n)))) (bt q38 (by kernel_rfl)) (by kernel_rfl)) (lv (d := 29) rfl rfl (by kernel_rfl) (e_assign (v := .bool (decide (x2 < ((x3.cells.getD (((x3.cells.getD ((x1).toNat) z36).n).toNat) z36).n)))) (by kernel_rfl)) (wpList_nil (then_n ?_)))))))
        by_cases q51 : x2 < ((x3.cells.getD (((x3.cells.getD ((x1).toNat) z36).n).toNat) z36).n)
        · replace M := ifp q51 M
          refine cond_t rfl (bt q51 (by kernel_rfl)) (wp_seq (wp_region_lit (lv (d := 44) rfl rfl (by kernel_rfl) (e_fieldAddr (b := g27) (off := 0) (o := 1) Try.underlying36 rfl rfl (sz := 1) (by kernel_rfl) (by decide) (by kernel_rfl)) (lv (d := 45) rfl rfl (by kernel_rfl) (e_load1 (ad := ⟨g27, 0 + 1, none⟩) (v := .int .i64 ((x3.cells.getD ((x1).toNat) z36).n)) Try.underlying3 rfl (by kernel_rfl) (blk_cell b32 rfl)) (lv (d := 46) rfl rfl (by kernel_rfl) (e_add (k := .i64) (a := (x3.cells.getD ((x1).toNat) z36).n) (b := 1) (by kernel_rfl) rfl) (lv (d := 47) rfl rfl (by kernel_rfl) (e_move (v := .int .i64 x2) (by kernel_rfl)) (lv (d := 48) rfl rfl (by kernel_rfl) (e_add (k := .i64) (a := (IntKind.i64.wrap (((x3.cells.getD ((x1).toNat) z36).n) + 1))) (b := x2) (by kernel_rfl) (by kernel_rfl)) ?_)))))))
          refine lv (d := 5) rfl rfl (by kernel_rfl) (e_assign (v := .int .i64 (IntKind.i64.wrap ((IntKind.i64.wrap (((x3.cells.getD ((x1).toNat) z36).n) + 1)) + x2))) (by kernel_rfl)) (lv (d := 6) rfl rfl (by kernel_rfl) (e_assign (v := .bool true) rfl) (wpList_nil (then_n (wp_ret (inb_r (then_r ?_))))))
          obtain rfl := Option.some.inj M
          exact ret2 rfl rfl rfl (show _ = .int .i64 (IntKind.i64.wrap ((IntKind.i64.wrap (((x3.cells.getD ((x1).toNat) z36).n) + 1)) + x2)) from (by kernel_rfl)) (show _ = .bool true from (by kernel_rfl)) ⟨rfl, S33.chg⟩
        replace M := ifn q51 M
        refine cond_f rfl (bf q51 (by kernel_rfl)) (wp_skip (inb_n (then_n (wp_seq (wp_region_lit (lv (d := 5) rfl rfl (by kernel_rfl) (e_assign (v := .int .i64 0) rfl) (lv (d := 6) rfl rfl (by kernel_rfl) (e_assign (v := .bool false) rfl) ?_)))))))
        refine wpList_nil (then_n (wp_ret ?_))
        obtain rfl := Option.some.inj M
        exact ret2 rfl rfl rfl (show _ = .int .i64 0 from (by kernel_rfl)) (show _ = .bool false from (by kernel_rfl)) ⟨rfl, S33.chg⟩
      replace M := ifn q38 M
      refine lskip (t := 33) (c := false) rfl (by kernel_rfl) rfl (bf q38 (by kernel_rfl)) rfl rfl ?_
      refine lskip (t := 33) (c := false) rfl (by kernel_rfl) rfl (bf q38 (by kernel_rfl)) rfl rfl ?_
      refine lskip (t := 33) (c := false) rfl (by kernel_rfl) rfl (bf q38 (by kernel_rfl)) rfl rfl ?_
      refine lskip (t := 33) (c := false) rfl (by kernel_rfl) rfl (bf q38 (by kernel_rfl)) rfl rfl ?_
      refine lskip (t := 33) (c := false) rfl (by kernel_rfl) rfl (bf q38 (by kernel_rfl)) rfl rfl ?_
      refine lskip (t := 33) (c := false) rfl (by kernel_rfl) rfl (bf q38 (by kernel_rfl)) rfl rfl ?_
      refine lskip (t := 33) (c := false) rfl (by kernel_rfl) rfl (bf q38 (by kernel_rfl)) rfl rfl ?_
      refine lskip (t := 33) (c := false) rfl (by kernel_rfl) rfl (bf q38 (by kernel_rfl)) rfl rfl ?_
      refine lskip (t := 33) (c := false) rfl (by kernel_rfl) rfl (bf q38 (by kernel_rfl)) rfl rfl ?_
      refine lv (d := 43) rfl rfl (by kernel_rfl) (e_pick_f (v := .bool false) (bf q38 (by kernel_rfl)) rfl) (lv (d := 29) rfl rfl (by kernel_rfl) (e_assign (v := .bool false) (by kernel_rfl)) (wpList_nil (then_n (cond_f rfl (by kernel_rfl) (wp_skip (inb_n (then_n ?_)))))))
      refine wp_seq (wp_region_lit (lv (d := 5) rfl rfl (by kernel_rfl) (e_assign (v := .int .i64 0) rfl) (lv (d := 6) rfl rfl (by kernel_rfl) (e_assign (v := .bool false) rfl) (wpList_nil (then_n (wp_ret ?_))))))
      obtain rfl := Option.some.inj M
      exact ret2 rfl rfl rfl (show _ = .int .i64 0 from (by kernel_rfl)) (show _ = .bool false from (by kernel_rfl)) ⟨rfl, S33.chg⟩
    replace M := ifn q36 M
    refine lskip (t := 23) (c := false) rfl (by kernel_rfl) rfl (bf q36 (by kernel_rfl)) rfl rfl ?_
    refine lskip (t := 23) (c := false) rfl (by kernel_rfl) rfl (bf q36 (by kernel_rfl)) rfl rfl ?_
    refine lv (d := 26) rfl rfl (by kernel_rfl) (e_pick_f (v := .bool false) (bf q36 (by kernel_rfl)) rfl) (lv (d := 13) rfl rfl (by kernel_rfl) (e_assign (v := .bool false) (by kernel_rfl)) (wpList_nil (then_n (cond_f rfl (by kernel_rfl) (wp_seq (wp_region_lit (lv (d := 30) rfl rfl (by kernel_rfl) (e_fieldAddr (b := g27) (off := 0) (o := 0) Try.underlying36 rfl rfl (sz := 1) (by kernel_rfl) (by decide) (by kernel_rfl)) ?_)))))))
    refine lv (d := 31) rfl rfl (by kernel_rfl) (e_load1 (ad := ⟨g27, 0 + 0, none⟩) (v := .int .i64 ((x3.cells.getD ((x1).toNat) z36).kind)) Try.underlying3 rfl (by kernel_rfl) (blk_cell b32 rfl)) (lv (d := 32) rfl rfl (by kernel_rfl) (e_eql (k := .i64) (a := (x3.cells.getD ((x1).toNat) z36).kind) (b := 4) (by kernel_rfl) rfl) (lv (d := 33) rfl rfl (by kernel_rfl) (e_move (v := .bool (decide (((x3.cells.getD ((x1).toNat) z36).kind) = 4))) (by kernel_rfl)) ?_))
    by_cases q52 : ((x3.cells.getD ((x1).toNat) z36).kind) = 4
    · replace M := ifp q52 M
      refine lvg (d := 34) (t := 33) rfl (by kernel_rfl) rfl (bt q52 (by kernel_rfl)) rfl (by kernel_rfl) (e_move (v := .int .i64 x2) (by kernel_rfl)) (lvg (d := 35) (t := 33) rfl (by kernel_rfl) rfl (bt q52 (by kernel_rfl)) rfl (by kernel_rfl) (e_fieldAddr (b := g4) (off := 0) (o := 0) Try.underlying34 rfl rfl (sz := 1) (by kernel_rfl) (by decide) (by kernel_rfl)) (lvg (d := 36) (t := 33) rfl (by kernel_rfl) rfl (bt q52 (by kernel_rfl)) rfl (by kernel_rfl) (e_load1 (ad := ⟨g4, 0 + 0, none⟩) (v := .slice A6 x3.cells.length c7) Try.underlying32 rfl (by kernel_rfl) (blk_cell (S33.inv _ _ b5) rfl)) (lvg (d := 37) (t := 33) rfl (by kernel_rfl) rfl (bt q52 (by kernel_rfl)) rfl (by kernel_rfl) (e_fieldAddr (b := g27) (off := 0) (o := 1) Try.underlying36 rfl rfl (sz := 1) (by kernel_rfl) (by decide) (by kernel_rfl)) (lvg (d := 38) (t := 33) rfl (by kernel_rfl) rfl (bt q52 (by kernel_rfl)) rfl (by kernel_rfl) (e_load1 (ad := ⟨g27, 0 + 1, none⟩) (v := .int .i64 ((x3.cells.getD ((x1).toNat) z36).n)) Try.underlying3 rfl (by kernel_rfl) (blk_cell b32 rfl)) ?_))))
      obtain ⟨q53, M⟩ := chk M
      obtain ⟨q54, M⟩ := chk M
      obtain ⟨b55, o56, e57⟩ := Rd.addr h8 (show ((x3.cells.getD ((x1).toNat) z36).n).toNat < x3.cells.length by omega)
      obtain ⟨y58, r59, k60⟩ := Rd.at h8 e57 (getD_some z36 (show ((x3.cells.getD ((x1).toNat) z36).n).toNat < x3.cells.length by omega))
      obtain ⟨A61, c62, rfl, l63, h64⟩ := st36_open r59
      refine lvg (d := 39) (t := 33) rfl (by kernel_rfl) rfl (bt q52 (by kernel_rfl)) rfl (by kernel_rfl) (e_indexAddr (b := b55) (off := o56) (n := x3.cells.length) (c := c7) (sz := 3) (i := (x3.cells.getD ((x1).toNat) z36).n) (k := .i64) Try.underlying32 e57 (by kernel_rfl) (by kernel_rfl) (by kernel_rfl) q53 q54) (lvg (d := 40) (t := 33) rfl (by kernel_rfl) rfl (bt q52 (by kernel_rfl)) rfl (by kernel_rfl) (e_fieldAddr (b := b55) (off := o56 + ((x3.cells.getD ((x1).toNat) z36).n : Int).toNat * 3) (o := 1) Try.underlying36 rfl rfl (sz := 1) (by kernel_rfl) (by decide) (by kernel_rfl)) (lvg (d := 41) (t := 33) rfl (by kernel_rfl) rfl (bt q52 (by kernel_rfl)) rfl (by kernel_rfl) (e_load1 (ad := ⟨b55, o56 + ((x3.cells.getD ((x1).toNat) z36).n : Int).toNat * 3 + 1, none⟩) (v := .int .i64 ((x3.cells.getD (((x3.cells.getD ((x1).toNat) z36).n).toNat) z36).n)) Try.underlying3 rfl (by kernel_rfl) (hpx (S33.inv.cell (k60 1 _ rfl)))) (lvg (d := 42) (t := 33) rfl (by kernel_rfl) rfl (bt q52 (by kernel_rfl)) rfl (by kernel_rfl) (e_lss (k := .i64) (a := x2) (b := (x3.cells.getD (((x3.cells.getD ((x1).toNat) z36).n).toNat) z36).n) (by kernel_rfl) (by kernel_rfl)) (lv (d := 43) rfl rfl (by kernel_rfl) (e_pick_t (v := .bool (decide (x2 < ((x3.cells.getD (((x3.cells.getD ((x1).toNat) z36).n).toNat) z36).n)))) (bt q52 (by kernel_rfl)) (by kernel_rfl)) (lv (d := 29) rfl rfl (by kernel_rfl) (e_assign (v := .bool (decide (x2 < ((x3.cells.getD (((x3.cells.getD ((x1).toNat) z36).n).toNat) z36).n)))) (by kernel_rfl)) (wpList_nil (then_n ?_)))))))
      by_cases q65 : x2 < ((x3.cells.getD (((x3.cells.getD ((x1).toNat) z36).n).toNat) z36).n)
      · replace M := ifp q65 M
        refine cond_t rfl (bt q65 (by kernel_rfl)) (wp_seq (wp_region_lit (lv (d := 44) rfl rfl (by kernel_rfl) (e_fieldAddr (b := g27) (off := 0) (o := 1) Try.underlying36 rfl rfl (sz := 1) (by kernel_rfl) (by decide) (by kernel_rfl)) (lv (d := 45) rfl rfl (by kernel_rfl) (e_load1 (ad := ⟨g27, 0 + 1, none⟩) (v := .int .i64 ((x3.cells.getD ((x1).toNat) z36).n)) Try.underlying3 rfl (by kernel_rfl) (blk_cell b32 rfl)) (lv (d := 46) rfl rfl (by kernel_rfl) (e_add (k := .i64) (a := (x3.cells.getD ((x1).toNat) z36).n) (b := 1) (by kernel_rfl) rfl) (lv (d := 47) rfl rfl (by kernel_rfl) (e_move (v := .int .i64 x2) (by kernel_rfl)) (lv (d := 48) rfl rfl (by kernel_rfl) (e_add (k := .i64) (a := (IntKind.i64.wrap (((x3.cells.getD ((x1).toNat) z36).n) + 1))) (b := x2) (by kernel_rfl) (by kernel_rfl)) ?_)))))))
        refine lv (d := 5) rfl rfl (by kernel_rfl) (e_assign (v := .int .i64 (IntKind.i64.wrap ((IntKind.i64.wrap (((x3.cells.getD ((x1).toNat) z36).n) + 1)) + x2))) (by kernel_rfl)) (lv (d := 6) rfl rfl (by kernel_rfl) (e_assign (v := .bool true) rfl) (wpList_nil (then_n (wp_ret (inb_r (then_r ?_))))))
        obtain rfl := Option.some.inj M
        exact ret2 rfl rfl rfl (show _ = .int .i64 (IntKind.i64.wrap ((IntKind.i64.wrap (((x3.cells.getD ((x1).toNat) z36).n) + 1)) + x2)) from (by kernel_rfl)) (show _ = .bool true from (by kernel_rfl)) ⟨rfl, S33.chg⟩
      replace M := ifn q65 M
      refine cond_f rfl (bf q65 (by kernel_rfl)) (wp_skip (inb_n (then_n (wp_seq (wp_region_lit (lv (d := 5) rfl rfl (by kernel_rfl) (e_assign (v := .int .i64 0) rfl) (lv (d := 6) rfl rfl (by kernel_rfl) (e_assign (v := .bool false) rfl) ?_)))))))
      refine wpList_nil (then_n (wp_ret ?_))
      obtain rfl := Option.some.inj M
      exact ret2 rfl rfl rfl (show _ = .int .i64 0 from (by kernel_rfl)) (show _ = .bool false from (by kernel_rfl)) ⟨rfl, S33.chg⟩
    replace M := ifn q52 M
    refine lskip (t := 33) (c := false) rfl (by kernel_rfl) rfl (bf q52 (by kernel_rfl)) rfl rfl ?_
    refine lskip (t := 33) (c := false) rfl (by kernel_rfl) rfl (bf q52 (by kernel_rfl)) rfl rfl ?_
    refine lskip (t := 33) (c := false) rfl (by kernel_rfl) rfl (bf q52 (by kernel_rfl)) rfl rfl ?_
    refine lskip (t := 33) (c := false) rfl (by kernel_rfl) rfl (bf q52 (by kernel_rfl)) rfl rfl ?_
    refine lskip (t := 33) (c := false) rfl (by kernel_rfl) rfl (bf q52 (by kernel_rfl)) rfl rfl ?_
    refine lskip (t := 33) (c := false) rfl (by kernel_rfl) rfl (bf q52 (by kernel_rfl)) rfl rfl ?_
    refine lskip (t := 33) (c := false) rfl (by kernel_rfl) rfl (bf q52 (by kernel_rfl)) rfl rfl ?_
    refine lskip (t := 33) (c := false) rfl (by kernel_rfl) rfl (bf q52 (by kernel_rfl)) rfl rfl ?_
    refine lskip (t := 33) (c := false) rfl (by kernel_rfl) rfl (bf q52 (by kernel_rfl)) rfl rfl ?_
    refine lv (d := 43) rfl rfl (by kernel_rfl) (e_pick_f (v := .bool false) (bf q52 (by kernel_rfl)) rfl) (lv (d := 29) rfl rfl (by kernel_rfl) (e_assign (v := .bool false) (by kernel_rfl)) (wpList_nil (then_n (cond_f rfl (by kernel_rfl) (wp_skip (inb_n (then_n ?_)))))))
    refine wp_seq (wp_region_lit (lv (d := 5) rfl rfl (by kernel_rfl) (e_assign (v := .int .i64 0) rfl) (lv (d := 6) rfl rfl (by kernel_rfl) (e_assign (v := .bool false) rfl) (wpList_nil (then_n (wp_ret ?_))))))
    obtain rfl := Option.some.inj M
    exact ret2 rfl rfl rfl (show _ = .int .i64 0 from (by kernel_rfl)) (show _ = .bool false from (by kernel_rfl)) ⟨rfl, S33.chg⟩
  replace M := ifn q35 M
  refine lskip (t := 17) (c := false) rfl (by kernel_rfl) rfl (bf q35 (by kernel_rfl)) rfl rfl ?_
  refine lskip (t := 17) (c := false) rfl (by kernel_rfl) rfl (bf q35 (by kernel_rfl)) rfl rfl ?_
  refine lskip (t := 17) (c := false) rfl (by kernel_rfl) rfl (bf q35 (by kernel_rfl)) rfl rfl ?_
  refine lskip (t := 17) (c := false) rfl (by kernel_rfl) rfl (bf q35 (by kernel_rfl)) rfl rfl ?_
  refine lv (d := 22) rfl rfl (by kernel_rfl) (e_pick_f (v := .bool false) (bf q35 (by kernel_rfl)) rfl) (lv (d := 23) rfl rfl (by kernel_rfl) (e_move (v := .bool false) (by kernel_rfl)) ?_)
  refine lskip (t := 23) (c := false) rfl (by kernel_rfl) rfl (by kernel_rfl) rfl rfl ?_
  refine lskip (t := 23) (c := false) rfl (by kernel_rfl) rfl (by kernel_rfl) rfl rfl ?_
  refine lv (d := 26) rfl rfl (by kernel_rfl) (e_pick_f (v := .bool false) (by kernel_rfl) rfl) (lv (d := 13) rfl rfl (by kernel_rfl) (e_assign (v := .bool false) (by kernel_rfl)) (wpList_nil (then_n (cond_f rfl (by kernel_rfl) (wp_seq (wp_region_lit (lv (d := 30) rfl rfl (by kernel_rfl) (e_fieldAddr (b := g27) (off := 0) (o := 0) Try.underlying36 rfl rfl (sz := 1) (by kernel_rfl) (by decide) (by kernel_rfl)) ?_)))))))
  refine lv (d := 31) rfl rfl (by kernel_rfl) (e_load1 (ad := ⟨g27, 0 + 0, none⟩) (v := .int .i64 ((x3.cells.getD ((x1).toNat) z36).kind)) Try.underlying3 rfl (by kernel_rfl) (blk_cell b32 rfl)) (lv (d := 32) rfl rfl (by kernel_rfl) (e_eql (k := .i64) (a := (x3.cells.getD ((x1).toNat) z36).kind) (b := 4) (by kernel_rfl) rfl) (lv (d := 33) rfl rfl (by kernel_rfl) (e_move (v := .bool (decide (((x3.cells.getD ((x1).toNat) z36).kind) = 4))) (by kernel_rfl)) ?_))
  by_cases q66 : ((x3.cells.getD ((x1).toNat) z36).kind) = 4
  · replace M := ifp q66 M
    refine lvg (d := 34) (t := 33) rfl (by kernel_rfl) rfl (bt q66 (by kernel_rfl)) rfl (by kernel_rfl) (e_move (v := .int .i64 x2) (by kernel_rfl)) (lvg (d := 35) (t := 33) rfl (by kernel_rfl) rfl (bt q66 (by kernel_rfl)) rfl (by kernel_rfl) (e_fieldAddr (b := g4) (off := 0) (o := 0) Try.underlying34 rfl rfl (sz := 1) (by kernel_rfl) (by decide) (by kernel_rfl)) (lvg (d := 36) (t := 33) rfl (by kernel_rfl) rfl (bt q66 (by kernel_rfl)) rfl (by kernel_rfl) (e_load1 (ad := ⟨g4, 0 + 0, none⟩) (v := .slice A6 x3.cells.length c7) Try.underlying32 rfl (by kernel_rfl) (blk_cell (S33.inv _ _ b5) rfl)) (lvg (d := 37) (t := 33) rfl (by kernel_rfl) rfl (bt q66 (by kernel_rfl)) rfl (by kernel_rfl) (e_fieldAddr (b := g27) (off := 0) (o := 1) Try.underlying36 rfl rfl (sz := 1) (by kernel_rfl) (by decide) (by kernel_rfl)) (lvg (d := 38) (t := 33) rfl (by kernel_rfl) rfl (bt q66 (by kernel_rfl)) rfl (by kernel_rfl) (e_load1 (ad := ⟨g27, 0 + 1, none⟩) (v := .int .i64 ((x3.cells.getD ((x1).toNat) z36).n)) Try.underlying3 rfl (by kernel_rfl) (blk_cell b32 rfl)) ?_))))
    obtain ⟨q67, M⟩ := chk M
    obtain ⟨q68, M⟩ := chk M
    obtain ⟨b69, o70, e71⟩ := Rd.addr h8 (show ((x3.cells.getD ((x1).toNat) z36).n).toNat < x3.cells.length by omega)
    obtain ⟨y72, r73, k74⟩ := Rd.at h8 e71 (getD_some z36 (show ((x3.cells.getD ((x1).toNat) z36).n).toNat < x3.cells.length by omega))
    obtain ⟨A75, c76, rfl, l77, h78⟩ := st36_open r73
    refine lvg (d := 39) (t := 33) rfl (by kernel_rfl) rfl (bt q66 (by kernel_rfl)) rfl (by kernel_rfl) (e_indexAddr (b := b69) (off := o70) (n := x3.cells.length) (c := c7) (sz := 3) (i := (x3.cells.getD ((x1).toNat) z36).n) (k := .i64) Try.underlying32 e71 (by kernel_rfl) (by kernel_rfl) (by kernel_rfl) q67 q68) (lvg (d := 40) (t := 33) rfl (by kernel_rfl) rfl (bt q66 (by kernel_rfl)) rfl (by kernel_rfl) (e_fieldAddr (b := b69) (off := o70 + ((x3.cells.getD ((x1).toNat) z36).n : Int).toNat * 3) (o := 1) Try.underlying36 rfl rfl (sz := 1) (by kernel_rfl) (by decide) (by kernel_rfl)) (lvg (d := 41) (t := 33) rfl (by kernel_rfl) rfl (bt q66 (by kernel_rfl)) rfl (by kernel_rfl) (e_load1 (ad := ⟨b69, o70 + ((x3.cells.getD ((x1).toNat) z36).n : Int).toNat * 3 + 1, none⟩) (v := .int .i64 ((x3.cells.getD (((x3.cells.getD ((x1).toNat) z36).n).toNat) z36).n)) Try.underlying3 rfl (by kernel_rfl) (hpx (S33.inv.cell (k74 1 _ rfl)))) (lvg (d := 42) (t := 33) rfl (by kernel_rfl) rfl (bt q66 (by kernel_rfl)) rfl (by kernel_rfl) (e_lss (k := .i64) (a := x2) (b := (x3.cells.getD (((x3.cells.getD ((x1).toNat) z36).n).toNat) z36).n) (by kernel_rfl) (by kernel_rfl)) (lv (d := 43) rfl rfl (by kernel_rfl) (e_pick_t (v := .bool (decide (x2 < ((x3.cells.getD (((x3.cells.getD ((x1).toNat) z36).n).toNat) z36).n)))) (bt q66 (by kernel_rfl)) (by kernel_rfl)) (lv (d := 29) rfl rfl (by kernel_rfl) (e_assign (v := .bool (decide (x2 < ((x3.cells.getD (((x3.cells.getD ((x1).toNat) z36).n).toNat) z36).n)))) (by kernel_rfl)) (wpList_nil (then_n ?_)))))))
    by_cases q79 : x2 < ((x3.cells.getD (((x3.cells.getD ((x1).toNat) z36).n).toNat) z36).n)
    · replace M := ifp q79 M
      refine cond_t rfl (bt q79 (by kernel_rfl)) (wp_seq (wp_region_lit (lv (d := 44) rfl rfl (by kernel_rfl) (e_fieldAddr (b := g27) (off := 0) (o := 1) Try.underlying36 rfl rfl (sz := 1) (by kernel_rfl) (by decide) (by kernel_rfl)) (lv (d := 45) rfl rfl (by kernel_rfl) (e_load1 (ad := ⟨g27, 0 + 1, none⟩) (v := .int .i64 ((x3.cells.getD ((x1).toNat) z36).n)) Try.underlying3 rfl (by kernel_rfl) (blk_cell b32 rfl)) (lv (d := 46) rfl rfl (by kernel_rfl) (e_add (k := .i64) (a := (x3.cells.getD ((x1).toNat) z36).n) (b := 1) (by kernel_rfl) rfl) (lv (d := 47) rfl rfl (by kernel_rfl) (e_move (v := .int .i64 x2) (by kernel_rfl)) (lv (d := 48) rfl rfl (by kernel_rfl) (e_add (k := .i64) (a := (IntKind.i64.wrap (((x3.cells.getD ((x1).toNat) z36).n) + 1))) (b := x2) (by kernel_rfl) (by kernel_rfl)) ?_)))))))
      refine lv (d := 5) rfl rfl (by kernel_rfl) (e_assign (v := .int .i64 (IntKind.i64.wrap ((IntKind.i64.wrap (((x3.cells.getD ((x1).toNat) z36).n) + 1)) + x2))) (by kernel_rfl)) (lv (d := 6) rfl rfl (by kernel_rfl) (e_assign (v := .bool true) rfl) (wpList_nil (then_n (wp_ret (inb_r (then_r ?_))))))
      obtain rfl := Option.some.inj M
      exact ret2 rfl rfl rfl (show _ = .int .i64 (IntKind.i64.wrap ((IntKind.i64.wrap (((x3.cells.getD ((x1).toNat) z36).n) + 1)) + x2)) from (by kernel_rfl)) (show _ = .bool true from (by kernel_rfl)) ⟨rfl, S33.chg⟩
    replace M := ifn q79 M
    refine cond_f rfl (bf q79 (by kernel_rfl)) (wp_skip (inb_n (then_n (wp_seq (wp_region_lit (lv (d := 5) rfl rfl (by kernel_rfl) (e_assign (v := .int .i64 0) rfl) (lv (d := 6) rfl rfl (by kernel_rfl) (e_assign (v := .bool false) rfl) ?_)))))))
    refine wpList_nil (then_n (wp_ret ?_))
    obtain rfl := Option.some.inj M
    exact ret2 rfl rfl rfl (show _ = .int .i64 0 from (by kernel_rfl)) (show _ = .bool false from (by kernel_rfl)) ⟨rfl, S33.chg⟩
  replace M := ifn q66 M
  refine lskip (t := 33) (c := false) rfl (by kernel_rfl) rfl (bf q66 (by kernel_rfl)) rfl rfl ?_
  refine lskip (t := 33) (c := false) rfl (by kernel_rfl) rfl (bf q66 (by kernel_rfl)) rfl rfl ?_
  refine lskip (t := 33) (c := false) rfl (by kernel_rfl) rfl (bf q66 (by kernel_rfl)) rfl rfl ?_
  refine lskip (t := 33) (c := false) rfl (by kernel_rfl) rfl (bf q66 (by kernel_rfl)) rfl rfl ?_
  refine lskip (t := 33) (c := false) rfl (by kernel_rfl) rfl (bf q66 (by kernel_rfl)) rfl rfl ?_
  refine lskip (t := 33) (c := false) rfl (by kernel_rfl) rfl (bf q66 (by kernel_rfl)) rfl rfl ?_
  refine lskip (t := 33) (c := false) rfl (by kernel_rfl) rfl (bf q66 (by kernel_rfl)) rfl rfl ?_
  refine lskip (t := 33) (c := false) rfl (by kernel_rfl) rfl (bf q66 (by kernel_rfl)) rfl rfl ?_
  refine lskip (t := 33) (c := false) rfl (by kernel_rfl) rfl (bf q66 (by kernel_rfl)) rfl rfl ?_
  refine lv (d := 43) rfl rfl (by kernel_rfl) (e_pick_f (v := .bool false) (bf q66 (by kernel_rfl)) rfl) (lv (d := 29) rfl rfl (by kernel_rfl) (e_assign (v := .bool false) (by kernel_rfl)) (wpList_nil (then_n (cond_f rfl (by kernel_rfl) (wp_skip (inb_n (then_n ?_)))))))
  refine wp_seq (wp_region_lit (lv (d := 5) rfl rfl (by kernel_rfl) (e_assign (v := .int .i64 0) rfl) (lv (d := 6) rfl rfl (by kernel_rfl) (e_assign (v := .bool false) rfl) (wpList_nil (then_n (wp_ret ?_))))))
  obtain rfl := Option.some.inj M
  exact ret2 rfl rfl rfl (show _ = .int .i64 0 from (by kernel_rfl)) (show _ = .bool false from (by kernel_rfl)) ⟨rfl, S33.chg⟩

/-! impl_Store_ok -/
mutual
def impl_Store_ok.l3 : Nat → Store → Int → (List UInt8) → Option Bool
  | 0, _, _, _ => none
  | k146 + 1, x1, x132, x134 => (if x132 < (x1.cells.length : Int) then (if 0 ≤ x132 then (if ((x1.cells.getD ((x132).toNat) z36).kind) = 3 then (impl_Store_ok.l3 k146 x1 (IntKind.i64.wrap (x132 + 1)) x134) else (if x132 < (((x1.cells.length : Int)).toNat : Int) then (if ((x134.getD ((x132).toNat) (0 : UInt8)).toNat : Int) ≠ 0 then (impl_Store_ok.l3 k146 x1 (IntKind.i64.wrap (x132 + 1)) x134) else (impl_Store_ok.l4 k146 x1 x132 [(⟨x132, 0⟩ : GStep)] (x134.set ((x132).toNat) (1 : UInt8)))) else none)) else none) else some true)
def impl_Store_ok.l4 : Nat → Store → Int → (List GStep) → (List UInt8) → Option Bool
  | 0, _, _, _, _ => none
  | k226 + 1, x1, x132, x202, x208 => (if (x202.length : Int) > 0 then (if 0 ≤ (IntKind.i64.wrap ((x202.length : Int) - 1)) then (if (IntKind.i64.wrap ((x202.length : Int) - 1)) < (x202.length : Int) then ((impl_Store_ok_c1.f ((x202.getD (((IntKind.i64.wrap ((x202.length : Int) - 1))).toNat) z86).at_) ((x202.getD (((IntKind.i64.wrap ((x202.length : Int) - 1))).toNat) z86).next_) x1).bind fun t261 => (if ¬ (t261.2 = true) then (if 0 ≤ ((x202.getD (((IntKind.i64.wrap ((x202.length : Int) - 1))).toNat) z86).at_) then (if ((x202.getD (((IntKind.i64.wrap ((x202.length : Int) - 1))).toNat) z86).at_) < (((x1.cells.length : Int)).toNat : Int) then (if (IntKind.i64.wrap ((x202.length : Int) - 1)) ≤ (x202.length : Int) then (impl_Store_ok.l4 k226 x1 x132 (x202.take (((IntKind.i64.wrap ((x202.length : Int) - 1)) : Int).toNat)) (x208.set (((x202.getD (((IntKind.i64.wrap ((x202.length : Int) - 1))).toNat) z86).at_).toNat) (2 : UInt8))) else none) else none) else none) else (if 0 ≤ t261.1 then (if t261.1 < (((x1.cells.length : Int)).toNat : Int) then (if ((x208.getD ((t261.1).toNat) (0 : UInt8)).toNat : Int) = 0 then (if x202.length + 1 ≤ 8796093022208 then (impl_Store_ok.l4 k226 x1 x132 ((x202.set (((IntKind.i64.wrap ((x202.length : Int) - 1))).toNat) ({(x202.getD (((IntKind.i64.wrap ((x202.length : Int) - 1))).toNat) z86) with next_ := (IntKind.i64.wrap (((x202.getD (((IntKind.i64.wrap ((x202.length : Int) - 1))).toNat) z86).next_) + 1))})) ++ [(⟨t261.1, 0⟩ : GStep)]) (x208.set ((t261.1).toNat) (1 : UInt8))) else none) else (if ((x208.getD ((t261.1).toNat) (0 : UInt8)).toNat : Int) = 1 then some false else (impl_Store_ok.l4 k226 x1 x132 (x202.set (((IntKind.i64.wrap ((x202.length : Int) - 1))).toNat) ({(x202.getD (((IntKind.i64.wrap ((x202.length : Int) - 1))).toNat) z86) with next_ := (IntKind.i64.wrap (((x202.getD (((IntKind.i64.wrap ((x202.length : Int) - 1))).toNat) z86).next_) + 1))})) x208))) else none) else none))) else none) else none) else (impl_Store_ok.l3 k226 x1 (IntKind.i64.wrap (x132 + 1)) x208))
end
def impl_Store_ok.l2 : Nat → Store → Int → Option Bool
  | 0, _, _ => none
  | k97 + 1, x1, x87 => (if x87 < (x1.trail.length : Int) then (if 0 ≤ x87 then (if (x1.trail.getD ((x87).toNat) (0 : Int)) < 0 then some false else (if (x1.trail.getD ((x87).toNat) (0 : Int)) ≥ (x1.cells.length : Int) then some false else (if 0 ≤ (x1.trail.getD ((x87).toNat) (0 : Int)) then (if (x1.trail.getD ((x87).toNat) (0 : Int)) < (x1.cells.length : Int) then (if ((x1.cells.getD (((x1.trail.getD ((x87).toNat) (0 : Int))).toNat) z36).kind) = 3 then some false else (impl_Store_ok.l2 k97 x1 (IntKind.i64.wrap (x87 + 1)))) else none) else none))) else none) else (if 0 ≤ (x1.cells.length : Int) then (if ((x1.cells.length : Int)).toNat ≤ 281474976710656 then (impl_Store_ok.l3 k97 x1 0 (List.replicate ((x1.cells.length : Int)).toNat (0 : UInt8))) else none) else none))
mutual
def impl_Store_ok.l0 : Nat → Store → Int → Int → Option Bool
  | 0, _, _, _ => none
  | k31 + 1, x1, x19, x20 => (if x20 < (x1.cells.length : Int) then (if 0 ≤ x20 then (if ((x1.cells.getD ((x20).toNat) z36).kind) = 3 then (if x19 > 0 then some false else (if ((x1.cells.getD ((x20).toNat) z36).n) < 1 then some false else (if ((x1.cells.getD ((x20).toNat) z36).n) > 20 then some false else (if (((x1.cells.getD ((x20).toNat) z36).text).length : Int) > 100 then some false else (impl_Store_ok.l1 k31 x1 x20 ((x1.cells.getD ((x20).toNat) z36).n)))))) else ((impl_Store_points.f x1 (x1.cells.getD ((x20).toNat) z36)).bind fun t74 => (if ¬ (t74 = true) then some false else (impl_Store_ok.l1 k31 x1 x20 (if (IntKind.i64.wrap (x19 - 1)) > 0 then (IntKind.i64.wrap (x19 - 1)) else 0))))) else none) else (if x19 > 0 then some false else (impl_Store_ok.l2 k31 x1 0)))
def impl_Store_ok.l1 : Nat → Store → Int → Int → Option Bool
  | 0, _, _, _ => none
  | k45 + 1, x1, x20, x35 => (impl_Store_ok.l0 k45 x1 x35 (IntKind.i64.wrap (x20 + 1)))
end
def impl_Store_ok.f (k : Nat) (x1 : Store) : Option Bool := (if (x1.cells.length : Int) > 20000 then some false else (if (x1.trail.length : Int) > 20000 then some false else (impl_Store_ok.l0 k x1 0 0)))
theorem impl_Store_ok.calls (k : Nat) (w : World) (H : Hp) (x1 : Store) (A2 : Option Addr) (c3 : Nat) (A6 : Option Addr) (c7 : Nat) (h4 : Rd st36 H A2 x1.cells) (l5 : x1.cells.length ≤ c3) (h8 : Rd tInt H A6 x1.trail) (l9 : x1.trail.length ≤ c7) (S : Own [] H w) (r : Bool) (M : impl_Store_ok.f k x1 = some r) :
    Calls Try.prog 42 #[.agg #[.slice A2 x1.cells.length c3, .slice A6 x1.trail.length c7]] w (fun e e_w => e = .returned (.bool r) ∧ Chg no w e_w) := by
  rw [impl_Store_ok.f] at M
  refine enter (l := [.agg #[.slice A2 x1.cells.length c3, .slice A6 x1.trail.length c7]]) 179 Try.func42 rfl rfl rfl ?_
  have S0_ := S.st
  refine wp_seq (wp_region_lit ?_)
  refine lve (d := 1) rfl rfl (by kernel_rfl) (new_blk (v := fun g_ => .pointer (some ⟨g_, 0, none⟩)) (cs := #[.slice A2 x1.cells.length c3, .slice A6 x1.trail.length c7]) (t := 34) S0_ (by kernel_rfl)) ?_
  rintro _ w10 ⟨g11, rfl, b12, S13, K14⟩
  refine lv (d := 2) rfl rfl (by kernel_rfl) (e_assign (v := .bool false) rfl) (wpList_nil (then_n (wp_seq (wp_seq (wp_region_lit (lv (d := 16) rfl rfl (by kernel_rfl) (e_fieldAddr (b := g11) (off := 0) (o := 0) Try.underlying34 rfl rfl (sz := 1) (by kernel_rfl) (by decide) (by kernel_rfl)) (lv (d := 17) rfl rfl (by kernel_rfl) (e_load1 (ad := ⟨g11, 0 + 0, none⟩) (v := .slice A2 x1.cells.length c3) Try.underlying32 rfl (by kernel_rfl) (blk_cell b12 rfl)) ?_)))))))
  refine lv (d := 18) rfl rfl (by kernel_rfl) (e_len (A := A2) (n := x1.cells.length) (c := c3) Try.underlying32 (by kernel_rfl)) (lv (d := 19) rfl rfl (by kernel_rfl) (e_gtr (k := .i64) (a := (x1.cells.length : Int)) (b := 20000) (by kernel_rfl) rfl) (lv (d := 20) rfl rfl (by kernel_rfl) (e_move (v := .bool (decide ((x1.cells.length : Int) > 20000))) (by kernel_rfl)) ?_))
  by_cases q15 : (x1.cells.length : Int) > 20000
  · replace M := ifp q15 M
    refine lskip (t := 20) (c := true) rfl (by kernel_rfl) rfl (bt q15 (by kernel_rfl)) rfl rfl ?_
    refine lskip (t := 20) (c := true) rfl (by kernel_rfl) rfl (bt q15 (by kernel_rfl)) rfl rfl ?_
    refine lskip (t := 20) (c := true) rfl (by kernel_rfl) rfl (bt q15 (by kernel_rfl)) rfl rfl ?_
    refine lskip (t := 20) (c := true) rfl (by kernel_rfl) rfl (bt q15 (by kernel_rfl)) rfl rfl ?_
    refine lv (d := 25) rfl rfl (by kernel_rfl) (e_pick_t (v := .bool true) (bt q15 (by kernel_rfl)) rfl) (wpList_nil (then_n (cond_t rfl (by kernel_rfl) (wp_seq (wp_region_lit (lv (d := 2) rfl rfl (by kernel_rfl) (e_assign (v := .bool false) rfl) (wpList_nil ?_)))))))
    refine then_n (wp_ret (then_r ?_))
    obtain rfl := Option.some.inj M
    exact ret1 rfl rfl  (show _ = .bool false from (by kernel_rfl)) ⟨rfl, S13.chg⟩
  replace M := ifn q15 M
  refine lvg (d := 21) (t := 20) rfl (by kernel_rfl) rfl (bf q15 (by kernel_rfl)) rfl (by kernel_rfl) (e_fieldAddr (b := g11) (off := 0) (o := 1) Try.underlying34 rfl rfl (sz := 1) (by kernel_rfl) (by decide) (by kernel_rfl)) (lvg (d := 22) (t := 20) rfl (by kernel_rfl) rfl (bf q15 (by kernel_rfl)) rfl (by kernel_rfl) (e_load1 (ad := ⟨g11, 0 + 1, none⟩) (v := .slice A6 x1.trail.length c7) Try.underlying23 rfl (by kernel_rfl) (blk_cell b12 rfl)) (lvg (d := 23) (t := 20) rfl (by kernel_rfl) rfl (bf q15 (by kernel_rfl)) rfl (by kernel_rfl) (e_len (A := A6) (n := x1.trail.length) (c := c7) Try.underlying23 (by kernel_rfl)) (lvg (d := 24) (t := 20) rfl (by kernel_rfl) rfl (bf q15 (by kernel_rfl)) rfl (by kernel_rfl) (e_gtr (k := .i64) (a := (x1.trail.length : Int)) (b := 20000) (by kernel_rfl) rfl) (lv (d := 25) rfl rfl (by kernel_rfl) (e_pick_f (v := .bool (decide ((x1.trail.length : Int) > 20000))) (bf q15 (by kernel_rfl)) (by kernel_rfl)) (wpList_nil (then_n ?_))))))
  by_cases q16 : (x1.trail.length : Int) > 20000
  · replace M := ifp q16 M
    refine cond_t rfl (bt q16 (by kernel_rfl)) (wp_seq (wp_region_lit (lv (d := 2) rfl rfl (by kernel_rfl) (e_assign (v := .bool false) rfl) (wpList_nil (then_n (wp_ret (then_r ?_)))))))
    obtain rfl := Option.some.inj M
    exact ret1 rfl rfl  (show _ = .bool false from (by kernel_rfl)) ⟨rfl, S13.chg⟩
  replace M := ifn q16 M
  refine cond_f rfl (bf q16 (by kernel_rfl)) (wp_skip (then_n (wp_seq (wp_region_lit (lv (d := 3) rfl rfl (by kernel_rfl) (e_assign (v := .int .i64 0) rfl) (wpList_nil (then_n ?_)))))))
  refine wp_seq (wp_seq (wp_region_lit (lv (d := 26) rfl rfl (by kernel_rfl) (e_fieldAddr (b := g11) (off := 0) (o := 0) Try.underlying34 rfl rfl (sz := 1) (by kernel_rfl) (by decide) (by kernel_rfl)) (lv (d := 27) rfl rfl (by kernel_rfl) (e_load1 (ad := ⟨g11, 0 + 0, none⟩) (v := .slice A2 x1.cells.length c3) Try.underlying32 rfl (by kernel_rfl) (blk_cell b12 rfl)) (lv (d := 28) rfl rfl (by kernel_rfl) (e_len (A := A2) (n := x1.cells.length) (c := c3) Try.underlying32 (by kernel_rfl)) (lv (d := 29) rfl rfl (by kernel_rfl) (e_move (v := .int .i64 0) rfl) (wpList_nil ?_)))))))
  refine then_n (wp_block ?_)
  refine wp_loop_g (fun k29 a30 w17 => ∃ (f18 : Nat → Value) (x19 : Int) (x20 : Int), a30 = mk 179 f18 ∧ f18 1 = .pointer (some ⟨g11, 0, none⟩) ∧ f18 3 = .int .i64 x19 ∧ f18 27 = .slice A2 x1.cells.length c3 ∧ f18 28 = .int .i64 (x1.cells.length : Int) ∧ f18 29 = .int .i64 x20 ∧ w17.heap[g11]? = some (.cells #[.slice A2 x1.cells.length c3, .slice A6 x1.trail.length c7] 34 (0, 0)) ∧ St (anyOf []) H w [(is g11)] H w17 ∧ impl_Store_ok.l0 k29 x1 x19 x20 = some r) k ⟨_, 0, 0, rfl, (by kernel_rfl), (by kernel_rfl), (by kernel_rfl), (by kernel_rfl), (by kernel_rfl), b12, S13, M⟩ ?_
  clear M
  rintro k29 a30 w17 ⟨f18, x19, x20, rfl, e21, e22, e23, e24, e25, b12, S26, M⟩
  rcases k29 with _ | k31
  · rw [impl_Store_ok.l0] at M
    cases M
  rw [impl_Store_ok.l0] at M
  refine wp_seq (wp_region_lit (lv (d := 30) rfl rfl (by kernel_rfl) (e_lss (k := .i64) (a := x20) (b := (x1.cells.length : Int)) (by exact e25) (by exact e24)) (wpList_nil (then_n (wp_seq ?_)))))
  by_cases q32 : x20 < (x1.cells.length : Int)
  · replace M := ifp q32 M
    refine cond_t rfl (bt q32 (by kernel_rfl)) (wp_skip (then_n ?_))
    refine wp_seq_cut (fun a44 w33 => ∃ (k46 : Nat), k46 ≤ k31 ∧ ∃ (f34 : Nat → Value) (x35 : Int), a44 = mk 179 f34 ∧ f34 1 = .pointer (some ⟨g11, 0, none⟩) ∧ f34 3 = .int .i64 x35 ∧ f34 27 = .slice A2 x1.cells.length c3 ∧ f34 28 = .int .i64 (x1.cells.length : Int) ∧ f34 29 = .int .i64 x20 ∧ w33.heap[g11]? = some (.cells #[.slice A2 x1.cells.length c3, .slice A6 x1.trail.length c7] 34 (0, 0)) ∧ St (anyOf []) H w [(is g11)] H w33 ∧ impl_Store_ok.l1 k46 x1 x20 x35 = some r) ?_ ?_
    · refine wp_block (wp_seq (wp_region_lit ?_))
      obtain ⟨q47, M⟩ := chk M
      obtain ⟨b48, o49, e50⟩ := Rd.addr h4 (show (x20).toNat < x1.cells.length by omega)
      obtain ⟨y51, r52, k53⟩ := Rd.at h4 e50 (getD_some z36 (show (x20).toNat < x1.cells.length by omega))
      obtain ⟨A54, c55, rfl, l56, h57⟩ := st36_open r52
      refine lv (d := 31) rfl rfl (by kernel_rfl) (e_indexAddr (b := b48) (off := o49) (n := x1.cells.length) (c := c3) (sz := 3) (i := x20) (k := .i64) Try.underlying32 e50 (by kernel_rfl) (by exact e23) (by exact e25) q47 q32) (lv (d := 32) rfl rfl (by kernel_rfl) (e_loadS (b := b48) (off := o49 + (x20 : Int).toNat * 3) (cs := [.int .i64 ((x1.cells.getD ((x20).toNat) z36).kind), .int .i64 ((x1.cells.getD ((x20).toNat) z36).n), .slice A54 ((x1.cells.getD ((x20).toNat) z36).text).length c55]) Try.underlying36 rfl (by kernel_rfl) (by kernel_rfl) (fun j_ u_ e_ => (hpx (S26.inv.cell (k53 j_ u_ e_))))) ?_)
      refine lve (d := 5) rfl rfl (by kernel_rfl) (new_blk (v := fun g_ => .pointer (some ⟨g_, 0, none⟩)) (cs := #[.int .i64 0, .int .i64 0, .slice none 0 0]) (t := 36) S26 (by kernel_rfl)) ?_
      rintro _ w58 ⟨g59, rfl, b60, S61, K62⟩
      replace b12 := K62.blk 0 rfl b12
      refine lse rfl rfl (by kernel_rfl) (e_store (g := g59) (o := 0) (v := .agg #[.int .i64 ((x1.cells.getD ((x20).toNat) z36).kind), .int .i64 ((x1.cells.getD ((x20).toNat) z36).n), .slice A54 ((x1.cells.getD ((x20).toNat) z36).text).length c55]) (cur' := #[.int .i64 ((x1.cells.getD ((x20).toNat) z36).kind), .int .i64 ((x1.cells.getD ((x20).toNat) z36).n), .slice A54 ((x1.cells.getD ((x20).toNat) z36).text).length c55]) (vs := [.int .i64 ((x1.cells.getD ((x20).toNat) z36).kind), .int .i64 ((x1.cells.getD ((x20).toNat) z36).n), .slice A54 ((x1.cells.getD ((x20).toNat) z36).text).length c55]) S61 (by kernel_rfl) (by kernel_rfl) rfl (by kernel_rfl) b60 (Nat.le_of_ble_eq_true rfl) (List.forall_mem_cons.2 ⟨rfl, (List.forall_mem_cons.2 ⟨rfl, (List.forall_mem_cons.2 ⟨rfl, (fun _ h_ => by cases h_)⟩)⟩)⟩) rfl) ?_
      rintro w63 ⟨b64, S65, K66⟩
      replace b12 := K66.blk 0 rfl b12
      clear b60
      refine wpList_nil (then_n (wp_seq (wp_seq (wp_region_lit (lv (d := 33) rfl rfl (by kernel_rfl) (e_fieldAddr (b := g59) (off := 0) (o := 0) Try.underlying36 rfl rfl (sz := 1) (by kernel_rfl) (by decide) (by kernel_rfl)) (lv (d := 34) rfl rfl (by kernel_rfl) (e_load1 (ad := ⟨g59, 0 + 0, none⟩) (v := .int .i64 ((x1.cells.getD ((x20).toNat) z36).kind)) Try.underlying3 rfl (by kernel_rfl) (blk_cell b64 rfl)) (lv (d := 35) rfl rfl (by kernel_rfl) (e_eql (k := .i64) (a := (x1.cells.getD ((x20).toNat) z36).kind) (b := 3) (by kernel_rfl) rfl) ?_)))))))
      refine wpList_nil (then_n ?_)
      by_cases q67 : ((x1.cells.getD ((x20).toNat) z36).kind) = 3
      · replace M := ifp q67 M
        refine cond_t rfl (bt q67 (by kernel_rfl)) (wp_seq (wp_seq (wp_region_lit (lv (d := 36) rfl rfl (by kernel_rfl) (e_move (v := .int .i64 x19) (by exact e22)) (lv (d := 37) rfl rfl (by kernel_rfl) (e_gtr (k := .i64) (a := x19) (b := 0) (by kernel_rfl) rfl) (lv (d := 38) rfl rfl (by kernel_rfl) (e_move (v := .bool (decide (x19 > 0))) (by kernel_rfl)) ?_))))))
        by_cases q68 : x19 > 0
        · replace M := ifp q68 M
          refine lskip (t := 38) (c := true) rfl (by kernel_rfl) rfl (bt q68 (by kernel_rfl)) rfl rfl ?_
          refine lskip (t := 38) (c := true) rfl (by kernel_rfl) rfl (bt q68 (by kernel_rfl)) rfl rfl ?_
          refine lskip (t := 38) (c := true) rfl (by kernel_rfl) rfl (bt q68 (by kernel_rfl)) rfl rfl ?_
          refine lv (d := 42) rfl rfl (by kernel_rfl) (e_pick_t (v := .bool true) (bt q68 (by kernel_rfl)) rfl) (lv (d := 43) rfl rfl (by kernel_rfl) (e_move (v := .bool true) (by kernel_rfl)) ?_)
          refine lskip (t := 43) (c := true) rfl (by kernel_rfl) rfl (by kernel_rfl) rfl rfl ?_
          refine lskip (t := 43) (c := true) rfl (by kernel_rfl) rfl (by kernel_rfl) rfl rfl ?_
          refine lskip (t := 43) (c := true) rfl (by kernel_rfl) rfl (by kernel_rfl) rfl rfl ?_
          refine lv (d := 47) rfl rfl (by kernel_rfl) (e_pick_t (v := .bool true) (by kernel_rfl) rfl) (lv (d := 48) rfl rfl (by kernel_rfl) (e_move (v := .bool true) (by kernel_rfl)) ?_)
          refine lskip (t := 48) (c := true) rfl (by kernel_rfl) rfl (by kernel_rfl) rfl rfl ?_
          refine lskip (t := 48) (c := true) rfl (by kernel_rfl) rfl (by kernel_rfl) rfl rfl ?_
          refine lskip (t := 48) (c := true) rfl (by kernel_rfl) rfl (by kernel_rfl) rfl rfl ?_
          refine lskip (t := 48) (c := true) rfl (by kernel_rfl) rfl (by kernel_rfl) rfl rfl ?_
          refine lv (d := 53) rfl rfl (by kernel_rfl) (e_pick_t (v := .bool true) (by kernel_rfl) rfl) (wpList_nil (then_n (cond_t rfl (by kernel_rfl) (wp_seq (wp_region_lit (lv (d := 2) rfl rfl (by kernel_rfl) (e_assign (v := .bool false) rfl) (wpList_nil ?_)))))))
          refine then_n (wp_ret (then_r (then_r (inb_r (then_r (then_r (inb_r ?_)))))))
          refine then_r ?_
          obtain rfl := Option.some.inj M
          exact ret1 rfl rfl  (show _ = .bool false from (by kernel_rfl)) ⟨rfl, S65.chg⟩
        replace M := ifn q68 M
        refine lvg (d := 39) (t := 38) rfl (by kernel_rfl) rfl (bf q68 (by kernel_rfl)) rfl (by kernel_rfl) (e_fieldAddr (b := g59) (off := 0) (o := 1) Try.underlying36 rfl rfl (sz := 1) (by kernel_rfl) (by decide) (by kernel_rfl)) (lvg (d := 40) (t := 38) rfl (by kernel_rfl) rfl (bf q68 (by kernel_rfl)) rfl (by kernel_rfl) (e_load1 (ad := ⟨g59, 0 + 1, none⟩) (v := .int .i64 ((x1.cells.getD ((x20).toNat) z36).n)) Try.underlying3 rfl (by kernel_rfl) (blk_cell b64 rfl)) (lvg (d := 41) (t := 38) rfl (by kernel_rfl) rfl (bf q68 (by kernel_rfl)) rfl (by kernel_rfl) (e_lss (k := .i64) (a := (x1.cells.getD ((x20).toNat) z36).n) (b := 1) (by kernel_rfl) rfl) (lv (d := 42) rfl rfl (by kernel_rfl) (e_pick_f (v := .bool (decide (((x1.cells.getD ((x20).toNat) z36).n) < 1))) (bf q68 (by kernel_rfl)) (by kernel_rfl)) (lv (d := 43) rfl rfl (by kernel_rfl) (e_move (v := .bool (decide (((x1.cells.getD ((x20).toNat) z36).n) < 1))) (by kernel_rfl)) ?_))))
        by_cases q69 : ((x1.cells.getD ((x20).toNat) z36).n) < 1
        · replace M := ifp q69 M
          refine lskip (t := 43) (c := true) rfl (by kernel_rfl) rfl (bt q69 (by kernel_rfl)) rfl rfl ?_
          refine lskip (t := 43) (c := true) rfl (by kernel_rfl) rfl (bt q69 (by kernel_rfl)) rfl rfl ?_
          refine lskip (t := 43) (c := true) rfl (by kernel_rfl) rfl (bt q69 (by kernel_rfl)) rfl rfl ?_
          refine lv (d := 47) rfl rfl (by kernel_rfl) (e_pick_t (v := .bool true) (bt q69 (by kernel_rfl)) rfl) (lv (d := 48) rfl rfl (by kernel_rfl) (e_move (v := .bool true) (by kernel_rfl)) ?_)
          refine lskip (t := 48) (c := true) rfl (by kernel_rfl) rfl (by kernel_rfl) rfl rfl ?_
          refine lskip (t := 48) (c := true) rfl (by kernel_rfl) rfl (by kernel_rfl) rfl rfl ?_
          refine lskip (t := 48) (c := true) rfl (by kernel_rfl) rfl (by kernel_rfl) rfl rfl ?_
          refine lskip (t := 48) (c := true) rfl (by kernel_rfl) rfl (by kernel_rfl) rfl rfl ?_
          refine lv (d := 53) rfl rfl (by kernel_rfl) (e_pick_t (v := .bool true) (by kernel_rfl) rfl) (wpList_nil (then_n (cond_t rfl (by kernel_rfl) (wp_seq (wp_region_lit (lv (d := 2) rfl rfl (by kernel_rfl) (e_assign (v := .bool false) rfl) (wpList_nil ?_)))))))
          refine then_n (wp_ret (then_r (then_r (inb_r (then_r (then_r (inb_r ?_)))))))
          refine then_r ?_
          obtain rfl := Option.some.inj M
          exact ret1 rfl rfl  (show _ = .bool false from (by kernel_rfl)) ⟨rfl, S65.chg⟩
        replace M := ifn q69 M
        refine lvg (d := 44) (t := 43) rfl (by kernel_rfl) rfl (bf q69 (by kernel_rfl)) rfl (by kernel_rfl) (e_fieldAddr (b := g59) (off := 0) (o := 1) Try.underlying36 rfl rfl (sz := 1) (by kernel_rfl) (by decide) (by kernel_rfl)) (lvg (d := 45) (t := 43) rfl (by kernel_rfl) rfl (bf q69 (by kernel_rfl)) rfl (by kernel_rfl) (e_load1 (ad := ⟨g59, 0 + 1, none⟩) (v := .int .i64 ((x1.cells.getD ((x20).toNat) z36).n)) Try.underlying3 rfl (by kernel_rfl) (blk_cell b64 rfl)) (lvg (d := 46) (t := 43) rfl (by kernel_rfl) rfl (bf q69 (by kernel_rfl)) rfl (by kernel_rfl) (e_gtr (k := .i64) (a := (x1.cells.getD ((x20).toNat) z36).n) (b := 20) (by kernel_rfl) rfl) (lv (d := 47) rfl rfl (by kernel_rfl) (e_pick_f (v := .bool (decide (((x1.cells.getD ((x20).toNat) z36).n) > 20))) (bf q69 (by kernel_rfl)) (by kernel_rfl)) (lv (d := 48) rfl rfl (by kernel_rfl) (e_move (v := .bool (decide (((x1.cells.getD ((x20).toNat) z36).n) > 20))) (by kernel_rfl)) ?_))))
        by_cases q70 : ((x1.cells.getD ((x20).toNat) z36).n) > 20
        · replace M := ifp q70 M
          refine lskip (t := 48) (c := true) rfl (by kernel_rfl) rfl (bt q70 (by kernel_rfl)) rfl rfl ?_
          refine lskip (t := 48) (c := true) rfl (by kernel_rfl) rfl (bt q70 (by kernel_rfl)) rfl rfl ?_
          refine lskip (t := 48) (c := true) rfl (by kernel_rfl) rfl (bt q70 (by kernel_rfl)) rfl rfl ?_
          refine lskip (t := 48) (c := true) rfl (by kernel_rfl) rfl (bt q70 (by kernel_rfl)) rfl rfl ?_
          refine lv (d := 53) rfl rfl (by kernel_rfl) (e_pick_t (v := .bool true) (bt q70 (by kernel_rfl)) rfl) (wpList_nil (then_n (cond_t rfl (by kernel_rfl) (wp_seq (wp_region_lit (lv (d := 2) rfl rfl (by kernel_rfl) (e_assign (v := .bool false) rfl) (wpList_nil ?_)))))))
          refine then_n (wp_ret (then_r (then_r (inb_r (then_r (then_r (inb_r ?_)))))))
          refine then_r ?_
          obtain rfl := Option.some.inj M
          exact ret1 rfl rfl  (show _ = .bool false from (by kernel_rfl)) ⟨rfl, S65.chg⟩
        replace M := ifn q70 M
        refine lvg (d := 49) (t := 48) rfl (by kernel_rfl) rfl (bf q70 (by kernel_rfl)) rfl (by kernel_rfl) (e_fieldAddr (b := g59) (off := 0) (o := 2) Try.underlying36 rfl rfl (sz := 1) (by kernel_rfl) (by decide) (by kernel_rfl)) (lvg (d := 50) (t := 48) rfl (by kernel_rfl) rfl (bf q70 (by kernel_rfl)) rfl (by kernel_rfl) (e_load1 (ad := ⟨g59, 0 + 2, none⟩) (v := .slice A54 ((x1.cells.getD ((x20).toNat) z36).text).length c55) Try.underlying26 rfl (by kernel_rfl) (blk_cell b64 rfl)) (lvg (d := 51) (t := 48) rfl (by kernel_rfl) rfl (bf q70 (by kernel_rfl)) rfl (by kernel_rfl) (e_len (A := A54) (n := ((x1.cells.getD ((x20).toNat) z36).text).length) (c := c55) Try.underlying26 (by kernel_rfl)) (lvg (d := 52) (t := 48) rfl (by kernel_rfl) rfl (bf q70 (by kernel_rfl)) rfl (by kernel_rfl) (e_gtr (k := .i64) (a := (((x1.cells.getD ((x20).toNat) z36).text).length : Int)) (b := 100) (by kernel_rfl) rfl) (lv (d := 53) rfl rfl (by kernel_rfl) (e_pick_f (v := .bool (decide ((((x1.cells.getD ((x20).toNat) z36).text).length : Int) > 100))) (bf q70 (by kernel_rfl)) (by kernel_rfl)) (wpList_nil (then_n ?_))))))
        by_cases q71 : (((x1.cells.getD ((x20).toNat) z36).text).length : Int) > 100
        · replace M := ifp q71 M
          refine cond_t rfl (bt q71 (by kernel_rfl)) (wp_seq (wp_region_lit (lv (d := 2) rfl rfl (by kernel_rfl) (e_assign (v := .bool false) rfl) (wpList_nil (then_n (wp_ret (then_r ?_)))))))
          refine then_r (inb_r (then_r (then_r (inb_r (then_r ?_)))))
          obtain rfl := Option.some.inj M
          exact ret1 rfl rfl  (show _ = .bool false from (by kernel_rfl)) ⟨rfl, S65.chg⟩
        replace M := ifn q71 M
        refine cond_f rfl (bf q71 (by kernel_rfl)) (wp_skip (then_n (wp_seq (wp_region_lit (lv (d := 54) rfl rfl (by kernel_rfl) (e_fieldAddr (b := g59) (off := 0) (o := 1) Try.underlying36 rfl rfl (sz := 1) (by kernel_rfl) (by decide) (by kernel_rfl)) (lv (d := 55) rfl rfl (by kernel_rfl) (e_load1 (ad := ⟨g59, 0 + 1, none⟩) (v := .int .i64 ((x1.cells.getD ((x20).toNat) z36).n)) Try.underlying3 rfl (by kernel_rfl) (blk_cell b64 rfl)) (lv (d := 3) rfl rfl (by kernel_rfl) (e_assign (v := .int .i64 ((x1.cells.getD ((x20).toNat) z36).n)) (by kernel_rfl)) ?_)))))))
        refine wpList_nil (then_n (wp_exit (then_e (inb_hit (then_n ?_)))))
        have S72 := S65.pull (F := (is g11)) (Fr := [(is g59)]) 1 rfl rfl
        have S73 := St.first (Fa := [(is g11)]) (Fr := [(is g59)]) S72
        exact ⟨k31, (by omega), _, ((x1.cells.getD ((x20).toNat) z36).n), rfl, (by exact e21), (by kernel_rfl), (by exact e23), (by exact e24), (by exact e25), b12, S73, M⟩
      replace M := ifn q67 M
      refine cond_f rfl (bf q67 (by kernel_rfl)) (wp_skip (then_n (wp_seq (wp_seq (wp_region_lit (lv (d := 56) rfl rfl (by kernel_rfl) (e_loadS (b := g11) (off := 0) (cs := [.slice A2 x1.cells.length c3, .slice A6 x1.trail.length c7]) Try.underlying34 rfl (by kernel_rfl) (by exact e21) (blk_cells b12 rfl)) (lv (d := 57) rfl rfl (by kernel_rfl) (e_loadS (b := g59) (off := 0) (cs := [.int .i64 ((x1.cells.getD ((x20).toNat) z36).kind), .int .i64 ((x1.cells.getD ((x20).toNat) z36).n), .slice A54 ((x1.cells.getD ((x20).toNat) z36).text).length c55]) Try.underlying36 rfl (by kernel_rfl) (by kernel_rfl) (blk_cells b64 rfl)) ?_)))))))
      obtain ⟨t74, u75, M⟩ := bnd M
      refine lcall (d := 58) rfl rfl (by kernel_rfl) (e_call (l := [.tmp 56, .tmp 57]) (vs := [.agg #[.slice A2 x1.cells.length c3, .slice A6 x1.trail.length c7], .agg #[.int .i64 ((x1.cells.getD ((x20).toNat) z36).kind), .int .i64 ((x1.cells.getD ((x20).toNat) z36).n), .slice A54 ((x1.cells.getD ((x20).toNat) z36).text).length c55]]) Try.func43 (by kernel_rfl) rfl (by kernel_rfl) rfl) (impl_Store_points.calls w63 H x1 A2 c3 A6 c7 (x1.cells.getD ((x20).toNat) z36) A54 c55 h4 l5 h8 l9 h57 l56 S65.own0 t74 u75) ?_
      rintro _ w76 ⟨rfl, C77⟩
      refine ⟨_, rfl, ?_⟩
      obtain ⟨S78, K79⟩ := S65.still C77
      replace b12 := K79.blk 1 rfl b12
      refine lv (d := 59) rfl rfl (by kernel_rfl) (e_notv (c := t74) (by kernel_rfl)) (wpList_nil (then_n ?_))
      by_cases q80 : ¬ (t74 = true)
      · replace M := ifp q80 M
        refine cond_t rfl (bt q80 (by kernel_rfl)) (wp_seq (wp_region_lit (lv (d := 2) rfl rfl (by kernel_rfl) (e_assign (v := .bool false) rfl) (wpList_nil (then_n (wp_ret (then_r ?_)))))))
        refine inb_r (then_r (then_r (inb_r (then_r ?_))))
        obtain rfl := Option.some.inj M
        exact ret1 rfl rfl  (show _ = .bool false from (by kernel_rfl)) ⟨rfl, S78.chg⟩
      replace M := ifn q80 M
      refine cond_f rfl (bf q80 (by kernel_rfl)) (wp_skip (then_n (wp_region_lit (lv (d := 60) rfl rfl (by kernel_rfl) (e_move (v := .int .i64 x19) (by exact e22)) (lv (d := 61) rfl rfl (by kernel_rfl) (e_sub (k := .i64) (a := x19) (b := 1) (by kernel_rfl) rfl) (lv (d := 62) rfl rfl (by kernel_rfl) (e_max (k := .i64) (a := 0) (b := (IntKind.i64.wrap (x19 - 1))) rfl (by kernel_rfl)) (lv (d := 3) rfl rfl (by kernel_rfl) (e_assign (v := .int .i64 (if (IntKind.i64.wrap (x19 - 1)) > 0 then (IntKind.i64.wrap (x19 - 1)) else 0)) (by kernel_rfl)) ?_)))))))
      refine wpList_nil (inb_n (then_n ?_))
      have S81 := S78.pull (F := (is g11)) (Fr := [(is g59)]) 1 rfl rfl
      have S82 := St.first (Fa := [(is g11)]) (Fr := [(is g59)]) S81
      exact ⟨k31, (by omega), _, (if (IntKind.i64.wrap (x19 - 1)) > 0 then (IntKind.i64.wrap (x19 - 1)) else 0), rfl, (by exact e21), (by kernel_rfl), (by exact e23), (by exact e24), (by exact e25), b12, S82, M⟩
    clear M
    rintro a44 w33 ⟨k46, z83, f34, x35, rfl, e36, e37, e38, e39, e40, b12, S41, M⟩
    rcases k46 with _ | k45
    · rw [impl_Store_ok.l1] at M
      cases M
    rw [impl_Store_ok.l1] at M
    refine wp_region_lit (lv (d := 63) rfl rfl (by kernel_rfl) (e_add (k := .i64) (a := x20) (b := 1) (by exact e40) rfl) (lv (d := 29) rfl rfl (by kernel_rfl) (e_move (v := .int .i64 (IntKind.i64.wrap (x20 + 1))) (by kernel_rfl)) (wpList_nil (then_n ?_))))
    exact ⟨k45, (by omega), _, x35, (IntKind.i64.wrap (x20 + 1)), rfl, (by exact e36), (by exact e37), (by exact e38), (by exact e39), (by kernel_rfl), b12, S41, M⟩
  replace M := ifn q32 M
  refine cond_f rfl (bf q32 (by kernel_rfl)) (wp_exit (then_e (then_e (inb_hit (then_n (wp_seq (wp_seq ?_)))))))
  refine wp_region_lit (lv (d := 64) rfl rfl (by kernel_rfl) (e_move (v := .int .i64 x19) (by exact e22)) (lv (d := 65) rfl rfl (by kernel_rfl) (e_gtr (k := .i64) (a := x19) (b := 0) (by kernel_rfl) rfl) (wpList_nil (then_n ?_))))
  by_cases q84 : x19 > 0
  · replace M := ifp q84 M
    refine cond_t rfl (bt q84 (by kernel_rfl)) (wp_seq (wp_region_lit (lv (d := 2) rfl rfl (by kernel_rfl) (e_assign (v := .bool false) rfl) (wpList_nil (then_n (wp_ret (then_r ?_)))))))
    obtain rfl := Option.some.inj M
    exact ret1 rfl rfl  (show _ = .bool false from (by kernel_rfl)) ⟨rfl, S26.chg⟩
  replace M := ifn q84 M
  refine cond_f rfl (bf q84 (by kernel_rfl)) (wp_skip (then_n (wp_seq (wp_seq (wp_region_lit (lv (d := 66) rfl rfl (by kernel_rfl) (e_fieldAddr (b := g11) (off := 0) (o := 1) Try.underlying34 rfl rfl (sz := 1) (by kernel_rfl) (by decide) (by exact e21)) (lv (d := 67) rfl rfl (by kernel_rfl) (e_load1 (ad := ⟨g11, 0 + 1, none⟩) (v := .slice A6 x1.trail.length c7) Try.underlying23 rfl (by kernel_rfl) (blk_cell b12 rfl)) ?_)))))))
  refine lv (d := 68) rfl rfl (by kernel_rfl) (e_len (A := A6) (n := x1.trail.length) (c := c7) Try.underlying23 (by kernel_rfl)) (lv (d := 69) rfl rfl (by kernel_rfl) (e_move (v := .int .i64 0) rfl) (wpList_nil (then_n (wp_block ?_))))
  refine wp_loop_g (fun k95 a96 w85 => ∃ (f86 : Nat → Value) (x87 : Int), k95 ≤ k31 ∧ a96 = mk 179 f86 ∧ f86 1 = .pointer (some ⟨g11, 0, none⟩) ∧ f86 67 = .slice A6 x1.trail.length c7 ∧ f86 68 = .int .i64 (x1.trail.length : Int) ∧ f86 69 = .int .i64 x87 ∧ w85.heap[g11]? = some (.cells #[.slice A2 x1.cells.length c3, .slice A6 x1.trail.length c7] 34 (0, 0)) ∧ St (anyOf []) H w [(is g11)] H w85 ∧ impl_Store_ok.l2 k95 x1 x87 = some r) k31 ⟨_, 0, (by omega), rfl, (by exact e21), (by kernel_rfl), (by kernel_rfl), (by kernel_rfl), b12, S26, M⟩ ?_
  clear M
  rintro k95 a96 w85 ⟨f86, x87, z94, rfl, e88, e89, e90, e91, b12, S92, M⟩
  rcases k95 with _ | k97
  · rw [impl_Store_ok.l2] at M
    cases M
  rw [impl_Store_ok.l2] at M
  refine wp_seq (wp_region_lit (lv (d := 70) rfl rfl (by kernel_rfl) (e_lss (k := .i64) (a := x87) (b := (x1.trail.length : Int)) (by exact e91) (by exact e90)) (wpList_nil (then_n (wp_seq ?_)))))
  by_cases q98 : x87 < (x1.trail.length : Int)
  · replace M := ifp q98 M
    refine cond_t rfl (bt q98 (by kernel_rfl)) (wp_skip (then_n (wp_seq (wp_block (wp_seq (wp_region_lit ?_))))))
    obtain ⟨q99, M⟩ := chk M
    obtain ⟨b100, o101, e102⟩ := Rd.addr h8 (show (x87).toNat < x1.trail.length by omega)
    obtain ⟨y103, r104, k105⟩ := Rd.at h8 e102 (getD_some (0 : Int) (show (x87).toNat < x1.trail.length by omega))
    obtain rfl := r104
    refine lv (d := 71) rfl rfl (by kernel_rfl) (e_indexAddr (b := b100) (off := o101) (n := x1.trail.length) (c := c7) (sz := 1) (i := x87) (k := .i64) Try.underlying23 e102 (by kernel_rfl) (by exact e89) (by exact e91) q99 q98) (lv (d := 72) rfl rfl (by kernel_rfl) (e_load1 (ad := ⟨b100, o101 + (x87 : Int).toNat * 1, none⟩) (v := .int .i64 (x1.trail.getD ((x87).toNat) (0 : Int))) Try.underlying3 rfl (by kernel_rfl) (hpx (S92.inv.cell (k105 0 _ rfl)))) (lv (d := 7) rfl rfl (by kernel_rfl) (e_assign (v := .int .i64 (x1.trail.getD ((x87).toNat) (0 : Int))) (by kernel_rfl)) (wpList_nil (then_n (wp_seq (wp_region_lit (lv (d := 73) rfl rfl (by kernel_rfl) (e_move (v := .int .i64 (x1.trail.getD ((x87).toNat) (0 : Int))) (by kernel_rfl)) ?_)))))))
    refine lv (d := 74) rfl rfl (by kernel_rfl) (e_lss (k := .i64) (a := (x1.trail.getD ((x87).toNat) (0 : Int))) (b := 0) (by kernel_rfl) rfl) (lv (d := 75) rfl rfl (by kernel_rfl) (e_move (v := .bool (decide ((x1.trail.getD ((x87).toNat) (0 : Int)) < 0))) (by kernel_rfl)) ?_)
    by_cases q106 : (x1.trail.getD ((x87).toNat) (0 : Int)) < 0
    · replace M := ifp q106 M
      refine lskip (t := 75) (c := true) rfl (by kernel_rfl) rfl (bt q106 (by kernel_rfl)) rfl rfl ?_
      refine lskip (t := 75) (c := true) rfl (by kernel_rfl) rfl (bt q106 (by kernel_rfl)) rfl rfl ?_
      refine lskip (t := 75) (c := true) rfl (by kernel_rfl) rfl (bt q106 (by kernel_rfl)) rfl rfl ?_
      refine lskip (t := 75) (c := true) rfl (by kernel_rfl) rfl (bt q106 (by kernel_rfl)) rfl rfl ?_
      refine lskip (t := 75) (c := true) rfl (by kernel_rfl) rfl (bt q106 (by kernel_rfl)) rfl rfl ?_
      refine lv (d := 81) rfl rfl (by kernel_rfl) (e_pick_t (v := .bool true) (bt q106 (by kernel_rfl)) rfl) (lv (d := 82) rfl rfl (by kernel_rfl) (e_move (v := .bool true) (by kernel_rfl)) ?_)
      refine lskip (t := 82) (c := true) rfl (by kernel_rfl) rfl (by kernel_rfl) rfl rfl ?_
      refine lskip (t := 82) (c := true) rfl (by kernel_rfl) rfl (by kernel_rfl) rfl rfl ?_
      refine lskip (t := 82) (c := true) rfl (by kernel_rfl) rfl (by kernel_rfl) rfl rfl ?_
      refine lskip (t := 82) (c := true) rfl (by kernel_rfl) rfl (by kernel_rfl) rfl rfl ?_
      refine lskip (t := 82) (c := true) rfl (by kernel_rfl) rfl (by kernel_rfl) rfl rfl ?_
      refine lskip (t := 82) (c := true) rfl (by kernel_rfl) rfl (by kernel_rfl) rfl rfl ?_
      refine lskip (t := 82) (c := true) rfl (by kernel_rfl) rfl (by kernel_rfl) rfl rfl ?_
      refine lv (d := 90) rfl rfl (by kernel_rfl) (e_pick_t (v := .bool true) (by kernel_rfl) rfl) (wpList_nil (then_n (cond_t rfl (by kernel_rfl) (wp_seq (wp_region_lit (lv (d := 2) rfl rfl (by kernel_rfl) (e_assign (v := .bool false) rfl) (wpList_nil ?_)))))))
      refine then_n (wp_ret (inb_r (then_r (then_r (inb_r (then_r ?_))))))
      obtain rfl := Option.some.inj M
      exact ret1 rfl rfl  (show _ = .bool false from (by kernel_rfl)) ⟨rfl, S92.chg⟩
    replace M := ifn q106 M
    refine lvg (d := 76) (t := 75) rfl (by kernel_rfl) rfl (bf q106 (by kernel_rfl)) rfl (by kernel_rfl) (e_move (v := .int .i64 (x1.trail.getD ((x87).toNat) (0 : Int))) (by kernel_rfl)) (lvg (d := 77) (t := 75) rfl (by kernel_rfl) rfl (bf q106 (by kernel_rfl)) rfl (by kernel_rfl) (e_fieldAddr (b := g11) (off := 0) (o := 0) Try.underlying34 rfl rfl (sz := 1) (by kernel_rfl) (by decide) (by exact e88)) (lvg (d := 78) (t := 75) rfl (by kernel_rfl) rfl (bf q106 (by kernel_rfl)) rfl (by kernel_rfl) (e_load1 (ad := ⟨g11, 0 + 0, none⟩) (v := .slice A2 x1.cells.length c3) Try.underlying32 rfl (by kernel_rfl) (blk_cell b12 rfl)) (lvg (d := 79) (t := 75) rfl (by kernel_rfl) rfl (bf q106 (by kernel_rfl)) rfl (by kernel_rfl) (e_len (A := A2) (n := x1.cells.length) (c := c3) Try.underlying32 (by kernel_rfl)) (lvg (d := 80) (t := 75) rfl (by kernel_rfl) rfl (bf q106 (by kernel_rfl)) rfl (by kernel_rfl) (e_geq (k := .i64) (a := (x1.trail.getD ((x87).toNat) (0 : Int))) (b := (x1.cells.length : Int)) (by kernel_rfl) (by kernel_rfl)) (lv (d := 81) rfl rfl (by kernel_rfl) (e_pick_f (v := .bool (decide ((x1.trail.getD ((x87).toNat) (0 : Int)) ≥ (x1.cells.length : Int)))) (bf q106 (by kernel_rfl)) (by kernel_rfl)) (lv (d := 82) rfl rfl (by kernel_rfl) (e_move (v := .bool (decide ((x1.trail.getD ((x87).toNat) (0 : Int)) ≥ (x1.cells.length : Int)))) (by kernel_rfl)) ?_))))))
    by_cases q107 : (x1.trail.getD ((x87).toNat) (0 : Int)) ≥ (x1.cells.length : Int)
    · replace M := ifp q107 M
      refine lskip (t := 82) (c := true) rfl (by kernel_rfl) rfl (bt q107 (by kernel_rfl)) rfl rfl ?_
      refine lskip (t := 82) (c := true) rfl (by kernel_rfl) rfl (bt q107 (by kernel_rfl)) rfl rfl ?_
      refine lskip (t := 82) (c := true) rfl (by kernel_rfl) rfl (bt q107 (by kernel_rfl)) rfl rfl ?_
      refine lskip (t := 82) (c := true) rfl (by kernel_rfl) rfl (bt q107 (by kernel_rfl)) rfl rfl ?_
      refine lskip (t := 82) (c := true) rfl (by kernel_rfl) rfl (bt q107 (by kernel_rfl)) rfl rfl ?_
      refine lskip (t := 82) (c := true) rfl (by kernel_rfl) rfl (bt q107 (by kernel_rfl)) rfl rfl ?_
      refine lskip (t := 82) (c := true) rfl (by kernel_rfl) rfl (bt q107 (by kernel_rfl)) rfl rfl ?_
      refine lv (d := 90) rfl rfl (by kernel_rfl) (e_pick_t (v := .bool true) (bt q107 (by kernel_rfl)) rfl) (wpList_nil (then_n (cond_t rfl (by kernel_rfl) (wp_seq (wp_region_lit (lv (d := 2) rfl rfl (by kernel_rfl) (e_assign (v := .bool false) rfl) (wpList_nil ?_)))))))
      refine then_n (wp_ret (inb_r (then_r (then_r (inb_r (then_r ?_))))))
      obtain rfl := Option.some.inj M
      exact ret1 rfl rfl  (show _ = .bool false from (by kernel_rfl)) ⟨rfl, S92.chg⟩
    replace M := ifn q107 M
    refine lvg (d := 83) (t := 82) rfl (by kernel_rfl) rfl (bf q107 (by kernel_rfl)) rfl (by kernel_rfl) (e_fieldAddr (b := g11) (off := 0) (o := 0) Try.underlying34 rfl rfl (sz := 1) (by kernel_rfl) (by decide) (by exact e88)) (lvg (d := 84) (t := 82) rfl (by kernel_rfl) rfl (bf q107 (by kernel_rfl)) rfl (by kernel_rfl) (e_load1 (ad := ⟨g11, 0 + 0, none⟩) (v := .slice A2 x1.cells.length c3) Try.underlying32 rfl (by kernel_rfl) (blk_cell b12 rfl)) (lvg (d := 85) (t := 82) rfl (by kernel_rfl) rfl (bf q107 (by kernel_rfl)) rfl (by kernel_rfl) (e_move (v := .int .i64 (x1.trail.getD ((x87).toNat) (0 : Int))) (by kernel_rfl)) ?_))
    obtain ⟨q108, M⟩ := chk M
    obtain ⟨q109, M⟩ := chk M
    obtain ⟨b110, o111, e112⟩ := Rd.addr h4 (show ((x1.trail.getD ((x87).toNat) (0 : Int))).toNat < x1.cells.length by omega)
    obtain ⟨y113, r114, k115⟩ := Rd.at h4 e112 (getD_some z36 (show ((x1.trail.getD ((x87).toNat) (0 : Int))).toNat < x1.cells.length by omega))
    obtain ⟨A116, c117, rfl, l118, h119⟩ := st36_open r114
    refine lvg (d := 86) (t := 82) rfl (by kernel_rfl) rfl (bf q107 (by kernel_rfl)) rfl (by kernel_rfl) (e_indexAddr (b := b110) (off := o111) (n := x1.cells.length) (c := c3) (sz := 3) (i := (x1.trail.getD ((x87).toNat) (0 : Int))) (k := .i64) Try.underlying32 e112 (by kernel_rfl) (by kernel_rfl) (by kernel_rfl) q108 q109) (lvg (d := 87) (t := 82) rfl (by kernel_rfl) rfl (bf q107 (by kernel_rfl)) rfl (by kernel_rfl) (e_fieldAddr (b := b110) (off := o111 + ((x1.trail.getD ((x87).toNat) (0 : Int)) : Int).toNat * 3) (o := 0) Try.underlying36 rfl rfl (sz := 1) (by kernel_rfl) (by decide) (by kernel_rfl)) (lvg (d := 88) (t := 82) rfl (by kernel_rfl) rfl (bf q107 (by kernel_rfl)) rfl (by kernel_rfl) (e_load1 (ad := ⟨b110, o111 + ((x1.trail.getD ((x87).toNat) (0 : Int)) : Int).toNat * 3 + 0, none⟩) (v := .int .i64 ((x1.cells.getD (((x1.trail.getD ((x87).toNat) (0 : Int))).toNat) z36).kind)) Try.underlying3 rfl (by kernel_rfl) (hpx (S92.inv.cell (k115 0 _ rfl)))) (lvg (d := 89) (t := 82) rfl (by kernel_rfl) rfl (bf q107 (by kernel_rfl)) rfl (by kernel_rfl) (e_eql (k := .i64) (a := (x1.cells.getD (((x1.trail.getD ((x87).toNat) (0 : Int))).toNat) z36).kind) (b := 3) (by kernel_rfl) rfl) (lv (d := 90) rfl rfl (by kernel_rfl) (e_pick_f (v := .bool (decide (((x1.cells.getD (((x1.trail.getD ((x87).toNat) (0 : Int))).toNat) z36).kind) = 3))) (bf q107 (by kernel_rfl)) (by kernel_rfl)) (wpList_nil (then_n ?_))))))
    by_cases q120 : ((x1.cells.getD (((x1.trail.getD ((x87).toNat) (0 : Int))).toNat) z36).kind) = 3
    · replace M := ifp q120 M
      refine cond_t rfl (bt q120 (by kernel_rfl)) (wp_seq (wp_region_lit (lv (d := 2) rfl rfl (by kernel_rfl) (e_assign (v := .bool false) rfl) (wpList_nil (then_n (wp_ret (inb_r ?_)))))))
      refine then_r (then_r (inb_r (then_r ?_)))
      obtain rfl := Option.some.inj M
      exact ret1 rfl rfl  (show _ = .bool false from (by kernel_rfl)) ⟨rfl, S92.chg⟩
    replace M := ifn q120 M
    refine cond_f rfl (bf q120 (by kernel_rfl)) (wp_skip (inb_n (then_n (wp_region_lit (lv (d := 91) rfl rfl (by kernel_rfl) (e_add (k := .i64) (a := x87) (b := 1) (by exact e91) rfl) (lv (d := 69) rfl rfl (by kernel_rfl) (e_move (v := .int .i64 (IntKind.i64.wrap (x87 + 1))) (by kernel_rfl)) (wpList_nil ?_)))))))
    refine then_n ?_
    exact ⟨k97, (by omega), _, (IntKind.i64.wrap (x87 + 1)), (by omega), rfl, (by exact e88), (by exact e89), (by exact e90), (by kernel_rfl), b12, S92, M⟩
  replace M := ifn q98 M
  refine cond_f rfl (bf q98 (by kernel_rfl)) (wp_exit (then_e (then_e (inb_hit (then_n (wp_seq (wp_region_lit ?_)))))))
  refine lv (d := 92) rfl rfl (by kernel_rfl) (e_fieldAddr (b := g11) (off := 0) (o := 0) Try.underlying34 rfl rfl (sz := 1) (by kernel_rfl) (by decide) (by exact e88)) (lv (d := 93) rfl rfl (by kernel_rfl) (e_load1 (ad := ⟨g11, 0 + 0, none⟩) (v := .slice A2 x1.cells.length c3) Try.underlying32 rfl (by kernel_rfl) (blk_cell b12 rfl)) (lv (d := 94) rfl rfl (by kernel_rfl) (e_len (A := A2) (n := x1.cells.length) (c := c3) Try.underlying32 (by kernel_rfl)) ?_))
  obtain ⟨q121, M⟩ := chk M
  obtain ⟨q122, M⟩ := chk M
  refine lve (d := 95) rfl rfl (by kernel_rfl) (e_make (d := tByte) (k := .i64) (k2 := .i64) (n := (x1.cells.length : Int)) (z := .int .u8 0) (zx := (0 : UInt8)) (bytes := 1) S92 Try.underlying26 (by kernel_rfl) rfl (by decide) (fun _ => rfl) (by kernel_rfl) (by kernel_rfl) q121 (by omega) (by omega)) ?_
  rintro _ w123 ⟨A124, c125, F126, rfl, h127, S128, K129⟩
  replace b12 := K129.blk 0 rfl b12
  refine lv (d := 8) rfl rfl (by kernel_rfl) (e_assign (v := .slice A124 (((x1.cells.length : Int)).toNat) c125) (by kernel_rfl)) (wpList_nil (then_n (wp_seq (wp_region_lit (lv (d := 96) rfl rfl (by kernel_rfl) (e_makeFunc (cs := [.tmp 1]) (vs := [.pointer (some ⟨g11, 0, none⟩)]) (map_c (by exact e88) rfl)) (lv (d := 9) rfl rfl (by kernel_rfl) (e_assign (v := .func (.func 66) #[] #[.pointer (some ⟨g11, 0, none⟩)]) (by kernel_rfl)) (wpList_nil ?_)))))))
  refine then_n (wp_seq (wp_seq (wp_region_lit (lv (d := 97) rfl rfl (by kernel_rfl) (e_fieldAddr (b := g11) (off := 0) (o := 0) Try.underlying34 rfl rfl (sz := 1) (by kernel_rfl) (by decide) (by exact e88)) (lv (d := 98) rfl rfl (by kernel_rfl) (e_load1 (ad := ⟨g11, 0 + 0, none⟩) (v := .slice A2 x1.cells.length c3) Try.underlying32 rfl (by kernel_rfl) (blk_cell b12 rfl)) (lv (d := 99) rfl rfl (by kernel_rfl) (e_len (A := A2) (n := x1.cells.length) (c := c3) Try.underlying32 (by kernel_rfl)) (lv (d := 100) rfl rfl (by kernel_rfl) (e_move (v := .int .i64 0) rfl) ?_)))))))
  refine wpList_nil (then_n (wp_block ?_))
  refine wp_loop_g (fun k144 a145 w130 => ∃ (f131 : Nat → Value) (x132 : Int) (F133 : Foot) (x134 : List UInt8), k144 ≤ k97 ∧ a145 = mk 179 f131 ∧ f131 8 = .slice A124 (((x1.cells.length : Int)).toNat) c125 ∧ f131 9 = .func (.func 66) #[] #[.pointer (some ⟨g11, 0, none⟩)] ∧ f131 98 = .slice A2 x1.cells.length c3 ∧ f131 99 = .int .i64 (x1.cells.length : Int) ∧ f131 100 = .int .i64 x132 ∧ Row tByte 5 H (hp w130) F133 A124 c125 x134 ∧ w130.heap[g11]? = some (.cells #[.slice A2 x1.cells.length c3, .slice A6 x1.trail.length c7] 34 (0, 0)) ∧ x134.length = ((x1.cells.length : Int)).toNat ∧ St (anyOf []) H w [F133, (is g11)] H w130 ∧ impl_Store_ok.l3 k144 x1 x132 x134 = some r) k97 ⟨_, 0, F126, (List.replicate ((x1.cells.length : Int)).toNat (0 : UInt8)), (by omega), rfl, (by kernel_rfl), (by kernel_rfl), (by kernel_rfl), (by kernel_rfl), (by kernel_rfl), h127, b12, List.length_replicate, S128, M⟩ ?_
  clear M
  rintro k144 a145 w130 ⟨f131, x132, F133, x134, z143, rfl, e136, e137, e138, e139, e140, h127, b12, n135, S141, M⟩
  rcases k144 with _ | k146
  · rw [impl_Store_ok.l3] at M
    cases M
  rw [impl_Store_ok.l3] at M
  refine wp_seq (wp_region_lit (lv (d := 101) rfl rfl (by kernel_rfl) (e_lss (k := .i64) (a := x132) (b := (x1.cells.length : Int)) (by exact e140) (by exact e139)) (wpList_nil (then_n (wp_seq ?_)))))
  by_cases q147 : x132 < (x1.cells.length : Int)
  · replace M := ifp q147 M
    refine cond_t rfl (bt q147 (by kernel_rfl)) (wp_skip (then_n (wp_seq (wp_block (wp_seq (wp_region_lit (lv (d := 102) rfl rfl (by kernel_rfl) (e_move (v := .int .i64 x132) (by exact e140)) ?_)))))))
    obtain ⟨q148, M⟩ := chk M
    obtain ⟨b149, o150, e151⟩ := Rd.addr h4 (show (x132).toNat < x1.cells.length by omega)
    obtain ⟨y152, r153, k154⟩ := Rd.at h4 e151 (getD_some z36 (show (x132).toNat < x1.cells.length by omega))
    obtain ⟨A155, c156, rfl, l157, h158⟩ := st36_open r153
    refine lv (d := 103) rfl rfl (by kernel_rfl) (e_indexAddr (b := b149) (off := o150) (n := x1.cells.length) (c := c3) (sz := 3) (i := x132) (k := .i64) Try.underlying32 e151 (by kernel_rfl) (by exact e138) (by exact e140) q148 q147) (lv (d := 104) rfl rfl (by kernel_rfl) (e_loadS (b := b149) (off := o150 + (x132 : Int).toNat * 3) (cs := [.int .i64 ((x1.cells.getD ((x132).toNat) z36).kind), .int .i64 ((x1.cells.getD ((x132).toNat) z36).n), .slice A155 ((x1.cells.getD ((x132).toNat) z36).text).length c156]) Try.underlying36 rfl (by kernel_rfl) (by kernel_rfl) (fun j_ u_ e_ => (hpx (S141.inv.cell (k154 j_ u_ e_))))) ?_)
    refine lve (d := 11) rfl rfl (by kernel_rfl) (new_blk (v := fun g_ => .pointer (some ⟨g_, 0, none⟩)) (cs := #[.int .i64 0, .int .i64 0, .slice none 0 0]) (t := 36) S141 (by kernel_rfl)) ?_
    rintro _ w159 ⟨g160, rfl, b161, S162, K163⟩
    replace h127 := h127.move (K163.at 0 rfl)
    replace b12 := K163.blk 1 rfl b12
    refine lv (d := 10) rfl rfl (by kernel_rfl) (e_assign (v := .int .i64 x132) (by kernel_rfl)) ?_
    refine lse rfl rfl (by kernel_rfl) (e_store (g := g160) (o := 0) (v := .agg #[.int .i64 ((x1.cells.getD ((x132).toNat) z36).kind), .int .i64 ((x1.cells.getD ((x132).toNat) z36).n), .slice A155 ((x1.cells.getD ((x132).toNat) z36).text).length c156]) (cur' := #[.int .i64 ((x1.cells.getD ((x132).toNat) z36).kind), .int .i64 ((x1.cells.getD ((x132).toNat) z36).n), .slice A155 ((x1.cells.getD ((x132).toNat) z36).text).length c156]) (vs := [.int .i64 ((x1.cells.getD ((x132).toNat) z36).kind), .int .i64 ((x1.cells.getD ((x132).toNat) z36).n), .slice A155 ((x1.cells.getD ((x132).toNat) z36).text).length c156]) S162 (by kernel_rfl) (by kernel_rfl) rfl (by kernel_rfl) b161 (Nat.le_of_ble_eq_true rfl) (List.forall_mem_cons.2 ⟨rfl, (List.forall_mem_cons.2 ⟨rfl, (List.forall_mem_cons.2 ⟨rfl, (fun _ h_ => by cases h_)⟩)⟩)⟩) rfl) ?_
    rintro w164 ⟨b165, S166, K167⟩
    replace h127 := h127.move (K167.at 0 rfl)
    replace b12 := K167.blk 1 rfl b12
    clear b161
    refine wpList_nil (then_n (wp_seq (wp_seq (wp_region_lit (lv (d := 105) rfl rfl (by kernel_rfl) (e_fieldAddr (b := g160) (off := 0) (o := 0) Try.underlying36 rfl rfl (sz := 1) (by kernel_rfl) (by decide) (by kernel_rfl)) (lv (d := 106) rfl rfl (by kernel_rfl) (e_load1 (ad := ⟨g160, 0 + 0, none⟩) (v := .int .i64 ((x1.cells.getD ((x132).toNat) z36).kind)) Try.underlying3 rfl (by kernel_rfl) (blk_cell b165 rfl)) (lv (d := 107) rfl rfl (by kernel_rfl) (e_eql (k := .i64) (a := (x1.cells.getD ((x132).toNat) z36).kind) (b := 3) (by kernel_rfl) rfl) ?_)))))))
    refine lv (d := 108) rfl rfl (by kernel_rfl) (e_move (v := .bool (decide (((x1.cells.getD ((x132).toNat) z36).kind) = 3))) (by kernel_rfl)) ?_
    by_cases q168 : ((x1.cells.getD ((x132).toNat) z36).kind) = 3
    · replace M := ifp q168 M
      refine lskip (t := 108) (c := true) rfl (by kernel_rfl) rfl (bt q168 (by kernel_rfl)) rfl rfl ?_
      refine lskip (t := 108) (c := true) rfl (by kernel_rfl) rfl (bt q168 (by kernel_rfl)) rfl rfl ?_
      refine lskip (t := 108) (c := true) rfl (by kernel_rfl) rfl (bt q168 (by kernel_rfl)) rfl rfl ?_
      refine lskip (t := 108) (c := true) rfl (by kernel_rfl) rfl (bt q168 (by kernel_rfl)) rfl rfl ?_
      refine lskip (t := 108) (c := true) rfl (by kernel_rfl) rfl (bt q168 (by kernel_rfl)) rfl rfl ?_
      refine lv (d := 114) rfl rfl (by kernel_rfl) (e_pick_t (v := .bool true) (bt q168 (by kernel_rfl)) rfl) (wpList_nil (then_n (cond_t rfl (by kernel_rfl) (wp_exit (then_e (inb_hit (then_n ?_)))))))
      refine wp_region_lit (lv (d := 178) rfl rfl (by kernel_rfl) (e_add (k := .i64) (a := x132) (b := 1) (by exact e140) rfl) (lv (d := 100) rfl rfl (by kernel_rfl) (e_move (v := .int .i64 (IntKind.i64.wrap (x132 + 1))) (by kernel_rfl)) (wpList_nil (then_n ?_))))
      have S169 := S166.pull (F := (is g11)) (Fr := [(is g160), F133]) 2 rfl rfl
      have S170 := S169.pull (F := F133) (Fr := [(is g11), (is g160)]) 2 rfl rfl
      have S171 := St.first (Fa := [F133, (is g11)]) (Fr := [(is g160)]) S170
      exact ⟨k146, (by omega), _, (IntKind.i64.wrap (x132 + 1)), F133, x134, (by omega), rfl, (by exact e136), (by exact e137), (by exact e138), (by exact e139), (by kernel_rfl), h127, b12, n135, S171, M⟩
    replace M := ifn q168 M
    refine lvg (d := 109) (t := 108) rfl (by kernel_rfl) rfl (bf q168 (by kernel_rfl)) rfl (by kernel_rfl) (e_move (v := .slice A124 (((x1.cells.length : Int)).toNat) c125) (by exact e136)) (lvg (d := 110) (t := 108) rfl (by kernel_rfl) rfl (bf q168 (by kernel_rfl)) rfl (by kernel_rfl) (e_move (v := .int .i64 x132) (by kernel_rfl)) ?_)
    obtain ⟨q172, M⟩ := chk M
    obtain ⟨b173, e175⟩ := Row.addr h127 (show (x132).toNat < x134.length by have : x134.length = ((x1.cells.length : Int)).toNat := n135; omega)
    refine lvg (d := 111) (t := 108) rfl (by kernel_rfl) rfl (bf q168 (by kernel_rfl)) rfl (by kernel_rfl) (e_indexAddr (b := b173) (off := 0) (n := ((x1.cells.length : Int)).toNat) (c := c125) (sz := 1) (i := x132) (k := .i64) Try.underlying26 e175 (by kernel_rfl) (by kernel_rfl) (by kernel_rfl) q148 q172) (lvg (d := 112) (t := 108) rfl (by kernel_rfl) rfl (bf q168 (by kernel_rfl)) rfl (by kernel_rfl) (e_load1 (ad := ⟨b173, 0 + (x132 : Int).toNat * 1, none⟩) (v := .int .u8 ((x134.getD ((x132).toNat) (0 : UInt8)).toNat : Int)) Try.underlying5 rfl (by kernel_rfl) (hpx (Row.pick (j := 0) (u := .int .u8 ((x134.getD ((x132).toNat) (0 : UInt8)).toNat : Int)) h127 e175 (getD_some (0 : UInt8) (show (x132).toNat < x134.length by have : x134.length = ((x1.cells.length : Int)).toNat := n135; omega)) (fun _ _ o_ => by rw [show _ = _ from o_]; rfl)))) (lvg (d := 113) (t := 108) rfl (by kernel_rfl) rfl (bf q168 (by kernel_rfl)) rfl (by kernel_rfl) (e_neq (k := .u8) (a := ((x134.getD ((x132).toNat) (0 : UInt8)).toNat : Int)) (b := 0) (by kernel_rfl) rfl) (lv (d := 114) rfl rfl (by kernel_rfl) (e_pick_f (v := .bool (decide (((x134.getD ((x132).toNat) (0 : UInt8)).toNat : Int) ≠ 0))) (bf q168 (by kernel_rfl)) (by kernel_rfl)) (wpList_nil (then_n ?_)))))
    by_cases q176 : ((x134.getD ((x132).toNat) (0 : UInt8)).toNat : Int) ≠ 0
    · replace M := ifp q176 M
      refine cond_t rfl (bt q176 (by kernel_rfl)) (wp_exit (then_e (inb_hit (then_n (wp_region_lit (lv (d := 178) rfl rfl (by kernel_rfl) (e_add (k := .i64) (a := x132) (b := 1) (by exact e140) rfl) (lv (d := 100) rfl rfl (by kernel_rfl) (e_move (v := .int .i64 (IntKind.i64.wrap (x132 + 1))) (by kernel_rfl)) ?_)))))))
      refine wpList_nil (then_n ?_)
      have S177 := S166.pull (F := (is g11)) (Fr := [(is g160), F133]) 2 rfl rfl
      have S178 := S177.pull (F := F133) (Fr := [(is g11), (is g160)]) 2 rfl rfl
      have S179 := St.first (Fa := [F133, (is g11)]) (Fr := [(is g160)]) S178
      exact ⟨k146, (by omega), _, (IntKind.i64.wrap (x132 + 1)), F133, x134, (by omega), rfl, (by exact e136), (by exact e137), (by exact e138), (by exact e139), (by kernel_rfl), h127, b12, n135, S179, M⟩
    replace M := ifn q176 M
    refine cond_f rfl (bf q176 (by kernel_rfl)) (wp_skip (then_n (wp_seq (wp_region_lit (lv (d := 115) rfl rfl (by kernel_rfl) (e_move (v := .int .i64 x132) (by kernel_rfl)) (lv (d := 116) rfl rfl (by kernel_rfl) (show _ = Result.ok (Next.value (.agg #[.int .i64 x132, .int .i64 0])) w164 from by kernel_rfl) ?_))))))
    refine lve (d := 117) rfl rfl (by kernel_rfl) (new_blk (v := fun g_ => .slice (some ⟨g_, 0, none⟩) 1 1) (cs := #[.int .i64 x132, .int .i64 0]) (t := 86) S166 (by kernel_rfl)) ?_
    rintro _ w180 ⟨g181, rfl, b182, S183, K184⟩
    replace h127 := h127.move (K184.at 1 rfl)
    replace b12 := K184.blk 2 rfl b12
    have S185 := S183.unit
    have S186 := S185.pull (F := (is g181)) (Fr := [no, (is g160), F133, (is g11)]) 1 rfl rfl
    obtain ⟨h187, S188⟩ := row_lit (d := st86) (xs := [(⟨x132, 0⟩ : GStep)]) S186 b182 rfl (elsO_one1 (st86_mkO (x := (⟨x132, 0⟩ : GStep)))) (Nat.le_of_ble_eq_true rfl)
    refine lv (d := 12) rfl rfl (by kernel_rfl) (e_assign (v := .slice (some ⟨g181, 0, none⟩) 1 1) (by kernel_rfl)) (wpList_nil (then_n (wp_seq (wp_region_lit (lv (d := 118) rfl rfl (by kernel_rfl) (e_move (v := .slice A124 (((x1.cells.length : Int)).toNat) c125) (by exact e136)) (lv (d := 119) rfl rfl (by kernel_rfl) (e_move (v := .int .i64 x132) (by kernel_rfl)) ?_))))))
    obtain ⟨b189, e191⟩ := Row.addr h127 (show (x132).toNat < x134.length by have : x134.length = ((x1.cells.length : Int)).toNat := n135; omega)
    refine lv (d := 120) rfl rfl (by kernel_rfl) (e_indexAddr (b := b189) (off := 0) (n := ((x1.cells.length : Int)).toNat) (c := c125) (sz := 1) (i := x132) (k := .i64) Try.underlying26 e191 (by kernel_rfl) (by kernel_rfl) (by kernel_rfl) q148 q172) ?_
    have S192 := S188.pull (F := F133) (Fr := [(or2 (is g181) no), (is g160), (is g11)]) 2 rfl rfl
    have S193 := S192.unit
    have S194 := S193.pull (F := F133) (Fr := [no, (or2 (is g181) no), (is g160), (is g11)]) 1 rfl rfl
    refine lse rfl rfl (by kernel_rfl) (e_setel (d := tByte) (b := b189) (i := (x132).toNat) (v := .int .u8 1) (vs := [.int .u8 1]) (yv := (1 : UInt8)) S194 (by kernel_rfl) e191 rfl rfl (by kernel_rfl) h127 (show (x132).toNat < x134.length by have : x134.length = ((x1.cells.length : Int)).toNat := n135; omega) rfl) ?_
    rintro w195 ⟨F197, h196, S198, K199⟩
    replace h187 := h187.move (K199.at 0 rfl)
    replace b12 := K199.blk 2 rfl b12
    clear h127
    refine wpList_nil (then_n (wp_block ?_))
    have S227 := S198.pull (F := (or2 (is g181) no)) (Fr := [F197, (is g160), (is g11)]) 1 rfl rfl
    have S228 := S227.pull (F := (is g11)) (Fr := [(or2 (is g181) no), F197, (is g160)]) 3 rfl rfl
    have S229 := S228.pull (F := F197) (Fr := [(is g11), (or2 (is g181) no), (is g160)]) 2 rfl rfl
    have S230 := St.first (Fa := [F197, (is g11), (or2 (is g181) no)]) (Fr := [(is g160)]) S229
    refine wp_loop_g (fun k224 a225 w200 => ∃ (f201 : Nat → Value) (x202 : List GStep) (A203 : Option Addr) (c204 : Nat) (F205 : Foot) (F207 : Foot) (x208 : List UInt8), k224 ≤ k146 ∧ a225 = mk 179 f201 ∧ f201 8 = .slice A124 (((x1.cells.length : Int)).toNat) c125 ∧ f201 9 = .func (.func 66) #[] #[.pointer (some ⟨g11, 0, none⟩)] ∧ f201 12 = .slice A203 x202.length c204 ∧ f201 98 = .slice A2 x1.cells.length c3 ∧ f201 99 = .int .i64 (x1.cells.length : Int) ∧ f201 100 = .int .i64 x132 ∧ f201 109 = .slice A124 (((x1.cells.length : Int)).toNat) c125 ∧ f201 110 = .int .i64 x132 ∧ f201 111 = .pointer (some ⟨b173, 0 + (x132 : Int).toNat * 1, none⟩) ∧ f201 112 = .int .u8 ((x134.getD ((x132).toNat) (0 : UInt8)).toNat : Int) ∧ f201 113 = .bool (decide (((x134.getD ((x132).toNat) (0 : UInt8)).toNat : Int) ≠ 0)) ∧ Row tByte 5 H (hp w200) F207 A124 c125 x208 ∧ w200.heap[g11]? = some (.cells #[.slice A2 x1.cells.length c3, .slice A6 x1.trail.length c7] 34 (0, 0)) ∧ Row st86 86 H (hp w200) F205 A203 c204 x202 ∧ x208.length = ((x1.cells.length : Int)).toNat ∧ St (anyOf []) H w [F207, (is g11), F205] H w200 ∧ impl_Store_ok.l4 k224 x1 x132 x202 x208 = some r) k146 ⟨_, [(⟨x132, 0⟩ : GStep)], (some ⟨g181, 0, none⟩), 1, (or2 (is g181) no), F197, (x134.set ((x132).toNat) (1 : UInt8)), (by omega), rfl, (by exact e136), (by exact e137), (by kernel_rfl), (by exact e138), (by exact e139), (by exact e140), (by kernel_rfl), (by kernel_rfl), (by kernel_rfl), (by kernel_rfl), (by kernel_rfl), h196, b12, h187, (List.length_set.trans n135), S230, M⟩ ?_
    clear M
    rintro k224 a225 w200 ⟨f201, x202, A203, c204, F205, F207, x208, z223, rfl, e210, e211, e212, e213, e214, e215, e216, e217, e218, e219, e220, h196, b12, h206, n209, S221, M⟩
    rcases k224 with _ | k226
    · rw [impl_Store_ok.l4] at M
      cases M
    rw [impl_Store_ok.l4] at M
    refine wp_seq (wp_seq (wp_region_lit (lv (d := 121) rfl rfl (by kernel_rfl) (e_move (v := .slice A203 x202.length c204) (by exact e212)) (lv (d := 122) rfl rfl (by kernel_rfl) (e_len (A := A203) (n := x202.length) (c := c204) Try.underlying87 (by kernel_rfl)) (lv (d := 123) rfl rfl (by kernel_rfl) (e_gtr (k := .i64) (a := (x202.length : Int)) (b := 0) (by kernel_rfl) rfl) (wpList_nil (then_n ?_)))))))
    by_cases q231 : (x202.length : Int) > 0
    · replace M := ifp q231 M
      refine cond_t rfl (bt q231 (by kernel_rfl)) (wp_skip (then_n (wp_block (wp_seq (wp_region_lit (lv (d := 124) rfl rfl (by kernel_rfl) (e_move (v := .slice A203 x202.length c204) (by exact e212)) (lv (d := 125) rfl rfl (by kernel_rfl) (e_move (v := .slice A203 x202.length c204) (by exact e212)) ?_)))))))
      refine lv (d := 126) rfl rfl (by kernel_rfl) (e_len (A := A203) (n := x202.length) (c := c204) Try.underlying87 (by kernel_rfl)) (lv (d := 127) rfl rfl (by kernel_rfl) (e_sub (k := .i64) (a := (x202.length : Int)) (b := 1) (by kernel_rfl) rfl) ?_)
      obtain ⟨q232, M⟩ := chk M
      obtain ⟨q233, M⟩ := chk M
      obtain ⟨b234, e236⟩ := Row.addr h206 (show ((IntKind.i64.wrap ((x202.length : Int) - 1))).toNat < x202.length by omega)
      refine lv (d := 128) rfl rfl (by kernel_rfl) (e_indexAddr (b := b234) (off := 0) (n := x202.length) (c := c204) (sz := 2) (i := (IntKind.i64.wrap ((x202.length : Int) - 1))) (k := .i64) Try.underlying87 e236 (by kernel_rfl) (by kernel_rfl) (by kernel_rfl) q232 q233) (lv (d := 13) rfl rfl (by kernel_rfl) (e_assign (v := .pointer (some ⟨b234, 0 + ((IntKind.i64.wrap ((x202.length : Int) - 1)) : Int).toNat * 2, none⟩)) (by kernel_rfl)) (wpList_nil (then_n (wp_seq ?_))))
      refine region_mix (S := (fun (L_ : Array Bool) (w_ : World) => Ext H (hp w_) ∧ (∀ b_, F205 b_ → hp w_ b_ = hp w200 b_))) (by kernel_rfl) S221 ?_
      intro w237 S238 K239 hc240
      have o241 := h206
      have hs242 : (fun (L_ : Array Bool) (w_ : World) => Ext H (hp w_) ∧ (∀ b_, F205 b_ → hp w_ b_ = hp w200 b_)) (Array.replicate 15 false) w237 := ⟨S238.inv, (fun b_ h_ => K239.at 2 rfl b_ h_)⟩
      replace h196 := h196.move (K239.at 0 rfl)
      replace b12 := K239.blk 1 rfl b12
      replace h206 := h206.move (K239.at 2 rfl)
      refine xv (i := 0) (d := 130) rfl rfl rfl (by kernel_rfl) (by kernel_rfl) (fun _ _ => Iff.rfl) hc240 hs242 (fun L_ w_ hc_ hu_ hs_ => e_move (v := .func (.func 66) #[] #[.pointer (some ⟨g11, 0, none⟩)]) (by exact e211)) ?_; intro hc243 hs244
      refine xv (i := 1) (d := 131) rfl rfl rfl (by kernel_rfl) (by kernel_rfl) (fun _ _ => Iff.rfl) hc243 hs244 (fun L_ w_ hc_ hu_ hs_ => e_move (v := .pointer (some ⟨b234, 0 + ((IntKind.i64.wrap ((x202.length : Int) - 1)) : Int).toNat * 2, none⟩)) (by kernel_rfl)) ?_; intro hc245 hs246
      refine xv (i := 2) (d := 132) rfl rfl rfl (by kernel_rfl) (by kernel_rfl) (fun _ _ => Iff.rfl) hc245 hs246 (fun L_ w_ hc_ hu_ hs_ => e_nilCheck (ad := ⟨b234, 0 + ((IntKind.i64.wrap ((x202.length : Int) - 1)) : Int).toNat * 2, none⟩) (by kernel_rfl)) ?_; intro hc247 hs248
      refine xv (i := 3) (d := 133) rfl rfl rfl (by kernel_rfl) (by kernel_rfl) (fun _ _ => Iff.rfl) hc247 hs248 (fun L_ w_ hc_ hu_ hs_ => e_fieldAddr (b := b234) (off := 0 + ((IntKind.i64.wrap ((x202.length : Int) - 1)) : Int).toNat * 2) (o := 0) Try.underlying86 rfl rfl (sz := 1) (by kernel_rfl) (by decide) (by kernel_rfl)) ?_; intro hc249 hs250
      refine xv (i := 4) (d := 134) rfl rfl rfl (by kernel_rfl) (by kernel_rfl) (fun _ _ => Iff.rfl) hc249 hs250 (fun L_ w_ hc_ hu_ hs_ => e_load1 (ad := ⟨b234, 0 + ((IntKind.i64.wrap ((x202.length : Int) - 1)) : Int).toNat * 2 + 0, none⟩) (v := .int .i64 ((x202.getD (((IntKind.i64.wrap ((x202.length : Int) - 1))).toNat) z86).at_)) Try.underlying3 rfl (by kernel_rfl) (hpx (Row.pick (j := 0) (u := .int .i64 ((x202.getD (((IntKind.i64.wrap ((x202.length : Int) - 1))).toNat) z86).at_)) (o241.move hs_.2) e236 (getD_some z86 (show ((IntKind.i64.wrap ((x202.length : Int) - 1))).toNat < x202.length by omega)) (fun _ _ o_ => st86_c0 o_)))) ?_; intro hc251 hs252
      refine xone (i := 5) (by kernel_rfl) hc251 ?_
      refine yo (i := 5) (d := 135) rfl rfl (wanted_none rfl _) (by kernel_rfl) (by kernel_rfl) (fun _ _ => Iff.rfl) hs252 (e_move (v := .pointer (some ⟨b234, 0 + ((IntKind.i64.wrap ((x202.length : Int) - 1)) : Int).toNat * 2, none⟩)) (by kernel_rfl)) ?_; intro hc253 hs254
      refine xone (i := 6) (by kernel_rfl) hc253 ?_
      refine yo (i := 6) (d := 136) rfl rfl (wanted_none rfl _) (by kernel_rfl) (by kernel_rfl) (fun _ _ => Iff.rfl) hs254 (e_nilCheck (ad := ⟨b234, 0 + ((IntKind.i64.wrap ((x202.length : Int) - 1)) : Int).toNat * 2, none⟩) (by kernel_rfl)) ?_; intro hc255 hs256
      refine xone (i := 7) (by kernel_rfl) hc255 ?_
      refine yo (i := 7) (d := 137) rfl rfl (wanted_none rfl _) (by kernel_rfl) (by kernel_rfl) (fun _ _ => Iff.rfl) hs256 (e_fieldAddr (b := b234) (off := 0 + ((IntKind.i64.wrap ((x202.length : Int) - 1)) : Int).toNat * 2) (o := 1) Try.underlying86 rfl rfl (sz := 1) (by kernel_rfl) (by decide) (by kernel_rfl)) ?_; intro hc257 hs258
      refine xone (i := 8) (by kernel_rfl) hc257 ?_
      refine yo (i := 8) (d := 138) rfl rfl (wanted_none rfl _) (by kernel_rfl) (by kernel_rfl) (fun _ _ => Iff.rfl) hs258 (e_load1 (ad := ⟨b234, 0 + ((IntKind.i64.wrap ((x202.length : Int) - 1)) : Int).toNat * 2 + 1, none⟩) (v := .int .i64 ((x202.getD (((IntKind.i64.wrap ((x202.length : Int) - 1))).toNat) z86).next_)) Try.underlying3 rfl (by kernel_rfl) (hpx (Row.pick (j := 1) (u := .int .i64 ((x202.getD (((IntKind.i64.wrap ((x202.length : Int) - 1))).toNat) z86).next_)) h206 e236 (getD_some z86 (show ((IntKind.i64.wrap ((x202.length : Int) - 1))).toNat < x202.length by omega)) (fun _ _ o_ => st86_c1 o_)))) ?_; intro hc259 hs260
      obtain ⟨t261, u262, M⟩ := bnd M
      refine xone (i := 9) (by kernel_rfl) hc259 ?_
      refine yc (i := 9) rfl (wanted_none rfl _) (by kernel_rfl) (by kernel_rfl) (e_callv (l := [.tmp 134, .tmp 138]) (vs := [.int .i64 ((x202.getD (((IntKind.i64.wrap ((x202.length : Int) - 1))).toNat) z86).at_), .int .i64 ((x202.getD (((IntKind.i64.wrap ((x202.length : Int) - 1))).toNat) z86).next_)]) (cs := [.pointer (some ⟨g11, 0, none⟩)]) Try.func66 (by kernel_rfl) rfl (by kernel_rfl) (by kernel_rfl)) (by have S263 := S238.pull (F := (is g11)) (Fr := [F207, F205]) 1 rfl rfl; obtain ⟨H264, S265, E266, h267, z268⟩ := S263.frzBlk b12; replace h196 := h196.ext E266; replace h206 := h206.ext E266; exact (impl_Store_ok_c1.calls w237 H264 ((x202.getD (((IntKind.i64.wrap ((x202.length : Int) - 1))).toNat) z86).at_) ((x202.getD (((IntKind.i64.wrap ((x202.length : Int) - 1))).toNat) z86).next_) x1 g11 A2 c3 A6 c7 (h4.ext E266) l5 (h8.ext E266) l9 h267 S265.own0 t261 u262)) ?_
      rintro hc271 _ w269 ⟨rfl, C270⟩
      refine ⟨_, rfl, ?_⟩
      obtain ⟨S272, K273⟩ := S238.still C270
      replace h196 := h196.move (K273.at 0 rfl)
      replace b12 := K273.blk 1 rfl b12
      replace h206 := h206.move (K273.at 2 rfl)
      refine ⟨⟨S272.inv, (fun b_ h_ => (K273.at 2 rfl b_ h_).trans (hs260.2 b_ h_))⟩, fun hs274 => ?_⟩
      refine xone (i := 10) (by kernel_rfl) hc271 ?_
      refine yo (i := 10) (d := 129) rfl rfl (wanted_none rfl _) (by kernel_rfl) (by kernel_rfl) (fun _ _ => Iff.rfl) hs274 (e_move (v := .tuple #[.int .i64 t261.1, .bool t261.2]) (by kernel_rfl)) ?_; intro hc275 hs276
      refine xv (i := 11) (d := 140) rfl rfl rfl (by kernel_rfl) (by kernel_rfl) (fun _ _ => Iff.rfl) hc275 hs276 (fun L_ w_ hc_ hu_ hs_ => e_extract (vs := #[.int .i64 t261.1, .bool t261.2]) (v := .int .i64 t261.1) (by kernel_rfl) rfl) ?_; intro hc277 hs278
      refine xv (i := 12) (d := 141) rfl rfl rfl (by kernel_rfl) (by kernel_rfl) (fun _ _ => Iff.rfl) hc277 hs278 (fun L_ w_ hc_ hu_ hs_ => e_extract (vs := #[.int .i64 t261.1, .bool t261.2]) (v := .bool t261.2) (by kernel_rfl) rfl) ?_; intro hc279 hs280
      refine xone (i := 13) (by kernel_rfl) hc279 ?_
      refine yo (i := 13) (d := 14) rfl rfl (wanted_none rfl _) (by kernel_rfl) (by kernel_rfl) (fun _ _ => Iff.rfl) hs280 (e_assign (v := .int .i64 t261.1) (by kernel_rfl)) ?_; intro hc281 hs282
      refine xone (i := 14) (by kernel_rfl) hc281 ?_
      refine yo (i := 14) (d := 15) rfl rfl (wanted_none rfl _) (by kernel_rfl) (by kernel_rfl) (fun _ _ => Iff.rfl) hs282 (e_assign (v := .bool t261.2) (by kernel_rfl)) ?_; intro hc283 hs284
      refine xn (by kernel_rfl) ?_ _
      refine then_n (wp_seq (wp_seq (wp_region_lit (lv (d := 142) rfl rfl (by kernel_rfl) (e_move (v := .bool t261.2) (by kernel_rfl)) (lv (d := 143) rfl rfl (by kernel_rfl) (e_notv (c := t261.2) (by kernel_rfl)) (wpList_nil (then_n ?_)))))))
      by_cases q285 : ¬ (t261.2 = true)
      · replace M := ifp q285 M
        refine cond_t rfl (bt q285 (by kernel_rfl)) (wp_seq (wp_region_lit (lv (d := 144) rfl rfl (by kernel_rfl) (e_move (v := .slice A124 (((x1.cells.length : Int)).toNat) c125) (by exact e210)) (lv (d := 145) rfl rfl (by kernel_rfl) (e_move (v := .pointer (some ⟨b234, 0 + ((IntKind.i64.wrap ((x202.length : Int) - 1)) : Int).toNat * 2, none⟩)) (by kernel_rfl)) (lv (d := 146) rfl rfl (by kernel_rfl) (e_nilCheck (ad := ⟨b234, 0 + ((IntKind.i64.wrap ((x202.length : Int) - 1)) : Int).toNat * 2, none⟩) (by kernel_rfl)) (lv (d := 147) rfl rfl (by kernel_rfl) (e_fieldAddr (b := b234) (off := 0 + ((IntKind.i64.wrap ((x202.length : Int) - 1)) : Int).toNat * 2) (o := 0) Try.underlying86 rfl rfl (sz := 1) (by kernel_rfl) (by decide) (by kernel_rfl)) (lv (d := 148) rfl rfl (by kernel_rfl) (e_load1 (ad := ⟨b234, 0 + ((IntKind.i64.wrap ((x202.length : Int) - 1)) : Int).toNat * 2 + 0, none⟩) (v := .int .i64 ((x202.getD (((IntKind.i64.wrap ((x202.length : Int) - 1))).toNat) z86).at_)) Try.underlying3 rfl (by kernel_rfl) (hpx (Row.pick (j := 0) (u := .int .i64 ((x202.getD (((IntKind.i64.wrap ((x202.length : Int) - 1))).toNat) z86).at_)) h206 e236 (getD_some z86 (show ((IntKind.i64.wrap ((x202.length : Int) - 1))).toNat < x202.length by omega)) (fun _ _ o_ => st86_c0 o_)))) ?_)))))))
        obtain ⟨q286, M⟩ := chk M
        obtain ⟨q287, M⟩ := chk M
        obtain ⟨b288, e290⟩ := Row.addr h196 (show ((x202.getD (((IntKind.i64.wrap ((x202.length : Int) - 1))).toNat) z86).at_).toNat < x208.length by have : x208.length = ((x1.cells.length : Int)).toNat := n209; omega)
        refine lv (d := 149) rfl rfl (by kernel_rfl) (e_indexAddr (b := b288) (off := 0) (n := ((x1.cells.length : Int)).toNat) (c := c125) (sz := 1) (i := (x202.getD (((IntKind.i64.wrap ((x202.length : Int) - 1))).toNat) z86).at_) (k := .i64) Try.underlying26 e290 (by kernel_rfl) (by kernel_rfl) (by kernel_rfl) q286 q287) ?_
        have S291 := S272.unit
        have S292 := S291.pull (F := F207) (Fr := [no, (is g11), F205]) 1 rfl rfl
        refine lse rfl rfl (by kernel_rfl) (e_setel (d := tByte) (b := b288) (i := ((x202.getD (((IntKind.i64.wrap ((x202.length : Int) - 1))).toNat) z86).at_).toNat) (v := .int .u8 2) (vs := [.int .u8 2]) (yv := (2 : UInt8)) S292 (by kernel_rfl) e290 rfl rfl (by kernel_rfl) h196 (show ((x202.getD (((IntKind.i64.wrap ((x202.length : Int) - 1))).toNat) z86).at_).toNat < x208.length by have : x208.length = ((x1.cells.length : Int)).toNat := n209; omega) rfl) ?_
        rintro w293 ⟨F295, h294, S296, K297⟩
        replace b12 := K297.blk 0 rfl b12
        replace h206 := h206.move (K297.at 1 rfl)
        clear h196
        refine wpList_nil (then_n (wp_seq (wp_region_lit (lv (d := 150) rfl rfl (by kernel_rfl) (e_move (v := .slice A203 x202.length c204) (by exact e212)) (lv (d := 151) rfl rfl (by kernel_rfl) (e_move (v := .slice A203 x202.length c204) (by exact e212)) (lv (d := 152) rfl rfl (by kernel_rfl) (e_len (A := A203) (n := x202.length) (c := c204) Try.underlying87 (by kernel_rfl)) (lv (d := 153) rfl rfl (by kernel_rfl) (e_sub (k := .i64) (a := (x202.length : Int)) (b := 1) (by kernel_rfl) rfl) ?_)))))))
        obtain ⟨q298, M⟩ := chk M
        refine lv (d := 154) rfl rfl (by kernel_rfl) (e_slice_h (xs := x202) (n := x202.length) (m := 2) (cap := c204) (A := A203) (b := (IntKind.i64.wrap ((x202.length : Int) - 1))) (k2 := .i64) Try.underlying87 (by kernel_rfl) (by kernel_rfl) (by kernel_rfl) q232 q298 (by have := h206.le; have := (rfl : x202.length = x202.length); omega) (take_len q232 q298 rfl)) ?_
        have h299 := h206.cut (n := ((IntKind.i64.wrap ((x202.length : Int) - 1)) : Int).toNat) (by have := (rfl : x202.length = x202.length); omega)
        clear h206
        refine lv (d := 12) rfl rfl (by kernel_rfl) (e_assign (v := .slice A203 ((x202.take (((IntKind.i64.wrap ((x202.length : Int) - 1)) : Int).toNat)).length) c204) (by kernel_rfl)) (wpList_nil (then_n (wp_exit (then_e (inb_hit (then_n ?_))))))
        exact ⟨k226, (by omega), _, (x202.take (((IntKind.i64.wrap ((x202.length : Int) - 1)) : Int).toNat)), A203, c204, F205, F295, (x208.set (((x202.getD (((IntKind.i64.wrap ((x202.length : Int) - 1))).toNat) z86).at_).toNat) (2 : UInt8)), (by omega), rfl, (by exact e210), (by exact e211), (by kernel_rfl), (by exact e213), (by exact e214), (by exact e215), (by exact e216), (by exact e217), (by exact e218), (by exact e219), (by exact e220), h294, b12, h299, (List.length_set.trans n209), S296, M⟩
      replace M := ifn q285 M
      refine cond_f rfl (bf q285 (by kernel_rfl)) (wp_skip (then_n (wp_seq (wp_region_lit (lv (d := 155) rfl rfl (by kernel_rfl) (e_move (v := .pointer (some ⟨b234, 0 + ((IntKind.i64.wrap ((x202.length : Int) - 1)) : Int).toNat * 2, none⟩)) (by kernel_rfl)) (lv (d := 156) rfl rfl (by kernel_rfl) (e_nilCheck (ad := ⟨b234, 0 + ((IntKind.i64.wrap ((x202.length : Int) - 1)) : Int).toNat * 2, none⟩) (by kernel_rfl)) (lv (d := 157) rfl rfl (by kernel_rfl) (e_fieldAddr (b := b234) (off := 0 + ((IntKind.i64.wrap ((x202.length : Int) - 1)) : Int).toNat * 2) (o := 1) Try.underlying86 rfl rfl (sz := 1) (by kernel_rfl) (by decide) (by kernel_rfl)) ?_)))))))
      refine lv (d := 158) rfl rfl (by kernel_rfl) (e_load1 (ad := ⟨b234, 0 + ((IntKind.i64.wrap ((x202.length : Int) - 1)) : Int).toNat * 2 + 1, none⟩) (v := .int .i64 ((x202.getD (((IntKind.i64.wrap ((x202.length : Int) - 1))).toNat) z86).next_)) Try.underlying3 rfl (by kernel_rfl) (hpx (Row.pick (j := 1) (u := .int .i64 ((x202.getD (((IntKind.i64.wrap ((x202.length : Int) - 1))).toNat) z86).next_)) h206 e236 (getD_some z86 (show ((IntKind.i64.wrap ((x202.length : Int) - 1))).toNat < x202.length by omega)) (fun _ _ o_ => st86_c1 o_)))) (lv (d := 159) rfl rfl (by kernel_rfl) (e_add (k := .i64) (a := (x202.getD (((IntKind.i64.wrap ((x202.length : Int) - 1))).toNat) z86).next_) (b := 1) (by kernel_rfl) rfl) (lv (d := 160) rfl rfl (by kernel_rfl) (e_nilCheck (ad := ⟨b234, 0 + ((IntKind.i64.wrap ((x202.length : Int) - 1)) : Int).toNat * 2, none⟩) (by kernel_rfl)) (lv (d := 161) rfl rfl (by kernel_rfl) (e_fieldAddr (b := b234) (off := 0 + ((IntKind.i64.wrap ((x202.length : Int) - 1)) : Int).toNat * 2) (o := 1) Try.underlying86 rfl rfl (sz := 1) (by kernel_rfl) (by decide) (by kernel_rfl)) ?_)))
      have S300 := S272.pull (F := F205) (Fr := [F207, (is g11)]) 2 rfl rfl
      have S301 := S300.unit
      have S302 := S301.pull (F := F205) (Fr := [no, F207, (is g11)]) 1 rfl rfl
      refine lse rfl rfl (by kernel_rfl) (e_setpart (d := st86) (b := b234) (i := ((IntKind.i64.wrap ((x202.length : Int) - 1))).toNat) (j := 1) (v := .int .i64 (IntKind.i64.wrap (((x202.getD (((IntKind.i64.wrap ((x202.length : Int) - 1))).toNat) z86).next_) + 1))) (vs := [.int .i64 (IntKind.i64.wrap (((x202.getD (((IntKind.i64.wrap ((x202.length : Int) - 1))).toNat) z86).next_) + 1))]) (yv := {(x202.getD (((IntKind.i64.wrap ((x202.length : Int) - 1))).toNat) z86) with next_ := (IntKind.i64.wrap (((x202.getD (((IntKind.i64.wrap ((x202.length : Int) - 1))).toNat) z86).next_) + 1))}) S302 (by kernel_rfl) e236 (by kernel_rfl) rfl (by kernel_rfl) h206 (getD_some z86 (show ((IntKind.i64.wrap ((x202.length : Int) - 1))).toNat < x202.length by omega)) (Nat.le_of_ble_eq_true rfl) (List.forall_mem_cons.2 ⟨rfl, (fun _ h_ => by cases h_)⟩) (fun _ _ _ o_ => st86_u1 (IntKind.i64.wrap (((x202.getD (((IntKind.i64.wrap ((x202.length : Int) - 1))).toNat) z86).next_) + 1)) o_)) ?_
      rintro w303 ⟨F305, h304, S306, K307⟩
      replace h196 := h196.move (K307.at 0 rfl)
      replace b12 := K307.blk 1 rfl b12
      clear h206
      refine wpList_nil (then_n (wp_seq (wp_region_lit (lv (d := 162) rfl rfl (by kernel_rfl) (e_move (v := .slice A124 (((x1.cells.length : Int)).toNat) c125) (by exact e210)) (lv (d := 163) rfl rfl (by kernel_rfl) (e_move (v := .int .i64 t261.1) (by kernel_rfl)) ?_)))))
      obtain ⟨q308, M⟩ := chk M
      obtain ⟨q309, M⟩ := chk M
      obtain ⟨b310, e312⟩ := Row.addr h196 (show (t261.1).toNat < x208.length by have : x208.length = ((x1.cells.length : Int)).toNat := n209; omega)
      refine lv (d := 164) rfl rfl (by kernel_rfl) (e_indexAddr (b := b310) (off := 0) (n := ((x1.cells.length : Int)).toNat) (c := c125) (sz := 1) (i := t261.1) (k := .i64) Try.underlying26 e312 (by kernel_rfl) (by kernel_rfl) (by kernel_rfl) q308 q309) (lv (d := 165) rfl rfl (by kernel_rfl) (e_load1 (ad := ⟨b310, 0 + (t261.1 : Int).toNat * 1, none⟩) (v := .int .u8 ((x208.getD ((t261.1).toNat) (0 : UInt8)).toNat : Int)) Try.underlying5 rfl (by kernel_rfl) (hpx (Row.pick (j := 0) (u := .int .u8 ((x208.getD ((t261.1).toNat) (0 : UInt8)).toNat : Int)) h196 e312 (getD_some (0 : UInt8) (show (t261.1).toNat < x208.length by have : x208.length = ((x1.cells.length : Int)).toNat := n209; omega)) (fun _ _ o_ => by rw [show _ = _ from o_]; rfl)))) (wpList_nil (then_n (wp_block (wp_seq (wp_region_lit (lv (d := 167) rfl rfl (by kernel_rfl) (e_eql (k := .u8) (a := ((x208.getD ((t261.1).toNat) (0 : UInt8)).toNat : Int)) (b := 0) (by kernel_rfl) rfl) ?_)))))))
      refine lv (d := 166) rfl rfl (by kernel_rfl) (e_assign (v := .bool (decide (((x208.getD ((t261.1).toNat) (0 : UInt8)).toNat : Int) = 0))) (by kernel_rfl)) (wpList_nil (then_n ?_))
      by_cases q313 : ((x208.getD ((t261.1).toNat) (0 : UInt8)).toNat : Int) = 0
      · replace M := ifp q313 M
        refine cond_t rfl (bt q313 (by kernel_rfl)) (wp_seq (wp_region_lit (lv (d := 168) rfl rfl (by kernel_rfl) (e_move (v := .slice A124 (((x1.cells.length : Int)).toNat) c125) (by exact e210)) (lv (d := 169) rfl rfl (by kernel_rfl) (e_move (v := .int .i64 t261.1) (by kernel_rfl)) ?_))))
        obtain ⟨b314, e316⟩ := Row.addr h196 (show (t261.1).toNat < x208.length by have : x208.length = ((x1.cells.length : Int)).toNat := n209; omega)
        refine lv (d := 170) rfl rfl (by kernel_rfl) (e_indexAddr (b := b314) (off := 0) (n := ((x1.cells.length : Int)).toNat) (c := c125) (sz := 1) (i := t261.1) (k := .i64) Try.underlying26 e316 (by kernel_rfl) (by kernel_rfl) (by kernel_rfl) q308 q309) ?_
        have S317 := S306.pull (F := F207) (Fr := [F305, (is g11)]) 1 rfl rfl
        have S318 := S317.unit
        have S319 := S318.pull (F := F207) (Fr := [no, F305, (is g11)]) 1 rfl rfl
        refine lse rfl rfl (by kernel_rfl) (e_setel (d := tByte) (b := b314) (i := (t261.1).toNat) (v := .int .u8 1) (vs := [.int .u8 1]) (yv := (1 : UInt8)) S319 (by kernel_rfl) e316 rfl rfl (by kernel_rfl) h196 (show (t261.1).toNat < x208.length by have : x208.length = ((x1.cells.length : Int)).toNat := n209; omega) rfl) ?_
        rintro w320 ⟨F322, h321, S323, K324⟩
        replace h304 := h304.move (K324.at 0 rfl)
        replace b12 := K324.blk 1 rfl b12
        clear h196
        refine wpList_nil (then_n (wp_region_lit (lv (d := 171) rfl rfl (by kernel_rfl) (e_move (v := .slice A203 x202.length c204) (by exact e212)) (lv (d := 172) rfl rfl (by kernel_rfl) (e_move (v := .int .i64 t261.1) (by kernel_rfl)) (lv (d := 173) rfl rfl (by kernel_rfl) (show _ = Result.ok (Next.value (.agg #[.int .i64 t261.1, .int .i64 0])) w320 from by kernel_rfl) ?_)))))
        refine lve (d := 174) rfl rfl (by kernel_rfl) (new_blk (v := fun g_ => .slice (some ⟨g_, 0, none⟩) 1 1) (cs := #[.int .i64 t261.1, .int .i64 0]) (t := 86) S323 (by kernel_rfl)) ?_
        rintro _ w325 ⟨g326, rfl, b327, S328, K329⟩
        replace h321 := h321.move (K329.at 0 rfl)
        replace h304 := h304.move (K329.at 1 rfl)
        replace b12 := K329.blk 2 rfl b12
        obtain ⟨q330, M⟩ := chk M
        have S331 := S328.pull (F := F305) (Fr := [(is g326), F322, (is g11)]) 2 rfl rfl
        have S332 := S331.unit
        have S333 := S332.pull (F := F305) (Fr := [no, (is g326), F322, (is g11)]) 1 rfl rfl
        refine lve (d := 175) rfl rfl (by kernel_rfl) (e_append (d := st86) (n := x202.length) (xs := (x202.set (((IntKind.i64.wrap ((x202.length : Int) - 1))).toNat) ({(x202.getD (((IntKind.i64.wrap ((x202.length : Int) - 1))).toNat) z86) with next_ := (IntKind.i64.wrap (((x202.getD (((IntKind.i64.wrap ((x202.length : Int) - 1))).toNat) z86).next_) + 1))}))) (cap := c204) (A := A203) (ys := [(⟨t261.1, 0⟩ : GStep)]) (A2 := (some ⟨g326, 0, none⟩)) (c2 := 1) (z := .agg #[.int .i64 0, .int .i64 0]) (bytes := 16) S333 Try.underlying87 (by kernel_rfl) rfl (by decide) (by kernel_rfl) (List.length_set.trans rfl) (by kernel_rfl) h304 (elsO_one1 (st86_mkO (x := (⟨t261.1, 0⟩ : GStep)))) (.inr (blk_news b327 rfl)) (show (x202.length + [(⟨t261.1, 0⟩ : GStep)].length) * 16 ≤ _ by first | omega | (simp only [List.length_cons, List.length_nil]; omega)) (by decide)) ?_
        rintro _ w334 ⟨A335, c336, F337, rfl, h338, S339, K340⟩
        replace h321 := h321.move (K340.at 1 rfl)
        replace b12 := K340.blk 2 rfl b12
        refine lv (d := 12) rfl rfl (by kernel_rfl) (e_assign (v := .slice A335 (((x202.set (((IntKind.i64.wrap ((x202.length : Int) - 1))).toNat) ({(x202.getD (((IntKind.i64.wrap ((x202.length : Int) - 1))).toNat) z86) with next_ := (IntKind.i64.wrap (((x202.getD (((IntKind.i64.wrap ((x202.length : Int) - 1))).toNat) z86).next_) + 1))})) ++ [(⟨t261.1, 0⟩ : GStep)]).length) c336) (by kernel_rfl)) (wpList_nil (inb_n (inb_n (then_n ?_))))
        have S341 := S339.pull (F := (is g11)) (Fr := [F337, (is g326), F322]) 3 rfl rfl
        have S342 := S341.pull (F := F322) (Fr := [(is g11), F337, (is g326)]) 3 rfl rfl
        have S343 := St.first (Fa := [F322, (is g11), F337]) (Fr := [(is g326)]) S342
        exact ⟨k226, (by omega), _, ((x202.set (((IntKind.i64.wrap ((x202.length : Int) - 1))).toNat) ({(x202.getD (((IntKind.i64.wrap ((x202.length : Int) - 1))).toNat) z86) with next_ := (IntKind.i64.wrap (((x202.getD (((IntKind.i64.wrap ((x202.length : Int) - 1))).toNat) z86).next_) + 1))})) ++ [(⟨t261.1, 0⟩ : GStep)]), A335, c336, F337, F322, (x208.set ((t261.1).toNat) (1 : UInt8)), (by omega), rfl, (by exact e210), (by exact e211), (by kernel_rfl), (by exact e213), (by exact e214), (by exact e215), (by exact e216), (by exact e217), (by exact e218), (by exact e219), (by exact e220), h321, b12, h338, (List.length_set.trans n209), S343, M⟩
      replace M := ifn q313 M
      refine cond_f rfl (bf q313 (by kernel_rfl)) (wp_seq (wp_region_lit (lv (d := 177) rfl rfl (by kernel_rfl) (e_eql (k := .u8) (a := ((x208.getD ((t261.1).toNat) (0 : UInt8)).toNat : Int)) (b := 1) (by kernel_rfl) rfl) (lv (d := 176) rfl rfl (by kernel_rfl) (e_assign (v := .bool (decide (((x208.getD ((t261.1).toNat) (0 : UInt8)).toNat : Int) = 1))) (by kernel_rfl)) (wpList_nil (then_n ?_))))))
      by_cases q344 : ((x208.getD ((t261.1).toNat) (0 : UInt8)).toNat : Int) = 1
      · replace M := ifp q344 M
        refine cond_t rfl (bt q344 (by kernel_rfl)) (wp_seq (wp_region_lit (lv (d := 2) rfl rfl (by kernel_rfl) (e_assign (v := .bool false) rfl) (wpList_nil (then_n (wp_ret (inb_r ?_)))))))
        refine inb_r (then_r (inb_r (inb_r (then_r (then_r (inb_r (then_r ?_)))))))
        obtain rfl := Option.some.inj M
        exact ret1 rfl rfl  (show _ = .bool false from (by kernel_rfl)) ⟨rfl, S306.chg⟩
      replace M := ifn q344 M
      refine cond_f rfl (bf q344 (by kernel_rfl)) (wp_skip (inb_n (inb_n (then_n ?_))))
      have S345 := S306.pull (F := (is g11)) (Fr := [F305, F207]) 2 rfl rfl
      have S346 := S345.pull (F := F207) (Fr := [(is g11), F305]) 2 rfl rfl
      exact ⟨k226, (by omega), _, (x202.set (((IntKind.i64.wrap ((x202.length : Int) - 1))).toNat) ({(x202.getD (((IntKind.i64.wrap ((x202.length : Int) - 1))).toNat) z86) with next_ := (IntKind.i64.wrap (((x202.getD (((IntKind.i64.wrap ((x202.length : Int) - 1))).toNat) z86).next_) + 1))})), A203, c204, F305, F207, x208, (by omega), rfl, (by exact e210), (by exact e211), (by rw [(show (x202.set (((IntKind.i64.wrap ((x202.length : Int) - 1))).toNat) ({(x202.getD (((IntKind.i64.wrap ((x202.length : Int) - 1))).toNat) z86) with next_ := (IntKind.i64.wrap (((x202.getD (((IntKind.i64.wrap ((x202.length : Int) - 1))).toNat) z86).next_) + 1))})).length = x202.length from (List.length_set.trans rfl))]; exact (by exact e212)), (by exact e213), (by exact e214), (by exact e215), (by exact e216), (by exact e217), (by exact e218), (by exact e219), (by exact e220), h196, b12, h304, n209, S346, M⟩
    replace M := ifn q231 M
    refine cond_f rfl (bf q231 (by kernel_rfl)) (wp_exit (then_e (then_e (inb_hit (inb_n (then_n (wp_region_lit ?_)))))))
    refine lv (d := 178) rfl rfl (by kernel_rfl) (e_add (k := .i64) (a := x132) (b := 1) (by exact e215) rfl) (lv (d := 100) rfl rfl (by kernel_rfl) (e_move (v := .int .i64 (IntKind.i64.wrap (x132 + 1))) (by kernel_rfl)) (wpList_nil (then_n ?_)))
    have S347 := S221.pull (F := (is g11)) (Fr := [F207, F205]) 1 rfl rfl
    have S348 := S347.pull (F := F207) (Fr := [(is g11), F205]) 1 rfl rfl
    have S349 := St.first (Fa := [F207, (is g11)]) (Fr := [F205]) S348
    exact ⟨k226, (by omega), _, (IntKind.i64.wrap (x132 + 1)), F207, x208, (by omega), rfl, (by exact e210), (by exact e211), (by exact e213), (by exact e214), (by kernel_rfl), h196, b12, n209, S349, M⟩
  replace M := ifn q147 M
  refine cond_f rfl (bf q147 (by kernel_rfl)) (wp_exit (then_e (then_e (inb_hit (then_n (wp_seq (wp_region_lit ?_)))))))
  refine lv (d := 2) rfl rfl (by kernel_rfl) (e_assign (v := .bool true) rfl) (wpList_nil (then_n (wp_ret ?_)))
  obtain rfl := Option.some.inj M
  exact ret1 rfl rfl  (show _ = .bool true from (by kernel_rfl)) ⟨rfl, S141.chg⟩

/-! impl_ValidStore -/
def impl_ValidStore.f (k : Nat) (x1 : Store) (x10 : Cell) : Option Bool := ((impl_Store_ok.f k x1).bind fun t25 => (if t25 = true then ((impl_Store_points.f x1 x10).bind fun t32 => some t32) else some false))
theorem impl_ValidStore.calls (k : Nat) (w : World) (H : Hp) (x1 : Store) (A2 : Option Addr) (c3 : Nat) (A6 : Option Addr) (c7 : Nat) (x10 : Cell) (A11 : Option Addr) (c12 : Nat) (h4 : Rd st36 H A2 x1.cells) (l5 : x1.cells.length ≤ c3) (h8 : Rd tInt H A6 x1.trail) (l9 : x1.trail.length ≤ c7) (h13 : Rd tByte H A11 x10.text) (l14 : x10.text.length ≤ c12) (S : Own [] H w) (r : Bool) (M : impl_ValidStore.f k x1 x10 = some r) :
    Calls Try.prog 14 #[.agg #[.slice A2 x1.cells.length c3, .slice A6 x1.trail.length c7], .agg #[.int .i64 x10.kind, .int .i64 x10.n, .slice A11 x10.text.length c12]] w (fun e e_w => e = .returned (.bool r) ∧ Chg no w e_w) := by
  rw [impl_ValidStore.f] at M
  refine enter (l := [.agg #[.slice A2 x1.cells.length c3, .slice A6 x1.trail.length c7], .agg #[.int .i64 x10.kind, .int .i64 x10.n, .slice A11 x10.text.length c12]]) 12 Try.func14 rfl rfl rfl ?_
  have S0_ := S.st
  refine wp_seq (wp_region_lit ?_)
  refine lve (d := 2) rfl rfl (by kernel_rfl) (new_blk (v := fun g_ => .pointer (some ⟨g_, 0, none⟩)) (cs := #[.slice A2 x1.cells.length c3, .slice A6 x1.trail.length c7]) (t := 34) S0_ (by kernel_rfl)) ?_
  rintro _ w15 ⟨g16, rfl, b17, S18, K19⟩
  refine lve (d := 3) rfl rfl (by kernel_rfl) (new_blk (v := fun g_ => .pointer (some ⟨g_, 0, none⟩)) (cs := #[.int .i64 x10.kind, .int .i64 x10.n, .slice A11 x10.text.length c12]) (t := 36) S18 (by kernel_rfl)) ?_
  rintro _ w20 ⟨g21, rfl, b22, S23, K24⟩
  replace b17 := K24.blk 0 rfl b17
  refine lv (d := 4) rfl rfl (by kernel_rfl) (e_assign (v := .bool false) rfl) (wpList_nil (then_n (wp_seq (wp_region_lit (lv (d := 5) rfl rfl (by kernel_rfl) (e_loadS (b := g16) (off := 0) (cs := [.slice A2 x1.cells.length c3, .slice A6 x1.trail.length c7]) Try.underlying34 rfl (by kernel_rfl) (by kernel_rfl) (blk_cells b17 rfl)) ?_)))))
  obtain ⟨t25, u26, M⟩ := bnd M
  refine lcall (d := 6) rfl rfl (by kernel_rfl) (e_call (l := [.tmp 5]) (vs := [.agg #[.slice A2 x1.cells.length c3, .slice A6 x1.trail.length c7]]) Try.func42 (by kernel_rfl) rfl (by kernel_rfl) rfl) (impl_Store_ok.calls k w20 H x1 A2 c3 A6 c7 h4 l5 h8 l9 S23.own0 t25 u26) ?_
  rintro _ w27 ⟨rfl, C28⟩
  refine ⟨_, rfl, ?_⟩
  obtain ⟨S29, K30⟩ := S23.still C28
  replace b22 := K30.blk 0 rfl b22
  replace b17 := K30.blk 1 rfl b17
  refine lv (d := 7) rfl rfl (by kernel_rfl) (e_move (v := .bool t25) (by kernel_rfl)) ?_
  by_cases q31 : t25 = true
  · replace M := ifp q31 M
    refine lvg (d := 8) (t := 7) rfl (by kernel_rfl) rfl (bvt q31 (by kernel_rfl)) rfl (by kernel_rfl) (e_loadS (b := g16) (off := 0) (cs := [.slice A2 x1.cells.length c3, .slice A6 x1.trail.length c7]) Try.underlying34 rfl (by kernel_rfl) (by kernel_rfl) (blk_cells b17 rfl)) (lvg (d := 9) (t := 7) rfl (by kernel_rfl) rfl (bvt q31 (by kernel_rfl)) rfl (by kernel_rfl) (e_loadS (b := g21) (off := 0) (cs := [.int .i64 x10.kind, .int .i64 x10.n, .slice A11 x10.text.length c12]) Try.underlying36 rfl (by kernel_rfl) (by kernel_rfl) (blk_cells b22 rfl)) ?_)
    obtain ⟨t32, u33, M⟩ := bnd M
    refine lcallg (d := 10) (t := 7) rfl (by kernel_rfl) rfl (bvt q31 (by kernel_rfl)) rfl (by kernel_rfl) (e_call (l := [.tmp 8, .tmp 9]) (vs := [.agg #[.slice A2 x1.cells.length c3, .slice A6 x1.trail.length c7], .agg #[.int .i64 x10.kind, .int .i64 x10.n, .slice A11 x10.text.length c12]]) Try.func43 (by kernel_rfl) rfl (by kernel_rfl) rfl) (impl_Store_points.calls w27 H x1 A2 c3 A6 c7 x10 A11 c12 h4 l5 h8 l9 h13 l14 S29.own0 t32 u33) ?_
    rintro _ w34 ⟨rfl, C35⟩
    refine ⟨_, rfl, ?_⟩
    obtain ⟨S36, K37⟩ := S29.still C35
    refine lv (d := 11) rfl rfl (by kernel_rfl) (e_pick_t (v := .bool t32) (bvt q31 (by kernel_rfl)) (by kernel_rfl)) (lv (d := 4) rfl rfl (by kernel_rfl) (e_assign (v := .bool t32) (by kernel_rfl)) (wpList_nil (then_n (wp_ret ?_))))
    obtain rfl := Option.some.inj M
    exact ret1 rfl rfl  (show _ = .bool t32 from (by kernel_rfl)) ⟨rfl, S36.chg⟩
  replace M := ifn q31 M
  refine lskip (t := 7) (c := false) rfl (by kernel_rfl) rfl (bvf q31 (by kernel_rfl)) rfl rfl ?_
  refine lskip (t := 7) (c := false) rfl (by kernel_rfl) rfl (bvf q31 (by kernel_rfl)) rfl rfl ?_
  refine lskip (t := 7) (c := false) rfl (by kernel_rfl) rfl (bvf q31 (by kernel_rfl)) rfl rfl ?_
  refine lv (d := 11) rfl rfl (by kernel_rfl) (e_pick_f (v := .bool false) (bvf q31 (by kernel_rfl)) rfl) (lv (d := 4) rfl rfl (by kernel_rfl) (e_assign (v := .bool false) (by kernel_rfl)) (wpList_nil (then_n (wp_ret ?_))))
  obtain rfl := Option.some.inj M
  exact ret1 rfl rfl  (show _ = .bool false from (by kernel_rfl)) ⟨rfl, S29.chg⟩

/-! impl_copyCell -/
def impl_copyCell.f (x1 : Cell) : Option Cell := (if 0 + x1.text.length ≤ 140737488355328 then some (⟨x1.kind, x1.n, (([] : List UInt8) ++ x1.text)⟩ : Cell) else none)
theorem impl_copyCell.calls (w : World) (H : Hp) (x1 : Cell) (A2 : Option Addr) (c3 : Nat) (h4 : Rd tByte H A2 x1.text) (l5 : x1.text.length ≤ c3) (S : Own [] H w) (r : Cell) (M : impl_copyCell.f x1 = some r) :
    Calls Try.prog 49 #[.agg #[.int .i64 x1.kind, .int .i64 x1.n, .slice A2 x1.text.length c3]] w (fun e e_w => ∃ (A_1 : Option Addr) (c_1 : Nat) (F_1 : Foot) (H_ : Hp), e = .returned (.agg #[.int .i64 r.kind, .int .i64 r.n, .slice A_1 r.text.length c_1]) ∧ Row tByte 5 H_ (hp e_w) F_1 A_1 c_1 r.text ∧ St (anyOf []) H w [F_1] H_ e_w) := by
  rw [impl_copyCell.f] at M
  refine enter (l := [.agg #[.int .i64 x1.kind, .int .i64 x1.n, .slice A2 x1.text.length c3]]) 9 Try.func49 rfl rfl rfl ?_
  have S0_ := S.st
  refine wp_seq (wp_region_lit ?_)
  refine lve (d := 1) rfl rfl (by kernel_rfl) (new_blk (v := fun g_ => .pointer (some ⟨g_, 0, none⟩)) (cs := #[.int .i64 x1.kind, .int .i64 x1.n, .slice A2 x1.text.length c3]) (t := 36) S0_ (by kernel_rfl)) ?_
  rintro _ w6 ⟨g7, rfl, b8, S9, K10⟩
  refine lve (d := 2) rfl rfl (by kernel_rfl) (new_blk (v := fun g_ => .pointer (some ⟨g_, 0, none⟩)) (cs := #[.int .i64 0, .int .i64 0, .slice none 0 0]) (t := 36) S9 (by kernel_rfl)) ?_
  rintro _ w11 ⟨g12, rfl, b13, S14, K15⟩
  replace b8 := K15.blk 0 rfl b8
  refine wpList_nil (then_n (wp_seq (wp_region_lit ?_)))
  refine lve (d := 3) rfl rfl (by kernel_rfl) (new_blk (v := fun g_ => .slice (some ⟨g_, 0, none⟩) 0 0) (cs := #[]) (t := 5) S14 (by kernel_rfl)) ?_
  rintro _ w16 ⟨g17, rfl, b18, S19, K20⟩
  replace b13 := K20.blk 0 rfl b13
  replace b8 := K20.blk 1 rfl b8
  have S21 := S19.unit
  have S22 := S21.pull (F := (is g17)) (Fr := [no, (is g12), (is g7)]) 1 rfl rfl
  obtain ⟨h23, S24⟩ := row_lit (d := tByte) (xs := ([] : List UInt8)) S22 b18 rfl (elsO_nil _ _ _ no) (Nat.le_of_ble_eq_true rfl)
  refine lv (d := 4) rfl rfl (by kernel_rfl) (e_fieldAddr (b := g7) (off := 0) (o := 2) Try.underlying36 rfl rfl (sz := 1) (by kernel_rfl) (by decide) (by kernel_rfl)) (lv (d := 5) rfl rfl (by kernel_rfl) (e_load1 (ad := ⟨g7, 0 + 2, none⟩) (v := .slice A2 x1.text.length c3) Try.underlying26 rfl (by kernel_rfl) (blk_cell b8 rfl)) ?_)
  obtain ⟨y25, h26, h27⟩ := Rd.news (d := tByte) (ro_scal _ _) S24 h4
  obtain ⟨q28, M⟩ := chk M
  have S29 := S24.unit
  have S30 := S29.pull (F := (or2 (is g17) no)) (Fr := [no, (is g12), (is g7)]) 1 rfl rfl
  refine lve (d := 6) rfl rfl (by kernel_rfl) (e_append (d := tByte) (n := 0) (xs := ([] : List UInt8)) (cap := 0) (A := (some ⟨g17, 0, none⟩)) (ys := x1.text) (A2 := A2) (c2 := c3) (z := .int .u8 0) (bytes := 1) S30 Try.underlying26 (by kernel_rfl) rfl (by decide) (by kernel_rfl) rfl (by kernel_rfl) h23 h26 h27 (show (0 + x1.text.length) * 1 ≤ _ by first | omega | (simp only [List.length_cons, List.length_nil]; omega)) (by decide)) ?_
  rintro _ w31 ⟨A32, c33, F34, rfl, h35, S36, K37⟩
  replace b13 := K37.blk 0 rfl b13
  replace b8 := K37.blk 1 rfl b8
  refine lv (d := 7) rfl rfl (by kernel_rfl) (e_fieldAddr (b := g7) (off := 0) (o := 2) Try.underlying36 rfl rfl (sz := 1) (by kernel_rfl) (by decide) (by kernel_rfl)) ?_
  have S38 := S36.pull (F := (is g7)) (Fr := [F34, (is g12)]) 2 rfl rfl
  refine lse rfl rfl (by kernel_rfl) (e_store (g := g7) (o := 0 + 2) (v := .slice A32 ((([] : List UInt8) ++ x1.text).length) c33) (cur' := #[.int .i64 x1.kind, .int .i64 x1.n, .slice A32 ((([] : List UInt8) ++ x1.text).length) c33]) (vs := [.slice A32 ((([] : List UInt8) ++ x1.text).length) c33]) S38 (by kernel_rfl) (by kernel_rfl) rfl (by kernel_rfl) b8 (Nat.le_of_ble_eq_true rfl) (List.forall_mem_cons.2 ⟨rfl, (fun _ h_ => by cases h_)⟩) rfl) ?_
  rintro w39 ⟨b40, S41, K42⟩
  replace h35 := h35.move (K42.at 0 rfl)
  replace b13 := K42.blk 1 rfl b13
  clear b8
  refine wpList_nil (then_n (wp_seq (wp_region_lit (lv (d := 8) rfl rfl (by kernel_rfl) (e_loadS (b := g7) (off := 0) (cs := [.int .i64 x1.kind, .int .i64 x1.n, .slice A32 ((([] : List UInt8) ++ x1.text).length) c33]) Try.underlying36 rfl (by kernel_rfl) (by kernel_rfl) (blk_cells b40 rfl)) ?_))))
  have S43 := S41.pull (F := (is g12)) (Fr := [(is g7), F34]) 2 rfl rfl
  refine lse rfl rfl (by kernel_rfl) (e_store (g := g12) (o := 0) (v := .agg #[.int .i64 x1.kind, .int .i64 x1.n, .slice A32 ((([] : List UInt8) ++ x1.text).length) c33]) (cur' := #[.int .i64 x1.kind, .int .i64 x1.n, .slice A32 ((([] : List UInt8) ++ x1.text).length) c33]) (vs := [.int .i64 x1.kind, .int .i64 x1.n, .slice A32 ((([] : List UInt8) ++ x1.text).length) c33]) S43 (by kernel_rfl) (by kernel_rfl) rfl (by kernel_rfl) b13 (Nat.le_of_ble_eq_true rfl) (List.forall_mem_cons.2 ⟨rfl, (List.forall_mem_cons.2 ⟨rfl, (List.forall_mem_cons.2 ⟨rfl, (fun _ h_ => by cases h_)⟩)⟩)⟩) rfl) ?_
  rintro w44 ⟨b45, S46, K47⟩
  replace h35 := h35.move (K47.at 1 rfl)
  clear b13
  refine wpList_nil (then_n (wp_ret ?_))
  obtain rfl := Option.some.inj M
  have S48 := S46.pull (F := F34) (Fr := [(is g12), (is g7)]) 2 rfl rfl
  have S49 := St.first (Fa := [F34]) (Fr := [(is g12), (is g7)]) S48
  exact retS (ty := 36) (cur := #[.int .i64 x1.kind, .int .i64 x1.n, .slice A32 ((([] : List UInt8) ++ x1.text).length) c33]) rfl rfl (by kernel_rfl) b45 Try.underlying36 rfl (by kernel_rfl) ⟨A32, c33, F34, H, rfl, h35, S49⟩

/-! impl_copyStore -/
def impl_copyStore.l0 : Nat → Store → Int → (List Cell) → Option Store
  | 0, _, _, _ => none
  | k71 + 1, x1, x55, x56 => (if x55 < (x1.cells.length : Int) then (if 0 ≤ x55 then ((impl_copyCell.f (x1.cells.getD ((x55).toNat) z36)).bind fun t110 => (if x56.length + 1 ≤ 3518437208883 then (impl_copyStore.l0 k71 x1 (IntKind.i64.wrap (x55 + 1)) (x56 ++ [t110])) else none)) else none) else some (⟨x56, (([] : List Int) ++ x1.trail)⟩ : Store))
def impl_copyStore.f (k : Nat) (x1 : Store) : Option Store := (if 0 + x1.trail.length ≤ 17592186044416 then (impl_copyStore.l0 k x1 0 []) else none)
theorem impl_copyStore.calls (k : Nat) (w : World) (H : Hp) (x1 : Store) (A2 : Option Addr) (c3 : Nat) (A6 : Option Addr) (c7 : Nat) (h4 : Rd st36 H A2 x1.cells) (l5 : x1.cells.length ≤ c3) (h8 : Rd tInt H A6 x1.trail) (l9 : x1.trail.length ≤ c7) (S : Own [] H w) (r : Store) (M : impl_copyStore.f k x1 = some r) :
    Calls Try.prog 58 #[.agg #[.slice A2 x1.cells.length c3, .slice A6 x1.trail.length c7]] w (fun e e_w => ∃ (A_1 : Option Addr) (c_1 : Nat) (F_1 : Foot) (A_2 : Option Addr) (c_2 : Nat) (F_2 : Foot) (H_ : Hp), e = .returned (.agg #[.slice A_1 r.cells.length c_1, .slice A_2 r.trail.length c_2]) ∧ Row st36 36 H_ (hp e_w) F_1 A_1 c_1 r.cells ∧ Row tInt 3 H_ (hp e_w) F_2 A_2 c_2 r.trail ∧ St (anyOf []) H w [F_1, F_2] H_ e_w) := by
  rw [impl_copyStore.f] at M
  refine enter (l := [.agg #[.slice A2 x1.cells.length c3, .slice A6 x1.trail.length c7]]) 27 Try.func58 rfl rfl rfl ?_
  have S0_ := S.st
  refine wp_seq (wp_region_lit ?_)
  refine lve (d := 1) rfl rfl (by kernel_rfl) (new_blk (v := fun g_ => .pointer (some ⟨g_, 0, none⟩)) (cs := #[.slice A2 x1.cells.length c3, .slice A6 x1.trail.length c7]) (t := 34) S0_ (by kernel_rfl)) ?_
  rintro _ w10 ⟨g11, rfl, b12, S13, K14⟩
  refine lve (d := 2) rfl rfl (by kernel_rfl) (new_blk (v := fun g_ => .pointer (some ⟨g_, 0, none⟩)) (cs := #[.slice none 0 0, .slice none 0 0]) (t := 34) S13 (by kernel_rfl)) ?_
  rintro _ w15 ⟨g16, rfl, b17, S18, K19⟩
  replace b12 := K19.blk 0 rfl b12
  refine wpList_nil (then_n (wp_seq (wp_region_lit ?_)))
  refine lve (d := 6) rfl rfl (by kernel_rfl) (new_blk (v := fun g_ => .slice (some ⟨g_, 0, none⟩) 0 0) (cs := #[]) (t := 3) S18 (by kernel_rfl)) ?_
  rintro _ w20 ⟨g21, rfl, b22, S23, K24⟩
  replace b17 := K24.blk 0 rfl b17
  replace b12 := K24.blk 1 rfl b12
  have S25 := S23.unit
  have S26 := S25.pull (F := (is g21)) (Fr := [no, (is g16), (is g11)]) 1 rfl rfl
  obtain ⟨h27, S28⟩ := row_lit (d := tInt) (xs := ([] : List Int)) S26 b22 rfl (elsO_nil _ _ _ no) (Nat.le_of_ble_eq_true rfl)
  refine lv (d := 7) rfl rfl (by kernel_rfl) (e_fieldAddr (b := g11) (off := 0) (o := 1) Try.underlying34 rfl rfl (sz := 1) (by kernel_rfl) (by decide) (by kernel_rfl)) (lv (d := 8) rfl rfl (by kernel_rfl) (e_load1 (ad := ⟨g11, 0 + 1, none⟩) (v := .slice A6 x1.trail.length c7) Try.underlying23 rfl (by kernel_rfl) (blk_cell b12 rfl)) ?_)
  obtain ⟨y29, h30, h31⟩ := Rd.news (d := tInt) (ro_scal _ _) S28 h8
  obtain ⟨q32, M⟩ := chk M
  have S33 := S28.unit
  have S34 := S33.pull (F := (or2 (is g21) no)) (Fr := [no, (is g16), (is g11)]) 1 rfl rfl
  refine lve (d := 9) rfl rfl (by kernel_rfl) (e_append (d := tInt) (n := 0) (xs := ([] : List Int)) (cap := 0) (A := (some ⟨g21, 0, none⟩)) (ys := x1.trail) (A2 := A6) (c2 := c7) (z := .int .i64 0) (bytes := 8) S34 Try.underlying23 (by kernel_rfl) rfl (by decide) (by kernel_rfl) rfl (by kernel_rfl) h27 h30 h31 (show (0 + x1.trail.length) * 8 ≤ _ by first | omega | (simp only [List.length_cons, List.length_nil]; omega)) (by decide)) ?_
  rintro _ w35 ⟨A36, c37, F38, rfl, h39, S40, K41⟩
  replace b17 := K41.blk 0 rfl b17
  replace b12 := K41.blk 1 rfl b12
  refine lv (d := 10) rfl rfl (by kernel_rfl) (show _ = Result.ok (Next.value (.agg #[.slice none 0 0, .slice A36 ((([] : List Int) ++ x1.trail).length) c37])) w35 from by kernel_rfl) ?_
  refine lve (d := 3) rfl rfl (by kernel_rfl) (new_blk (v := fun g_ => .pointer (some ⟨g_, 0, none⟩)) (cs := #[.slice none 0 0, .slice none 0 0]) (t := 34) S40 (by kernel_rfl)) ?_
  rintro _ w42 ⟨g43, rfl, b44, S45, K46⟩
  replace h39 := h39.move (K46.at 0 rfl)
  replace b17 := K46.blk 1 rfl b17
  replace b12 := K46.blk 2 rfl b12
  refine lse rfl rfl (by kernel_rfl) (e_store (g := g43) (o := 0) (v := .agg #[.slice none 0 0, .slice A36 ((([] : List Int) ++ x1.trail).length) c37]) (cur' := #[.slice none 0 0, .slice A36 ((([] : List Int) ++ x1.trail).length) c37]) (vs := [.slice none 0 0, .slice A36 ((([] : List Int) ++ x1.trail).length) c37]) S45 (by kernel_rfl) (by kernel_rfl) rfl (by kernel_rfl) b44 (Nat.le_of_ble_eq_true rfl) (List.forall_mem_cons.2 ⟨rfl, (List.forall_mem_cons.2 ⟨rfl, (fun _ h_ => by cases h_)⟩)⟩) rfl) ?_
  rintro w47 ⟨b48, S49, K50⟩
  replace h39 := h39.move (K50.at 0 rfl)
  replace b17 := K50.blk 1 rfl b17
  replace b12 := K50.blk 2 rfl b12
  clear b44
  refine wpList_nil (then_n (wp_seq (wp_seq (wp_region_lit (lv (d := 11) rfl rfl (by kernel_rfl) (e_fieldAddr (b := g11) (off := 0) (o := 0) Try.underlying34 rfl rfl (sz := 1) (by kernel_rfl) (by decide) (by kernel_rfl)) (lv (d := 12) rfl rfl (by kernel_rfl) (e_load1 (ad := ⟨g11, 0 + 0, none⟩) (v := .slice A2 x1.cells.length c3) Try.underlying32 rfl (by kernel_rfl) (blk_cell b12 rfl)) (lv (d := 13) rfl rfl (by kernel_rfl) (e_len (A := A2) (n := x1.cells.length) (c := c3) Try.underlying32 (by kernel_rfl)) ?_)))))))
  refine lv (d := 14) rfl rfl (by kernel_rfl) (e_move (v := .int .i64 0) rfl) (wpList_nil (then_n (wp_block ?_)))
  have S72 := S49.unit
  have S73 := S72.pull (F := (is g16)) (Fr := [no, (is g43), F38, (is g11)]) 3 rfl rfl
  have S74 := S73.pull (F := F38) (Fr := [(is g16), no, (is g43), (is g11)]) 3 rfl rfl
  have S75 := S74.pull (F := (is g43)) (Fr := [F38, (is g16), no, (is g11)]) 3 rfl rfl
  have S76 := St.first (Fa := [(is g43), F38, (is g16), no]) (Fr := [(is g11)]) S75
  refine wp_loop_g (fun k69 a70 w51 => ∃ (f52 : Nat → Value) (H53 : Hp) (x55 : Int) (x56 : List Cell) (A57 : Option Addr) (c58 : Nat) (F59 : Foot), a70 = mk 27 f52 ∧ f52 2 = .pointer (some ⟨g16, 0, none⟩) ∧ f52 3 = .pointer (some ⟨g43, 0, none⟩) ∧ f52 12 = .slice A2 x1.cells.length c3 ∧ f52 13 = .int .i64 (x1.cells.length : Int) ∧ f52 14 = .int .i64 x55 ∧ w51.heap[g43]? = some (.cells #[.slice A57 x56.length c58, .slice A36 ((([] : List Int) ++ x1.trail).length) c37] 34 (0, 0)) ∧ Row tInt 3 H53 (hp w51) F38 A36 c37 (([] : List Int) ++ x1.trail) ∧ w51.heap[g16]? = some (.cells #[.slice none 0 0, .slice none 0 0] 34 (0, 0)) ∧ Row st36 36 H53 (hp w51) F59 A57 c58 x56 ∧ Ext H H53 ∧ St (anyOf []) H w [(is g43), F38, (is g16), F59] H53 w51 ∧ impl_copyStore.l0 k69 x1 x55 x56 = some r) k ⟨_, H, 0, [], none, 0, no, rfl, (by kernel_rfl), (by kernel_rfl), (by kernel_rfl), (by kernel_rfl), (by kernel_rfl), b48, h39, b17, (Row.nil _ _ _ _ _), (Ext.refl _), S76, M⟩ ?_
  clear M
  rintro k69 a70 w51 ⟨f52, H53, x55, x56, A57, c58, F59, rfl, e61, e62, e63, e64, e65, b48, h39, b17, h60, Y54, S66, M⟩
  rcases k69 with _ | k71
  · rw [impl_copyStore.l0] at M
    cases M
  rw [impl_copyStore.l0] at M
  refine wp_seq (wp_region_lit (lv (d := 15) rfl rfl (by kernel_rfl) (e_lss (k := .i64) (a := x55) (b := (x1.cells.length : Int)) (by exact e65) (by exact e64)) (wpList_nil (then_n (wp_seq ?_)))))
  by_cases q77 : x55 < (x1.cells.length : Int)
  · replace M := ifp q77 M
    refine cond_t rfl (bt q77 (by kernel_rfl)) (wp_skip (then_n (wp_seq (wp_block (wp_seq (wp_region_lit ?_))))))
    obtain ⟨q78, M⟩ := chk M
    obtain ⟨b79, o80, e81⟩ := Rd.addr h4 (show (x55).toNat < x1.cells.length by omega)
    obtain ⟨y82, r83, k84⟩ := Rd.at h4 e81 (getD_some z36 (show (x55).toNat < x1.cells.length by omega))
    obtain ⟨A85, c86, rfl, l87, h88⟩ := st36_open r83
    refine lv (d := 16) rfl rfl (by kernel_rfl) (e_indexAddr (b := b79) (off := o80) (n := x1.cells.length) (c := c3) (sz := 3) (i := x55) (k := .i64) Try.underlying32 e81 (by kernel_rfl) (by exact e63) (by exact e65) q78 q77) (lv (d := 17) rfl rfl (by kernel_rfl) (e_loadS (b := b79) (off := o80 + (x55 : Int).toNat * 3) (cs := [.int .i64 ((x1.cells.getD ((x55).toNat) z36).kind), .int .i64 ((x1.cells.getD ((x55).toNat) z36).n), .slice A85 ((x1.cells.getD ((x55).toNat) z36).text).length c86]) Try.underlying36 rfl (by kernel_rfl) (by kernel_rfl) (fun j_ u_ e_ => (hpx (S66.inv.cell (Y54.cell (k84 j_ u_ e_)))))) ?_)
    refine lve (d := 5) rfl rfl (by kernel_rfl) (new_blk (v := fun g_ => .pointer (some ⟨g_, 0, none⟩)) (cs := #[.int .i64 0, .int .i64 0, .slice none 0 0]) (t := 36) S66 (by kernel_rfl)) ?_
    rintro _ w89 ⟨g90, rfl, b91, S92, K93⟩
    replace b48 := K93.blk 0 rfl b48
    replace h39 := h39.move (K93.at 1 rfl)
    replace b17 := K93.blk 2 rfl b17
    replace h60 := h60.move (K93.at 3 rfl)
    refine lse rfl rfl (by kernel_rfl) (e_store (g := g90) (o := 0) (v := .agg #[.int .i64 ((x1.cells.getD ((x55).toNat) z36).kind), .int .i64 ((x1.cells.getD ((x55).toNat) z36).n), .slice A85 ((x1.cells.getD ((x55).toNat) z36).text).length c86]) (cur' := #[.int .i64 ((x1.cells.getD ((x55).toNat) z36).kind), .int .i64 ((x1.cells.getD ((x55).toNat) z36).n), .slice A85 ((x1.cells.getD ((x55).toNat) z36).text).length c86]) (vs := [.int .i64 ((x1.cells.getD ((x55).toNat) z36).kind), .int .i64 ((x1.cells.getD ((x55).toNat) z36).n), .slice A85 ((x1.cells.getD ((x55).toNat) z36).text).length c86]) S92 (by kernel_rfl) (by kernel_rfl) rfl (by kernel_rfl) b91 (Nat.le_of_ble_eq_true rfl) (List.forall_mem_cons.2 ⟨rfl, (List.forall_mem_cons.2 ⟨rfl, (List.forall_mem_cons.2 ⟨rfl, (fun _ h_ => by cases h_)⟩)⟩)⟩) rfl) ?_
    rintro w94 ⟨b95, S96, K97⟩
    replace b48 := K97.blk 0 rfl b48
    replace h39 := h39.move (K97.at 1 rfl)
    replace b17 := K97.blk 2 rfl b17
    replace h60 := h60.move (K97.at 3 rfl)
    clear b91
    refine wpList_nil (then_n ?_)
    refine region_mix (S := (fun (L_ : Array Bool) (w_ : World) => Ext H53 (hp w_) ∧ (L_.getD 7 true = false → (∀ b_, (is g43) b_ → hp w_ b_ = hp w94 b_)))) (by kernel_rfl) S96 ?_
    intro w98 S99 K100 hc101
    have o102 := b48
    have hs103 : (fun (L_ : Array Bool) (w_ : World) => Ext H53 (hp w_) ∧ (L_.getD 7 true = false → (∀ b_, (is g43) b_ → hp w_ b_ = hp w94 b_))) (Array.replicate 8 false) w98 := ⟨S99.inv, (fun _ => (fun b_ h_ => K100.at 1 rfl b_ h_))⟩
    replace b95 := K100.blk 0 rfl b95
    replace b48 := K100.blk 1 rfl b48
    replace h39 := h39.move (K100.at 2 rfl)
    replace b17 := K100.blk 3 rfl b17
    replace h60 := h60.move (K100.at 4 rfl)
    refine xv (i := 0) (d := 18) rfl rfl rfl (by kernel_rfl) (by kernel_rfl) (fun L_ w_ => by simp only [getD_set_ne true (show (0 : Nat) ≠ 7 by decide)]) hc101 hs103 (fun L_ w_ hc_ hu_ hs_ => e_fieldAddr (b := g43) (off := 0) (o := 0) Try.underlying34 rfl rfl (sz := 1) (by kernel_rfl) (by decide) (by exact e62)) ?_; intro hc104 hs105
    refine xv (i := 1) (d := 19) rfl rfl rfl (by kernel_rfl) (by kernel_rfl) (fun L_ w_ => by simp only [getD_set_ne true (show (1 : Nat) ≠ 7 by decide)]) hc104 hs105 (fun L_ w_ hc_ hu_ hs_ => e_load1 (ad := ⟨g43, 0 + 0, none⟩) (v := .slice A57 x56.length c58) Try.underlying32 rfl (by kernel_rfl) (blk_cell (((hs_.2 (unl 9 7 1 hc_ hu_ (by kernel_rfl))) _ rfl).trans o102) rfl)) ?_; intro hc106 hs107
    refine xone (i := 2) (by kernel_rfl) hc106 ?_
    refine yo (i := 2) (d := 20) rfl rfl (wanted_none rfl _) (by kernel_rfl) (by kernel_rfl) (fun L_ w_ => by simp only [getD_set_ne true (show (2 : Nat) ≠ 7 by decide)]) hs107 (e_loadS (b := g90) (off := 0) (cs := [.int .i64 ((x1.cells.getD ((x55).toNat) z36).kind), .int .i64 ((x1.cells.getD ((x55).toNat) z36).n), .slice A85 ((x1.cells.getD ((x55).toNat) z36).text).length c86]) Try.underlying36 rfl (by kernel_rfl) (by kernel_rfl) (blk_cells b95 rfl)) ?_; intro hc108 hs109
    obtain ⟨t110, u111, M⟩ := bnd M
    refine xone (i := 3) (by kernel_rfl) hc108 ?_
    refine yc (i := 3) rfl (wanted_none rfl _) (by kernel_rfl) (by kernel_rfl) (e_call (l := [.tmp 20]) (vs := [.agg #[.int .i64 ((x1.cells.getD ((x55).toNat) z36).kind), .int .i64 ((x1.cells.getD ((x55).toNat) z36).n), .slice A85 ((x1.cells.getD ((x55).toNat) z36).text).length c86]]) Try.func49 (by kernel_rfl) rfl (by kernel_rfl) rfl) (impl_copyCell.calls w98 H53 (x1.cells.getD ((x55).toNat) z36) A85 c86 (h88.ext Y54) l87 (St.own' (Fa := []) (Fr := [(is g90), (is g43), F38, (is g16), F59]) S99) t110 u111) ?_
    rintro hc119 _ w112 ⟨A115, c116, F118, H113, rfl, h117, T114⟩
    refine ⟨_, rfl, ?_⟩
    obtain ⟨S120, K121⟩ := St.call (Fa := []) (Fr := [(is g90), (is g43), F38, (is g16), F59]) S99 T114
    replace b48 := K121.blk 1 rfl b48
    replace h39 := h39.move (K121.at 2 rfl)
    replace b17 := K121.blk 3 rfl b17
    replace h60 := h60.move (K121.at 4 rfl)
    have E122 := T114.ext
    replace h39 := h39.ext E122
    replace h60 := h60.ext E122
    refine ⟨⟨(Ext.trans E122 S120.inv), (fun q_ => (fun b_ h_ => (K121.at 1 rfl b_ h_).trans ((hs109.2 (by decide +kernel)) b_ h_)))⟩, fun hs123 => ?_⟩
    refine xone (i := 4) (by kernel_rfl) hc119 ?_
    refine ye (i := 4) (d := 22) rfl rfl (wanted_none rfl _) (by kernel_rfl) (by kernel_rfl) (new_blk (v := fun g_ => .slice (some ⟨g_, 0, none⟩) 1 1) (cs := #[.int .i64 t110.kind, .int .i64 t110.n, .slice A115 t110.text.length c116]) (t := 36) S120 (by kernel_rfl)) ?_
    rintro hc129 _ w124 ⟨g125, rfl, b126, S127, K128⟩
    replace h117 := h117.move (K128.at 0 rfl)
    replace b48 := K128.blk 2 rfl b48
    replace h39 := h39.move (K128.at 3 rfl)
    replace b17 := K128.blk 4 rfl b17
    replace h60 := h60.move (K128.at 5 rfl)
    refine ⟨⟨(Ext.trans E122 S127.inv), (fun q_ => (fun b_ h_ => (K128.at 2 rfl b_ h_).trans ((hs123.2 (by decide +kernel)) b_ h_)))⟩, fun hs130 => ?_⟩
    obtain ⟨q131, M⟩ := chk M
    have S132 := S127.pull (F := F118) (Fr := [(is g125), (is g90), (is g43), F38, (is g16), F59]) 1 rfl rfl
    have S133 := S132.pull (F := F59) (Fr := [F118, (is g125), (is g90), (is g43), F38, (is g16)]) 6 rfl rfl
    refine xone (i := 5) (by kernel_rfl) hc129 ?_
    refine ye (i := 5) (d := 23) rfl rfl (wanted_none rfl _) (by kernel_rfl) (by kernel_rfl) (e_append (d := st36) (n := x56.length) (xs := x56) (cap := c58) (A := A57) (ys := [t110]) (A2 := (some ⟨g125, 0, none⟩)) (c2 := 1) (z := .agg #[.int .i64 0, .int .i64 0, .slice none 0 0]) (bytes := 40) S133 Try.underlying32 (by kernel_rfl) rfl (by decide) (by kernel_rfl) rfl (by kernel_rfl) h60 (elsO_one1 (st36_mkO (x := t110) h117)) (.inr (blk_news b126 rfl)) (show (x56.length + [t110].length) * 40 ≤ _ by first | omega | (simp only [List.length_cons, List.length_nil]; omega)) (by decide)) ?_
    rintro hc141 _ w134 ⟨A135, c136, F137, rfl, h138, S139, K140⟩
    replace b48 := K140.blk 2 rfl b48
    replace h39 := h39.move (K140.at 3 rfl)
    replace b17 := K140.blk 4 rfl b17
    refine ⟨⟨(Ext.trans E122 S139.inv), (fun q_ => (fun b_ h_ => (K140.at 2 rfl b_ h_).trans ((hs130.2 (by decide +kernel)) b_ h_)))⟩, fun hs142 => ?_⟩
    refine xone (i := 6) (by kernel_rfl) hc141 ?_
    refine yo (i := 6) (d := 24) rfl rfl (wanted_none rfl _) (by kernel_rfl) (by kernel_rfl) (fun L_ w_ => by simp only [getD_set_ne true (show (6 : Nat) ≠ 7 by decide)]) hs142 (e_fieldAddr (b := g43) (off := 0) (o := 0) Try.underlying34 rfl rfl (sz := 1) (by kernel_rfl) (by decide) (by exact e62)) ?_; intro hc143 hs144
    have S145 := S139.pull (F := (is g43)) (Fr := [F137, (is g125), (is g90), F38, (is g16)]) 3 rfl rfl
    refine xone (i := 7) (by kernel_rfl) hc143 ?_
    refine ys (i := 7) rfl rfl (wanted_none rfl _) (by kernel_rfl) (by kernel_rfl) (e_store (g := g43) (o := 0 + 0) (v := .slice A135 ((x56 ++ [t110]).length) c136) (cur' := #[.slice A135 ((x56 ++ [t110]).length) c136, .slice A36 ((([] : List Int) ++ x1.trail).length) c37]) (vs := [.slice A135 ((x56 ++ [t110]).length) c136]) S145 (by kernel_rfl) (by kernel_rfl) rfl (by kernel_rfl) b48 (Nat.le_of_ble_eq_true rfl) (List.forall_mem_cons.2 ⟨rfl, (fun _ h_ => by cases h_)⟩) rfl) ?_
    rintro hc150 w146 ⟨b147, S148, K149⟩
    replace h138 := h138.move (K149.at 0 rfl)
    replace h39 := h39.move (K149.at 3 rfl)
    replace b17 := K149.blk 4 rfl b17
    refine ⟨⟨(Ext.trans E122 S148.inv), (fun q_ => absurd q_ (by decide +kernel))⟩, fun hs151 => ?_⟩
    clear b48
    refine xn (by kernel_rfl) ?_ _
    refine inb_n (then_n (wp_region_lit (lv (d := 25) rfl rfl (by kernel_rfl) (e_add (k := .i64) (a := x55) (b := 1) (by exact e65) rfl) (lv (d := 14) rfl rfl (by kernel_rfl) (e_move (v := .int .i64 (IntKind.i64.wrap (x55 + 1))) (by kernel_rfl)) (wpList_nil (then_n ?_))))))
    have S152 := S148.pull (F := F137) (Fr := [(is g43), (is g125), (is g90), F38, (is g16)]) 1 rfl rfl
    have S153 := S152.pull (F := (is g16)) (Fr := [F137, (is g43), (is g125), (is g90), F38]) 5 rfl rfl
    have S154 := S153.pull (F := F38) (Fr := [(is g16), F137, (is g43), (is g125), (is g90)]) 5 rfl rfl
    have S155 := S154.pull (F := (is g43)) (Fr := [F38, (is g16), F137, (is g125), (is g90)]) 3 rfl rfl
    have S156 := St.first (Fa := [(is g43), F38, (is g16), F137]) (Fr := [(is g125), (is g90)]) S155
    exact ⟨k71, (by omega), _, H113, (IntKind.i64.wrap (x55 + 1)), (x56 ++ [t110]), A135, c136, F137, rfl, (by exact e61), (by exact e62), (by exact e63), (by exact e64), (by kernel_rfl), b147, h39, b17, h138, (Y54.trans E122), S156, M⟩
  replace M := ifn q77 M
  refine cond_f rfl (bf q77 (by kernel_rfl)) (wp_exit (then_e (then_e (inb_hit (then_n (wp_seq (wp_region_lit ?_)))))))
  refine lv (d := 26) rfl rfl (by kernel_rfl) (e_loadS (b := g43) (off := 0) (cs := [.slice A57 x56.length c58, .slice A36 ((([] : List Int) ++ x1.trail).length) c37]) Try.underlying34 rfl (by kernel_rfl) (by exact e62) (blk_cells b48 rfl)) ?_
  have S157 := S66.pull (F := (is g16)) (Fr := [(is g43), F38, F59]) 2 rfl rfl
  refine lse rfl rfl (by kernel_rfl) (e_store (g := g16) (o := 0) (v := .agg #[.slice A57 x56.length c58, .slice A36 ((([] : List Int) ++ x1.trail).length) c37]) (cur' := #[.slice A57 x56.length c58, .slice A36 ((([] : List Int) ++ x1.trail).length) c37]) (vs := [.slice A57 x56.length c58, .slice A36 ((([] : List Int) ++ x1.trail).length) c37]) S157 (by exact e61) (by kernel_rfl) rfl (by kernel_rfl) b17 (Nat.le_of_ble_eq_true rfl) (List.forall_mem_cons.2 ⟨rfl, (List.forall_mem_cons.2 ⟨rfl, (fun _ h_ => by cases h_)⟩)⟩) rfl) ?_
  rintro w158 ⟨b159, S160, K161⟩
  replace h39 := h39.move (K161.at 1 rfl)
  replace h60 := h60.move (K161.at 2 rfl)
  clear b17
  refine wpList_nil (then_n (wp_ret ?_))
  obtain rfl := Option.some.inj M
  have S162 := S160.pull (F := F38) (Fr := [(is g16), (is g43), F59]) 2 rfl rfl
  have S163 := S162.pull (F := F59) (Fr := [F38, (is g16), (is g43)]) 3 rfl rfl
  have S164 := St.first (Fa := [F59, F38]) (Fr := [(is g16), (is g43)]) S163
  exact retS (ty := 34) (cur := #[.slice A57 x56.length c58, .slice A36 ((([] : List Int) ++ x1.trail).length) c37]) rfl rfl (by exact e61) b159 Try.underlying34 rfl (by kernel_rfl) ⟨A57, c58, F59, A36, c37, F38, H53, rfl, h60, h39, S164⟩

/-! impl_Store_deref -/
def impl_Store_deref.l0 : Nat → Store → Int → Int → (List UInt8) → Option Cell
  | 0, _, _, _, _ => none
  | k44 + 1, x1, x29, x30, x31 => (if x29 = 0 then (if 0 ≤ x30 then (if x30 < (x1.cells.length : Int) then (if ((x1.cells.getD ((x30).toNat) z36).kind) = 0 then (if ¬ (((x1.cells.getD ((x30).toNat) z36).n) = x30) then (impl_Store_deref.l0 k44 x1 ((x1.cells.getD ((x30).toNat) z36).kind) ((x1.cells.getD ((x30).toNat) z36).n) ((x1.cells.getD ((x30).toNat) z36).text)) else some (⟨x29, x30, x31⟩ : Cell)) else (impl_Store_deref.l0 k44 x1 ((x1.cells.getD ((x30).toNat) z36).kind) ((x1.cells.getD ((x30).toNat) z36).n) ((x1.cells.getD ((x30).toNat) z36).text))) else none) else none) else some (⟨x29, x30, x31⟩ : Cell))
def impl_Store_deref.f (k : Nat) (x1 : Store) (x12 : Cell) : Option Cell := (impl_Store_deref.l0 k x1 x12.kind x12.n x12.text)
theorem impl_Store_deref.calls (k : Nat) (w : World) (H : Hp) (x1 : Store) (g2 : Nat) (A4 : Option Addr) (c5 : Nat) (A8 : Option Addr) (c9 : Nat) (x12 : Cell) (A13 : Option Addr) (c14 : Nat) (h6 : Rd st36 H A4 x1.cells) (l7 : x1.cells.length ≤ c5) (h10 : Rd tInt H A8 x1.trail) (l11 : x1.trail.length ≤ c9) (b3 : H g2 = some (.cells #[.slice A4 x1.cells.length c5, .slice A8 x1.trail.length c9] 34 (0, 0))) (h15 : Rd tByte H A13 x12.text) (l16 : x12.text.length ≤ c14) (S : Own [] H w) (r : Cell) (M : impl_Store_deref.f k x1 x12 = some r) :
    Calls Try.prog 50 #[.pointer (some ⟨g2, 0, none⟩), .agg #[.int .i64 x12.kind, .int .i64 x12.n, .slice A13 x12.text.length c14]] w (fun e e_w => ∃ (A_1 : Option Addr) (c_1 : Nat) (H_ : Hp), e = .returned (.agg #[.int .i64 r.kind, .int .i64 r.n, .slice A_1 r.text.length c_1]) ∧ Rd tByte H_ A_1 r.text ∧ r.text.length ≤ c_1 ∧ St (anyOf []) H w [] H_ e_w) := by
  rw [impl_Store_deref.f] at M
  refine enter (l := [.pointer (some ⟨g2, 0, none⟩), .agg #[.int .i64 x12.kind, .int .i64 x12.n, .slice A13 x12.text.length c14]]) 44 Try.func50 rfl rfl rfl ?_
  have S0_ := S.st
  refine wp_seq (wp_region_lit ?_)
  refine lve (d := 3) rfl rfl (by kernel_rfl) (new_blk (v := fun g_ => .pointer (some ⟨g_, 0, none⟩)) (cs := #[.int .i64 x12.kind, .int .i64 x12.n, .slice A13 x12.text.length c14]) (t := 36) S0_ (by kernel_rfl)) ?_
  rintro _ w17 ⟨g18, rfl, b19, S20, K21⟩
  refine lve (d := 4) rfl rfl (by kernel_rfl) (new_blk (v := fun g_ => .pointer (some ⟨g_, 0, none⟩)) (cs := #[.int .i64 0, .int .i64 0, .slice none 0 0]) (t := 36) S20 (by kernel_rfl)) ?_
  rintro _ w22 ⟨g23, rfl, b24, S25, K26⟩
  replace b19 := K26.blk 0 rfl b19
  refine wpList_nil (then_n (wp_seq (wp_block ?_)))
  refine wp_loop_g (fun k42 a43 w27 => ∃ (f28 : Nat → Value) (x29 : Int) (x30 : Int) (x31 : List UInt8) (A32 : Option Addr) (c33 : Nat), a43 = mk 44 f28 ∧ f28 0 = .pointer (some ⟨g2, 0, none⟩) ∧ f28 3 = .pointer (some ⟨g18, 0, none⟩) ∧ f28 4 = .pointer (some ⟨g23, 0, none⟩) ∧ w27.heap[g23]? = some (.cells #[.int .i64 0, .int .i64 0, .slice none 0 0] 36 (0, 0)) ∧ w27.heap[g18]? = some (.cells #[.int .i64 x29, .int .i64 x30, .slice A32 x31.length c33] 36 (0, 0)) ∧ Rd tByte H A32 x31 ∧ x31.length ≤ c33 ∧ St (anyOf []) H w [(is g23), (is g18)] H w27 ∧ impl_Store_deref.l0 k42 x1 x29 x30 x31 = some r) k ⟨_, x12.kind, x12.n, x12.text, A13, c14, rfl, (by kernel_rfl), (by kernel_rfl), (by kernel_rfl), b24, b19, h15, l16, S25, M⟩ ?_
  clear M
  rintro k42 a43 w27 ⟨f28, x29, x30, x31, A32, c33, rfl, e36, e37, e38, b24, b19, h34, l35, S39, M⟩
  rcases k42 with _ | k44
  · rw [impl_Store_deref.l0] at M
    cases M
  rw [impl_Store_deref.l0] at M
  refine wp_seq (wp_seq ?_)
  refine region_still (by kernel_rfl) (by kernel_rfl) S39 ?_
  intro w45 S46 K47
  replace b24 := K47.blk 0 rfl b24
  replace b19 := K47.blk 1 rfl b19
  refine sv (d := 5) rfl rfl (by kernel_rfl) (e_fieldAddr (b := g18) (off := 0) (o := 0) Try.underlying36 rfl rfl (sz := 1) (by kernel_rfl) (by decide) (by exact e37)) (sv (d := 6) rfl rfl (by kernel_rfl) (e_load1 (ad := ⟨g18, 0 + 0, none⟩) (v := .int .i64 x29) Try.underlying3 rfl (by kernel_rfl) (blk_cell b19 rfl)) (sv (d := 7) rfl rfl (by kernel_rfl) (e_eql (k := .i64) (a := x29) (b := 0) (by kernel_rfl) rfl) (sv (d := 8) rfl rfl (by kernel_rfl) (e_move (v := .bool (decide (x29 = 0))) (by kernel_rfl)) ?_)))
  by_cases q48 : x29 = 0
  · replace M := ifp q48 M
    refine svg (d := 9) (t := 8) rfl (by kernel_rfl) rfl (bt q48 (by kernel_rfl)) rfl (by kernel_rfl) (e_move (v := .pointer (some ⟨g2, 0, none⟩)) (by exact e36)) (svg (d := 10) (t := 8) rfl (by kernel_rfl) rfl (bt q48 (by kernel_rfl)) rfl (by kernel_rfl) (e_nilCheck (ad := ⟨g2, 0, none⟩) (by kernel_rfl)) (svg (d := 11) (t := 8) rfl (by kernel_rfl) rfl (bt q48 (by kernel_rfl)) rfl (by kernel_rfl) (e_fieldAddr (b := g2) (off := 0) (o := 0) Try.underlying34 rfl rfl (sz := 1) (by kernel_rfl) (by decide) (by kernel_rfl)) (svg (d := 12) (t := 8) rfl (by kernel_rfl) rfl (bt q48 (by kernel_rfl)) rfl (by kernel_rfl) (e_load1 (ad := ⟨g2, 0 + 0, none⟩) (v := .slice A4 x1.cells.length c5) Try.underlying32 rfl (by kernel_rfl) (blk_cell (S46.inv _ _ b3) rfl)) (svg (d := 13) (t := 8) rfl (by kernel_rfl) rfl (bt q48 (by kernel_rfl)) rfl (by kernel_rfl) (e_fieldAddr (b := g18) (off := 0) (o := 1) Try.underlying36 rfl rfl (sz := 1) (by kernel_rfl) (by decide) (by exact e37)) (svg (d := 14) (t := 8) rfl (by kernel_rfl) rfl (bt q48 (by kernel_rfl)) rfl (by kernel_rfl) (e_load1 (ad := ⟨g18, 0 + 1, none⟩) (v := .int .i64 x30) Try.underlying3 rfl (by kernel_rfl) (blk_cell b19 rfl)) ?_)))))
    obtain ⟨q49, M⟩ := chk M
    obtain ⟨q50, M⟩ := chk M
    obtain ⟨b51, o52, e53⟩ := Rd.addr h6 (show (x30).toNat < x1.cells.length by omega)
    obtain ⟨y54, r55, k56⟩ := Rd.at h6 e53 (getD_some z36 (show (x30).toNat < x1.cells.length by omega))
    obtain ⟨A57, c58, rfl, l59, h60⟩ := st36_open r55
    refine svg (d := 15) (t := 8) rfl (by kernel_rfl) rfl (bt q48 (by kernel_rfl)) rfl (by kernel_rfl) (e_indexAddr (b := b51) (off := o52) (n := x1.cells.length) (c := c5) (sz := 3) (i := x30) (k := .i64) Try.underlying32 e53 (by kernel_rfl) (by kernel_rfl) (by kernel_rfl) q49 q50) (svg (d := 16) (t := 8) rfl (by kernel_rfl) rfl (bt q48 (by kernel_rfl)) rfl (by kernel_rfl) (e_fieldAddr (b := b51) (off := o52 + (x30 : Int).toNat * 3) (o := 0) Try.underlying36 rfl rfl (sz := 1) (by kernel_rfl) (by decide) (by kernel_rfl)) (svg (d := 17) (t := 8) rfl (by kernel_rfl) rfl (bt q48 (by kernel_rfl)) rfl (by kernel_rfl) (e_load1 (ad := ⟨b51, o52 + (x30 : Int).toNat * 3 + 0, none⟩) (v := .int .i64 ((x1.cells.getD ((x30).toNat) z36).kind)) Try.underlying3 rfl (by kernel_rfl) (hpx (S46.inv.cell (k56 0 _ rfl)))) (svg (d := 18) (t := 8) rfl (by kernel_rfl) rfl (bt q48 (by kernel_rfl)) rfl (by kernel_rfl) (e_eql (k := .i64) (a := (x1.cells.getD ((x30).toNat) z36).kind) (b := 0) (by kernel_rfl) rfl) (svg (d := 19) (t := 8) rfl (by kernel_rfl) rfl (bt q48 (by kernel_rfl)) rfl (by kernel_rfl) (e_move (v := .bool (decide (((x1.cells.getD ((x30).toNat) z36).kind) = 0))) (by kernel_rfl)) ?_))))
    by_cases q61 : ((x1.cells.getD ((x30).toNat) z36).kind) = 0
    · replace M := ifp q61 M
      refine svg (d := 20) (t := 19) rfl (by kernel_rfl) rfl (bt q61 (by kernel_rfl)) rfl (by kernel_rfl) (e_move (v := .pointer (some ⟨g2, 0, none⟩)) (by exact e36)) (svg (d := 21) (t := 19) rfl (by kernel_rfl) rfl (bt q61 (by kernel_rfl)) rfl (by kernel_rfl) (e_nilCheck (ad := ⟨g2, 0, none⟩) (by kernel_rfl)) (svg (d := 22) (t := 19) rfl (by kernel_rfl) rfl (bt q61 (by kernel_rfl)) rfl (by kernel_rfl) (e_fieldAddr (b := g2) (off := 0) (o := 0) Try.underlying34 rfl rfl (sz := 1) (by kernel_rfl) (by decide) (by kernel_rfl)) (svg (d := 23) (t := 19) rfl (by kernel_rfl) rfl (bt q61 (by kernel_rfl)) rfl (by kernel_rfl) (e_load1 (ad := ⟨g2, 0 + 0, none⟩) (v := .slice A4 x1.cells.length c5) Try.underlying32 rfl (by kernel_rfl) (blk_cell (S46.inv _ _ b3) rfl)) (svg (d := 24) (t := 19) rfl (by kernel_rfl) rfl (bt q61 (by kernel_rfl)) rfl (by kernel_rfl) (e_fieldAddr (b := g18) (off := 0) (o := 1) Try.underlying36 rfl rfl (sz := 1) (by kernel_rfl) (by decide) (by exact e37)) (svg (d := 25) (t := 19) rfl (by kernel_rfl) rfl (bt q61 (by kernel_rfl)) rfl (by kernel_rfl) (e_load1 (ad := ⟨g18, 0 + 1, none⟩) (v := .int .i64 x30) Try.underlying3 rfl (by kernel_rfl) (blk_cell b19 rfl)) ?_)))))
      obtain ⟨b62, o63, e64⟩ := Rd.addr h6 (show (x30).toNat < x1.cells.length by omega)
      obtain ⟨y65, r66, k67⟩ := Rd.at h6 e64 (getD_some z36 (show (x30).toNat < x1.cells.length by omega))
      obtain ⟨A68, c69, rfl, l70, h71⟩ := st36_open r66
      refine svg (d := 26) (t := 19) rfl (by kernel_rfl) rfl (bt q61 (by kernel_rfl)) rfl (by kernel_rfl) (e_indexAddr (b := b62) (off := o63) (n := x1.cells.length) (c := c5) (sz := 3) (i := x30) (k := .i64) Try.underlying32 e64 (by kernel_rfl) (by kernel_rfl) (by kernel_rfl) q49 q50) (svg (d := 27) (t := 19) rfl (by kernel_rfl) rfl (bt q61 (by kernel_rfl)) rfl (by kernel_rfl) (e_fieldAddr (b := b62) (off := o63 + (x30 : Int).toNat * 3) (o := 1) Try.underlying36 rfl rfl (sz := 1) (by kernel_rfl) (by decide) (by kernel_rfl)) (svg (d := 28) (t := 19) rfl (by kernel_rfl) rfl (bt q61 (by kernel_rfl)) rfl (by kernel_rfl) (e_load1 (ad := ⟨b62, o63 + (x30 : Int).toNat * 3 + 1, none⟩) (v := .int .i64 ((x1.cells.getD ((x30).toNat) z36).n)) Try.underlying3 rfl (by kernel_rfl) (hpx (S46.inv.cell (k67 1 _ rfl)))) (svg (d := 29) (t := 19) rfl (by kernel_rfl) rfl (bt q61 (by kernel_rfl)) rfl (by kernel_rfl) (e_fieldAddr (b := g18) (off := 0) (o := 1) Try.underlying36 rfl rfl (sz := 1) (by kernel_rfl) (by decide) (by exact e37)) (svg (d := 30) (t := 19) rfl (by kernel_rfl) rfl (bt q61 (by kernel_rfl)) rfl (by kernel_rfl) (e_load1 (ad := ⟨g18, 0 + 1, none⟩) (v := .int .i64 x30) Try.underlying3 rfl (by kernel_rfl) (blk_cell b19 rfl)) (svg (d := 31) (t := 19) rfl (by kernel_rfl) rfl (bt q61 (by kernel_rfl)) rfl (by kernel_rfl) (e_eql (k := .i64) (a := (x1.cells.getD ((x30).toNat) z36).n) (b := x30) (by kernel_rfl) (by kernel_rfl)) (svg (d := 32) (t := 8) rfl (by kernel_rfl) rfl (bt q48 (by kernel_rfl)) rfl (by kernel_rfl) (e_pick_t (v := .bool (decide (((x1.cells.getD ((x30).toNat) z36).n) = x30))) (bt q61 (by kernel_rfl)) (by kernel_rfl)) (svg (d := 33) (t := 8) rfl (by kernel_rfl) rfl (bt q48 (by kernel_rfl)) rfl (by kernel_rfl) (e_notd (c := ((x1.cells.getD ((x30).toNat) z36).n) = x30) (by kernel_rfl)) ?_)))))))
      refine sv (d := 34) rfl rfl (by kernel_rfl) (e_pick_t (v := .bool (decide (¬ (((x1.cells.getD ((x30).toNat) z36).n) = x30)))) (bt q48 (by kernel_rfl)) (by kernel_rfl)) (wpStill_nil (then_n ?_))
      by_cases q72 : ¬ (((x1.cells.getD ((x30).toNat) z36).n) = x30)
      · replace M := ifp q72 M
        refine cond_t rfl (bt q72 (by kernel_rfl)) (wp_skip (then_n (wp_block ?_)))
        refine region_mix (S := (fun (L_ : Array Bool) (w_ : World) => Ext H (hp w_) ∧ True)) (by kernel_rfl) S46 ?_
        intro w73 S74 K75 hc76
        have hs77 : (fun (L_ : Array Bool) (w_ : World) => Ext H (hp w_) ∧ True) (Array.replicate 9 false) w73 := ⟨S74.inv, trivial⟩
        replace b24 := K75.blk 0 rfl b24
        replace b19 := K75.blk 1 rfl b19
        refine xv (i := 0) (d := 35) rfl rfl rfl (by kernel_rfl) (by kernel_rfl) (fun _ _ => Iff.rfl) hc76 hs77 (fun L_ w_ hc_ hu_ hs_ => e_move (v := .pointer (some ⟨g2, 0, none⟩)) (by exact e36)) ?_; intro hc78 hs79
        refine xv (i := 1) (d := 36) rfl rfl rfl (by kernel_rfl) (by kernel_rfl) (fun _ _ => Iff.rfl) hc78 hs79 (fun L_ w_ hc_ hu_ hs_ => e_nilCheck (ad := ⟨g2, 0, none⟩) (by kernel_rfl)) ?_; intro hc80 hs81
        refine xv (i := 2) (d := 37) rfl rfl rfl (by kernel_rfl) (by kernel_rfl) (fun _ _ => Iff.rfl) hc80 hs81 (fun L_ w_ hc_ hu_ hs_ => e_fieldAddr (b := g2) (off := 0) (o := 0) Try.underlying34 rfl rfl (sz := 1) (by kernel_rfl) (by decide) (by kernel_rfl)) ?_; intro hc82 hs83
        refine xv (i := 3) (d := 38) rfl rfl rfl (by kernel_rfl) (by kernel_rfl) (fun _ _ => Iff.rfl) hc82 hs83 (fun L_ w_ hc_ hu_ hs_ => e_load1 (ad := ⟨g2, 0 + 0, none⟩) (v := .slice A4 x1.cells.length c5) Try.underlying32 rfl (by kernel_rfl) (blk_cell (hs_.1 _ _ b3) rfl)) ?_; intro hc84 hs85
        refine xone (i := 4) (by kernel_rfl) hc84 ?_
        refine yo (i := 4) (d := 39) rfl rfl (wanted_none rfl _) (by kernel_rfl) (by kernel_rfl) (fun _ _ => Iff.rfl) hs85 (e_fieldAddr (b := g18) (off := 0) (o := 1) Try.underlying36 rfl rfl (sz := 1) (by kernel_rfl) (by decide) (by exact e37)) ?_; intro hc86 hs87
        refine xone (i := 5) (by kernel_rfl) hc86 ?_
        refine yo (i := 5) (d := 40) rfl rfl (wanted_none rfl _) (by kernel_rfl) (by kernel_rfl) (fun _ _ => Iff.rfl) hs87 (e_load1 (ad := ⟨g18, 0 + 1, none⟩) (v := .int .i64 x30) Try.underlying3 rfl (by kernel_rfl) (blk_cell b19 rfl)) ?_; intro hc88 hs89
        obtain ⟨b90, o91, e92⟩ := Rd.addr h6 (show (x30).toNat < x1.cells.length by omega)
        obtain ⟨y93, r94, k95⟩ := Rd.at h6 e92 (getD_some z36 (show (x30).toNat < x1.cells.length by omega))
        obtain ⟨A96, c97, rfl, l98, h99⟩ := st36_open r94
        refine xone (i := 6) (by kernel_rfl) hc88 ?_
        refine yo (i := 6) (d := 41) rfl rfl (wanted_none rfl _) (by kernel_rfl) (by kernel_rfl) (fun _ _ => Iff.rfl) hs89 (e_indexAddr (b := b90) (off := o91) (n := x1.cells.length) (c := c5) (sz := 3) (i := x30) (k := .i64) Try.underlying32 e92 (by kernel_rfl) (by kernel_rfl) (by kernel_rfl) q49 q50) ?_; intro hc100 hs101
        refine xone (i := 7) (by kernel_rfl) hc100 ?_
        refine yo (i := 7) (d := 42) rfl rfl (wanted_none rfl _) (by kernel_rfl) (by kernel_rfl) (fun _ _ => Iff.rfl) hs101 (e_loadS (b := b90) (off := o91 + (x30 : Int).toNat * 3) (cs := [.int .i64 ((x1.cells.getD ((x30).toNat) z36).kind), .int .i64 ((x1.cells.getD ((x30).toNat) z36).n), .slice A96 ((x1.cells.getD ((x30).toNat) z36).text).length c97]) Try.underlying36 rfl (by kernel_rfl) (by kernel_rfl) (fun j_ u_ e_ => (hpx (S74.inv.cell (k95 j_ u_ e_))))) ?_; intro hc102 hs103
        have S104 := S74.pull (F := (is g18)) (Fr := [(is g23)]) 1 rfl rfl
        refine xone (i := 8) (by kernel_rfl) hc102 ?_
        refine ys (i := 8) rfl rfl (wanted_none rfl _) (by kernel_rfl) (by kernel_rfl) (e_store (g := g18) (o := 0) (v := .agg #[.int .i64 ((x1.cells.getD ((x30).toNat) z36).kind), .int .i64 ((x1.cells.getD ((x30).toNat) z36).n), .slice A96 ((x1.cells.getD ((x30).toNat) z36).text).length c97]) (cur' := #[.int .i64 ((x1.cells.getD ((x30).toNat) z36).kind), .int .i64 ((x1.cells.getD ((x30).toNat) z36).n), .slice A96 ((x1.cells.getD ((x30).toNat) z36).text).length c97]) (vs := [.int .i64 ((x1.cells.getD ((x30).toNat) z36).kind), .int .i64 ((x1.cells.getD ((x30).toNat) z36).n), .slice A96 ((x1.cells.getD ((x30).toNat) z36).text).length c97]) S104 (by exact e37) (by kernel_rfl) rfl (by kernel_rfl) b19 (Nat.le_of_ble_eq_true rfl) (List.forall_mem_cons.2 ⟨rfl, (List.forall_mem_cons.2 ⟨rfl, (List.forall_mem_cons.2 ⟨rfl, (fun _ h_ => by cases h_)⟩)⟩)⟩) rfl) ?_
        rintro hc109 w105 ⟨b106, S107, K108⟩
        replace b24 := K108.blk 0 rfl b24
        refine ⟨⟨S107.inv, trivial⟩, fun hs110 => ?_⟩
        clear b19
        refine xn (by kernel_rfl) ?_ _
        refine inb_n (then_n ?_)
        have S111 := S107.pull (F := (is g23)) (Fr := [(is g18)]) 1 rfl rfl
        exact ⟨k44, (by omega), _, ((x1.cells.getD ((x30).toNat) z36).kind), ((x1.cells.getD ((x30).toNat) z36).n), ((x1.cells.getD ((x30).toNat) z36).text), A96, c97, rfl, (by exact e36), (by exact e37), (by exact e38), b24, b106, h99, l98, S111, M⟩
      replace M := ifn q72 M
      refine cond_f rfl (bf q72 (by kernel_rfl)) (wp_exit (then_e (then_e (inb_hit (then_n (wp_seq (wp_region_lit ?_)))))))
      refine lv (d := 43) rfl rfl (by kernel_rfl) (e_loadS (b := g18) (off := 0) (cs := [.int .i64 x29, .int .i64 x30, .slice A32 x31.length c33]) Try.underlying36 rfl (by kernel_rfl) (by exact e37) (blk_cells b19 rfl)) ?_
      refine lse rfl rfl (by kernel_rfl) (e_store (g := g23) (o := 0) (v := .agg #[.int .i64 x29, .int .i64 x30, .slice A32 x31.length c33]) (cur' := #[.int .i64 x29, .int .i64 x30, .slice A32 x31.length c33]) (vs := [.int .i64 x29, .int .i64 x30, .slice A32 x31.length c33]) S46 (by exact e38) (by kernel_rfl) rfl (by kernel_rfl) b24 (Nat.le_of_ble_eq_true rfl) (List.forall_mem_cons.2 ⟨rfl, (List.forall_mem_cons.2 ⟨rfl, (List.forall_mem_cons.2 ⟨rfl, (fun _ h_ => by cases h_)⟩)⟩)⟩) rfl) ?_
      rintro w112 ⟨b113, S114, K115⟩
      clear b24
      refine wpList_nil (then_n (wp_ret ?_))
      obtain rfl := Option.some.inj M
      have S116 := St.first (Fa := []) (Fr := [(is g23), (is g18)]) S114
      exact retS (ty := 36) (cur := #[.int .i64 x29, .int .i64 x30, .slice A32 x31.length c33]) rfl rfl (by exact e38) b113 Try.underlying36 rfl (by kernel_rfl) ⟨A32, c33, H, rfl, h34, l35, S116⟩
    replace M := ifn q61 M
    refine sskip (t := 19) (c := false) rfl (by kernel_rfl) rfl (bf q61 (by kernel_rfl)) rfl rfl ?_
    refine sskip (t := 19) (c := false) rfl (by kernel_rfl) rfl (bf q61 (by kernel_rfl)) rfl rfl ?_
    refine sskip (t := 19) (c := false) rfl (by kernel_rfl) rfl (bf q61 (by kernel_rfl)) rfl rfl ?_
    refine sskip (t := 19) (c := false) rfl (by kernel_rfl) rfl (bf q61 (by kernel_rfl)) rfl rfl ?_
    refine sskip (t := 19) (c := false) rfl (by kernel_rfl) rfl (bf q61 (by kernel_rfl)) rfl rfl ?_
    refine sskip (t := 19) (c := false) rfl (by kernel_rfl) rfl (bf q61 (by kernel_rfl)) rfl rfl ?_
    refine sskip (t := 19) (c := false) rfl (by kernel_rfl) rfl (bf q61 (by kernel_rfl)) rfl rfl ?_
    refine sskip (t := 19) (c := false) rfl (by kernel_rfl) rfl (bf q61 (by kernel_rfl)) rfl rfl ?_
    refine sskip (t := 19) (c := false) rfl (by kernel_rfl) rfl (bf q61 (by kernel_rfl)) rfl rfl ?_
    refine sskip (t := 19) (c := false) rfl (by kernel_rfl) rfl (bf q61 (by kernel_rfl)) rfl rfl ?_
    refine sskip (t := 19) (c := false) rfl (by kernel_rfl) rfl (bf q61 (by kernel_rfl)) rfl rfl ?_
    refine sskip (t := 19) (c := false) rfl (by kernel_rfl) rfl (bf q61 (by kernel_rfl)) rfl rfl ?_
    refine svg (d := 32) (t := 8) rfl (by kernel_rfl) rfl (bt q48 (by kernel_rfl)) rfl (by kernel_rfl) (e_pick_f (v := .bool false) (bf q61 (by kernel_rfl)) rfl) (svg (d := 33) (t := 8) rfl (by kernel_rfl) rfl (bt q48 (by kernel_rfl)) rfl (by kernel_rfl) (e_not (c := false) (by kernel_rfl)) (sv (d := 34) rfl rfl (by kernel_rfl) (e_pick_t (v := .bool true) (bt q48 (by kernel_rfl)) (by kernel_rfl)) (wpStill_nil (then_n (cond_t rfl (by kernel_rfl) (wp_skip (then_n ?_)))))))
    refine wp_block ?_
    refine region_mix (S := (fun (L_ : Array Bool) (w_ : World) => Ext H (hp w_) ∧ True)) (by kernel_rfl) S46 ?_
    intro w117 S118 K119 hc120
    have hs121 : (fun (L_ : Array Bool) (w_ : World) => Ext H (hp w_) ∧ True) (Array.replicate 9 false) w117 := ⟨S118.inv, trivial⟩
    replace b24 := K119.blk 0 rfl b24
    replace b19 := K119.blk 1 rfl b19
    refine xv (i := 0) (d := 35) rfl rfl rfl (by kernel_rfl) (by kernel_rfl) (fun _ _ => Iff.rfl) hc120 hs121 (fun L_ w_ hc_ hu_ hs_ => e_move (v := .pointer (some ⟨g2, 0, none⟩)) (by exact e36)) ?_; intro hc122 hs123
    refine xv (i := 1) (d := 36) rfl rfl rfl (by kernel_rfl) (by kernel_rfl) (fun _ _ => Iff.rfl) hc122 hs123 (fun L_ w_ hc_ hu_ hs_ => e_nilCheck (ad := ⟨g2, 0, none⟩) (by kernel_rfl)) ?_; intro hc124 hs125
    refine xv (i := 2) (d := 37) rfl rfl rfl (by kernel_rfl) (by kernel_rfl) (fun _ _ => Iff.rfl) hc124 hs125 (fun L_ w_ hc_ hu_ hs_ => e_fieldAddr (b := g2) (off := 0) (o := 0) Try.underlying34 rfl rfl (sz := 1) (by kernel_rfl) (by decide) (by kernel_rfl)) ?_; intro hc126 hs127
    refine xv (i := 3) (d := 38) rfl rfl rfl (by kernel_rfl) (by kernel_rfl) (fun _ _ => Iff.rfl) hc126 hs127 (fun L_ w_ hc_ hu_ hs_ => e_load1 (ad := ⟨g2, 0 + 0, none⟩) (v := .slice A4 x1.cells.length c5) Try.underlying32 rfl (by kernel_rfl) (blk_cell (hs_.1 _ _ b3) rfl)) ?_; intro hc128 hs129
    refine xone (i := 4) (by kernel_rfl) hc128 ?_
    refine yo (i := 4) (d := 39) rfl rfl (wanted_none rfl _) (by kernel_rfl) (by kernel_rfl) (fun _ _ => Iff.rfl) hs129 (e_fieldAddr (b := g18) (off := 0) (o := 1) Try.underlying36 rfl rfl (sz := 1) (by kernel_rfl) (by decide) (by exact e37)) ?_; intro hc130 hs131
    refine xone (i := 5) (by kernel_rfl) hc130 ?_
    refine yo (i := 5) (d := 40) rfl rfl (wanted_none rfl _) (by kernel_rfl) (by kernel_rfl) (fun _ _ => Iff.rfl) hs131 (e_load1 (ad := ⟨g18, 0 + 1, none⟩) (v := .int .i64 x30) Try.underlying3 rfl (by kernel_rfl) (blk_cell b19 rfl)) ?_; intro hc132 hs133
    obtain ⟨b134, o135, e136⟩ := Rd.addr h6 (show (x30).toNat < x1.cells.length by omega)
    obtain ⟨y137, r138, k139⟩ := Rd.at h6 e136 (getD_some z36 (show (x30).toNat < x1.cells.length by omega))
    obtain ⟨A140, c141, rfl, l142, h143⟩ := st36_open r138
    refine xone (i := 6) (by kernel_rfl) hc132 ?_
    refine yo (i := 6) (d := 41) rfl rfl (wanted_none rfl _) (by kernel_rfl) (by kernel_rfl) (fun _ _ => Iff.rfl) hs133 (e_indexAddr (b := b134) (off := o135) (n := x1.cells.length) (c := c5) (sz := 3) (i := x30) (k := .i64) Try.underlying32 e136 (by kernel_rfl) (by kernel_rfl) (by kernel_rfl) q49 q50) ?_; intro hc144 hs145
    refine xone (i := 7) (by kernel_rfl) hc144 ?_
    refine yo (i := 7) (d := 42) rfl rfl (wanted_none rfl _) (by kernel_rfl) (by kernel_rfl) (fun _ _ => Iff.rfl) hs145 (e_loadS (b := b134) (off := o135 + (x30 : Int).toNat * 3) (cs := [.int .i64 ((x1.cells.getD ((x30).toNat) z36).kind), .int .i64 ((x1.cells.getD ((x30).toNat) z36).n), .slice A140 ((x1.cells.getD ((x30).toNat) z36).text).length c141]) Try.underlying36 rfl (by kernel_rfl) (by kernel_rfl) (fun j_ u_ e_ => (hpx (S118.inv.cell (k139 j_ u_ e_))))) ?_; intro hc146 hs147
    have S148 := S118.pull (F := (is g18)) (Fr := [(is g23)]) 1 rfl rfl
    refine xone (i := 8) (by kernel_rfl) hc146 ?_
    refine ys (i := 8) rfl rfl (wanted_none rfl _) (by kernel_rfl) (by kernel_rfl) (e_store (g := g18) (o := 0) (v := .agg #[.int .i64 ((x1.cells.getD ((x30).toNat) z36).kind), .int .i64 ((x1.cells.getD ((x30).toNat) z36).n), .slice A140 ((x1.cells.getD ((x30).toNat) z36).text).length c141]) (cur' := #[.int .i64 ((x1.cells.getD ((x30).toNat) z36).kind), .int .i64 ((x1.cells.getD ((x30).toNat) z36).n), .slice A140 ((x1.cells.getD ((x30).toNat) z36).text).length c141]) (vs := [.int .i64 ((x1.cells.getD ((x30).toNat) z36).kind), .int .i64 ((x1.cells.getD ((x30).toNat) z36).n), .slice A140 ((x1.cells.getD ((x30).toNat) z36).text).length c141]) S148 (by exact e37) (by kernel_rfl) rfl (by kernel_rfl) b19 (Nat.le_of_ble_eq_true rfl) (List.forall_mem_cons.2 ⟨rfl, (List.forall_mem_cons.2 ⟨rfl, (List.forall_mem_cons.2 ⟨rfl, (fun _ h_ => by cases h_)⟩)⟩)⟩) rfl) ?_
    rintro hc153 w149 ⟨b150, S151, K152⟩
    replace b24 := K152.blk 0 rfl b24
    refine ⟨⟨S151.inv, trivial⟩, fun hs154 => ?_⟩
    clear b19
    refine xn (by kernel_rfl) ?_ _
    refine inb_n (then_n ?_)
    have S155 := S151.pull (F := (is g23)) (Fr := [(is g18)]) 1 rfl rfl
    exact ⟨k44, (by omega), _, ((x1.cells.getD ((x30).toNat) z36).kind), ((x1.cells.getD ((x30).toNat) z36).n), ((x1.cells.getD ((x30).toNat) z36).text), A140, c141, rfl, (by exact e36), (by exact e37), (by exact e38), b24, b150, h143, l142, S155, M⟩
  replace M := ifn q48 M
  refine sskip (t := 8) (c := false) rfl (by kernel_rfl) rfl (bf q48 (by kernel_rfl)) rfl rfl ?_
  refine sskip (t := 8) (c := false) rfl (by kernel_rfl) rfl (bf q48 (by kernel_rfl)) rfl rfl ?_
  refine sskip (t := 8) (c := false) rfl (by kernel_rfl) rfl (bf q48 (by kernel_rfl)) rfl rfl ?_
  refine sskip (t := 8) (c := false) rfl (by kernel_rfl) rfl (bf q48 (by kernel_rfl)) rfl rfl ?_
  refine sskip (t := 8) (c := false) rfl (by kernel_rfl) rfl (bf q48 (by kernel_rfl)) rfl rfl ?_
  refine sskip (t := 8) (c := false) rfl (by kernel_rfl) rfl (bf q48 (by kernel_rfl)) rfl rfl ?_
  refine sskip (t := 8) (c := false) rfl (by kernel_rfl) rfl (bf q48 (by kernel_rfl)) rfl rfl ?_
  refine sskip (t := 8) (c := false) rfl (by kernel_rfl) rfl (bf q48 (by kernel_rfl)) rfl rfl ?_
  refine sskip (t := 8) (c := false) rfl (by kernel_rfl) rfl (bf q48 (by kernel_rfl)) rfl rfl ?_
  refine sskip (t := 8) (c := false) rfl (by kernel_rfl) rfl (bf q48 (by kernel_rfl)) rfl rfl ?_
  refine sskip (t := 8) (c := false) rfl (by kernel_rfl) rfl (bf q48 (by kernel_rfl)) rfl rfl ?_
  refine sskipu (t := 19) rfl (by kernel_rfl) rfl (by kernel_rfl) rfl ?_
  refine sskipu (t := 19) rfl (by kernel_rfl) rfl (by kernel_rfl) rfl ?_
  refine sskipu (t := 19) rfl (by kernel_rfl) rfl (by kernel_rfl) rfl ?_
  refine sskipu (t := 19) rfl (by kernel_rfl) rfl (by kernel_rfl) rfl ?_
  refine sskipu (t := 19) rfl (by kernel_rfl) rfl (by kernel_rfl) rfl ?_
  refine sskipu (t := 19) rfl (by kernel_rfl) rfl (by kernel_rfl) rfl ?_
  refine sskipu (t := 19) rfl (by kernel_rfl) rfl (by kernel_rfl) rfl ?_
  refine sskipu (t := 19) rfl (by kernel_rfl) rfl (by kernel_rfl) rfl ?_
  refine sskipu (t := 19) rfl (by kernel_rfl) rfl (by kernel_rfl) rfl ?_
  refine sskipu (t := 19) rfl (by kernel_rfl) rfl (by kernel_rfl) rfl ?_
  refine sskipu (t := 19) rfl (by kernel_rfl) rfl (by kernel_rfl) rfl ?_
  refine sskipu (t := 19) rfl (by kernel_rfl) rfl (by kernel_rfl) rfl ?_
  refine sskip (t := 8) (c := false) rfl (by kernel_rfl) rfl (bf q48 (by kernel_rfl)) rfl rfl ?_
  refine sskip (t := 8) (c := false) rfl (by kernel_rfl) rfl (bf q48 (by kernel_rfl)) rfl rfl ?_
  refine sv (d := 34) rfl rfl (by kernel_rfl) (e_pick_f (v := .bool false) (bf q48 (by kernel_rfl)) rfl) (wpStill_nil (then_n (cond_f rfl (by kernel_rfl) (wp_exit (then_e (then_e (inb_hit ?_)))))))
  refine then_n (wp_seq (wp_region_lit (lv (d := 43) rfl rfl (by kernel_rfl) (e_loadS (b := g18) (off := 0) (cs := [.int .i64 x29, .int .i64 x30, .slice A32 x31.length c33]) Try.underlying36 rfl (by kernel_rfl) (by exact e37) (blk_cells b19 rfl)) ?_)))
  refine lse rfl rfl (by kernel_rfl) (e_store (g := g23) (o := 0) (v := .agg #[.int .i64 x29, .int .i64 x30, .slice A32 x31.length c33]) (cur' := #[.int .i64 x29, .int .i64 x30, .slice A32 x31.length c33]) (vs := [.int .i64 x29, .int .i64 x30, .slice A32 x31.length c33]) S46 (by exact e38) (by kernel_rfl) rfl (by kernel_rfl) b24 (Nat.le_of_ble_eq_true rfl) (List.forall_mem_cons.2 ⟨rfl, (List.forall_mem_cons.2 ⟨rfl, (List.forall_mem_cons.2 ⟨rfl, (fun _ h_ => by cases h_)⟩)⟩)⟩) rfl) ?_
  rintro w156 ⟨b157, S158, K159⟩
  clear b24
  refine wpList_nil (then_n (wp_ret ?_))
  obtain rfl := Option.some.inj M
  have S160 := St.first (Fa := []) (Fr := [(is g23), (is g18)]) S158
  exact retS (ty := 36) (cur := #[.int .i64 x29, .int .i64 x30, .slice A32 x31.length c33]) rfl rfl (by exact e38) b157 Try.underlying36 rfl (by kernel_rfl) ⟨A32, c33, H, rfl, h34, l35, S160⟩

/-! impl_ref -/
def impl_ref.f (x1 : Int) : Option Cell := some (⟨0, x1, []⟩ : Cell)
theorem impl_ref.calls (w : World) (H : Hp) (x1 : Int) (S : Own [] H w) (r : Cell) (M : impl_ref.f x1 = some r) :
    Calls Try.prog 69 #[.int .i64 x1] w (fun e e_w => ∃ (A_1 : Option Addr) (c_1 : Nat) (F_1 : Foot) (H_ : Hp), e = .returned (.agg #[.int .i64 r.kind, .int .i64 r.n, .slice A_1 r.text.length c_1]) ∧ Row tByte 5 H_ (hp e_w) F_1 A_1 c_1 r.text ∧ St (anyOf []) H w [F_1] H_ e_w) := by
  rw [impl_ref.f] at M
  refine enter (l := [.int .i64 x1]) 5 Try.func69 rfl rfl rfl ?_
  have S0_ := S.st
  refine wp_seq (wp_region_lit ?_)
  refine lve (d := 2) rfl rfl (by kernel_rfl) (new_blk (v := fun g_ => .pointer (some ⟨g_, 0, none⟩)) (cs := #[.int .i64 0, .int .i64 0, .slice none 0 0]) (t := 36) S0_ (by kernel_rfl)) ?_
  rintro _ w2 ⟨g3, rfl, b4, S5, K6⟩
  refine wpList_nil (then_n (wp_seq (wp_region_lit (lv (d := 3) rfl rfl (by kernel_rfl) (e_move (v := .int .i64 x1) (by kernel_rfl)) (lv (d := 4) rfl rfl (by kernel_rfl) (show _ = Result.ok (Next.value (.agg #[.int .i64 0, .int .i64 x1, .slice none 0 0])) w2 from by kernel_rfl) ?_)))))
  refine lse rfl rfl (by kernel_rfl) (e_store (g := g3) (o := 0) (v := .agg #[.int .i64 0, .int .i64 x1, .slice none 0 0]) (cur' := #[.int .i64 0, .int .i64 x1, .slice none 0 0]) (vs := [.int .i64 0, .int .i64 x1, .slice none 0 0]) S5 (by kernel_rfl) (by kernel_rfl) rfl (by kernel_rfl) b4 (Nat.le_of_ble_eq_true rfl) (List.forall_mem_cons.2 ⟨rfl, (List.forall_mem_cons.2 ⟨rfl, (List.forall_mem_cons.2 ⟨rfl, (fun _ h_ => by cases h_)⟩)⟩)⟩) rfl) ?_
  rintro w7 ⟨b8, S9, K10⟩
  clear b4
  refine wpList_nil (then_n (wp_ret ?_))
  obtain rfl := Option.some.inj M
  have S11 := S9.unit
  have S12 := St.first (Fa := [no]) (Fr := [(is g3)]) S11
  exact retS (ty := 36) (cur := #[.int .i64 0, .int .i64 x1, .slice none 0 0]) rfl rfl (by kernel_rfl) b8 Try.underlying36 rfl (by kernel_rfl) ⟨none, 0, no, H, rfl, (Row.nil _ _ _ _ no), S12⟩

/-! impl_Store_within -/
mutual
def impl_Store_within.l0 : Nat → Store → Int → Cell → Int → (List (Int × Bool)) → Option (Bool × (List (Int × Bool)))
  | 0, _, _, _, _, _ => none
  | k70 + 1, x1, x12, t26, x58, x59 => (if 0 ≤ t26.n then (if t26.n < (x1.cells.length : Int) then (if x58 ≤ ((x1.cells.getD ((t26.n).toNat) z36).n) then (if 0 ≤ (IntKind.i64.wrap (t26.n + x58)) then (if (IntKind.i64.wrap (t26.n + x58)) < (x1.cells.length : Int) then ((impl_Store_within.f k70 x1 x12 (x1.cells.getD (((IntKind.i64.wrap (t26.n + x58))).toNat) z36) x59).bind fun t131 => (if t131.1 = true then some (true, t131.2) else (impl_Store_within.l0 k70 x1 x12 t26 (IntKind.i64.wrap (x58 + 1)) t131.2))) else none) else none) else some (false, x59)) else none) else none)
def impl_Store_within.f : Nat → Store → Int → Cell → (List (Int × Bool)) → Option (Bool × (List (Int × Bool)))
  | 0, _, _, _, _ => none
  | k1_ + 1, x1, x12, x13, x18 => ((impl_Store_deref.f k1_ x1 x13).bind fun t26 => (if t26.kind = 0 then some ((decide (t26.n = x12)), x18) else (if t26.kind = 4 then (if ((mget x18 t26.n).getD false) = true then some (false, x18) else (impl_Store_within.l0 k1_ x1 x12 t26 1 (mset x18 t26.n true))) else some (false, x18))))
end
theorem impl_Store_within.all : ∀ (K : Nat), (∀ (k : Nat), k < K → ∀ (w : World) (H : Hp) (x1 : Store) (g2 : Nat) (A4 : Option Addr) (c5 : Nat) (A8 : Option Addr) (c9 : Nat) (x12 : Int) (x13 : Cell) (A14 : Option Addr) (c15 : Nat) (x18 : List (Int × Bool)) (g19 : Nat) (h6 : Rd st36 H A4 x1.cells) (l7 : x1.cells.length ≤ c5) (h10 : Rd tInt H A8 x1.trail) (l11 : x1.trail.length ≤ c9) (b3 : H g2 = some (.cells #[.slice A4 x1.cells.length c5, .slice A8 x1.trail.length c9] 34 (0, 0))) (h16 : Rd tByte H A14 x13.text) (l17 : x13.text.length ≤ c15) (h20 : MapO encI tBool H (hp w) g19 x18) (S : Own [(is g19)] H w) (r : Bool × (List (Int × Bool))) (M : impl_Store_within.f k x1 x12 x13 x18 = some r), Calls Try.prog 72 #[.pointer (some ⟨g2, 0, none⟩), .int .i64 x12, .agg #[.int .i64 x13.kind, .int .i64 x13.n, .slice A14 x13.text.length c15], .map (some g19)] w (fun e e_w => ∃ (H_ : Hp), e = .returned (.bool r.1) ∧ MapO encI tBool H_ (hp e_w) g19 r.2 ∧ St (anyOf [(is g19)]) H w [(is g19)] H_ e_w)) := by
  intro K
  induction K with
  | zero => intro k hk; omega
  | succ K ih =>
    intro k hk w H x1 g2 A4 c5 A8 c9 x12 x13 A14 c15 x18 g19 h6 l7 h10 l11 b3 h16 l17 h20 S r M
    rcases k with _ | k1_
    · rw [impl_Store_within.f] at M
      cases M
    rw [impl_Store_within.f] at M
    refine enter (l := [.pointer (some ⟨g2, 0, none⟩), .int .i64 x12, .agg #[.int .i64 x13.kind, .int .i64 x13.n, .slice A14 x13.text.length c15], .map (some g19)]) 57 Try.func72 rfl rfl rfl ?_
    have S0_ := S.st
    refine wp_seq (wp_region_lit ?_)
    refine lve (d := 6) rfl rfl (by kernel_rfl) (new_blk (v := fun g_ => .pointer (some ⟨g_, 0, none⟩)) (cs := #[.int .i64 x13.kind, .int .i64 x13.n, .slice A14 x13.text.length c15]) (t := 36) S0_ (by kernel_rfl)) ?_
    rintro _ w21 ⟨g22, rfl, b23, S24, K25⟩
    replace h20 := h20.move (K25.at 0 rfl)
    refine lv (d := 8) rfl rfl (by kernel_rfl) (e_assign (v := .bool false) rfl) (wpList_nil (then_n (wp_seq (wp_region_lit (lv (d := 10) rfl rfl (by kernel_rfl) (e_move (v := .pointer (some ⟨g2, 0, none⟩)) (by kernel_rfl)) (lv (d := 11) rfl rfl (by kernel_rfl) (e_loadS (b := g22) (off := 0) (cs := [.int .i64 x13.kind, .int .i64 x13.n, .slice A14 x13.text.length c15]) Try.underlying36 rfl (by kernel_rfl) (by kernel_rfl) (blk_cells b23 rfl)) ?_))))))
    obtain ⟨t26, u27, M⟩ := bnd M
    refine lcall (d := 12) rfl rfl (by kernel_rfl) (e_call (l := [.tmp 10, .tmp 11]) (vs := [.pointer (some ⟨g2, 0, none⟩), .agg #[.int .i64 x13.kind, .int .i64 x13.n, .slice A14 x13.text.length c15]]) Try.func50 (by kernel_rfl) rfl (by kernel_rfl) rfl) (impl_Store_deref.calls k1_ w21 H x1 g2 A4 c5 A8 c9 x13 A14 c15 h6 l7 h10 l11 b3 h16 l17 (St.own' (Fa := []) (Fr := [(is g22), (is g19)]) S24) t26 u27) ?_
    rintro _ w28 ⟨A31, c32, H29, rfl, h33, l34, T30⟩
    refine ⟨_, rfl, ?_⟩
    obtain ⟨S35, K36⟩ := St.call (Fa := []) (Fr := [(is g22), (is g19)]) S24 T30
    replace b23 := K36.blk 0 rfl b23
    replace h20 := h20.move (K36.at 1 rfl)
    have E37 := T30.ext
    replace h20 := h20.ext E37
    refine lse rfl rfl (by kernel_rfl) (e_store (g := g22) (o := 0) (v := .agg #[.int .i64 t26.kind, .int .i64 t26.n, .slice A31 t26.text.length c32]) (cur' := #[.int .i64 t26.kind, .int .i64 t26.n, .slice A31 t26.text.length c32]) (vs := [.int .i64 t26.kind, .int .i64 t26.n, .slice A31 t26.text.length c32]) S35 (by kernel_rfl) (by kernel_rfl) rfl (by kernel_rfl) b23 (Nat.le_of_ble_eq_true rfl) (List.forall_mem_cons.2 ⟨rfl, (List.forall_mem_cons.2 ⟨rfl, (List.forall_mem_cons.2 ⟨rfl, (fun _ h_ => by cases h_)⟩)⟩)⟩) rfl) ?_
    rintro w38 ⟨b39, S40, K41⟩
    replace h20 := h20.move (K41.at 0 rfl)
    clear b23
    refine wpList_nil (then_n (wp_seq (wp_seq (wp_region_lit (lv (d := 13) rfl rfl (by kernel_rfl) (e_fieldAddr (b := g22) (off := 0) (o := 0) Try.underlying36 rfl rfl (sz := 1) (by kernel_rfl) (by decide) (by kernel_rfl)) (lv (d := 14) rfl rfl (by kernel_rfl) (e_load1 (ad := ⟨g22, 0 + 0, none⟩) (v := .int .i64 t26.kind) Try.underlying3 rfl (by kernel_rfl) (blk_cell b39 rfl)) (wpList_nil ?_)))))))
    refine then_n (wp_block (wp_seq (wp_region_lit (lv (d := 16) rfl rfl (by kernel_rfl) (e_eql (k := .i64) (a := t26.kind) (b := 0) (by kernel_rfl) rfl) (lv (d := 15) rfl rfl (by kernel_rfl) (e_assign (v := .bool (decide (t26.kind = 0))) (by kernel_rfl)) (wpList_nil (then_n ?_)))))))
    by_cases q42 : t26.kind = 0
    · replace M := ifp q42 M
      refine cond_t rfl (bt q42 (by kernel_rfl)) (wp_seq (wp_region_lit (lv (d := 17) rfl rfl (by kernel_rfl) (e_fieldAddr (b := g22) (off := 0) (o := 1) Try.underlying36 rfl rfl (sz := 1) (by kernel_rfl) (by decide) (by kernel_rfl)) (lv (d := 18) rfl rfl (by kernel_rfl) (e_load1 (ad := ⟨g22, 0 + 1, none⟩) (v := .int .i64 t26.n) Try.underlying3 rfl (by kernel_rfl) (blk_cell b39 rfl)) (lv (d := 19) rfl rfl (by kernel_rfl) (e_move (v := .int .i64 x12) (by kernel_rfl)) (lv (d := 20) rfl rfl (by kernel_rfl) (e_eql (k := .i64) (a := t26.n) (b := x12) (by kernel_rfl) (by kernel_rfl)) (lv (d := 8) rfl rfl (by kernel_rfl) (e_assign (v := .bool (decide (t26.n = x12))) (by kernel_rfl)) ?_)))))))
      refine wpList_nil (then_n (wp_ret (inb_r (then_r ?_))))
      obtain rfl := Option.some.inj M
      have S43 := S40.pull (F := (is g19)) (Fr := [(is g22)]) 1 rfl rfl
      have S44 := St.first (Fa := [(is g19)]) (Fr := [(is g22)]) S43
      exact ret1 rfl rfl  (show _ = .bool (decide (t26.n = x12)) from (by kernel_rfl)) ⟨H29, rfl, h20, S44⟩
    replace M := ifn q42 M
    refine cond_f rfl (bf q42 (by kernel_rfl)) (wp_seq (wp_region_lit (lv (d := 22) rfl rfl (by kernel_rfl) (e_eql (k := .i64) (a := t26.kind) (b := 4) (by kernel_rfl) rfl) (lv (d := 21) rfl rfl (by kernel_rfl) (e_assign (v := .bool (decide (t26.kind = 4))) (by kernel_rfl)) (wpList_nil (then_n ?_))))))
    by_cases q45 : t26.kind = 4
    · replace M := ifp q45 M
      refine cond_t rfl (bt q45 (by kernel_rfl)) (wp_seq (wp_seq (wp_region_lit (lv (d := 23) rfl rfl (by kernel_rfl) (e_move (v := .map (some g19)) (by kernel_rfl)) (lv (d := 24) rfl rfl (by kernel_rfl) (e_fieldAddr (b := g22) (off := 0) (o := 1) Try.underlying36 rfl rfl (sz := 1) (by kernel_rfl) (by decide) (by kernel_rfl)) (lv (d := 25) rfl rfl (by kernel_rfl) (e_load1 (ad := ⟨g22, 0 + 1, none⟩) (v := .int .i64 t26.n) Try.underlying3 rfl (by kernel_rfl) (blk_cell b39 rfl)) (lv (d := 26) rfl rfl (by kernel_rfl) (e_look1_s (k := t26.n) false h20 keyI Try.underlying96 Try.underlying3 (by kernel_rfl) (by kernel_rfl) (by kernel_rfl)) ?_)))))))
      refine wpList_nil (then_n ?_)
      by_cases q46 : ((mget x18 t26.n).getD false) = true
      · replace M := ifp q46 M
        refine cond_t rfl (bvt q46 (by kernel_rfl)) (wp_seq (wp_region_lit (lv (d := 8) rfl rfl (by kernel_rfl) (e_assign (v := .bool false) rfl) (wpList_nil (then_n (wp_ret (then_r ?_)))))))
        refine inb_r (then_r ?_)
        obtain rfl := Option.some.inj M
        have S47 := S40.pull (F := (is g19)) (Fr := [(is g22)]) 1 rfl rfl
        have S48 := St.first (Fa := [(is g19)]) (Fr := [(is g22)]) S47
        exact ret1 rfl rfl  (show _ = .bool false from (by kernel_rfl)) ⟨H29, rfl, h20, S48⟩
      replace M := ifn q46 M
      refine cond_f rfl (bvf q46 (by kernel_rfl)) (wp_skip (then_n (wp_seq (wp_region_lit (lv (d := 27) rfl rfl (by kernel_rfl) (e_move (v := .map (some g19)) (by kernel_rfl)) (lv (d := 28) rfl rfl (by kernel_rfl) (e_fieldAddr (b := g22) (off := 0) (o := 1) Try.underlying36 rfl rfl (sz := 1) (by kernel_rfl) (by decide) (by kernel_rfl)) (lv (d := 29) rfl rfl (by kernel_rfl) (e_load1 (ad := ⟨g22, 0 + 1, none⟩) (v := .int .i64 t26.n) Try.underlying3 rfl (by kernel_rfl) (blk_cell b39 rfl)) ?_)))))))
      have S49 := S40.pull (F := (is g19)) (Fr := [(is g22)]) 1 rfl rfl
      refine lse rfl rfl (by kernel_rfl) (e_mapUpdate (k := t26.n) (a := true) S49 h20 keyI Try.underlying96 Try.underlying3 (by kernel_rfl) (by kernel_rfl) rfl rfl) ?_
      rintro w50 ⟨h51, S52, K53⟩
      replace b39 := K53.blk 0 rfl b39
      clear h20
      refine wpList_nil (then_n (wp_seq (wp_region_lit (lv (d := 9) rfl rfl (by kernel_rfl) (e_assign (v := .int .i64 1) rfl) (wpList_nil (then_n (wp_block ?_)))))))
      refine wp_loop_g (fun k68 a69 w54 => ∃ (f55 : Nat → Value) (H56 : Hp) (x58 : Int) (x59 : List (Int × Bool)), k68 < K ∧ a69 = mk 57 f55 ∧ f55 0 = .pointer (some ⟨g2, 0, none⟩) ∧ f55 1 = .int .i64 x12 ∧ f55 3 = .map (some g19) ∧ f55 6 = .pointer (some ⟨g22, 0, none⟩) ∧ f55 9 = .int .i64 x58 ∧ MapO encI tBool H56 (hp w54) g19 x59 ∧ w54.heap[g22]? = some (.cells #[.int .i64 t26.kind, .int .i64 t26.n, .slice A31 t26.text.length c32] 36 (0, 0)) ∧ Ext H29 H56 ∧ St (anyOf [(is g19)]) H w [(is g19), (is g22)] H56 w54 ∧ impl_Store_within.l0 k68 x1 x12 t26 x58 x59 = some r) k1_ ⟨_, H29, 1, (mset x18 t26.n true), (by omega), rfl, (by kernel_rfl), (by kernel_rfl), (by kernel_rfl), (by kernel_rfl), (by kernel_rfl), h51, b39, (Ext.refl _), S52, M⟩ ?_
      clear M
      rintro k68 a69 w54 ⟨f55, H56, x58, x59, z66, rfl, e60, e61, e62, e63, e64, h51, b39, Y57, S65, M⟩
      rcases k68 with _ | k70
      · rw [impl_Store_within.l0] at M
        cases M
      rw [impl_Store_within.l0] at M
      refine wp_seq (wp_seq ?_)
      refine region_still (by kernel_rfl) (by kernel_rfl) S65 ?_
      intro w71 S72 K73
      replace h51 := h51.move (K73.at 0 rfl)
      replace b39 := K73.blk 1 rfl b39
      refine sv (d := 30) rfl rfl (by kernel_rfl) (e_move (v := .int .i64 x58) (by exact e64)) (sv (d := 31) rfl rfl (by kernel_rfl) (e_move (v := .pointer (some ⟨g2, 0, none⟩)) (by exact e60)) (sv (d := 32) rfl rfl (by kernel_rfl) (e_nilCheck (ad := ⟨g2, 0, none⟩) (by kernel_rfl)) (sv (d := 33) rfl rfl (by kernel_rfl) (e_fieldAddr (b := g2) (off := 0) (o := 0) Try.underlying34 rfl rfl (sz := 1) (by kernel_rfl) (by decide) (by kernel_rfl)) (sv (d := 34) rfl rfl (by kernel_rfl) (e_load1 (ad := ⟨g2, 0 + 0, none⟩) (v := .slice A4 x1.cells.length c5) Try.underlying32 rfl (by kernel_rfl) (blk_cell (S72.inv _ _ ((E37.trans Y57) _ _ b3)) rfl)) (sv (d := 35) rfl rfl (by kernel_rfl) (e_fieldAddr (b := g22) (off := 0) (o := 1) Try.underlying36 rfl rfl (sz := 1) (by kernel_rfl) (by decide) (by exact e63)) (sv (d := 36) rfl rfl (by kernel_rfl) (e_load1 (ad := ⟨g22, 0 + 1, none⟩) (v := .int .i64 t26.n) Try.underlying3 rfl (by kernel_rfl) (blk_cell b39 rfl)) ?_))))))
      obtain ⟨q74, M⟩ := chk M
      obtain ⟨q75, M⟩ := chk M
      obtain ⟨b76, o77, e78⟩ := Rd.addr h6 (show (t26.n).toNat < x1.cells.length by omega)
      obtain ⟨y79, r80, k81⟩ := Rd.at h6 e78 (getD_some z36 (show (t26.n).toNat < x1.cells.length by omega))
      obtain ⟨A82, c83, rfl, l84, h85⟩ := st36_open r80
      refine sv (d := 37) rfl rfl (by kernel_rfl) (e_indexAddr (b := b76) (off := o77) (n := x1.cells.length) (c := c5) (sz := 3) (i := t26.n) (k := .i64) Try.underlying32 e78 (by kernel_rfl) (by kernel_rfl) (by kernel_rfl) q74 q75) (sv (d := 38) rfl rfl (by kernel_rfl) (e_fieldAddr (b := b76) (off := o77 + (t26.n : Int).toNat * 3) (o := 1) Try.underlying36 rfl rfl (sz := 1) (by kernel_rfl) (by decide) (by kernel_rfl)) (sv (d := 39) rfl rfl (by kernel_rfl) (e_load1 (ad := ⟨b76, o77 + (t26.n : Int).toNat * 3 + 1, none⟩) (v := .int .i64 ((x1.cells.getD ((t26.n).toNat) z36).n)) Try.underlying3 rfl (by kernel_rfl) (hpx (S72.inv.cell ((E37.trans Y57).cell (k81 1 _ rfl))))) (sv (d := 40) rfl rfl (by kernel_rfl) (e_leq (k := .i64) (a := x58) (b := (x1.cells.getD ((t26.n).toNat) z36).n) (by kernel_rfl) (by kernel_rfl)) (wpStill_nil (then_n ?_)))))
      by_cases q86 : x58 ≤ ((x1.cells.getD ((t26.n).toNat) z36).n)
      · replace M := ifp q86 M
        refine cond_t rfl (bt q86 (by kernel_rfl)) (wp_skip (then_n (wp_seq (wp_block (wp_seq ?_)))))
        refine region_mix (S := (fun (L_ : Array Bool) (w_ : World) => Ext H56 (hp w_) ∧ (∀ b_, (is g22) b_ → hp w_ b_ = hp w71 b_))) (by kernel_rfl) S72 ?_
        intro w87 S88 K89 hc90
        have o91 := b39
        have hs92 : (fun (L_ : Array Bool) (w_ : World) => Ext H56 (hp w_) ∧ (∀ b_, (is g22) b_ → hp w_ b_ = hp w71 b_)) (Array.replicate 14 false) w87 := ⟨S88.inv, (fun b_ h_ => K89.at 1 rfl b_ h_)⟩
        replace h51 := h51.move (K89.at 0 rfl)
        replace b39 := K89.blk 1 rfl b39
        refine xv (i := 0) (d := 43) rfl rfl rfl (by kernel_rfl) (by kernel_rfl) (fun _ _ => Iff.rfl) hc90 hs92 (fun L_ w_ hc_ hu_ hs_ => e_move (v := .pointer (some ⟨g2, 0, none⟩)) (by exact e60)) ?_; intro hc93 hs94
        refine xv (i := 1) (d := 44) rfl rfl rfl (by kernel_rfl) (by kernel_rfl) (fun _ _ => Iff.rfl) hc93 hs94 (fun L_ w_ hc_ hu_ hs_ => e_move (v := .int .i64 x12) (by exact e61)) ?_; intro hc95 hs96
        refine xv (i := 2) (d := 45) rfl rfl rfl (by kernel_rfl) (by kernel_rfl) (fun _ _ => Iff.rfl) hc95 hs96 (fun L_ w_ hc_ hu_ hs_ => e_move (v := .pointer (some ⟨g2, 0, none⟩)) (by exact e60)) ?_; intro hc97 hs98
        refine xv (i := 3) (d := 46) rfl rfl rfl (by kernel_rfl) (by kernel_rfl) (fun _ _ => Iff.rfl) hc97 hs98 (fun L_ w_ hc_ hu_ hs_ => e_nilCheck (ad := ⟨g2, 0, none⟩) (by kernel_rfl)) ?_; intro hc99 hs100
        refine xv (i := 4) (d := 47) rfl rfl rfl (by kernel_rfl) (by kernel_rfl) (fun _ _ => Iff.rfl) hc99 hs100 (fun L_ w_ hc_ hu_ hs_ => e_fieldAddr (b := g2) (off := 0) (o := 0) Try.underlying34 rfl rfl (sz := 1) (by kernel_rfl) (by decide) (by kernel_rfl)) ?_; intro hc101 hs102
        refine xv (i := 5) (d := 48) rfl rfl rfl (by kernel_rfl) (by kernel_rfl) (fun _ _ => Iff.rfl) hc101 hs102 (fun L_ w_ hc_ hu_ hs_ => e_load1 (ad := ⟨g2, 0 + 0, none⟩) (v := .slice A4 x1.cells.length c5) Try.underlying32 rfl (by kernel_rfl) (blk_cell (hs_.1 _ _ ((E37.trans Y57) _ _ b3)) rfl)) ?_; intro hc103 hs104
        refine xv (i := 6) (d := 49) rfl rfl rfl (by kernel_rfl) (by kernel_rfl) (fun _ _ => Iff.rfl) hc103 hs104 (fun L_ w_ hc_ hu_ hs_ => e_fieldAddr (b := g22) (off := 0) (o := 1) Try.underlying36 rfl rfl (sz := 1) (by kernel_rfl) (by decide) (by exact e63)) ?_; intro hc105 hs106
        refine xv (i := 7) (d := 50) rfl rfl rfl (by kernel_rfl) (by kernel_rfl) (fun _ _ => Iff.rfl) hc105 hs106 (fun L_ w_ hc_ hu_ hs_ => e_load1 (ad := ⟨g22, 0 + 1, none⟩) (v := .int .i64 t26.n) Try.underlying3 rfl (by kernel_rfl) (blk_cell ((hs_.2 _ rfl).trans o91) rfl)) ?_; intro hc107 hs108
        refine xv (i := 8) (d := 51) rfl rfl rfl (by kernel_rfl) (by kernel_rfl) (fun _ _ => Iff.rfl) hc107 hs108 (fun L_ w_ hc_ hu_ hs_ => e_move (v := .int .i64 x58) (by exact e64)) ?_; intro hc109 hs110
        refine xv (i := 9) (d := 52) rfl rfl rfl (by kernel_rfl) (by kernel_rfl) (fun _ _ => Iff.rfl) hc109 hs110 (fun L_ w_ hc_ hu_ hs_ => e_add (k := .i64) (a := t26.n) (b := x58) (by kernel_rfl) (by kernel_rfl)) ?_; intro hc111 hs112
        obtain ⟨q113, M⟩ := chk M
        obtain ⟨q114, M⟩ := chk M
        obtain ⟨b115, o116, e117⟩ := Rd.addr h6 (show ((IntKind.i64.wrap (t26.n + x58))).toNat < x1.cells.length by omega)
        obtain ⟨y118, r119, k120⟩ := Rd.at h6 e117 (getD_some z36 (show ((IntKind.i64.wrap (t26.n + x58))).toNat < x1.cells.length by omega))
        obtain ⟨A121, c122, rfl, l123, h124⟩ := st36_open r119
        refine xv (i := 10) (d := 53) rfl rfl rfl (by kernel_rfl) (by kernel_rfl) (fun _ _ => Iff.rfl) hc111 hs112 (fun L_ w_ hc_ hu_ hs_ => e_indexAddr (b := b115) (off := o116) (n := x1.cells.length) (c := c5) (sz := 3) (i := (IntKind.i64.wrap (t26.n + x58))) (k := .i64) Try.underlying32 e117 (by kernel_rfl) (by kernel_rfl) (by kernel_rfl) q113 q114) ?_; intro hc125 hs126
        refine xv (i := 11) (d := 54) rfl rfl rfl (by kernel_rfl) (by kernel_rfl) (fun _ _ => Iff.rfl) hc125 hs126 (fun L_ w_ hc_ hu_ hs_ => e_loadS (b := b115) (off := o116 + ((IntKind.i64.wrap (t26.n + x58)) : Int).toNat * 3) (cs := [.int .i64 ((x1.cells.getD (((IntKind.i64.wrap (t26.n + x58))).toNat) z36).kind), .int .i64 ((x1.cells.getD (((IntKind.i64.wrap (t26.n + x58))).toNat) z36).n), .slice A121 ((x1.cells.getD (((IntKind.i64.wrap (t26.n + x58))).toNat) z36).text).length c122]) Try.underlying36 rfl (by kernel_rfl) (by kernel_rfl) (fun j_ u_ e_ => (hpx (hs_.1.cell ((E37.trans Y57).cell (k120 j_ u_ e_)))))) ?_; intro hc127 hs128
        refine xone (i := 12) (by kernel_rfl) hc127 ?_
        refine yo (i := 12) (d := 55) rfl rfl (wanted_none rfl _) (by kernel_rfl) (by kernel_rfl) (fun _ _ => Iff.rfl) hs128 (e_move (v := .map (some g19)) (by exact e62)) ?_; intro hc129 hs130
        obtain ⟨t131, u132, M⟩ := bnd M
        refine xone (i := 13) (by kernel_rfl) hc129 ?_
        refine yc (i := 13) rfl (wanted_none rfl _) (by kernel_rfl) (by kernel_rfl) (e_call (l := [.tmp 43, .tmp 44, .tmp 54, .tmp 55]) (vs := [.pointer (some ⟨g2, 0, none⟩), .int .i64 x12, .agg #[.int .i64 ((x1.cells.getD (((IntKind.i64.wrap (t26.n + x58))).toNat) z36).kind), .int .i64 ((x1.cells.getD (((IntKind.i64.wrap (t26.n + x58))).toNat) z36).n), .slice A121 ((x1.cells.getD (((IntKind.i64.wrap (t26.n + x58))).toNat) z36).text).length c122], .map (some g19)]) Try.func72 (by kernel_rfl) rfl (by kernel_rfl) rfl) (ih k70 (by omega) w87 H56 x1 g2 A4 c5 A8 c9 x12 (x1.cells.getD (((IntKind.i64.wrap (t26.n + x58))).toNat) z36) A121 c122 x59 g19 (h6.ext (E37.trans Y57)) l7 (h10.ext (E37.trans Y57)) l11 ((E37.trans Y57) _ _ b3) (h124.ext (E37.trans Y57)) l123 h51 (St.own' (Fa := [(is g19)]) (Fr := [(is g22)]) S88) t131 u132) ?_
        rintro hc137 _ w133 ⟨H134, rfl, h136, T135⟩
        refine ⟨_, rfl, ?_⟩
        obtain ⟨S138, K139⟩ := St.call (Fa := [(is g19)]) (Fr := [(is g22)]) S88 T135
        replace b39 := K139.blk 0 rfl b39
        have E140 := T135.ext
        refine ⟨⟨(Ext.trans E140 S138.inv), (fun b_ h_ => (K139.at 0 rfl b_ h_).trans (hs130.2 b_ h_))⟩, fun hs141 => ?_⟩
        refine xn (by kernel_rfl) ?_ _
        refine then_n ?_
        by_cases q142 : t131.1 = true
        · replace M := ifp q142 M
          refine cond_t rfl (bvt q142 (by kernel_rfl)) (wp_seq (wp_region_lit (lv (d := 8) rfl rfl (by kernel_rfl) (e_assign (v := .bool true) rfl) (wpList_nil (then_n (wp_ret (inb_r ?_)))))))
          refine then_r (then_r (inb_r (inb_r (then_r ?_))))
          obtain rfl := Option.some.inj M
          have S143 := St.first (Fa := [(is g19)]) (Fr := [(is g22)]) S138
          exact ret1 rfl rfl  (show _ = .bool true from (by kernel_rfl)) ⟨H134, rfl, h136, S143⟩
        replace M := ifn q142 M
        refine cond_f rfl (bvf q142 (by kernel_rfl)) (wp_skip (inb_n (then_n (wp_region_lit (lv (d := 41) rfl rfl (by kernel_rfl) (e_move (v := .int .i64 x58) (by exact e64)) (lv (d := 42) rfl rfl (by kernel_rfl) (e_add (k := .i64) (a := x58) (b := 1) (by kernel_rfl) rfl) (lv (d := 9) rfl rfl (by kernel_rfl) (e_assign (v := .int .i64 (IntKind.i64.wrap (x58 + 1))) (by kernel_rfl)) ?_)))))))
        refine wpList_nil (then_n ?_)
        exact ⟨k70, (by omega), _, H134, (IntKind.i64.wrap (x58 + 1)), t131.2, (by omega), rfl, (by exact e60), (by exact e61), (by exact e62), (by exact e63), (by kernel_rfl), h136, b39, (Y57.trans E140), S138, M⟩
      replace M := ifn q86 M
      refine cond_f rfl (bf q86 (by kernel_rfl)) (wp_exit (then_e (then_e (inb_hit (inb_n (then_n (wp_seq ?_)))))))
      refine wp_region_lit (lv (d := 8) rfl rfl (by kernel_rfl) (e_assign (v := .bool false) rfl) (wpList_nil (then_n (wp_ret ?_))))
      obtain rfl := Option.some.inj M
      have S144 := St.first (Fa := [(is g19)]) (Fr := [(is g22)]) S72
      exact ret1 rfl rfl  (show _ = .bool false from (by kernel_rfl)) ⟨H56, rfl, h51, S144⟩
    replace M := ifn q45 M
    refine cond_f rfl (bf q45 (by kernel_rfl)) (wp_skip (inb_n (then_n (wp_seq (wp_region_lit (lv (d := 8) rfl rfl (by kernel_rfl) (e_assign (v := .bool false) rfl) (wpList_nil ?_)))))))
    refine then_n (wp_ret ?_)
    obtain rfl := Option.some.inj M
    have S145 := S40.pull (F := (is g19)) (Fr := [(is g22)]) 1 rfl rfl
    have S146 := St.first (Fa := [(is g19)]) (Fr := [(is g22)]) S145
    exact ret1 rfl rfl  (show _ = .bool false from (by kernel_rfl)) ⟨H29, rfl, h20, S146⟩
theorem impl_Store_within.calls (k : Nat) (w : World) (H : Hp) (x1 : Store) (g2 : Nat) (A4 : Option Addr) (c5 : Nat) (A8 : Option Addr) (c9 : Nat) (x12 : Int) (x13 : Cell) (A14 : Option Addr) (c15 : Nat) (x18 : List (Int × Bool)) (g19 : Nat) (h6 : Rd st36 H A4 x1.cells) (l7 : x1.cells.length ≤ c5) (h10 : Rd tInt H A8 x1.trail) (l11 : x1.trail.length ≤ c9) (b3 : H g2 = some (.cells #[.slice A4 x1.cells.length c5, .slice A8 x1.trail.length c9] 34 (0, 0))) (h16 : Rd tByte H A14 x13.text) (l17 : x13.text.length ≤ c15) (h20 : MapO encI tBool H (hp w) g19 x18) (S : Own [(is g19)] H w) (r : Bool × (List (Int × Bool))) (M : impl_Store_within.f k x1 x12 x13 x18 = some r) :
    Calls Try.prog 72 #[.pointer (some ⟨g2, 0, none⟩), .int .i64 x12, .agg #[.int .i64 x13.kind, .int .i64 x13.n, .slice A14 x13.text.length c15], .map (some g19)] w (fun e e_w => ∃ (H_ : Hp), e = .returned (.bool r.1) ∧ MapO encI tBool H_ (hp e_w) g19 r.2 ∧ St (anyOf [(is g19)]) H w [(is g19)] H_ e_w) := (impl_Store_within.all (k + 1)) k (Nat.lt_succ_self k) w H x1 g2 A4 c5 A8 c9 x12 x13 A14 c15 x18 g19 h6 l7 h10 l11 b3 h16 l17 h20 S r M

/-! impl_Store_bind -/
def impl_Store_bind_2.l0 (_k : Nat) (x1 : Store) (x27 : Int) (x28 : Int) (x29 : Int) (x30 : List UInt8) : Option (Int × Store) := (if (x1.trail.length : Int) ≥ 20000 then some (10, x1) else (if 0 ≤ x27 then (if x27 < (x1.cells.length : Int) then (if x1.trail.length + 1 ≤ 17592186044416 then some (0, (⟨(x1.cells.set ((x27).toNat) (⟨x28, x29, x30⟩ : Cell)), (x1.trail ++ [x27])⟩ : Store)) else none) else none) else none))
def impl_Store_bind_2.f (k : Nat) (x1 : Store) (x12 : Int) (x13 : Cell) : Option (Int × Store) := (if x13.kind = 0 then (if x13.n > x12 then ((impl_ref.f x12).bind fun t56 => (impl_Store_bind_2.l0 k x1 x13.n t56.kind t56.n t56.text)) else (if x13.kind ≠ 0 then ((impl_Store_within.f k x1 x12 x13 []).bind fun t125 => (if t125.1 = true then some (5, x1) else (impl_Store_bind_2.l0 k x1 x12 x13.kind x13.n x13.text))) else (impl_Store_bind_2.l0 k x1 x12 x13.kind x13.n x13.text))) else (if x13.kind ≠ 0 then ((impl_Store_within.f k x1 x12 x13 []).bind fun t199 => (if t199.1 = true then some (5, x1) else (impl_Store_bind_2.l0 k x1 x12 x13.kind x13.n x13.text))) else (impl_Store_bind_2.l0 k x1 x12 x13.kind x13.n x13.text)))
theorem impl_Store_bind_2.calls (k : Nat) (w : World) (H : Hp) (x1 : Store) (g2 : Nat) (A4 : Option Addr) (c5 : Nat) (F7 : Foot) (A8 : Option Addr) (c9 : Nat) (F11 : Foot) (x12 : Int) (x13 : Cell) (A14 : Option Addr) (c15 : Nat) (F17 : Foot) (h6 : Row st36 36 H (hp w) F7 A4 c5 x1.cells) (h10 : Row tInt 3 H (hp w) F11 A8 c9 x1.trail) (b3 : w.heap[g2]? = some (.cells #[.slice A4 x1.cells.length c5, .slice A8 x1.trail.length c9] 34 (0, 0))) (h16 : Row tByte 5 H (hp w) F17 A14 c15 x13.text) (S : Own [F7, F11, (is g2), F17] H w) (r : Int × Store) (M : impl_Store_bind_2.f k x1 x12 x13 = some r) :
    Calls Try.prog 62 #[.pointer (some ⟨g2, 0, none⟩), .int .i64 x12, .agg #[.int .i64 x13.kind, .int .i64 x13.n, .slice A14 x13.text.length c15]] w (fun e e_w => ∃ (A_1 : Option Addr) (c_1 : Nat) (F_1 : Foot) (A_2 : Option Addr) (c_2 : Nat) (F_2 : Foot) (H_ : Hp), e = .returned (.int .i64 r.1) ∧ Row st36 36 H_ (hp e_w) F_1 A_1 c_1 r.2.cells ∧ Row tInt 3 H_ (hp e_w) F_2 A_2 c_2 r.2.trail ∧ e_w.heap[g2]? = some (.cells #[.slice A_1 r.2.cells.length c_1, .slice A_2 r.2.trail.length c_2] 34 (0, 0)) ∧ St (anyOf [F7, F11, (is g2), F17]) H w [(is g2), F_1, F_2] H_ e_w) := by
  rw [impl_Store_bind_2.f] at M
  refine enter (l := [.pointer (some ⟨g2, 0, none⟩), .int .i64 x12, .agg #[.int .i64 x13.kind, .int .i64 x13.n, .slice A14 x13.text.length c15]]) 57 Try.func62 rfl rfl rfl ?_
  have S0_ := S.st
  refine wp_seq (wp_region_lit ?_)
  refine lve (d := 5) rfl rfl (by kernel_rfl) (new_blk (v := fun g_ => .pointer (some ⟨g_, 0, none⟩)) (cs := #[.int .i64 x13.kind, .int .i64 x13.n, .slice A14 x13.text.length c15]) (t := 36) S0_ (by kernel_rfl)) ?_
  rintro _ w18 ⟨g19, rfl, b20, S21, K22⟩
  replace h6 := h6.move (K22.at 0 rfl)
  replace h10 := h10.move (K22.at 1 rfl)
  replace b3 := K22.blk 2 rfl b3
  replace h16 := h16.move (K22.at 3 rfl)
  refine lv (d := 6) rfl rfl (by kernel_rfl) (e_assign (v := .int .i64 0) rfl) (wpList_nil (then_n (wp_seq (wp_region_lit (lv (d := 8) rfl rfl (by kernel_rfl) (e_move (v := .int .i64 x12) (by kernel_rfl)) (lv (d := 7) rfl rfl (by kernel_rfl) (e_assign (v := .int .i64 x12) (by kernel_rfl)) (wpList_nil ?_)))))))
  refine then_n ?_
  refine wp_seq_cut (fun a41 w23 => ∃ (f24 : Nat → Value) (H25 : Hp) (x27 : Int) (x28 : Int) (x29 : Int) (x30 : List UInt8) (A31 : Option Addr) (c32 : Nat) (F33 : Foot), a41 = mk 57 f24 ∧ f24 0 = .pointer (some ⟨g2, 0, none⟩) ∧ f24 5 = .pointer (some ⟨g19, 0, none⟩) ∧ f24 7 = .int .i64 x27 ∧ w23.heap[g19]? = some (.cells #[.int .i64 x28, .int .i64 x29, .slice A31 x30.length c32] 36 (0, 0)) ∧ Row st36 36 H25 (hp w23) F7 A4 c5 x1.cells ∧ Row tInt 3 H25 (hp w23) F11 A8 c9 x1.trail ∧ w23.heap[g2]? = some (.cells #[.slice A4 x1.cells.length c5, .slice A8 x1.trail.length c9] 34 (0, 0)) ∧ Row tByte 5 H25 (hp w23) F33 A31 c32 x30 ∧ Ext H H25 ∧ St (anyOf [F7, F11, (is g2), F17]) H w [(is g19), F7, F11, (is g2), F33] H25 w23 ∧ impl_Store_bind_2.l0 k x1 x27 x28 x29 x30 = some r) ?_ ?_
  · refine wp_block (wp_seq (wp_region_lit (lv (d := 10) rfl rfl (by kernel_rfl) (e_fieldAddr (b := g19) (off := 0) (o := 0) Try.underlying36 rfl rfl (sz := 1) (by kernel_rfl) (by decide) (by kernel_rfl)) (lv (d := 11) rfl rfl (by kernel_rfl) (e_load1 (ad := ⟨g19, 0 + 0, none⟩) (v := .int .i64 x13.kind) Try.underlying3 rfl (by kernel_rfl) (blk_cell b20 rfl)) (lv (d := 12) rfl rfl (by kernel_rfl) (e_eql (k := .i64) (a := x13.kind) (b := 0) (by kernel_rfl) rfl) (lv (d := 13) rfl rfl (by kernel_rfl) (e_move (v := .bool (decide (x13.kind = 0))) (by kernel_rfl)) ?_))))))
    by_cases q42 : x13.kind = 0
    · replace M := ifp q42 M
      refine lvg (d := 14) (t := 13) rfl (by kernel_rfl) rfl (bt q42 (by kernel_rfl)) rfl (by kernel_rfl) (e_fieldAddr (b := g19) (off := 0) (o := 1) Try.underlying36 rfl rfl (sz := 1) (by kernel_rfl) (by decide) (by kernel_rfl)) (lvg (d := 15) (t := 13) rfl (by kernel_rfl) rfl (bt q42 (by kernel_rfl)) rfl (by kernel_rfl) (e_load1 (ad := ⟨g19, 0 + 1, none⟩) (v := .int .i64 x13.n) Try.underlying3 rfl (by kernel_rfl) (blk_cell b20 rfl)) (lvg (d := 16) (t := 13) rfl (by kernel_rfl) rfl (bt q42 (by kernel_rfl)) rfl (by kernel_rfl) (e_move (v := .int .i64 x12) (by kernel_rfl)) (lvg (d := 17) (t := 13) rfl (by kernel_rfl) rfl (bt q42 (by kernel_rfl)) rfl (by kernel_rfl) (e_gtr (k := .i64) (a := x13.n) (b := x12) (by kernel_rfl) (by kernel_rfl)) (lv (d := 18) rfl rfl (by kernel_rfl) (e_pick_t (v := .bool (decide (x13.n > x12))) (bt q42 (by kernel_rfl)) (by kernel_rfl)) (lv (d := 9) rfl rfl (by kernel_rfl) (e_assign (v := .bool (decide (x13.n > x12))) (by kernel_rfl)) (wpList_nil (then_n ?_)))))))
      by_cases q43 : x13.n > x12
      · replace M := ifp q43 M
        refine cond_t rfl (bt q43 (by kernel_rfl)) ?_
        refine region_mix (S := (fun (L_ : Array Bool) (w_ : World) => Ext H (hp w_) ∧ (L_.getD 5 true = false → (∀ b_, (is g19) b_ → hp w_ b_ = hp w18 b_)))) (by kernel_rfl) S21 ?_
        intro w44 S45 K46 hc47
        have o48 := b20
        have hs49 : (fun (L_ : Array Bool) (w_ : World) => Ext H (hp w_) ∧ (L_.getD 5 true = false → (∀ b_, (is g19) b_ → hp w_ b_ = hp w18 b_))) (Array.replicate 6 false) w44 := ⟨S45.inv, (fun _ => (fun b_ h_ => K46.at 0 rfl b_ h_))⟩
        replace b20 := K46.blk 0 rfl b20
        replace h6 := h6.move (K46.at 1 rfl)
        replace h10 := h10.move (K46.at 2 rfl)
        replace b3 := K46.blk 3 rfl b3
        refine xv (i := 0) (d := 19) rfl rfl rfl (by kernel_rfl) (by kernel_rfl) (fun L_ w_ => by simp only [getD_set_ne true (show (0 : Nat) ≠ 5 by decide)]) hc47 hs49 (fun L_ w_ hc_ hu_ hs_ => e_fieldAddr (b := g19) (off := 0) (o := 1) Try.underlying36 rfl rfl (sz := 1) (by kernel_rfl) (by decide) (by kernel_rfl)) ?_; intro hc50 hs51
        refine xv (i := 1) (d := 20) rfl rfl rfl (by kernel_rfl) (by kernel_rfl) (fun L_ w_ => by simp only [getD_set_ne true (show (1 : Nat) ≠ 5 by decide)]) hc50 hs51 (fun L_ w_ hc_ hu_ hs_ => e_load1 (ad := ⟨g19, 0 + 1, none⟩) (v := .int .i64 x13.n) Try.underlying3 rfl (by kernel_rfl) (blk_cell (((hs_.2 (unl 9 5 1 hc_ hu_ (by kernel_rfl))) _ rfl).trans o48) rfl)) ?_; intro hc52 hs53
        refine xone (i := 2) (by kernel_rfl) hc52 ?_
        refine yo (i := 2) (d := 21) rfl rfl (wanted_none rfl _) (by kernel_rfl) (by kernel_rfl) (fun L_ w_ => by simp only [getD_set_ne true (show (2 : Nat) ≠ 5 by decide)]) hs53 (e_move (v := .int .i64 x12) (by kernel_rfl)) ?_; intro hc54 hs55
        obtain ⟨t56, u57, M⟩ := bnd M
        refine xone (i := 3) (by kernel_rfl) hc54 ?_
        refine yc (i := 3) rfl (wanted_none rfl _) (by kernel_rfl) (by kernel_rfl) (e_call (l := [.tmp 21]) (vs := [.int .i64 x12]) Try.func69 (by kernel_rfl) rfl (by kernel_rfl) rfl) (impl_ref.calls w44 H x12  (St.own' (Fa := []) (Fr := [(is g19), F7, F11, (is g2), F17]) S45) t56 u57) ?_
        rintro hc65 _ w58 ⟨A61, c62, F64, H59, rfl, h63, T60⟩
        refine ⟨_, rfl, ?_⟩
        obtain ⟨S66, K67⟩ := St.call (Fa := []) (Fr := [(is g19), F7, F11, (is g2), F17]) S45 T60
        replace b20 := K67.blk 0 rfl b20
        replace h6 := h6.move (K67.at 1 rfl)
        replace h10 := h10.move (K67.at 2 rfl)
        replace b3 := K67.blk 3 rfl b3
        have E68 := T60.ext
        replace h6 := h6.ext E68
        replace h10 := h10.ext E68
        refine ⟨⟨(Ext.trans E68 S66.inv), (fun q_ => (fun b_ h_ => (K67.at 0 rfl b_ h_).trans ((hs55.2 (by decide +kernel)) b_ h_)))⟩, fun hs69 => ?_⟩
        refine xone (i := 4) (by kernel_rfl) hc65 ?_
        refine yo (i := 4) (d := 7) rfl rfl (wanted_none rfl _) (by kernel_rfl) (by kernel_rfl) (fun L_ w_ => by simp only [getD_set_ne true (show (4 : Nat) ≠ 5 by decide)]) hs69 (e_assign (v := .int .i64 x13.n) (by kernel_rfl)) ?_; intro hc70 hs71
        have S72 := S66.pull (F := (is g19)) (Fr := [F64, F7, F11, (is g2), F17]) 1 rfl rfl
        refine xone (i := 5) (by kernel_rfl) hc70 ?_
        refine ys (i := 5) rfl rfl (wanted_none rfl _) (by kernel_rfl) (by kernel_rfl) (e_store (g := g19) (o := 0) (v := .agg #[.int .i64 t56.kind, .int .i64 t56.n, .slice A61 t56.text.length c62]) (cur' := #[.int .i64 t56.kind, .int .i64 t56.n, .slice A61 t56.text.length c62]) (vs := [.int .i64 t56.kind, .int .i64 t56.n, .slice A61 t56.text.length c62]) S72 (by kernel_rfl) (by kernel_rfl) rfl (by kernel_rfl) b20 (Nat.le_of_ble_eq_true rfl) (List.forall_mem_cons.2 ⟨rfl, (List.forall_mem_cons.2 ⟨rfl, (List.forall_mem_cons.2 ⟨rfl, (fun _ h_ => by cases h_)⟩)⟩)⟩) rfl) ?_
        rintro hc77 w73 ⟨b74, S75, K76⟩
        replace h63 := h63.move (K76.at 0 rfl)
        replace h6 := h6.move (K76.at 1 rfl)
        replace h10 := h10.move (K76.at 2 rfl)
        replace b3 := K76.blk 3 rfl b3
        refine ⟨⟨(Ext.trans E68 S75.inv), (fun q_ => absurd q_ (by decide +kernel))⟩, fun hs78 => ?_⟩
        clear b20
        refine xn (by kernel_rfl) ?_ _
        refine inb_n (then_n ?_)
        have S79 := S75.pull (F := F64) (Fr := [(is g19), F7, F11, (is g2), F17]) 1 rfl rfl
        have S80 := S79.pull (F := (is g2)) (Fr := [F64, (is g19), F7, F11, F17]) 4 rfl rfl
        have S81 := S80.pull (F := F11) (Fr := [(is g2), F64, (is g19), F7, F17]) 4 rfl rfl
        have S82 := S81.pull (F := F7) (Fr := [F11, (is g2), F64, (is g19), F17]) 4 rfl rfl
        have S83 := S82.pull (F := (is g19)) (Fr := [F7, F11, (is g2), F64, F17]) 4 rfl rfl
        have S84 := St.first (Fa := [(is g19), F7, F11, (is g2), F64]) (Fr := [F17]) S83
        exact ⟨_, H59, x13.n, t56.kind, t56.n, t56.text, A61, c62, F64, rfl, (by kernel_rfl), (by kernel_rfl), (by kernel_rfl), b74, h6, h10, b3, h63, E68, S84, M⟩
      replace M := ifn q43 M
      refine cond_f rfl (bf q43 (by kernel_rfl)) (wp_seq (wp_region_lit (lv (d := 24) rfl rfl (by kernel_rfl) (e_fieldAddr (b := g19) (off := 0) (o := 0) Try.underlying36 rfl rfl (sz := 1) (by kernel_rfl) (by decide) (by kernel_rfl)) (lv (d := 25) rfl rfl (by kernel_rfl) (e_load1 (ad := ⟨g19, 0 + 0, none⟩) (v := .int .i64 x13.kind) Try.underlying3 rfl (by kernel_rfl) (blk_cell b20 rfl)) (lv (d := 26) rfl rfl (by kernel_rfl) (e_neq (k := .i64) (a := x13.kind) (b := 0) (by kernel_rfl) rfl) (lv (d := 27) rfl rfl (by kernel_rfl) (e_move (v := .bool (decide (x13.kind ≠ 0))) (by kernel_rfl)) ?_))))))
      by_cases q85 : x13.kind ≠ 0
      · replace M := ifp q85 M
        refine lvg (d := 28) (t := 27) rfl (by kernel_rfl) rfl (bt q85 (by kernel_rfl)) rfl (by kernel_rfl) (e_move (v := .pointer (some ⟨g2, 0, none⟩)) (by kernel_rfl)) (lvg (d := 29) (t := 27) rfl (by kernel_rfl) rfl (bt q85 (by kernel_rfl)) rfl (by kernel_rfl) (e_move (v := .int .i64 x12) (by kernel_rfl)) (lvg (d := 30) (t := 27) rfl (by kernel_rfl) rfl (bt q85 (by kernel_rfl)) rfl (by kernel_rfl) (e_loadS (b := g19) (off := 0) (cs := [.int .i64 x13.kind, .int .i64 x13.n, .slice A14 x13.text.length c15]) Try.underlying36 rfl (by kernel_rfl) (by kernel_rfl) (blk_cells b20 rfl)) ?_))
        refine lveg (d := 31) (wanted_t (d := 27) rfl rfl (by kernel_rfl) (bt q85 (by kernel_rfl))) rfl (by kernel_rfl) (e_makeMap S21 encI tBool) ?_
        rintro _ w86 ⟨g87, rfl, h88, S89, K90⟩
        replace b20 := K90.blk 0 rfl b20
        replace h6 := h6.move (K90.at 1 rfl)
        replace h10 := h10.move (K90.at 2 rfl)
        replace b3 := K90.blk 3 rfl b3
        replace h16 := h16.move (K90.at 4 rfl)
        have S91 := S89.pull (F := F17) (Fr := [(is g87), (is g19), F7, F11, (is g2)]) 5 rfl rfl
        have l92 := h16.le
        obtain ⟨H93, S94, E95, h96, z97⟩ := S91.frzRow h16
        have h98 := h88.ext E95
        have h99 := h6.ext E95
        have h100 := h10.ext E95
        have S101 := S94.pull (F := F7) (Fr := [(is g87), (is g19), F11, (is g2)]) 2 rfl rfl
        have l102 := h99.le
        obtain ⟨H103, S104, E105, h106, z107⟩ := S101.frzRow h99
        have h108 := h98.ext E105
        have h109 := h100.ext E105
        have S110 := S104.pull (F := F11) (Fr := [(is g87), (is g19), (is g2)]) 2 rfl rfl
        have l111 := h109.le
        obtain ⟨H112, S113, E114, h115, z116⟩ := S110.frzRow h109
        have h117 := h108.ext E114
        have S118 := S113.pull (F := (is g2)) (Fr := [(is g87), (is g19)]) 2 rfl rfl
        obtain ⟨H119, S120, E121, h122, z123⟩ := S118.frzBlk b3
        have h124 := h117.ext E121
        obtain ⟨t125, u126, M⟩ := bnd M
        refine lcall_w (wanted_t (d := 27) rfl rfl (by kernel_rfl) (bt q85 (by kernel_rfl))) (by kernel_rfl) (e_call (l := [.tmp 28, .tmp 29, .tmp 30, .tmp 31]) (vs := [.pointer (some ⟨g2, 0, none⟩), .int .i64 x12, .agg #[.int .i64 x13.kind, .int .i64 x13.n, .slice A14 x13.text.length c15], .map (some g87)]) Try.func72 (by kernel_rfl) rfl (by kernel_rfl) rfl) (impl_Store_within.calls k w86 H119 x1 g2 A4 c5 A8 c9 x12 x13 A14 c15 [] g87 (h106.ext (E114.trans E121)) l102 (h115.ext E121) l111 h122 (h96.ext ((E105.trans E114).trans E121)) l92 h124 (St.own' (Fa := [(is g87)]) (Fr := [(is g19)]) S120) t125 u126) ?_
        rintro _ w127 ⟨H128, rfl, h130, T129⟩
        refine ⟨_, rfl, ?_⟩
        obtain ⟨S131, K132⟩ := St.call (Fa := [(is g87)]) (Fr := [(is g19)]) S120 T129
        replace b20 := K132.blk 0 rfl b20
        obtain ⟨H133, S134, E135, v136⟩ := St.thaw2 S118 z123 S131 T129.ext E121
        replace b3 := (v136 _ rfl).trans b3
        obtain ⟨H137, S138, E139, v140⟩ := St.thaw2 S110 z116 S134 E135 E114
        replace h10 := h10.move v140
        obtain ⟨H141, S142, E143, v144⟩ := St.thaw2 S101 z107 S138 E139 E105
        replace h6 := h6.move v144
        obtain ⟨H145, S146, E147, v148⟩ := St.thaw2 S91 z97 S142 E143 E95
        replace h16 := h16.move v148
        replace h16 := h16.ext E147
        replace h6 := h6.ext E147
        replace h10 := h10.ext E147
        refine lv (d := 33) rfl rfl (by kernel_rfl) (e_pick_t (v := .bool t125.1) (bt q85 (by kernel_rfl)) (by kernel_rfl)) (lv (d := 23) rfl rfl (by kernel_rfl) (e_assign (v := .bool t125.1) (by kernel_rfl)) (wpList_nil (then_n ?_)))
        by_cases q149 : t125.1 = true
        · replace M := ifp q149 M
          refine cond_t rfl (bvt q149 (by kernel_rfl)) (wp_seq (wp_region_lit (lv (d := 6) rfl rfl (by kernel_rfl) (e_assign (v := .int .i64 5) rfl) (wpList_nil (then_n (wp_ret (inb_r ?_)))))))
          refine then_r ?_
          obtain rfl := Option.some.inj M
          have S150 := S146.pull (F := F11) (Fr := [F17, F7, (is g2), (is g87), (is g19)]) 2 rfl rfl
          have S151 := S150.pull (F := F7) (Fr := [F11, F17, (is g2), (is g87), (is g19)]) 2 rfl rfl
          have S152 := S151.pull (F := (is g2)) (Fr := [F7, F11, F17, (is g87), (is g19)]) 3 rfl rfl
          have S153 := St.first (Fa := [(is g2), F7, F11]) (Fr := [F17, (is g87), (is g19)]) S152
          exact ret1 rfl rfl  (show _ = .int .i64 5 from (by kernel_rfl)) ⟨A4, c5, F7, A8, c9, F11, H145, rfl, h6, h10, b3, S153⟩
        replace M := ifn q149 M
        refine cond_f rfl (bvf q149 (by kernel_rfl)) (wp_skip (inb_n (then_n ?_)))
        have S154 := S146.pull (F := (is g2)) (Fr := [F17, F7, F11, (is g87), (is g19)]) 3 rfl rfl
        have S155 := S154.pull (F := F11) (Fr := [(is g2), F17, F7, (is g87), (is g19)]) 3 rfl rfl
        have S156 := S155.pull (F := F7) (Fr := [F11, (is g2), F17, (is g87), (is g19)]) 3 rfl rfl
        have S157 := S156.pull (F := (is g19)) (Fr := [F7, F11, (is g2), F17, (is g87)]) 5 rfl rfl
        have S158 := St.first (Fa := [(is g19), F7, F11, (is g2), F17]) (Fr := [(is g87)]) S157
        exact ⟨_, H145, x12, x13.kind, x13.n, x13.text, A14, c15, F17, rfl, (by kernel_rfl), (by kernel_rfl), (by kernel_rfl), b20, h6, h10, b3, h16, E147, S158, M⟩
      replace M := ifn q85 M
      refine lskip (t := 27) (c := false) rfl (by kernel_rfl) rfl (bf q85 (by kernel_rfl)) rfl rfl ?_
      refine lskip (t := 27) (c := false) rfl (by kernel_rfl) rfl (bf q85 (by kernel_rfl)) rfl rfl ?_
      refine lskip (t := 27) (c := false) rfl (by kernel_rfl) rfl (bf q85 (by kernel_rfl)) rfl rfl ?_
      refine lskip (t := 27) (c := false) rfl (by kernel_rfl) rfl (bf q85 (by kernel_rfl)) rfl rfl ?_
      refine lskip (t := 27) (c := false) rfl (by kernel_rfl) rfl (bf q85 (by kernel_rfl)) rfl rfl ?_
      refine lv (d := 33) rfl rfl (by kernel_rfl) (e_pick_f (v := .bool false) (bf q85 (by kernel_rfl)) rfl) (lv (d := 23) rfl rfl (by kernel_rfl) (e_assign (v := .bool false) (by kernel_rfl)) (wpList_nil (then_n (cond_f rfl (by kernel_rfl) (wp_skip (inb_n (then_n ?_)))))))
      exact ⟨_, H, x12, x13.kind, x13.n, x13.text, A14, c15, F17, rfl, (by kernel_rfl), (by kernel_rfl), (by kernel_rfl), b20, h6, h10, b3, h16, (Ext.refl _), S21, M⟩
    replace M := ifn q42 M
    refine lskip (t := 13) (c := false) rfl (by kernel_rfl) rfl (bf q42 (by kernel_rfl)) rfl rfl ?_
    refine lskip (t := 13) (c := false) rfl (by kernel_rfl) rfl (bf q42 (by kernel_rfl)) rfl rfl ?_
    refine lskip (t := 13) (c := false) rfl (by kernel_rfl) rfl (bf q42 (by kernel_rfl)) rfl rfl ?_
    refine lskip (t := 13) (c := false) rfl (by kernel_rfl) rfl (bf q42 (by kernel_rfl)) rfl rfl ?_
    refine lv (d := 18) rfl rfl (by kernel_rfl) (e_pick_f (v := .bool false) (bf q42 (by kernel_rfl)) rfl) (lv (d := 9) rfl rfl (by kernel_rfl) (e_assign (v := .bool false) (by kernel_rfl)) (wpList_nil (then_n (cond_f rfl (by kernel_rfl) (wp_seq (wp_region_lit (lv (d := 24) rfl rfl (by kernel_rfl) (e_fieldAddr (b := g19) (off := 0) (o := 0) Try.underlying36 rfl rfl (sz := 1) (by kernel_rfl) (by decide) (by kernel_rfl)) ?_)))))))
    refine lv (d := 25) rfl rfl (by kernel_rfl) (e_load1 (ad := ⟨g19, 0 + 0, none⟩) (v := .int .i64 x13.kind) Try.underlying3 rfl (by kernel_rfl) (blk_cell b20 rfl)) (lv (d := 26) rfl rfl (by kernel_rfl) (e_neq (k := .i64) (a := x13.kind) (b := 0) (by kernel_rfl) rfl) (lv (d := 27) rfl rfl (by kernel_rfl) (e_move (v := .bool (decide (x13.kind ≠ 0))) (by kernel_rfl)) ?_))
    by_cases q159 : x13.kind ≠ 0
    · replace M := ifp q159 M
      refine lvg (d := 28) (t := 27) rfl (by kernel_rfl) rfl (bt q159 (by kernel_rfl)) rfl (by kernel_rfl) (e_move (v := .pointer (some ⟨g2, 0, none⟩)) (by kernel_rfl)) (lvg (d := 29) (t := 27) rfl (by kernel_rfl) rfl (bt q159 (by kernel_rfl)) rfl (by kernel_rfl) (e_move (v := .int .i64 x12) (by kernel_rfl)) (lvg (d := 30) (t := 27) rfl (by kernel_rfl) rfl (bt q159 (by kernel_rfl)) rfl (by kernel_rfl) (e_loadS (b := g19) (off := 0) (cs := [.int .i64 x13.kind, .int .i64 x13.n, .slice A14 x13.text.length c15]) Try.underlying36 rfl (by kernel_rfl) (by kernel_rfl) (blk_cells b20 rfl)) ?_))
      refine lveg (d := 31) (wanted_t (d := 27) rfl rfl (by kernel_rfl) (bt q159 (by kernel_rfl))) rfl (by kernel_rfl) (e_makeMap S21 encI tBool) ?_
      rintro _ w160 ⟨g161, rfl, h162, S163, K164⟩
      replace b20 := K164.blk 0 rfl b20
      replace h6 := h6.move (K164.at 1 rfl)
      replace h10 := h10.move (K164.at 2 rfl)
      replace b3 := K164.blk 3 rfl b3
      replace h16 := h16.move (K164.at 4 rfl)
      have S165 := S163.pull (F := F17) (Fr := [(is g161), (is g19), F7, F11, (is g2)]) 5 rfl rfl
      have l166 := h16.le
      obtain ⟨H167, S168, E169, h170, z171⟩ := S165.frzRow h16
      have h172 := h162.ext E169
      have h173 := h6.ext E169
      have h174 := h10.ext E169
      have S175 := S168.pull (F := F7) (Fr := [(is g161), (is g19), F11, (is g2)]) 2 rfl rfl
      have l176 := h173.le
      obtain ⟨H177, S178, E179, h180, z181⟩ := S175.frzRow h173
      have h182 := h172.ext E179
      have h183 := h174.ext E179
      have S184 := S178.pull (F := F11) (Fr := [(is g161), (is g19), (is g2)]) 2 rfl rfl
      have l185 := h183.le
      obtain ⟨H186, S187, E188, h189, z190⟩ := S184.frzRow h183
      have h191 := h182.ext E188
      have S192 := S187.pull (F := (is g2)) (Fr := [(is g161), (is g19)]) 2 rfl rfl
      obtain ⟨H193, S194, E195, h196, z197⟩ := S192.frzBlk b3
      have h198 := h191.ext E195
      obtain ⟨t199, u200, M⟩ := bnd M
      refine lcall_w (wanted_t (d := 27) rfl rfl (by kernel_rfl) (bt q159 (by kernel_rfl))) (by kernel_rfl) (e_call (l := [.tmp 28, .tmp 29, .tmp 30, .tmp 31]) (vs := [.pointer (some ⟨g2, 0, none⟩), .int .i64 x12, .agg #[.int .i64 x13.kind, .int .i64 x13.n, .slice A14 x13.text.length c15], .map (some g161)]) Try.func72 (by kernel_rfl) rfl (by kernel_rfl) rfl) (impl_Store_within.calls k w160 H193 x1 g2 A4 c5 A8 c9 x12 x13 A14 c15 [] g161 (h180.ext (E188.trans E195)) l176 (h189.ext E195) l185 h196 (h170.ext ((E179.trans E188).trans E195)) l166 h198 (St.own' (Fa := [(is g161)]) (Fr := [(is g19)]) S194) t199 u200) ?_
      rintro _ w201 ⟨H202, rfl, h204, T203⟩
      refine ⟨_, rfl, ?_⟩
      obtain ⟨S205, K206⟩ := St.call (Fa := [(is g161)]) (Fr := [(is g19)]) S194 T203
      replace b20 := K206.blk 0 rfl b20
      obtain ⟨H207, S208, E209, v210⟩ := St.thaw2 S192 z197 S205 T203.ext E195
      replace b3 := (v210 _ rfl).trans b3
      obtain ⟨H211, S212, E213, v214⟩ := St.thaw2 S184 z190 S208 E209 E188
      replace h10 := h10.move v214
      obtain ⟨H215, S216, E217, v218⟩ := St.thaw2 S175 z181 S212 E213 E179
      replace h6 := h6.move v218
      obtain ⟨H219, S220, E221, v222⟩ := St.thaw2 S165 z171 S216 E217 E169
      replace h16 := h16.move v222
      replace h16 := h16.ext E221
      replace h6 := h6.ext E221
      replace h10 := h10.ext E221
      refine lv (d := 33) rfl rfl (by kernel_rfl) (e_pick_t (v := .bool t199.1) (bt q159 (by kernel_rfl)) (by kernel_rfl)) (lv (d := 23) rfl rfl (by kernel_rfl) (e_assign (v := .bool t199.1) (by kernel_rfl)) (wpList_nil (then_n ?_)))
      by_cases q223 : t199.1 = true
      · replace M := ifp q223 M
        refine cond_t rfl (bvt q223 (by kernel_rfl)) (wp_seq (wp_region_lit (lv (d := 6) rfl rfl (by kernel_rfl) (e_assign (v := .int .i64 5) rfl) (wpList_nil (then_n (wp_ret (inb_r ?_)))))))
        refine then_r ?_
        obtain rfl := Option.some.inj M
        have S224 := S220.pull (F := F11) (Fr := [F17, F7, (is g2), (is g161), (is g19)]) 2 rfl rfl
        have S225 := S224.pull (F := F7) (Fr := [F11, F17, (is g2), (is g161), (is g19)]) 2 rfl rfl
        have S226 := S225.pull (F := (is g2)) (Fr := [F7, F11, F17, (is g161), (is g19)]) 3 rfl rfl
        have S227 := St.first (Fa := [(is g2), F7, F11]) (Fr := [F17, (is g161), (is g19)]) S226
        exact ret1 rfl rfl  (show _ = .int .i64 5 from (by kernel_rfl)) ⟨A4, c5, F7, A8, c9, F11, H219, rfl, h6, h10, b3, S227⟩
      replace M := ifn q223 M
      refine cond_f rfl (bvf q223 (by kernel_rfl)) (wp_skip (inb_n (then_n ?_)))
      have S228 := S220.pull (F := (is g2)) (Fr := [F17, F7, F11, (is g161), (is g19)]) 3 rfl rfl
      have S229 := S228.pull (F := F11) (Fr := [(is g2), F17, F7, (is g161), (is g19)]) 3 rfl rfl
      have S230 := S229.pull (F := F7) (Fr := [F11, (is g2), F17, (is g161), (is g19)]) 3 rfl rfl
      have S231 := S230.pull (F := (is g19)) (Fr := [F7, F11, (is g2), F17, (is g161)]) 5 rfl rfl
      have S232 := St.first (Fa := [(is g19), F7, F11, (is g2), F17]) (Fr := [(is g161)]) S231
      exact ⟨_, H219, x12, x13.kind, x13.n, x13.text, A14, c15, F17, rfl, (by kernel_rfl), (by kernel_rfl), (by kernel_rfl), b20, h6, h10, b3, h16, E221, S232, M⟩
    replace M := ifn q159 M
    refine lskip (t := 27) (c := false) rfl (by kernel_rfl) rfl (bf q159 (by kernel_rfl)) rfl rfl ?_
    refine lskip (t := 27) (c := false) rfl (by kernel_rfl) rfl (bf q159 (by kernel_rfl)) rfl rfl ?_
    refine lskip (t := 27) (c := false) rfl (by kernel_rfl) rfl (bf q159 (by kernel_rfl)) rfl rfl ?_
    refine lskip (t := 27) (c := false) rfl (by kernel_rfl) rfl (bf q159 (by kernel_rfl)) rfl rfl ?_
    refine lskip (t := 27) (c := false) rfl (by kernel_rfl) rfl (bf q159 (by kernel_rfl)) rfl rfl ?_
    refine lv (d := 33) rfl rfl (by kernel_rfl) (e_pick_f (v := .bool false) (bf q159 (by kernel_rfl)) rfl) (lv (d := 23) rfl rfl (by kernel_rfl) (e_assign (v := .bool false) (by kernel_rfl)) (wpList_nil (then_n (cond_f rfl (by kernel_rfl) (wp_skip (inb_n (then_n ?_)))))))
    exact ⟨_, H, x12, x13.kind, x13.n, x13.text, A14, c15, F17, rfl, (by kernel_rfl), (by kernel_rfl), (by kernel_rfl), b20, h6, h10, b3, h16, (Ext.refl _), S21, M⟩
  clear M
  rintro a41 w23 ⟨f24, H25, x27, x28, x29, x30, A31, c32, F33, rfl, e35, e36, e37, b20, h6, h10, b3, h34, Y26, S38, M⟩
  rw [impl_Store_bind_2.l0] at M
  refine wp_seq (wp_seq (wp_region_lit (lv (d := 34) rfl rfl (by kernel_rfl) (e_move (v := .pointer (some ⟨g2, 0, none⟩)) (by exact e35)) (lv (d := 35) rfl rfl (by kernel_rfl) (e_nilCheck (ad := ⟨g2, 0, none⟩) (by kernel_rfl)) (lv (d := 36) rfl rfl (by kernel_rfl) (e_fieldAddr (b := g2) (off := 0) (o := 1) Try.underlying34 rfl rfl (sz := 1) (by kernel_rfl) (by decide) (by kernel_rfl)) (lv (d := 37) rfl rfl (by kernel_rfl) (e_load1 (ad := ⟨g2, 0 + 1, none⟩) (v := .slice A8 x1.trail.length c9) Try.underlying23 rfl (by kernel_rfl) (blk_cell b3 rfl)) (lv (d := 38) rfl rfl (by kernel_rfl) (e_len (A := A8) (n := x1.trail.length) (c := c9) Try.underlying23 (by kernel_rfl)) ?_)))))))
  refine lv (d := 39) rfl rfl (by kernel_rfl) (e_geq (k := .i64) (a := (x1.trail.length : Int)) (b := 20000) (by kernel_rfl) rfl) (wpList_nil (then_n ?_))
  by_cases q233 : (x1.trail.length : Int) ≥ 20000
  · replace M := ifp q233 M
    refine cond_t rfl (bt q233 (by kernel_rfl)) (wp_seq (wp_region_lit (lv (d := 6) rfl rfl (by kernel_rfl) (e_assign (v := .int .i64 10) rfl) (wpList_nil (then_n (wp_ret (then_r ?_)))))))
    obtain rfl := Option.some.inj M
    have S234 := S38.pull (F := F11) (Fr := [(is g19), F7, (is g2), F33]) 2 rfl rfl
    have S235 := S234.pull (F := F7) (Fr := [F11, (is g19), (is g2), F33]) 2 rfl rfl
    have S236 := S235.pull (F := (is g2)) (Fr := [F7, F11, (is g19), F33]) 3 rfl rfl
    have S237 := St.first (Fa := [(is g2), F7, F11]) (Fr := [(is g19), F33]) S236
    exact ret1 rfl rfl  (show _ = .int .i64 10 from (by kernel_rfl)) ⟨A4, c5, F7, A8, c9, F11, H25, rfl, h6, h10, b3, S237⟩
  replace M := ifn q233 M
  refine cond_f rfl (bf q233 (by kernel_rfl)) (wp_skip (then_n (wp_seq ?_)))
  refine region_mix (S := (fun (L_ : Array Bool) (w_ : World) => Ext H25 (hp w_) ∧ (∀ b_, (is g2) b_ → hp w_ b_ = hp w23 b_))) (by kernel_rfl) S38 ?_
  intro w238 S239 K240 hc241
  have o242 := b3
  have hs243 : (fun (L_ : Array Bool) (w_ : World) => Ext H25 (hp w_) ∧ (∀ b_, (is g2) b_ → hp w_ b_ = hp w23 b_)) (Array.replicate 8 false) w238 := ⟨S239.inv, (fun b_ h_ => K240.at 3 rfl b_ h_)⟩
  replace b20 := K240.blk 0 rfl b20
  replace h6 := h6.move (K240.at 1 rfl)
  replace h10 := h10.move (K240.at 2 rfl)
  replace b3 := K240.blk 3 rfl b3
  replace h34 := h34.move (K240.at 4 rfl)
  refine xv (i := 0) (d := 40) rfl rfl rfl (by kernel_rfl) (by kernel_rfl) (fun _ _ => Iff.rfl) hc241 hs243 (fun L_ w_ hc_ hu_ hs_ => e_move (v := .pointer (some ⟨g2, 0, none⟩)) (by exact e35)) ?_; intro hc244 hs245
  refine xv (i := 1) (d := 41) rfl rfl rfl (by kernel_rfl) (by kernel_rfl) (fun _ _ => Iff.rfl) hc244 hs245 (fun L_ w_ hc_ hu_ hs_ => e_nilCheck (ad := ⟨g2, 0, none⟩) (by kernel_rfl)) ?_; intro hc246 hs247
  refine xv (i := 2) (d := 42) rfl rfl rfl (by kernel_rfl) (by kernel_rfl) (fun _ _ => Iff.rfl) hc246 hs247 (fun L_ w_ hc_ hu_ hs_ => e_fieldAddr (b := g2) (off := 0) (o := 0) Try.underlying34 rfl rfl (sz := 1) (by kernel_rfl) (by decide) (by kernel_rfl)) ?_; intro hc248 hs249
  refine xv (i := 3) (d := 43) rfl rfl rfl (by kernel_rfl) (by kernel_rfl) (fun _ _ => Iff.rfl) hc248 hs249 (fun L_ w_ hc_ hu_ hs_ => e_load1 (ad := ⟨g2, 0 + 0, none⟩) (v := .slice A4 x1.cells.length c5) Try.underlying32 rfl (by kernel_rfl) (blk_cell ((hs_.2 _ rfl).trans o242) rfl)) ?_; intro hc250 hs251
  refine xv (i := 4) (d := 44) rfl rfl rfl (by kernel_rfl) (by kernel_rfl) (fun _ _ => Iff.rfl) hc250 hs251 (fun L_ w_ hc_ hu_ hs_ => e_move (v := .int .i64 x27) (by exact e37)) ?_; intro hc252 hs253
  refine xone (i := 5) (by kernel_rfl) hc252 ?_
  refine yo (i := 5) (d := 45) rfl rfl (wanted_none rfl _) (by kernel_rfl) (by kernel_rfl) (fun _ _ => Iff.rfl) hs253 (e_loadS (b := g19) (off := 0) (cs := [.int .i64 x28, .int .i64 x29, .slice A31 x30.length c32]) Try.underlying36 rfl (by kernel_rfl) (by exact e36) (blk_cells b20 rfl)) ?_; intro hc254 hs255
  obtain ⟨q256, M⟩ := chk M
  obtain ⟨q257, M⟩ := chk M
  obtain ⟨b258, e260⟩ := Row.addr h6 (show (x27).toNat < x1.cells.length by omega)
  refine xone (i := 6) (by kernel_rfl) hc254 ?_
  refine yo (i := 6) (d := 46) rfl rfl (wanted_none rfl _) (by kernel_rfl) (by kernel_rfl) (fun _ _ => Iff.rfl) hs255 (e_indexAddr (b := b258) (off := 0) (n := x1.cells.length) (c := c5) (sz := 3) (i := x27) (k := .i64) Try.underlying32 e260 (by kernel_rfl) (by kernel_rfl) (by kernel_rfl) q256 q257) ?_; intro hc261 hs262
  have S263 := S239.pull (F := F33) (Fr := [(is g19), F7, F11, (is g2)]) 4 rfl rfl
  have S264 := S263.pull (F := F7) (Fr := [F33, (is g19), F11, (is g2)]) 2 rfl rfl
  refine xone (i := 7) (by kernel_rfl) hc261 ?_
  refine ys (i := 7) rfl rfl (wanted_none rfl _) (by kernel_rfl) (by kernel_rfl) (e_setel (d := st36) (b := b258) (i := (x27).toNat) (v := .agg #[.int .i64 x28, .int .i64 x29, .slice A31 x30.length c32]) (vs := [.int .i64 x28, .int .i64 x29, .slice A31 x30.length c32]) (yv := (⟨x28, x29, x30⟩ : Cell)) S264 (by kernel_rfl) e260 (by kernel_rfl) rfl (by kernel_rfl) h6 (show (x27).toNat < x1.cells.length by omega) (st36_mkO (x := (⟨x28, x29, x30⟩ : Cell)) h34)) ?_
  rintro hc270 w265 ⟨F267, h266, S268, K269⟩
  replace h10 := h10.move (K269.at 1 rfl)
  replace b3 := K269.blk 2 rfl b3
  refine ⟨⟨S268.inv, (fun b_ h_ => (K269.at 2 rfl b_ h_).trans (hs262.2 b_ h_))⟩, fun hs271 => ?_⟩
  clear h6
  refine xn (by kernel_rfl) ?_ _
  refine then_n (wp_seq (wp_region_lit (lv (d := 47) rfl rfl (by kernel_rfl) (e_move (v := .pointer (some ⟨g2, 0, none⟩)) (by exact e35)) (lv (d := 48) rfl rfl (by kernel_rfl) (e_move (v := .pointer (some ⟨g2, 0, none⟩)) (by exact e35)) (lv (d := 49) rfl rfl (by kernel_rfl) (e_nilCheck (ad := ⟨g2, 0, none⟩) (by kernel_rfl)) (lv (d := 50) rfl rfl (by kernel_rfl) (e_fieldAddr (b := g2) (off := 0) (o := 1) Try.underlying34 rfl rfl (sz := 1) (by kernel_rfl) (by decide) (by kernel_rfl)) (lv (d := 51) rfl rfl (by kernel_rfl) (e_load1 (ad := ⟨g2, 0 + 1, none⟩) (v := .slice A8 x1.trail.length c9) Try.underlying23 rfl (by kernel_rfl) (blk_cell b3 rfl)) ?_)))))))
  refine lv (d := 52) rfl rfl (by kernel_rfl) (e_move (v := .int .i64 x27) (by exact e37)) ?_
  refine lve (d := 53) rfl rfl (by kernel_rfl) (new_blk (v := fun g_ => .slice (some ⟨g_, 0, none⟩) 1 1) (cs := #[.int .i64 x27]) (t := 3) S268 (by kernel_rfl)) ?_
  rintro _ w272 ⟨g273, rfl, b274, S275, K276⟩
  replace h266 := h266.move (K276.at 0 rfl)
  replace h10 := h10.move (K276.at 2 rfl)
  replace b3 := K276.blk 3 rfl b3
  obtain ⟨q277, M⟩ := chk M
  have S278 := S275.pull (F := F11) (Fr := [(is g273), F267, (is g19), (is g2)]) 3 rfl rfl
  have S279 := S278.unit
  have S280 := S279.pull (F := F11) (Fr := [no, (is g273), F267, (is g19), (is g2)]) 1 rfl rfl
  refine lve (d := 54) rfl rfl (by kernel_rfl) (e_append (d := tInt) (n := x1.trail.length) (xs := x1.trail) (cap := c9) (A := A8) (ys := [x27]) (A2 := (some ⟨g273, 0, none⟩)) (c2 := 1) (z := .int .i64 0) (bytes := 8) S280 Try.underlying23 (by kernel_rfl) rfl (by decide) (by kernel_rfl) rfl (by kernel_rfl) h10 (elsO_one1 rfl) (.inr (blk_news b274 rfl)) (show (x1.trail.length + [x27].length) * 8 ≤ _ by first | omega | (simp only [List.length_cons, List.length_nil]; omega)) (by decide)) ?_
  rintro _ w281 ⟨A282, c283, F284, rfl, h285, S286, K287⟩
  replace h266 := h266.move (K287.at 1 rfl)
  replace b3 := K287.blk 3 rfl b3
  refine lv (d := 55) rfl rfl (by kernel_rfl) (e_nilCheck (ad := ⟨g2, 0, none⟩) (by kernel_rfl)) (lv (d := 56) rfl rfl (by kernel_rfl) (e_fieldAddr (b := g2) (off := 0) (o := 1) Try.underlying34 rfl rfl (sz := 1) (by kernel_rfl) (by decide) (by kernel_rfl)) ?_)
  have S288 := S286.pull (F := (is g2)) (Fr := [F284, (is g273), F267, (is g19)]) 4 rfl rfl
  refine lse rfl rfl (by kernel_rfl) (e_store (g := g2) (o := 0 + 1) (v := .slice A282 ((x1.trail ++ [x27]).length) c283) (cur' := #[.slice A4 x1.cells.length c5, .slice A282 ((x1.trail ++ [x27]).length) c283]) (vs := [.slice A282 ((x1.trail ++ [x27]).length) c283]) S288 (by kernel_rfl) (by kernel_rfl) rfl (by kernel_rfl) b3 (Nat.le_of_ble_eq_true rfl) (List.forall_mem_cons.2 ⟨rfl, (fun _ h_ => by cases h_)⟩) rfl) ?_
  rintro w289 ⟨b290, S291, K292⟩
  replace h285 := h285.move (K292.at 0 rfl)
  replace h266 := h266.move (K292.at 2 rfl)
  clear b3
  refine wpList_nil (then_n (wp_seq (wp_region_lit (lv (d := 6) rfl rfl (by kernel_rfl) (e_assign (v := .int .i64 0) rfl) (wpList_nil (then_n (wp_ret ?_)))))))
  obtain rfl := Option.some.inj M
  have S293 := S291.pull (F := F284) (Fr := [(is g2), (is g273), F267, (is g19)]) 1 rfl rfl
  have S294 := S293.pull (F := F267) (Fr := [F284, (is g2), (is g273), (is g19)]) 3 rfl rfl
  have S295 := S294.pull (F := (is g2)) (Fr := [F267, F284, (is g273), (is g19)]) 2 rfl rfl
  have S296 := St.first (Fa := [(is g2), F267, F284]) (Fr := [(is g273), (is g19)]) S295
  exact ret1 rfl rfl  (show _ = .int .i64 0 from (by kernel_rfl)) ⟨A4, c5, F267, A282, c283, F284, H25, rfl, h266, h285, (by have q_ := b290; rw [← (show (x1.cells.set ((x27).toNat) (⟨x28, x29, x30⟩ : Cell)).length = x1.cells.length from (List.length_set.trans rfl))] at q_; exact q_), S296⟩
end Go.Proofs.Ytnigifmkjmbfiaa
