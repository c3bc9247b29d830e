import Derived.Test.YtdkbfcmekppnmaaWkLx1
namespace Go.Proofs.Ytdkbfcmekppnmaa
open Go.Sx Go.Sy
attribute [local irreducible] Go.wpList Go.wpStill Go.wpQuiet Go.Code.wp
set_option maxRecDepth 100000
set_option maxHeartbeats 1000000
set_option linter.unusedVariables false
set_option linter.unusedSimpArgs false

/-! spec_l1run -/
def spec_l1run.l0 : Nat → (List UInt8) → Int → Bool → Int → Option Int
  | 0, _, _, _, _ => none
  | k20 + 1, x1, x6, x7, x10 => (if (IntKind.i64.wrap (x6 + x10)) < (x1.length : Int) then (if x7 = true then (if 0 ≤ (IntKind.i64.wrap (x6 + x10)) then ((spec_l1symbol.f k20 (x1.getD (((IntKind.i64.wrap (x6 + x10))).toNat) (0 : UInt8))).bind fun t30 => (if t30 = true then (spec_l1run.l0 k20 x1 x6 x7 (IntKind.i64.wrap (x10 + 1))) else (if ¬ (x7 = true) then ((spec_l1alnum.f (x1.getD (((IntKind.i64.wrap (x6 + x10))).toNat) (0 : UInt8))).bind fun t44 => (if t44 = true then (spec_l1run.l0 k20 x1 x6 x7 (IntKind.i64.wrap (x10 + 1))) else some x10)) else some x10))) else none) else (if ¬ (x7 = true) then (if 0 ≤ (IntKind.i64.wrap (x6 + x10)) then ((spec_l1alnum.f (x1.getD (((IntKind.i64.wrap (x6 + x10))).toNat) (0 : UInt8))).bind fun t59 => (if t59 = true then (spec_l1run.l0 k20 x1 x6 x7 (IntKind.i64.wrap (x10 + 1))) else some x10)) else none) else some x10)) else some x10)
def spec_l1run.f (k : Nat) (x1 : List UInt8) (x6 : Int) (x7 : Bool) : Option Int := (spec_l1run.l0 k x1 x6 x7 0)
theorem spec_l1run.calls (k : Nat) (w : World) (H : Hp) (x1 : List UInt8) (A2 : Option Addr) (c3 : Nat) (x6 : Int) (x7 : Bool) (h4 : Rd tByte H A2 x1) (l5 : x1.length ≤ c3) (S : Own [] H w) (r : Int) (M : spec_l1run.f k x1 x6 x7 = some r) :
    Calls Try.prog 17 #[.slice A2 x1.length c3, .int .i64 x6, .bool x7] w (fun e e_w => e = .returned (.int .i64 r) ∧ Chg no w e_w) := by
  rw [spec_l1run.f] at M
  refine enter (l := [.slice A2 x1.length c3, .int .i64 x6, .bool x7]) 42 Try.func17 rfl rfl rfl ?_
  have S0_ := S.st
  refine wp_seq (wp_region_lit (lV 6 (eA (.int .i64 0)) (wpList_nil (then_n (wp_seq (wp_region_lit (lV 7 (eA (.int .i64 0)) ?_)))))))
  refine wpList_nil (then_n (wp_seq (wp_block ?_)))
  refine wp_loop_g (fun k18 a19 w8 => ∃ (f9 : Nat → Value) (x10 : Int), a19 = mk 42 f9 ∧ f9 0 = .slice A2 x1.length c3 ∧ f9 1 = .int .i64 x6 ∧ f9 2 = .bool x7 ∧ f9 7 = .int .i64 x10 ∧ St (anyOf []) H w [] H w8 ∧ spec_l1run.l0 k18 x1 x6 x7 x10 = some r) k ⟨_, 0, rfl, (by kernel_rfl), (by kernel_rfl), (by kernel_rfl), (by kernel_rfl), S0_, M⟩ ?_
  clear M
  rintro k18 a19 w8 ⟨f9, x10, rfl, e11, e12, e13, e14, S15, M⟩
  rcases k18 with _ | k20
  · rw [spec_l1run.l0] at M
    cases M
  rw [spec_l1run.l0] at M
  refine wp_seq (wp_seq (wp_region_lit (lV 8 (eM (.int .i64 x6) (by exact e12)) (lV 9 (eM (.int .i64 x10) (by exact e14)) (lV 10 (eAdd .i64 x6 x10) (lV 11 (eM (.slice A2 x1.length c3) (by exact e11)) (lV 12 (e_len (A := A2) (n := x1.length) (c := c3) Try.underlying23 (by kernel_rfl)) ?_)))))))
  refine lV 13 (eLt .i64 (IntKind.i64.wrap (x6 + x10)) (x1.length : Int)) (lV 14 (eM (.bool (decide ((IntKind.i64.wrap (x6 + x10)) < (x1.length : Int))))) ?_)
  by_cases q21 : (IntKind.i64.wrap (x6 + x10)) < (x1.length : Int)
  · replace M := ifp q21 M
    refine lG 15 14 (bT q21) (eM (.bool x7) (by exact e13)) (lG 16 14 (bT q21) (eM (.bool x7)) ?_)
    by_cases q22 : x7 = true
    · replace M := ifp q22 M
      refine lG 17 16 (bvt q22 (by kernel_rfl)) (eM (.slice A2 x1.length c3) (by exact e11)) (lG 18 16 (bvt q22 (by kernel_rfl)) (eM (.int .i64 x6) (by exact e12)) (lG 19 16 (bvt q22 (by kernel_rfl)) (eM (.int .i64 x10) (by exact e14)) (lG 20 16 (bvt q22 (by kernel_rfl)) (eAdd .i64 x6 x10) ?_)))
      obtain ⟨q23, M⟩ := chk M
      obtain ⟨b24, o25, e26⟩ := Rd.addr h4 (show ((IntKind.i64.wrap (x6 + x10))).toNat < x1.length by omega)
      obtain ⟨y27, r28, k29⟩ := Rd.at h4 e26 (getD_some (0 : UInt8) (show ((IntKind.i64.wrap (x6 + x10))).toNat < x1.length by omega))
      obtain rfl := r28
      refine lG 21 16 (bvt q22 (by kernel_rfl)) (eI b24 o25 x1.length c3 1 (IntKind.i64.wrap (x6 + x10)) .i64 Try.underlying23 e26 q23 q21) (lG 22 16 (bvt q22 (by kernel_rfl)) (eL ⟨b24, o25 + ((IntKind.i64.wrap (x6 + x10)) : Int).toNat * 1, none⟩ (.int .u8 ((x1.getD (((IntKind.i64.wrap (x6 + x10))).toNat) (0 : UInt8)).toNat : Int)) Try.underlying5 (hpx (S15.inv.cell (k29 0 _ rfl)))) ?_)
      obtain ⟨t30, u31, M⟩ := bnd M
      refine lcallg (d := 23) (t := 16) rfl (by kernel_rfl) rfl (bvt q22 (by kernel_rfl)) rfl (by kernel_rfl) (eC [.tmp 22] [.int .u8 ((x1.getD (((IntKind.i64.wrap (x6 + x10))).toNat) (0 : UInt8)).toNat : Int)] Try.func25) (spec_l1symbol.calls k20 w8 H (x1.getD (((IntKind.i64.wrap (x6 + x10))).toNat) (0 : UInt8))  S15.own0 t30 u31) ?_
      rintro _ w32 ⟨rfl, C33⟩
      refine ⟨_, rfl, ?_⟩
      obtain ⟨S34, K35⟩ := S15.still C33
      refine lG 24 14 (bT q21) (eT (.bool t30) (bvt q22 (by kernel_rfl))) (lG 25 14 (bT q21) (eM (.bool t30)) ?_)
      by_cases q36 : t30 = true
      · replace M := ifp q36 M
        refine lK 25 true (bvt q36 (by kernel_rfl)) ?_
        refine lK 25 true (bvt q36 (by kernel_rfl)) ?_
        refine lK 25 true (bvt q36 (by kernel_rfl)) ?_
        refine lskipu (t := 28) rfl (by kernel_rfl) rfl (by kernel_rfl) rfl ?_
        refine lskipu (t := 28) rfl (by kernel_rfl) rfl (by kernel_rfl) rfl ?_
        refine lskipu (t := 28) rfl (by kernel_rfl) rfl (by kernel_rfl) rfl ?_
        refine lskipu (t := 28) rfl (by kernel_rfl) rfl (by kernel_rfl) rfl ?_
        refine lskipu (t := 28) rfl (by kernel_rfl) rfl (by kernel_rfl) rfl ?_
        refine lskipu (t := 28) rfl (by kernel_rfl) rfl (by kernel_rfl) rfl ?_
        refine lskipu (t := 28) rfl (by kernel_rfl) rfl (by kernel_rfl) rfl ?_
        refine lK 25 true (bvt q36 (by kernel_rfl)) ?_
        refine lG 37 14 (bT q21) (eT (.bool true) (bvt q36 (by kernel_rfl))) (lV 38 (eT (.bool true) (bT q21)) (wpList_nil (then_n (cond_t rfl (by kernel_rfl) (wp_skip (then_n (wp_block ?_)))))))
        refine wp_region_lit (lV 39 (eM (.int .i64 x10) (by exact e14)) (lV 40 (eAdd .i64 x10 1) (lV 7 (eA (.int .i64 (IntKind.i64.wrap (x10 + 1)))) (wpList_nil (inb_n (then_n ?_))))))
        exact ⟨k20, (by omega), _, (IntKind.i64.wrap (x10 + 1)), rfl, (by exact e11), (by exact e12), (by exact e13), (by kernel_rfl), S34, M⟩
      replace M := ifn q36 M
      refine lG 26 25 (bvf q36 (by kernel_rfl)) (eM (.bool x7) (by exact e13)) (lG 27 25 (bvf q36 (by kernel_rfl)) (e_notv (c := x7) (by kernel_rfl)) (lG 28 25 (bvf q36 (by kernel_rfl)) (eM (.bool (decide (¬ (x7 = true))))) ?_))
      by_cases q37 : ¬ (x7 = true)
      · replace M := ifp q37 M
        refine lG 29 28 (bT q37) (eM (.slice A2 x1.length c3) (by exact e11)) (lG 30 28 (bT q37) (eM (.int .i64 x6) (by exact e12)) (lG 31 28 (bT q37) (eM (.int .i64 x10) (by exact e14)) (lG 32 28 (bT q37) (eAdd .i64 x6 x10) ?_)))
        obtain ⟨b38, o39, e40⟩ := Rd.addr h4 (show ((IntKind.i64.wrap (x6 + x10))).toNat < x1.length by omega)
        obtain ⟨y41, r42, k43⟩ := Rd.at h4 e40 (getD_some (0 : UInt8) (show ((IntKind.i64.wrap (x6 + x10))).toNat < x1.length by omega))
        obtain rfl := r42
        refine lG 33 28 (bT q37) (eI b38 o39 x1.length c3 1 (IntKind.i64.wrap (x6 + x10)) .i64 Try.underlying23 e40 q23 q21) (lG 34 28 (bT q37) (eL ⟨b38, o39 + ((IntKind.i64.wrap (x6 + x10)) : Int).toNat * 1, none⟩ (.int .u8 ((x1.getD (((IntKind.i64.wrap (x6 + x10))).toNat) (0 : UInt8)).toNat : Int)) Try.underlying5 (hpx (S34.inv.cell (k43 0 _ rfl)))) ?_)
        obtain ⟨t44, u45, M⟩ := bnd M
        refine lcallg (d := 35) (t := 28) rfl (by kernel_rfl) rfl (bT q37) rfl (by kernel_rfl) (eC [.tmp 34] [.int .u8 ((x1.getD (((IntKind.i64.wrap (x6 + x10))).toNat) (0 : UInt8)).toNat : Int)] Try.func26) (spec_l1alnum.calls w32 H (x1.getD (((IntKind.i64.wrap (x6 + x10))).toNat) (0 : UInt8))  S34.own0 t44 u45) ?_
        rintro _ w46 ⟨rfl, C47⟩
        refine ⟨_, rfl, ?_⟩
        obtain ⟨S48, K49⟩ := S34.still C47
        refine lG 36 25 (bvf q36 (by kernel_rfl)) (eT (.bool t44) (bT q37)) (lG 37 14 (bT q21) (eF (.bool t44) (bvf q36 (by kernel_rfl))) (lV 38 (eT (.bool t44) (bT q21)) (wpList_nil (then_n ?_))))
        by_cases q50 : t44 = true
        · replace M := ifp q50 M
          refine cT (bvt q50 (by kernel_rfl)) (wp_skip (then_n (wp_block (wp_region_lit (lV 39 (eM (.int .i64 x10) (by exact e14)) (lV 40 (eAdd .i64 x10 1) (lV 7 (eA (.int .i64 (IntKind.i64.wrap (x10 + 1)))) ?_)))))))
          refine wpList_nil (inb_n (then_n ?_))
          exact ⟨k20, (by omega), _, (IntKind.i64.wrap (x10 + 1)), rfl, (by exact e11), (by exact e12), (by exact e13), (by kernel_rfl), S48, M⟩
        replace M := ifn q50 M
        refine cF (bvf q50 (by kernel_rfl)) (wp_exit (then_e (then_e (inb_hit (then_n (wp_seq (wp_region_lit ?_)))))))
        refine lV 41 (eM (.int .i64 x10) (by exact e14)) (lV 6 (eA (.int .i64 x10)) (wpList_nil (then_n (wp_ret ?_))))
        obtain rfl := Option.some.inj M
        exact ret1 rfl rfl  (show _ = .int .i64 x10 from (by kernel_rfl)) ⟨rfl, S48.chg⟩
      replace M := ifn q37 M
      refine lK 28 false (bF q37) ?_
      refine lK 28 false (bF q37) ?_
      refine lK 28 false (bF q37) ?_
      refine lK 28 false (bF q37) ?_
      refine lK 28 false (bF q37) ?_
      refine lK 28 false (bF q37) ?_
      refine lK 28 false (bF q37) ?_
      refine lG 36 25 (bvf q36 (by kernel_rfl)) (eF (.bool false) (bF q37)) (lG 37 14 (bT q21) (eF (.bool false) (bvf q36 (by kernel_rfl))) (lV 38 (eT (.bool false) (bT q21)) (wpList_nil (then_n (cond_f rfl (by kernel_rfl) (wp_exit (then_e ?_)))))))
      refine then_e (inb_hit (then_n (wp_seq (wp_region_lit (lV 41 (eM (.int .i64 x10) (by exact e14)) (lV 6 (eA (.int .i64 x10)) (wpList_nil ?_)))))))
      refine then_n (wp_ret ?_)
      obtain rfl := Option.some.inj M
      exact ret1 rfl rfl  (show _ = .int .i64 x10 from (by kernel_rfl)) ⟨rfl, S34.chg⟩
    replace M := ifn q22 M
    refine lK 16 false (bvf q22 (by kernel_rfl)) ?_
    refine lK 16 false (bvf q22 (by kernel_rfl)) ?_
    refine lK 16 false (bvf q22 (by kernel_rfl)) ?_
    refine lK 16 false (bvf q22 (by kernel_rfl)) ?_
    refine lK 16 false (bvf q22 (by kernel_rfl)) ?_
    refine lK 16 false (bvf q22 (by kernel_rfl)) ?_
    refine lK 16 false (bvf q22 (by kernel_rfl)) ?_
    refine lG 24 14 (bT q21) (eF (.bool false) (bvf q22 (by kernel_rfl))) (lG 25 14 (bT q21) (eM (.bool false)) (lH 26 25 (eM (.bool x7) (by exact e13)) (lH 27 25 (e_notv (c := x7) (by kernel_rfl)) (lH 28 25 (eM (.bool (decide (¬ (x7 = true))))) ?_))))
    by_cases q51 : ¬ (x7 = true)
    · replace M := ifp q51 M
      refine lG 29 28 (bT q51) (eM (.slice A2 x1.length c3) (by exact e11)) (lG 30 28 (bT q51) (eM (.int .i64 x6) (by exact e12)) (lG 31 28 (bT q51) (eM (.int .i64 x10) (by exact e14)) (lG 32 28 (bT q51) (eAdd .i64 x6 x10) ?_)))
      obtain ⟨q52, M⟩ := chk M
      obtain ⟨b53, o54, e55⟩ := Rd.addr h4 (show ((IntKind.i64.wrap (x6 + x10))).toNat < x1.length by omega)
      obtain ⟨y56, r57, k58⟩ := Rd.at h4 e55 (getD_some (0 : UInt8) (show ((IntKind.i64.wrap (x6 + x10))).toNat < x1.length by omega))
      obtain rfl := r57
      refine lG 33 28 (bT q51) (eI b53 o54 x1.length c3 1 (IntKind.i64.wrap (x6 + x10)) .i64 Try.underlying23 e55 q52 q21) (lG 34 28 (bT q51) (eL ⟨b53, o54 + ((IntKind.i64.wrap (x6 + x10)) : Int).toNat * 1, none⟩ (.int .u8 ((x1.getD (((IntKind.i64.wrap (x6 + x10))).toNat) (0 : UInt8)).toNat : Int)) Try.underlying5 (hpx (S15.inv.cell (k58 0 _ rfl)))) ?_)
      obtain ⟨t59, u60, M⟩ := bnd M
      refine lcallg (d := 35) (t := 28) rfl (by kernel_rfl) rfl (bT q51) rfl (by kernel_rfl) (eC [.tmp 34] [.int .u8 ((x1.getD (((IntKind.i64.wrap (x6 + x10))).toNat) (0 : UInt8)).toNat : Int)] Try.func26) (spec_l1alnum.calls w8 H (x1.getD (((IntKind.i64.wrap (x6 + x10))).toNat) (0 : UInt8))  S15.own0 t59 u60) ?_
      rintro _ w61 ⟨rfl, C62⟩
      refine ⟨_, rfl, ?_⟩
      obtain ⟨S63, K64⟩ := S15.still C62
      refine lH 36 25 (eT (.bool t59) (bT q51)) (lG 37 14 (bT q21) (eF (.bool t59)) (lV 38 (eT (.bool t59) (bT q21)) (wpList_nil (then_n ?_))))
      by_cases q65 : t59 = true
      · replace M := ifp q65 M
        refine cT (bvt q65 (by kernel_rfl)) (wp_skip (then_n (wp_block (wp_region_lit (lV 39 (eM (.int .i64 x10) (by exact e14)) (lV 40 (eAdd .i64 x10 1) (lV 7 (eA (.int .i64 (IntKind.i64.wrap (x10 + 1)))) ?_)))))))
        refine wpList_nil (inb_n (then_n ?_))
        exact ⟨k20, (by omega), _, (IntKind.i64.wrap (x10 + 1)), rfl, (by exact e11), (by exact e12), (by exact e13), (by kernel_rfl), S63, M⟩
      replace M := ifn q65 M
      refine cF (bvf q65 (by kernel_rfl)) (wp_exit (then_e (then_e (inb_hit (then_n (wp_seq (wp_region_lit ?_)))))))
      refine lV 41 (eM (.int .i64 x10) (by exact e14)) (lV 6 (eA (.int .i64 x10)) (wpList_nil (then_n (wp_ret ?_))))
      obtain rfl := Option.some.inj M
      exact ret1 rfl rfl  (show _ = .int .i64 x10 from (by kernel_rfl)) ⟨rfl, S63.chg⟩
    replace M := ifn q51 M
    refine lK 28 false (bF q51) ?_
    refine lK 28 false (bF q51) ?_
    refine lK 28 false (bF q51) ?_
    refine lK 28 false (bF q51) ?_
    refine lK 28 false (bF q51) ?_
    refine lK 28 false (bF q51) ?_
    refine lK 28 false (bF q51) ?_
    refine lH 36 25 (eF (.bool false) (bF q51)) (lG 37 14 (bT q21) (eF (.bool false)) (lV 38 (eT (.bool false) (bT q21)) (wpList_nil (then_n (cond_f rfl (by kernel_rfl) (wp_exit (then_e ?_)))))))
    refine then_e (inb_hit (then_n (wp_seq (wp_region_lit (lV 41 (eM (.int .i64 x10) (by exact e14)) (lV 6 (eA (.int .i64 x10)) (wpList_nil ?_)))))))
    refine then_n (wp_ret ?_)
    obtain rfl := Option.some.inj M
    exact ret1 rfl rfl  (show _ = .int .i64 x10 from (by kernel_rfl)) ⟨rfl, S15.chg⟩
  replace M := ifn q21 M
  refine lK 14 false (bF q21) ?_
  refine lK 14 false (bF q21) ?_
  refine lskipu (t := 16) rfl (by kernel_rfl) rfl (by kernel_rfl) rfl ?_
  refine lskipu (t := 16) rfl (by kernel_rfl) rfl (by kernel_rfl) rfl ?_
  refine lskipu (t := 16) rfl (by kernel_rfl) rfl (by kernel_rfl) rfl ?_
  refine lskipu (t := 16) rfl (by kernel_rfl) rfl (by kernel_rfl) rfl ?_
  refine lskipu (t := 16) rfl (by kernel_rfl) rfl (by kernel_rfl) rfl ?_
  refine lskipu (t := 16) rfl (by kernel_rfl) rfl (by kernel_rfl) rfl ?_
  refine lskipu (t := 16) rfl (by kernel_rfl) rfl (by kernel_rfl) rfl ?_
  refine lK 14 false (bF q21) ?_
  refine lK 14 false (bF q21) ?_
  refine lskipu (t := 25) rfl (by kernel_rfl) rfl (by kernel_rfl) rfl ?_
  refine lskipu (t := 25) rfl (by kernel_rfl) rfl (by kernel_rfl) rfl ?_
  refine lskipu (t := 25) rfl (by kernel_rfl) rfl (by kernel_rfl) rfl ?_
  refine lskipu (t := 28) rfl (by kernel_rfl) rfl (by kernel_rfl) rfl ?_
  refine lskipu (t := 28) rfl (by kernel_rfl) rfl (by kernel_rfl) rfl ?_
  refine lskipu (t := 28) rfl (by kernel_rfl) rfl (by kernel_rfl) rfl ?_
  refine lskipu (t := 28) rfl (by kernel_rfl) rfl (by kernel_rfl) rfl ?_
  refine lskipu (t := 28) rfl (by kernel_rfl) rfl (by kernel_rfl) rfl ?_
  refine lskipu (t := 28) rfl (by kernel_rfl) rfl (by kernel_rfl) rfl ?_
  refine lskipu (t := 28) rfl (by kernel_rfl) rfl (by kernel_rfl) rfl ?_
  refine lskipu (t := 25) rfl (by kernel_rfl) rfl (by kernel_rfl) rfl ?_
  refine lK 14 false (bF q21) ?_
  refine lV 38 (eF (.bool false) (bF q21)) (wpList_nil (then_n (cond_f rfl (by kernel_rfl) (wp_exit (then_e (then_e (inb_hit ?_)))))))
  refine then_n (wp_seq (wp_region_lit (lV 41 (eM (.int .i64 x10) (by exact e14)) (lV 6 (eA (.int .i64 x10)) (wpList_nil (then_n (wp_ret ?_)))))))
  obtain rfl := Option.some.inj M
  exact ret1 rfl rfl  (show _ = .int .i64 x10 from (by kernel_rfl)) ⟨rfl, S15.chg⟩

/-! spec_l1text -/
def spec_l1text.l0 : Nat → (List UInt8) → Int → (List UInt8) → Int → Option ((List UInt8) × Int)
  | 0, _, _, _, _ => none
  | k35 + 1, x1, x6, x19, x24 => (if x24 < (x1.length : Int) then (if 0 ≤ x24 then (if ((x1.getD ((x24).toNat) (0 : UInt8)).toNat : Int) = ((x1.getD ((x6).toNat) (0 : UInt8)).toNat : Int) then (if (IntKind.i64.wrap (x24 + 1)) ≥ (x1.length : Int) then some (x19, (IntKind.i64.wrap ((IntKind.i64.wrap (x24 + 1)) - x6))) else (if 0 ≤ (IntKind.i64.wrap (x24 + 1)) then (if (IntKind.i64.wrap (x24 + 1)) < (x1.length : Int) then (if ((x1.getD (((IntKind.i64.wrap (x24 + 1))).toNat) (0 : UInt8)).toNat : Int) ≠ ((x1.getD ((x6).toNat) (0 : UInt8)).toNat : Int) then some (x19, (IntKind.i64.wrap ((IntKind.i64.wrap (x24 + 1)) - x6))) else (if x19.length + 1 ≤ 140737488355328 then (spec_l1text.l0 k35 x1 x6 (x19 ++ [(x1.getD ((x6).toNat) (0 : UInt8))]) (IntKind.i64.wrap (x24 + 2))) else none)) else none) else none)) else (if ((x1.getD ((x24).toNat) (0 : UInt8)).toNat : Int) = 92 then ((spec_l1escape.f k35 x1 (IntKind.i64.wrap (x24 + 1))).bind fun t80 => (if t80.2 = 0 then some ([], 0) else (if x19.length + t80.1.length ≤ 140737488355328 then (spec_l1text.l0 k35 x1 x6 (x19 ++ t80.1) (IntKind.i64.wrap (x24 + (IntKind.i64.wrap (t80.2 + 1))))) else none))) else ((spec_l1raw.f (x1.getD ((x24).toNat) (0 : UInt8))).bind fun t116 => (if t116 = true then (if x19.length + 1 ≤ 140737488355328 then (spec_l1text.l0 k35 x1 x6 (x19 ++ [(x1.getD ((x24).toNat) (0 : UInt8))]) (IntKind.i64.wrap (x24 + 1))) else none) else some ([], 0))))) else none) else some ([], 0))
def spec_l1text.f (k : Nat) (x1 : List UInt8) (x6 : Int) : Option ((List UInt8) × Int) := (if 0 ≤ x6 then (if x6 < (x1.length : Int) then (spec_l1text.l0 k x1 x6 [] (IntKind.i64.wrap (x6 + 1))) else none) else none)
theorem spec_l1text.calls (k : Nat) (w : World) (H : Hp) (x1 : List UInt8) (A2 : Option Addr) (c3 : Nat) (x6 : Int) (h4 : Rd tByte H A2 x1) (l5 : x1.length ≤ c3) (S : Own [] H w) (r : (List UInt8) × Int) (M : spec_l1text.f k x1 x6 = some r) :
    Calls Try.prog 33 #[.slice A2 x1.length c3, .int .i64 x6] w (fun e e_w => ∃ (A_1 : Option Addr) (c_1 : Nat) (F_1 : Foot) (H_ : Hp), e = .returned (.tuple #[.slice A_1 r.1.length c_1, .int .i64 r.2]) ∧ Row tByte 5 H_ (hp e_w) F_1 A_1 c_1 r.1 ∧ St (anyOf []) H w [F_1] H_ e_w) := by
  rw [spec_l1text.f] at M
  refine enter (l := [.slice A2 x1.length c3, .int .i64 x6]) 87 Try.func33 rfl rfl rfl ?_
  have S0_ := S.st
  refine wp_seq (wp_region_lit (lV 4 (eA (.slice none 0 0)) (lV 5 (eA (.int .i64 0)) (wpList_nil (then_n (wp_seq (wp_region_lit ?_)))))))
  refine lV 11 (eM (.slice A2 x1.length c3)) (lV 12 (eM (.int .i64 x6)) ?_)
  obtain ⟨q7, M⟩ := chk M
  obtain ⟨q8, M⟩ := chk M
  obtain ⟨b9, o10, e11⟩ := Rd.addr h4 (show (x6).toNat < x1.length by omega)
  obtain ⟨y12, r13, k14⟩ := Rd.at h4 e11 (getD_some (0 : UInt8) (show (x6).toNat < x1.length by omega))
  obtain rfl := r13
  refine lV 13 (eI b9 o10 x1.length c3 1 x6 .i64 Try.underlying23 e11 q7 q8) (lV 14 (eL ⟨b9, o10 + (x6 : Int).toNat * 1, none⟩ (.int .u8 ((x1.getD ((x6).toNat) (0 : UInt8)).toNat : Int)) Try.underlying5 (hpx (S0_.inv.cell (k14 0 _ rfl)))) (lV 6 (eA (.int .u8 ((x1.getD ((x6).toNat) (0 : UInt8)).toNat : Int))) (wpList_nil (then_n (wp_seq (wp_region_lit (lV 7 (eA (.slice none 0 0)) ?_)))))))
  refine wpList_nil (then_n (wp_seq (wp_region_lit (lV 15 (eM (.int .i64 x6)) (lV 16 (eAdd .i64 x6 1) (lV 8 (eA (.int .i64 (IntKind.i64.wrap (x6 + 1)))) (wpList_nil ?_)))))))
  refine then_n (wp_seq (wp_block ?_))
  have S36 := S0_.unit
  refine wp_loop_g (fun k33 a34 w15 => ∃ (f16 : Nat → Value) (H17 : Hp) (x19 : List UInt8) (A20 : Option Addr) (c21 : Nat) (F22 : Foot) (x24 : Int), a34 = mk 87 f16 ∧ f16 0 = .slice A2 x1.length c3 ∧ f16 1 = .int .i64 x6 ∧ f16 6 = .int .u8 ((x1.getD ((x6).toNat) (0 : UInt8)).toNat : Int) ∧ f16 7 = .slice A20 x19.length c21 ∧ f16 8 = .int .i64 x24 ∧ Row tByte 5 H17 (hp w15) F22 A20 c21 x19 ∧ Ext H H17 ∧ St (anyOf []) H w [F22] H17 w15 ∧ spec_l1text.l0 k33 x1 x6 x19 x24 = some r) k ⟨_, H, [], none, 0, no, (IntKind.i64.wrap (x6 + 1)), rfl, (by kernel_rfl), (by kernel_rfl), (by kernel_rfl), (by kernel_rfl), (by kernel_rfl), (Row.nil _ _ _ _ _), (Ext.refl _), S36, M⟩ ?_
  clear M
  rintro k33 a34 w15 ⟨f16, H17, x19, A20, c21, F22, x24, rfl, e25, e26, e27, e28, e29, h23, Y18, S30, M⟩
  rcases k33 with _ | k35
  · rw [spec_l1text.l0] at M
    cases M
  rw [spec_l1text.l0] at M
  refine wp_seq (wp_seq (wp_region_lit (lV 17 (eM (.int .i64 x24) (by exact e29)) (lV 18 (eM (.slice A2 x1.length c3) (by exact e25)) (lV 19 (e_len (A := A2) (n := x1.length) (c := c3) Try.underlying23 (by kernel_rfl)) (lV 20 (eLt .i64 x24 (x1.length : Int)) (wpList_nil ?_)))))))
  refine then_n ?_
  by_cases q37 : x24 < (x1.length : Int)
  · replace M := ifp q37 M
    refine cT (bT q37) (wp_skip (then_n (wp_block (wp_seq (wp_region_lit (lV 21 (eM (.slice A2 x1.length c3) (by exact e25)) (lV 22 (eM (.int .i64 x24) (by exact e29)) ?_)))))))
    obtain ⟨q38, M⟩ := chk M
    obtain ⟨b39, o40, e41⟩ := Rd.addr h4 (show (x24).toNat < x1.length by omega)
    obtain ⟨y42, r43, k44⟩ := Rd.at h4 e41 (getD_some (0 : UInt8) (show (x24).toNat < x1.length by omega))
    obtain rfl := r43
    refine lV 23 (eI b39 o40 x1.length c3 1 x24 .i64 Try.underlying23 e41 q38 q37) (lV 24 (eL ⟨b39, o40 + (x24 : Int).toNat * 1, none⟩ (.int .u8 ((x1.getD ((x24).toNat) (0 : UInt8)).toNat : Int)) Try.underlying5 (hpx (S30.inv.cell (Y18.cell (k44 0 _ rfl))))) (lV 25 (eM (.int .u8 ((x1.getD ((x6).toNat) (0 : UInt8)).toNat : Int)) (by exact e27)) (lV 26 (eEq .u8 ((x1.getD ((x24).toNat) (0 : UInt8)).toNat : Int) ((x1.getD ((x6).toNat) (0 : UInt8)).toNat : Int)) (wpList_nil (then_n ?_)))))
    by_cases q45 : ((x1.getD ((x24).toNat) (0 : UInt8)).toNat : Int) = ((x1.getD ((x6).toNat) (0 : UInt8)).toNat : Int)
    · replace M := ifp q45 M
      refine cT (bT q45) (wp_seq (wp_seq (wp_region_lit (lV 27 (eM (.int .i64 x24) (by exact e29)) (lV 28 (eAdd .i64 x24 1) (lV 29 (eM (.slice A2 x1.length c3) (by exact e25)) (lV 30 (e_len (A := A2) (n := x1.length) (c := c3) Try.underlying23 (by kernel_rfl)) ?_)))))))
      refine lV 31 (e_geq (k := .i64) (a := (IntKind.i64.wrap (x24 + 1))) (b := (x1.length : Int)) (by kernel_rfl) (by kernel_rfl)) (lV 32 (eM (.bool (decide ((IntKind.i64.wrap (x24 + 1)) ≥ (x1.length : Int))))) ?_)
      by_cases q46 : (IntKind.i64.wrap (x24 + 1)) ≥ (x1.length : Int)
      · replace M := ifp q46 M
        refine lK 32 true (bT q46) ?_
        refine lK 32 true (bT q46) ?_
        refine lK 32 true (bT q46) ?_
        refine lK 32 true (bT q46) ?_
        refine lK 32 true (bT q46) ?_
        refine lK 32 true (bT q46) ?_
        refine lK 32 true (bT q46) ?_
        refine lV 40 (eT (.bool true) (bT q46)) (wpList_nil (then_n (cond_t rfl (by kernel_rfl) (wp_seq (wp_region_lit (lV 41 (eM (.slice A20 x19.length c21) (by exact e28)) (lV 42 (eM (.int .i64 x24) (by exact e29)) ?_)))))))
        refine lV 43 (eAdd .i64 x24 1) (lV 44 (eM (.int .i64 x6) (by exact e26)) (lV 45 (e_sub (k := .i64) (a := (IntKind.i64.wrap (x24 + 1))) (b := x6) (by kernel_rfl) (by kernel_rfl)) (lV 4 (eA (.slice A20 x19.length c21)) (lV 5 (eA (.int .i64 (IntKind.i64.wrap ((IntKind.i64.wrap (x24 + 1)) - x6)))) (wpList_nil (then_n (wp_ret ?_)))))))
        refine then_r (inb_r (then_r (inb_r (then_r ?_))))
        obtain rfl := Option.some.inj M
        exact ret2 rfl rfl rfl (show _ = .slice A20 x19.length c21 from (by kernel_rfl)) (show _ = .int .i64 (IntKind.i64.wrap ((IntKind.i64.wrap (x24 + 1)) - x6)) from (by kernel_rfl)) ⟨A20, c21, F22, H17, rfl, h23, S30⟩
      replace M := ifn q46 M
      refine lG 33 32 (bF q46) (eM (.slice A2 x1.length c3) (by exact e25)) (lG 34 32 (bF q46) (eM (.int .i64 x24) (by exact e29)) (lG 35 32 (bF q46) (eAdd .i64 x24 1) ?_))
      obtain ⟨q47, M⟩ := chk M
      obtain ⟨q48, M⟩ := chk M
      obtain ⟨b49, o50, e51⟩ := Rd.addr h4 (show ((IntKind.i64.wrap (x24 + 1))).toNat < x1.length by omega)
      obtain ⟨y52, r53, k54⟩ := Rd.at h4 e51 (getD_some (0 : UInt8) (show ((IntKind.i64.wrap (x24 + 1))).toNat < x1.length by omega))
      obtain rfl := r53
      refine lG 36 32 (bF q46) (eI b49 o50 x1.length c3 1 (IntKind.i64.wrap (x24 + 1)) .i64 Try.underlying23 e51 q47 q48) (lG 37 32 (bF q46) (eL ⟨b49, o50 + ((IntKind.i64.wrap (x24 + 1)) : Int).toNat * 1, none⟩ (.int .u8 ((x1.getD (((IntKind.i64.wrap (x24 + 1))).toNat) (0 : UInt8)).toNat : Int)) Try.underlying5 (hpx (S30.inv.cell (Y18.cell (k54 0 _ rfl))))) (lG 38 32 (bF q46) (eM (.int .u8 ((x1.getD ((x6).toNat) (0 : UInt8)).toNat : Int)) (by exact e27)) (lG 39 32 (bF q46) (eNe .u8 ((x1.getD (((IntKind.i64.wrap (x24 + 1))).toNat) (0 : UInt8)).toNat : Int) ((x1.getD ((x6).toNat) (0 : UInt8)).toNat : Int)) (lV 40 (eF (.bool (decide (((x1.getD (((IntKind.i64.wrap (x24 + 1))).toNat) (0 : UInt8)).toNat : Int) ≠ ((x1.getD ((x6).toNat) (0 : UInt8)).toNat : Int)))) (bF q46)) (wpList_nil (then_n ?_))))))
      by_cases q55 : ((x1.getD (((IntKind.i64.wrap (x24 + 1))).toNat) (0 : UInt8)).toNat : Int) ≠ ((x1.getD ((x6).toNat) (0 : UInt8)).toNat : Int)
      · replace M := ifp q55 M
        refine cT (bT q55) (wp_seq (wp_region_lit (lV 41 (eM (.slice A20 x19.length c21) (by exact e28)) (lV 42 (eM (.int .i64 x24) (by exact e29)) (lV 43 (eAdd .i64 x24 1) (lV 44 (eM (.int .i64 x6) (by exact e26)) (lV 45 (e_sub (k := .i64) (a := (IntKind.i64.wrap (x24 + 1))) (b := x6) (by kernel_rfl) (by kernel_rfl)) ?_)))))))
        refine lV 4 (eA (.slice A20 x19.length c21)) (lV 5 (eA (.int .i64 (IntKind.i64.wrap ((IntKind.i64.wrap (x24 + 1)) - x6)))) (wpList_nil (then_n (wp_ret (then_r (inb_r (then_r ?_)))))))
        refine inb_r (then_r ?_)
        obtain rfl := Option.some.inj M
        exact ret2 rfl rfl rfl (show _ = .slice A20 x19.length c21 from (by kernel_rfl)) (show _ = .int .i64 (IntKind.i64.wrap ((IntKind.i64.wrap (x24 + 1)) - x6)) from (by kernel_rfl)) ⟨A20, c21, F22, H17, rfl, h23, S30⟩
      replace M := ifn q55 M
      refine cF (bF q55) (wp_skip (then_n (wp_seq (wp_region_lit (lV 46 (eM (.slice A20 x19.length c21) (by exact e28)) (lV 47 (eM (.int .u8 ((x1.getD ((x6).toNat) (0 : UInt8)).toNat : Int)) (by exact e27)) ?_))))))
      refine lve (d := 48) rfl rfl (by kernel_rfl) (new_blk (v := fun g_ => .slice (some ⟨g_, 0, none⟩) 1 1) (cs := #[.int .u8 ((x1.getD ((x6).toNat) (0 : UInt8)).toNat : Int)]) (t := 5) S30 (by kernel_rfl)) ?_
      rintro _ w56 ⟨g57, rfl, b58, S59, K60⟩
      replace h23 := h23.move (K60.at 0 rfl)
      obtain ⟨q61, M⟩ := chk M
      have S62 := S59.pull (F := F22) (Fr := [(is g57)]) 1 rfl rfl
      have S63 := S62.unit
      have S64 := S63.pull (F := F22) (Fr := [no, (is g57)]) 1 rfl rfl
      refine lve (d := 49) rfl rfl (by kernel_rfl) (e_append (d := tByte) (n := x19.length) (xs := x19) (cap := c21) (A := A20) (ys := [(x1.getD ((x6).toNat) (0 : UInt8))]) (A2 := (some ⟨g57, 0, none⟩)) (c2 := 1) (z := .int .u8 0) (bytes := 1) S64 Try.underlying23 (by kernel_rfl) rfl (by decide) (by kernel_rfl) rfl (by kernel_rfl) h23 (elsO_one1 rfl) (.inr (blk_news b58 rfl)) (show (x19.length + [(x1.getD ((x6).toNat) (0 : UInt8))].length) * 1 ≤ _ by first | omega | (simp only [List.length_cons, List.length_nil]; omega)) (by decide)) ?_
      rintro _ w65 ⟨A66, c67, F68, rfl, h69, S70, K71⟩
      refine lV 7 (eA (.slice A66 ((x19 ++ [(x1.getD ((x6).toNat) (0 : UInt8))]).length) c67)) (wpList_nil (then_n (wp_region_lit (lV 50 (eM (.int .i64 x24) (by exact e29)) (lV 51 (eAdd .i64 x24 2) (lV 8 (eA (.int .i64 (IntKind.i64.wrap (x24 + 2)))) (wpList_nil ?_)))))))
      refine inb_n (then_n ?_)
      have S72 := St.first (Fa := [F68]) (Fr := [(is g57)]) S70
      exact ⟨k35, (by omega), _, H17, (x19 ++ [(x1.getD ((x6).toNat) (0 : UInt8))]), A66, c67, F68, (IntKind.i64.wrap (x24 + 2)), rfl, (by exact e25), (by exact e26), (by exact e27), (by kernel_rfl), (by kernel_rfl), h69, Y18, S72, M⟩
    replace M := ifn q45 M
    refine cF (bF q45) (wp_seq (wp_region_lit (lV 52 (eM (.slice A2 x1.length c3) (by exact e25)) (lV 53 (eM (.int .i64 x24) (by exact e29)) ?_))))
    obtain ⟨b73, o74, e75⟩ := Rd.addr h4 (show (x24).toNat < x1.length by omega)
    obtain ⟨y76, r77, k78⟩ := Rd.at h4 e75 (getD_some (0 : UInt8) (show (x24).toNat < x1.length by omega))
    obtain rfl := r77
    refine lV 54 (eI b73 o74 x1.length c3 1 x24 .i64 Try.underlying23 e75 q38 q37) (lV 55 (eL ⟨b73, o74 + (x24 : Int).toNat * 1, none⟩ (.int .u8 ((x1.getD ((x24).toNat) (0 : UInt8)).toNat : Int)) Try.underlying5 (hpx (S30.inv.cell (Y18.cell (k78 0 _ rfl))))) (lV 56 (eEq .u8 ((x1.getD ((x24).toNat) (0 : UInt8)).toNat : Int) 92) (wpList_nil (then_n ?_))))
    by_cases q79 : ((x1.getD ((x24).toNat) (0 : UInt8)).toNat : Int) = 92
    · replace M := ifp q79 M
      refine cT (bT q79) (wp_seq (wp_region_lit (lV 58 (eM (.slice A2 x1.length c3) (by exact e25)) (lV 59 (eM (.int .i64 x24) (by exact e29)) (lV 60 (eAdd .i64 x24 1) ?_)))))
      obtain ⟨t80, u81, M⟩ := bnd M
      refine lC 61 (eC [.tmp 58, .tmp 60] [.slice A2 x1.length c3, .int .i64 (IntKind.i64.wrap (x24 + 1))] Try.func46) (spec_l1escape.calls k35 w15 H17 x1 A2 c3 (IntKind.i64.wrap (x24 + 1)) (h4.ext Y18) l5 (St.own' (Fa := []) (Fr := [F22]) S30) t80 u81) ?_
      rintro _ w82 ⟨A85, c86, F88, H83, rfl, h87, T84⟩
      refine ⟨_, rfl, ?_⟩
      obtain ⟨S89, K90⟩ := St.call (Fa := []) (Fr := [F22]) S30 T84
      replace h23 := h23.move (K90.at 0 rfl)
      have E91 := T84.ext
      replace h23 := h23.ext E91
      refine lV 57 (eM (.tuple #[.slice A85 t80.1.length c86, .int .i64 t80.2])) (lV 62 (e_extract (vs := #[.slice A85 t80.1.length c86, .int .i64 t80.2]) (v := .slice A85 t80.1.length c86) (by kernel_rfl) rfl) (lV 63 (e_extract (vs := #[.slice A85 t80.1.length c86, .int .i64 t80.2]) (v := .int .i64 t80.2) (by kernel_rfl) rfl) (lV 9 (eA (.slice A85 t80.1.length c86)) (lV 10 (eA (.int .i64 t80.2)) (wpList_nil (then_n (wp_seq ?_)))))))
      refine wp_seq (wp_region_lit (lV 64 (eM (.int .i64 t80.2)) (lV 65 (eEq .i64 t80.2 0) (wpList_nil (then_n ?_)))))
      by_cases q92 : t80.2 = 0
      · replace M := ifp q92 M
        refine cT (bT q92) (wp_seq (wp_region_lit (lV 4 (eA (.slice none 0 0)) (lV 5 (eA (.int .i64 0)) (wpList_nil (then_n (wp_ret ?_)))))))
        refine then_r (inb_r (then_r (inb_r (then_r ?_))))
        obtain rfl := Option.some.inj M
        have S93 := S89.unit
        have S94 := St.first (Fa := [no]) (Fr := [F88, F22]) S93
        exact ret2 rfl rfl rfl (show _ = .slice none 0 0 from (by kernel_rfl)) (show _ = .int .i64 0 from (by kernel_rfl)) ⟨none, 0, no, H83, rfl, (Row.nil _ _ _ _ no), S94⟩
      replace M := ifn q92 M
      refine cF (bF q92) (wp_skip (then_n (wp_seq (wp_region_lit (lV 66 (eM (.slice A20 x19.length c21) (by exact e28)) (lV 67 (eM (.slice A85 t80.1.length c86)) ?_))))))
      obtain ⟨y95, h96, h97⟩ := Row.news0 (d := tByte) (oo_scal _ _) h87
      obtain ⟨q98, M⟩ := chk M
      have S99 := S89.pull (F := F22) (Fr := [F88]) 1 rfl rfl
      have S100 := S99.unit
      have S101 := S100.pull (F := F22) (Fr := [no, F88]) 1 rfl rfl
      refine lve (d := 68) rfl rfl (by kernel_rfl) (e_append (d := tByte) (n := x19.length) (xs := x19) (cap := c21) (A := A20) (ys := t80.1) (A2 := A85) (c2 := c86) (z := .int .u8 0) (bytes := 1) S101 Try.underlying23 (by kernel_rfl) rfl (by decide) (by kernel_rfl) rfl (by kernel_rfl) h23 h96 h97 (show (x19.length + t80.1.length) * 1 ≤ _ by first | omega | (simp only [List.length_cons, List.length_nil]; omega)) (by decide)) ?_
      rintro _ w102 ⟨A103, c104, F105, rfl, h106, S107, K108⟩
      refine lV 7 (eA (.slice A103 ((x19 ++ t80.1).length) c104)) (wpList_nil (then_n (wp_region_lit (lV 69 (eM (.int .i64 x24) (by exact e29)) (lV 70 (eM (.int .i64 t80.2)) (lV 71 (eAdd .i64 t80.2 1) (lV 72 (eAdd .i64 x24 (IntKind.i64.wrap (t80.2 + 1))) ?_)))))))
      refine lV 8 (eA (.int .i64 (IntKind.i64.wrap (x24 + (IntKind.i64.wrap (t80.2 + 1)))))) (wpList_nil (inb_n (then_n ?_)))
      have S109 := St.first (Fa := [F105]) (Fr := [F88]) S107
      exact ⟨k35, (by omega), _, H83, (x19 ++ t80.1), A103, c104, F105, (IntKind.i64.wrap (x24 + (IntKind.i64.wrap (t80.2 + 1)))), rfl, (by exact e25), (by exact e26), (by exact e27), (by kernel_rfl), (by kernel_rfl), h106, (Y18.trans E91), S109, M⟩
    replace M := ifn q79 M
    refine cF (bF q79) (wp_seq (wp_region_lit (lV 73 (eM (.slice A2 x1.length c3) (by exact e25)) (lV 74 (eM (.int .i64 x24) (by exact e29)) ?_))))
    obtain ⟨b110, o111, e112⟩ := Rd.addr h4 (show (x24).toNat < x1.length by omega)
    obtain ⟨y113, r114, k115⟩ := Rd.at h4 e112 (getD_some (0 : UInt8) (show (x24).toNat < x1.length by omega))
    obtain rfl := r114
    refine lV 75 (eI b110 o111 x1.length c3 1 x24 .i64 Try.underlying23 e112 q38 q37) (lV 76 (eL ⟨b110, o111 + (x24 : Int).toNat * 1, none⟩ (.int .u8 ((x1.getD ((x24).toNat) (0 : UInt8)).toNat : Int)) Try.underlying5 (hpx (S30.inv.cell (Y18.cell (k115 0 _ rfl))))) ?_)
    obtain ⟨t116, u117, M⟩ := bnd M
    refine lC 77 (eC [.tmp 76] [.int .u8 ((x1.getD ((x24).toNat) (0 : UInt8)).toNat : Int)] Try.func47) (spec_l1raw.calls w15 H17 (x1.getD ((x24).toNat) (0 : UInt8))  S30.own0 t116 u117) ?_
    rintro _ w118 ⟨rfl, C119⟩
    refine ⟨_, rfl, ?_⟩
    obtain ⟨S120, K121⟩ := S30.still C119
    replace h23 := h23.move (K121.at 0 rfl)
    refine wpList_nil (then_n ?_)
    by_cases q122 : t116 = true
    · replace M := ifp q122 M
      refine cT (bvt q122 (by kernel_rfl)) (wp_seq (wp_region_lit (lV 78 (eM (.slice A20 x19.length c21) (by exact e28)) (lV 79 (eM (.slice A2 x1.length c3) (by exact e25)) (lV 80 (eM (.int .i64 x24) (by exact e29)) ?_)))))
      obtain ⟨b123, o124, e125⟩ := Rd.addr h4 (show (x24).toNat < x1.length by omega)
      obtain ⟨y126, r127, k128⟩ := Rd.at h4 e125 (getD_some (0 : UInt8) (show (x24).toNat < x1.length by omega))
      obtain rfl := r127
      refine lV 81 (eI b123 o124 x1.length c3 1 x24 .i64 Try.underlying23 e125 q38 q37) (lV 82 (eL ⟨b123, o124 + (x24 : Int).toNat * 1, none⟩ (.int .u8 ((x1.getD ((x24).toNat) (0 : UInt8)).toNat : Int)) Try.underlying5 (hpx (S120.inv.cell (Y18.cell (k128 0 _ rfl))))) ?_)
      refine lve (d := 83) rfl rfl (by kernel_rfl) (new_blk (v := fun g_ => .slice (some ⟨g_, 0, none⟩) 1 1) (cs := #[.int .u8 ((x1.getD ((x24).toNat) (0 : UInt8)).toNat : Int)]) (t := 5) S120 (by kernel_rfl)) ?_
      rintro _ w129 ⟨g130, rfl, b131, S132, K133⟩
      replace h23 := h23.move (K133.at 0 rfl)
      obtain ⟨q134, M⟩ := chk M
      have S135 := S132.pull (F := F22) (Fr := [(is g130)]) 1 rfl rfl
      have S136 := S135.unit
      have S137 := S136.pull (F := F22) (Fr := [no, (is g130)]) 1 rfl rfl
      refine lve (d := 84) rfl rfl (by kernel_rfl) (e_append (d := tByte) (n := x19.length) (xs := x19) (cap := c21) (A := A20) (ys := [(x1.getD ((x24).toNat) (0 : UInt8))]) (A2 := (some ⟨g130, 0, none⟩)) (c2 := 1) (z := .int .u8 0) (bytes := 1) S137 Try.underlying23 (by kernel_rfl) rfl (by decide) (by kernel_rfl) rfl (by kernel_rfl) h23 (elsO_one1 rfl) (.inr (blk_news b131 rfl)) (show (x19.length + [(x1.getD ((x24).toNat) (0 : UInt8))].length) * 1 ≤ _ by first | omega | (simp only [List.length_cons, List.length_nil]; omega)) (by decide)) ?_
      rintro _ w138 ⟨A139, c140, F141, rfl, h142, S143, K144⟩
      refine lV 7 (eA (.slice A139 ((x19 ++ [(x1.getD ((x24).toNat) (0 : UInt8))]).length) c140)) (wpList_nil (then_n (wp_region_lit (lV 85 (eM (.int .i64 x24) (by exact e29)) (lV 86 (eAdd .i64 x24 1) (lV 8 (eA (.int .i64 (IntKind.i64.wrap (x24 + 1)))) (wpList_nil ?_)))))))
      refine inb_n (then_n ?_)
      have S145 := St.first (Fa := [F141]) (Fr := [(is g130)]) S143
      exact ⟨k35, (by omega), _, H17, (x19 ++ [(x1.getD ((x24).toNat) (0 : UInt8))]), A139, c140, F141, (IntKind.i64.wrap (x24 + 1)), rfl, (by exact e25), (by exact e26), (by exact e27), (by kernel_rfl), (by kernel_rfl), h142, Y18, S145, M⟩
    replace M := ifn q122 M
    refine cF (bvf q122 (by kernel_rfl)) (wp_seq (wp_region_lit (lV 4 (eA (.slice none 0 0)) (lV 5 (eA (.int .i64 0)) (wpList_nil (then_n (wp_ret ?_)))))))
    refine inb_r (then_r (inb_r (then_r ?_)))
    obtain rfl := Option.some.inj M
    have S146 := S120.unit
    have S147 := St.first (Fa := [no]) (Fr := [F22]) S146
    exact ret2 rfl rfl rfl (show _ = .slice none 0 0 from (by kernel_rfl)) (show _ = .int .i64 0 from (by kernel_rfl)) ⟨none, 0, no, H17, rfl, (Row.nil _ _ _ _ no), S147⟩
  replace M := ifn q37 M
  refine cF (bF q37) (wp_exit (then_e (then_e (inb_hit (then_n (wp_seq (wp_region_lit ?_)))))))
  refine lV 4 (eA (.slice none 0 0)) (lV 5 (eA (.int .i64 0)) (wpList_nil (then_n (wp_ret ?_))))
  obtain rfl := Option.some.inj M
  have S148 := S30.unit
  have S149 := St.first (Fa := [no]) (Fr := [F22]) S148
  exact ret2 rfl rfl rfl (show _ = .slice none 0 0 from (by kernel_rfl)) (show _ = .int .i64 0 from (by kernel_rfl)) ⟨none, 0, no, H17, rfl, (Row.nil _ _ _ _ no), S149⟩

/-! spec_l1copy -/
def spec_l1copy.f (x1 : List UInt8) : Option (List UInt8) := (if 0 + x1.length ≤ 140737488355328 then some x1 else none)
theorem spec_l1copy.calls (w : World) (H : Hp) (x1 : List UInt8) (A2 : Option Addr) (c3 : Nat) (h4 : Rd tByte H A2 x1) (l5 : x1.length ≤ c3) (S : Own [] H w) (r : List UInt8) (M : spec_l1copy.f x1 = some r) :
    Calls Try.prog 34 #[.slice A2 x1.length c3] w (fun e e_w => ∃ (A_1 : Option Addr) (c_1 : Nat) (F_1 : Foot) (H_ : Hp), e = .returned (.slice A_1 r.length c_1) ∧ Row tByte 5 H_ (hp e_w) F_1 A_1 c_1 r ∧ St (anyOf []) H w [F_1] H_ e_w) := by
  rw [spec_l1copy.f] at M
  refine enter (l := [.slice A2 x1.length c3]) 7 Try.func34 rfl rfl rfl ?_
  have S0_ := S.st
  refine wp_seq (wp_region_lit (lV 2 (eA (.slice none 0 0)) (wpList_nil (then_n (wp_seq (wp_region_lit (lV 3 (eA (.slice none 0 0)) ?_)))))))
  refine wpList_nil (then_n (wp_seq (wp_region_lit (lV 4 (eM (.slice none 0 0)) (lV 5 (eM (.slice A2 x1.length c3)) ?_)))))
  obtain ⟨y6, h7, h8⟩ := Rd.news (d := tByte) (ro_scal _ _) S0_ h4
  obtain ⟨q9, M⟩ := chk M
  have S10 := S0_.unit
  have S11 := S10.unit
  have S12 := S11.pull (F := no) (Fr := [no]) 1 rfl rfl
  refine lve (d := 6) rfl rfl (by kernel_rfl) (e_append (d := tByte) (n := 0) (xs := []) (cap := 0) (A := none) (ys := x1) (A2 := A2) (c2 := c3) (z := .int .u8 0) (bytes := 1) S12 Try.underlying23 (by kernel_rfl) rfl (by decide) (by kernel_rfl) rfl (by kernel_rfl) (Row.nil _ _ _ _ no) h7 h8 (show (0 + x1.length) * 1 ≤ _ by first | omega | (simp only [List.length_cons, List.length_nil]; omega)) (by decide)) ?_
  rintro _ w13 ⟨A14, c15, F16, rfl, h17, S18, K19⟩
  replace h17 : Row tByte 5 H (hp w13) F16 A14 c15 x1 := h17
  refine lV 2 (eA (.slice A14 x1.length c15)) (wpList_nil (then_n (wp_ret ?_)))
  obtain rfl := Option.some.inj M
  exact ret1 rfl rfl  (show _ = .slice A14 x1.length c15 from (by kernel_rfl)) ⟨A14, c15, F16, H, rfl, h17, S18⟩

/-! spec_l1token -/
def spec_l1token.l0 (_k : Nat) (x1 : List UInt8) (x6 : Int) (x52 : Int) (x53 : Int) : Option (Token × Int) := (if x6 ≤ (IntKind.i64.wrap (x6 + x53)) then (if (IntKind.i64.wrap (x6 + x53)) ≤ (x1.length : Int) then ((spec_l1copy.f ((x1.drop ((x6 : Int).toNat)).take (((IntKind.i64.wrap (x6 + x53)) : Int).toNat - (x6 : Int).toNat))).bind fun t593 => (if (t593.length : Int) > 100 then some ((⟨0, 0, 0, [], 0⟩ : Token), 3) else some ((⟨x52, x6, x53, t593, 0⟩ : Token), 0))) else none) else none)
def spec_l1token.l1 (k : Nat) (x1 : List UInt8) (x6 : Int) (x165 : Int) : Option (Token × Int) := ((spec_l1text.f k x1 x6).bind fun t179 => (if t179.2 = 0 then some ((⟨0, 0, 0, [], 0⟩ : Token), 2) else (if (t179.1.length : Int) > 100 then some ((⟨0, 0, 0, [], 0⟩ : Token), 3) else some ((⟨x165, x6, t179.2, t179.1, 0⟩ : Token), 0))))
def spec_l1token.l2 (k : Nat) (x1 : List UInt8) (x6 : Int) (x391 : Int) : Option (Token × Int) := ((spec_l1text.f k x1 x6).bind fun t405 => (if t405.2 = 0 then some ((⟨0, 0, 0, [], 0⟩ : Token), 2) else (if (t405.1.length : Int) > 100 then some ((⟨0, 0, 0, [], 0⟩ : Token), 3) else some ((⟨x391, x6, t405.2, t405.1, 0⟩ : Token), 0))))
def spec_l1token.f (k : Nat) (x1 : List UInt8) (x6 : Int) (x7 : Bool) : Option (Token × Int) := (if 0 ≤ x6 then (if x6 < (x1.length : Int) then ((spec_l1digit.f (x1.getD ((x6).toNat) (0 : UInt8))).bind fun t30 => (if t30 = true then ((spec_l1number.f k x1 x6).bind fun t37 => some ((⟨3, x6, t37.2.1, [], t37.1⟩ : Token), t37.2.2)) else ((spec_l1alnum.f (x1.getD ((x6).toNat) (0 : UInt8))).bind fun t62 => (if t62 = true then ((spec_l1run.f k x1 x6 false).bind fun t69 => ((spec_l1small.f (x1.getD ((x6).toNat) (0 : UInt8))).bind fun t79 => (if ¬ (t79 = true) then (spec_l1token.l0 0 x1 x6 2 t69) else (spec_l1token.l0 0 x1 x6 1 t69)))) else (if ((x1.getD ((x6).toNat) (0 : UInt8)).toNat : Int) = 46 then (if (IntKind.i64.wrap (x6 + 1)) = (x1.length : Int) then some ((⟨7, x6, 1, [], 0⟩ : Token), 0) else (if 0 ≤ (IntKind.i64.wrap (x6 + 1)) then (if (IntKind.i64.wrap (x6 + 1)) < (x1.length : Int) then ((spec_l1blank.f (x1.getD (((IntKind.i64.wrap (x6 + 1))).toNat) (0 : UInt8))).bind fun t107 => (if t107 = true then some ((⟨7, x6, 1, [], 0⟩ : Token), 0) else (if ((x1.getD (((IntKind.i64.wrap (x6 + 1))).toNat) (0 : UInt8)).toNat : Int) = 37 then some ((⟨7, x6, 1, [], 0⟩ : Token), 0) else ((spec_l1symbol.f k (x1.getD ((x6).toNat) (0 : UInt8))).bind fun t135 => (if t135 = true then ((spec_l1run.f k x1 x6 true).bind fun t142 => (spec_l1token.l0 0 x1 x6 1 t142)) else (if ((x1.getD ((x6).toNat) (0 : UInt8)).toNat : Int) = 33 then (spec_l1token.l0 0 x1 x6 1 1) else (if ((x1.getD ((x6).toNat) (0 : UInt8)).toNat : Int) = 59 then (spec_l1token.l0 0 x1 x6 1 1) else (if ((x1.getD ((x6).toNat) (0 : UInt8)).toNat : Int) = 39 then (if ((x1.getD ((x6).toNat) (0 : UInt8)).toNat : Int) = 34 then (spec_l1token.l1 k x1 x6 4) else (spec_l1token.l1 k x1 x6 1)) else (if ((x1.getD ((x6).toNat) (0 : UInt8)).toNat : Int) = 34 then ((spec_l1text.f k x1 x6).bind fun t229 => (if t229.2 = 0 then some ((⟨0, 0, 0, [], 0⟩ : Token), 2) else (if (t229.1.length : Int) > 100 then some ((⟨0, 0, 0, [], 0⟩ : Token), 3) else some ((⟨4, x6, t229.2, t229.1, 0⟩ : Token), 0)))) else (if ((x1.getD ((x6).toNat) (0 : UInt8)).toNat : Int) = 40 then (if x7 = true then (spec_l1token.l0 0 x1 x6 6 1) else (spec_l1token.l0 0 x1 x6 5 1)) else (if ((x1.getD ((x6).toNat) (0 : UInt8)).toNat : Int) = 41 then (spec_l1token.l0 0 x1 x6 5 1) else (if ((x1.getD ((x6).toNat) (0 : UInt8)).toNat : Int) = 91 then (spec_l1token.l0 0 x1 x6 5 1) else (if ((x1.getD ((x6).toNat) (0 : UInt8)).toNat : Int) = 93 then (spec_l1token.l0 0 x1 x6 5 1) else (if ((x1.getD ((x6).toNat) (0 : UInt8)).toNat : Int) = 123 then (spec_l1token.l0 0 x1 x6 5 1) else (if ((x1.getD ((x6).toNat) (0 : UInt8)).toNat : Int) = 125 then (spec_l1token.l0 0 x1 x6 5 1) else (if ((x1.getD ((x6).toNat) (0 : UInt8)).toNat : Int) = 44 then (spec_l1token.l0 0 x1 x6 5 1) else (if ((x1.getD ((x6).toNat) (0 : UInt8)).toNat : Int) = 124 then (spec_l1token.l0 0 x1 x6 5 1) else some ((⟨0, 0, 0, [], 0⟩ : Token), 2)))))))))))))))))) else none) else none)) else ((spec_l1symbol.f k (x1.getD ((x6).toNat) (0 : UInt8))).bind fun t361 => (if t361 = true then ((spec_l1run.f k x1 x6 true).bind fun t368 => (spec_l1token.l0 0 x1 x6 1 t368)) else (if ((x1.getD ((x6).toNat) (0 : UInt8)).toNat : Int) = 33 then (spec_l1token.l0 0 x1 x6 1 1) else (if ((x1.getD ((x6).toNat) (0 : UInt8)).toNat : Int) = 59 then (spec_l1token.l0 0 x1 x6 1 1) else (if ((x1.getD ((x6).toNat) (0 : UInt8)).toNat : Int) = 39 then (if ((x1.getD ((x6).toNat) (0 : UInt8)).toNat : Int) = 34 then (spec_l1token.l2 k x1 x6 4) else (spec_l1token.l2 k x1 x6 1)) else (if ((x1.getD ((x6).toNat) (0 : UInt8)).toNat : Int) = 34 then ((spec_l1text.f k x1 x6).bind fun t455 => (if t455.2 = 0 then some ((⟨0, 0, 0, [], 0⟩ : Token), 2) else (if (t455.1.length : Int) > 100 then some ((⟨0, 0, 0, [], 0⟩ : Token), 3) else some ((⟨4, x6, t455.2, t455.1, 0⟩ : Token), 0)))) else (if ((x1.getD ((x6).toNat) (0 : UInt8)).toNat : Int) = 40 then (if x7 = true then (spec_l1token.l0 0 x1 x6 6 1) else (spec_l1token.l0 0 x1 x6 5 1)) else (if ((x1.getD ((x6).toNat) (0 : UInt8)).toNat : Int) = 41 then (spec_l1token.l0 0 x1 x6 5 1) else (if ((x1.getD ((x6).toNat) (0 : UInt8)).toNat : Int) = 91 then (spec_l1token.l0 0 x1 x6 5 1) else (if ((x1.getD ((x6).toNat) (0 : UInt8)).toNat : Int) = 93 then (spec_l1token.l0 0 x1 x6 5 1) else (if ((x1.getD ((x6).toNat) (0 : UInt8)).toNat : Int) = 123 then (spec_l1token.l0 0 x1 x6 5 1) else (if ((x1.getD ((x6).toNat) (0 : UInt8)).toNat : Int) = 125 then (spec_l1token.l0 0 x1 x6 5 1) else (if ((x1.getD ((x6).toNat) (0 : UInt8)).toNat : Int) = 44 then (spec_l1token.l0 0 x1 x6 5 1) else (if ((x1.getD ((x6).toNat) (0 : UInt8)).toNat : Int) = 124 then (spec_l1token.l0 0 x1 x6 5 1) else some ((⟨0, 0, 0, [], 0⟩ : Token), 2)))))))))))))))))))) else none) else none)
theorem spec_l1token.calls (k : Nat) (w : World) (H : Hp) (x1 : List UInt8) (A2 : Option Addr) (c3 : Nat) (x6 : Int) (x7 : Bool) (h4 : Rd tByte H A2 x1) (l5 : x1.length ≤ c3) (S : Own [] H w) (r : Token × Int) (M : spec_l1token.f k x1 x6 x7 = some r) :
    Calls Try.prog 20 #[.slice A2 x1.length c3, .int .i64 x6, .bool x7] w (fun e e_w => ∃ (A_1 : Option Addr) (c_1 : Nat) (F_1 : Foot) (H_ : Hp), e = .returned (.tuple #[.agg #[.int .i64 r.1.kind, .int .i64 r.1.place, .int .i64 r.1.size, .slice A_1 r.1.text.length c_1, .int .i64 r.1.n], .int .i64 r.2]) ∧ Row tByte 5 H_ (hp e_w) F_1 A_1 c_1 r.1.text ∧ St (anyOf []) H w [F_1] H_ e_w) := by
  rw [spec_l1token.f] at M
  refine enter (l := [.slice A2 x1.length c3, .int .i64 x6, .bool x7]) 166 Try.func20 rfl rfl rfl ?_
  have S0_ := S.st
  refine wp_seq (wp_region_lit ?_)
  refine lve (d := 6) rfl rfl (by kernel_rfl) (new_blk (v := fun g_ => .pointer (some ⟨g_, 0, none⟩)) (cs := #[.int .i64 0, .int .i64 0, .int .i64 0, .slice none 0 0, .int .i64 0]) (t := 37) S0_ (by kernel_rfl)) ?_
  rintro _ w8 ⟨g9, rfl, b10, S11, K12⟩
  refine lV 7 (eA (.int .i64 0)) (wpList_nil (then_n (wp_seq (wp_region_lit (lV 15 (eM (.int .i64 x6)) (lV 16 (show _ = Result.ok (Next.value (.agg #[.int .i64 1, .int .i64 x6, .int .i64 0, .slice none 0 0, .int .i64 0])) w8 from by kernel_rfl) ?_))))))
  refine lve (d := 8) rfl rfl (by kernel_rfl) (new_blk (v := fun g_ => .pointer (some ⟨g_, 0, none⟩)) (cs := #[.int .i64 0, .int .i64 0, .int .i64 0, .slice none 0 0, .int .i64 0]) (t := 37) S11 (by kernel_rfl)) ?_
  rintro _ w13 ⟨g14, rfl, b15, S16, K17⟩
  replace b10 := K17.blk 0 rfl b10
  refine lE (e_store (g := g14) (o := 0) (v := .agg #[.int .i64 1, .int .i64 x6, .int .i64 0, .slice none 0 0, .int .i64 0]) (cur' := #[.int .i64 1, .int .i64 x6, .int .i64 0, .slice none 0 0, .int .i64 0]) (vs := [.int .i64 1, .int .i64 x6, .int .i64 0, .slice none 0 0, .int .i64 0]) S16 (by kernel_rfl) (by kernel_rfl) rfl (by kernel_rfl) b15 (Nat.le_of_ble_eq_true rfl) (List.forall_mem_cons.2 ⟨rfl, (List.forall_mem_cons.2 ⟨rfl, (List.forall_mem_cons.2 ⟨rfl, (List.forall_mem_cons.2 ⟨rfl, (List.forall_mem_cons.2 ⟨rfl, (fun _ h_ => by cases h_)⟩)⟩)⟩)⟩)⟩) rfl) ?_
  rintro w18 ⟨b19, S20, K21⟩
  replace b10 := K21.blk 0 rfl b10
  clear b15
  refine wpList_nil (then_n (wp_seq (wp_region_lit (lV 17 (eM (.slice A2 x1.length c3)) (lV 18 (eM (.int .i64 x6)) ?_)))))
  obtain ⟨q22, M⟩ := chk M
  obtain ⟨q23, M⟩ := chk M
  obtain ⟨b24, o25, e26⟩ := Rd.addr h4 (show (x6).toNat < x1.length by omega)
  obtain ⟨y27, r28, k29⟩ := Rd.at h4 e26 (getD_some (0 : UInt8) (show (x6).toNat < x1.length by omega))
  obtain rfl := r28
  refine lV 19 (eI b24 o25 x1.length c3 1 x6 .i64 Try.underlying23 e26 q22 q23) (lV 20 (eL ⟨b24, o25 + (x6 : Int).toNat * 1, none⟩ (.int .u8 ((x1.getD ((x6).toNat) (0 : UInt8)).toNat : Int)) Try.underlying5 (hpx (S20.inv.cell (k29 0 _ rfl)))) (lV 9 (eA (.int .u8 ((x1.getD ((x6).toNat) (0 : UInt8)).toNat : Int))) (wpList_nil (then_n (wp_seq (wp_seq (wp_region_lit ?_)))))))
  refine lV 21 (eM (.int .u8 ((x1.getD ((x6).toNat) (0 : UInt8)).toNat : Int))) ?_
  obtain ⟨t30, u31, M⟩ := bnd M
  refine lC 22 (eC [.tmp 21] [.int .u8 ((x1.getD ((x6).toNat) (0 : UInt8)).toNat : Int)] Try.func31) (spec_l1digit.calls w18 H (x1.getD ((x6).toNat) (0 : UInt8))  S20.own0 t30 u31) ?_
  rintro _ w32 ⟨rfl, C33⟩
  refine ⟨_, rfl, ?_⟩
  obtain ⟨S34, K35⟩ := S20.still C33
  replace b19 := K35.blk 0 rfl b19
  replace b10 := K35.blk 1 rfl b10
  refine wpList_nil (then_n ?_)
  by_cases q36 : t30 = true
  · replace M := ifp q36 M
    refine cT (bvt q36 (by kernel_rfl)) (wp_seq (wp_region_lit (lV 24 (eM (.slice A2 x1.length c3)) (lV 25 (eM (.int .i64 x6)) ?_))))
    obtain ⟨t37, u38, M⟩ := bnd M
    refine lC 26 (eC [.tmp 24, .tmp 25] [.slice A2 x1.length c3, .int .i64 x6] Try.func32) (spec_l1number.calls k w32 H x1 A2 c3 x6 h4 l5 S34.own0 t37 u38) ?_
    rintro _ w39 ⟨rfl, C40⟩
    refine ⟨_, rfl, ?_⟩
    obtain ⟨S41, K42⟩ := S34.still C40
    replace b10 := K42.blk 1 rfl b10
    refine lV 23 (eM (.tuple #[.int .i64 t37.1, .int .i64 t37.2.1, .int .i64 t37.2.2])) (lV 27 (e_extract (vs := #[.int .i64 t37.1, .int .i64 t37.2.1, .int .i64 t37.2.2]) (v := .int .i64 t37.1) (by kernel_rfl) rfl) (lV 28 (e_extract (vs := #[.int .i64 t37.1, .int .i64 t37.2.1, .int .i64 t37.2.2]) (v := .int .i64 t37.2.1) (by kernel_rfl) rfl) (lV 29 (e_extract (vs := #[.int .i64 t37.1, .int .i64 t37.2.1, .int .i64 t37.2.2]) (v := .int .i64 t37.2.2) (by kernel_rfl) rfl) (lV 10 (eA (.int .i64 t37.1)) (lV 11 (eA (.int .i64 t37.2.1)) (lV 12 (eA (.int .i64 t37.2.2)) (wpList_nil ?_)))))))
    refine then_n (wp_seq (wp_region_lit (lV 30 (eM (.int .i64 x6)) (lV 31 (eM (.int .i64 t37.2.1)) (lV 32 (eM (.int .i64 t37.1)) (lV 33 (show _ = Result.ok (Next.value (.agg #[.int .i64 3, .int .i64 x6, .int .i64 t37.2.1, .slice none 0 0, .int .i64 t37.1])) w39 from by kernel_rfl) (lV 34 (eM (.int .i64 t37.2.2)) ?_)))))))
    have S43 := S41.pull (F := (is g9)) (Fr := [(is g14)]) 1 rfl rfl
    refine lE (e_store (g := g9) (o := 0) (v := .agg #[.int .i64 3, .int .i64 x6, .int .i64 t37.2.1, .slice none 0 0, .int .i64 t37.1]) (cur' := #[.int .i64 3, .int .i64 x6, .int .i64 t37.2.1, .slice none 0 0, .int .i64 t37.1]) (vs := [.int .i64 3, .int .i64 x6, .int .i64 t37.2.1, .slice none 0 0, .int .i64 t37.1]) S43 (by kernel_rfl) (by kernel_rfl) rfl (by kernel_rfl) b10 (Nat.le_of_ble_eq_true rfl) (List.forall_mem_cons.2 ⟨rfl, (List.forall_mem_cons.2 ⟨rfl, (List.forall_mem_cons.2 ⟨rfl, (List.forall_mem_cons.2 ⟨rfl, (List.forall_mem_cons.2 ⟨rfl, (fun _ h_ => by cases h_)⟩)⟩)⟩)⟩)⟩) rfl) ?_
    rintro w44 ⟨b45, S46, K47⟩
    clear b10
    refine lV 7 (eA (.int .i64 t37.2.2)) (wpList_nil (then_n (wp_ret (then_r ?_))))
    obtain rfl := Option.some.inj M
    have S48 := S46.unit
    have S49 := St.first (Fa := [no]) (Fr := [(is g9), (is g14)]) S48
    exact retST (ty := 37) (cur := #[.int .i64 3, .int .i64 x6, .int .i64 t37.2.1, .slice none 0 0, .int .i64 t37.1]) rfl rfl rfl (by kernel_rfl) b45 Try.underlying37 rfl (by kernel_rfl) (show _ = .int .i64 t37.2.2 from (by kernel_rfl)) ⟨none, 0, no, H, rfl, (Row.nil _ _ _ _ no), S49⟩
  replace M := ifn q36 M
  refine cF (bvf q36 (by kernel_rfl)) (wp_skip (then_n ?_))
  refine wp_seq_cut (fun a61 w50 => ∃ (f51 : Nat → Value) (x52 : Int) (x53 : Int), a61 = mk 166 f51 ∧ f51 0 = .slice A2 x1.length c3 ∧ f51 1 = .int .i64 x6 ∧ f51 6 = .pointer (some ⟨g9, 0, none⟩) ∧ f51 8 = .pointer (some ⟨g14, 0, none⟩) ∧ w50.heap[g14]? = some (.cells #[.int .i64 x52, .int .i64 x6, .int .i64 x53, .slice none 0 0, .int .i64 0] 37 (0, 0)) ∧ w50.heap[g9]? = some (.cells #[.int .i64 0, .int .i64 0, .int .i64 0, .slice none 0 0, .int .i64 0] 37 (0, 0)) ∧ St (anyOf []) H w [(is g14), (is g9)] H w50 ∧ spec_l1token.l0 0 x1 x6 x52 x53 = some r) ?_ ?_
  · refine wp_seq (wp_region_lit (lV 35 (eM (.int .u8 ((x1.getD ((x6).toNat) (0 : UInt8)).toNat : Int))) ?_))
    obtain ⟨t62, u63, M⟩ := bnd M
    refine lC 36 (eC [.tmp 35] [.int .u8 ((x1.getD ((x6).toNat) (0 : UInt8)).toNat : Int)] Try.func26) (spec_l1alnum.calls w32 H (x1.getD ((x6).toNat) (0 : UInt8))  S34.own0 t62 u63) ?_
    rintro _ w64 ⟨rfl, C65⟩
    refine ⟨_, rfl, ?_⟩
    obtain ⟨S66, K67⟩ := S34.still C65
    replace b19 := K67.blk 0 rfl b19
    replace b10 := K67.blk 1 rfl b10
    refine wpList_nil (then_n ?_)
    by_cases q68 : t62 = true
    · replace M := ifp q68 M
      refine cT (bvt q68 (by kernel_rfl)) (wp_seq (wp_region_lit (lV 37 (eM (.slice A2 x1.length c3)) (lV 38 (eM (.int .i64 x6)) ?_))))
      obtain ⟨t69, u70, M⟩ := bnd M
      refine lC 39 (eC [.tmp 37, .tmp 38, .const (.bool false)] [.slice A2 x1.length c3, .int .i64 x6, .bool false] Try.func17) (spec_l1run.calls k w64 H x1 A2 c3 x6 false h4 l5 S66.own0 t69 u70) ?_
      rintro _ w71 ⟨rfl, C72⟩
      refine ⟨_, rfl, ?_⟩
      obtain ⟨S73, K74⟩ := S66.still C72
      replace b19 := K74.blk 0 rfl b19
      replace b10 := K74.blk 1 rfl b10
      refine lV 40 (eD g14 0 2 1 Try.underlying37) ?_
      refine lE (eS g14 (0 + 2) (.int .i64 t69) #[.int .i64 1, .int .i64 x6, .int .i64 t69, .slice none 0 0, .int .i64 0] [.int .i64 t69] S73 b19) ?_
      rintro w75 ⟨b76, S77, K78⟩
      replace b10 := K78.blk 0 rfl b10
      clear b19
      refine wpList_nil (then_n (wp_seq (wp_region_lit (lV 41 (eM (.int .u8 ((x1.getD ((x6).toNat) (0 : UInt8)).toNat : Int))) ?_))))
      obtain ⟨t79, u80, M⟩ := bnd M
      refine lC 42 (eC [.tmp 41] [.int .u8 ((x1.getD ((x6).toNat) (0 : UInt8)).toNat : Int)] Try.func16) (spec_l1small.calls w75 H (x1.getD ((x6).toNat) (0 : UInt8))  S77.own0 t79 u80) ?_
      rintro _ w81 ⟨rfl, C82⟩
      refine ⟨_, rfl, ?_⟩
      obtain ⟨S83, K84⟩ := S77.still C82
      replace b76 := K84.blk 0 rfl b76
      replace b10 := K84.blk 1 rfl b10
      refine lV 43 (e_notv (c := t79) (by kernel_rfl)) (wpList_nil (then_n ?_))
      by_cases q85 : ¬ (t79 = true)
      · replace M := ifp q85 M
        refine cT (bT q85) (wp_region_lit (lV 44 (eD g14 0 0 1 Try.underlying37) ?_))
        refine lE (eS g14 (0 + 0) (.int .i64 2) #[.int .i64 2, .int .i64 x6, .int .i64 t69, .slice none 0 0, .int .i64 0] [.int .i64 2] S83 b76) ?_
        rintro w86 ⟨b87, S88, K89⟩
        replace b10 := K89.blk 0 rfl b10
        clear b76
        refine wpList_nil (then_n ?_)
        exact ⟨_, 2, t69, rfl, (by kernel_rfl), (by kernel_rfl), (by kernel_rfl), (by kernel_rfl), b87, b10, S88, M⟩
      replace M := ifn q85 M
      refine cF (bF q85) (wp_skip (then_n ?_))
      exact ⟨_, 1, t69, rfl, (by kernel_rfl), (by kernel_rfl), (by kernel_rfl), (by kernel_rfl), b76, b10, S83, M⟩
    replace M := ifn q68 M
    refine cF (bvf q68 (by kernel_rfl)) (wp_seq (wp_region_lit (lV 45 (eM (.int .u8 ((x1.getD ((x6).toNat) (0 : UInt8)).toNat : Int))) (lV 46 (eEq .u8 ((x1.getD ((x6).toNat) (0 : UInt8)).toNat : Int) 46) (lV 47 (eM (.bool (decide (((x1.getD ((x6).toNat) (0 : UInt8)).toNat : Int) = 46)))) ?_)))))
    by_cases q90 : ((x1.getD ((x6).toNat) (0 : UInt8)).toNat : Int) = 46
    · replace M := ifp q90 M
      refine lG 48 47 (bT q90) (eM (.int .i64 x6)) (lG 49 47 (bT q90) (eAdd .i64 x6 1) (lG 50 47 (bT q90) (eM (.slice A2 x1.length c3)) (lG 51 47 (bT q90) (e_len (A := A2) (n := x1.length) (c := c3) Try.underlying23 (by kernel_rfl)) (lG 52 47 (bT q90) (eEq .i64 (IntKind.i64.wrap (x6 + 1)) (x1.length : Int)) (lG 53 47 (bT q90) (eM (.bool (decide ((IntKind.i64.wrap (x6 + 1)) = (x1.length : Int))))) ?_)))))
      by_cases q91 : (IntKind.i64.wrap (x6 + 1)) = (x1.length : Int)
      · replace M := ifp q91 M
        refine lK 53 true (bT q91) ?_
        refine lK 53 true (bT q91) ?_
        refine lK 53 true (bT q91) ?_
        refine lK 53 true (bT q91) ?_
        refine lK 53 true (bT q91) ?_
        refine lK 53 true (bT q91) ?_
        refine lG 60 47 (bT q90) (eT (.bool true) (bT q91)) (lG 61 47 (bT q90) (eM (.bool true)) ?_)
        refine lJ 61 true ?_
        refine lJ 61 true ?_
        refine lJ 61 true ?_
        refine lJ 61 true ?_
        refine lJ 61 true ?_
        refine lJ 61 true ?_
        refine lG 68 47 (bT q90) (eT (.bool true)) (lV 69 (eT (.bool true) (bT q90)) (wpList_nil (then_n (cond_t rfl (by kernel_rfl) (wp_seq (wp_region_lit (lV 70 (eM (.int .i64 x6)) ?_)))))))
        refine lV 71 (show _ = Result.ok (Next.value (.agg #[.int .i64 7, .int .i64 x6, .int .i64 1, .slice none 0 0, .int .i64 0])) w64 from by kernel_rfl) ?_
        have S92 := S66.pull (F := (is g9)) (Fr := [(is g14)]) 1 rfl rfl
        refine lE (e_store (g := g9) (o := 0) (v := .agg #[.int .i64 7, .int .i64 x6, .int .i64 1, .slice none 0 0, .int .i64 0]) (cur' := #[.int .i64 7, .int .i64 x6, .int .i64 1, .slice none 0 0, .int .i64 0]) (vs := [.int .i64 7, .int .i64 x6, .int .i64 1, .slice none 0 0, .int .i64 0]) S92 (by kernel_rfl) (by kernel_rfl) rfl (by kernel_rfl) b10 (Nat.le_of_ble_eq_true rfl) (List.forall_mem_cons.2 ⟨rfl, (List.forall_mem_cons.2 ⟨rfl, (List.forall_mem_cons.2 ⟨rfl, (List.forall_mem_cons.2 ⟨rfl, (List.forall_mem_cons.2 ⟨rfl, (fun _ h_ => by cases h_)⟩)⟩)⟩)⟩)⟩) rfl) ?_
        rintro w93 ⟨b94, S95, K96⟩
        clear b10
        refine lV 7 (eA (.int .i64 0)) (wpList_nil (then_n (wp_ret (then_r ?_))))
        obtain rfl := Option.some.inj M
        have S97 := S95.unit
        have S98 := St.first (Fa := [no]) (Fr := [(is g9), (is g14)]) S97
        exact retST (ty := 37) (cur := #[.int .i64 7, .int .i64 x6, .int .i64 1, .slice none 0 0, .int .i64 0]) rfl rfl rfl (by kernel_rfl) b94 Try.underlying37 rfl (by kernel_rfl) (show _ = .int .i64 0 from (by kernel_rfl)) ⟨none, 0, no, H, rfl, (Row.nil _ _ _ _ no), S98⟩
      replace M := ifn q91 M
      refine lG 54 53 (bF q91) (eM (.slice A2 x1.length c3)) (lG 55 53 (bF q91) (eM (.int .i64 x6)) (lG 56 53 (bF q91) (eAdd .i64 x6 1) ?_))
      obtain ⟨q99, M⟩ := chk M
      obtain ⟨q100, M⟩ := chk M
      obtain ⟨b101, o102, e103⟩ := Rd.addr h4 (show ((IntKind.i64.wrap (x6 + 1))).toNat < x1.length by omega)
      obtain ⟨y104, r105, k106⟩ := Rd.at h4 e103 (getD_some (0 : UInt8) (show ((IntKind.i64.wrap (x6 + 1))).toNat < x1.length by omega))
      obtain rfl := r105
      refine lG 57 53 (bF q91) (eI b101 o102 x1.length c3 1 (IntKind.i64.wrap (x6 + 1)) .i64 Try.underlying23 e103 q99 q100) (lG 58 53 (bF q91) (eL ⟨b101, o102 + ((IntKind.i64.wrap (x6 + 1)) : Int).toNat * 1, none⟩ (.int .u8 ((x1.getD (((IntKind.i64.wrap (x6 + 1))).toNat) (0 : UInt8)).toNat : Int)) Try.underlying5 (hpx (S66.inv.cell (k106 0 _ rfl)))) ?_)
      obtain ⟨t107, u108, M⟩ := bnd M
      refine lcallg (d := 59) (t := 53) rfl (by kernel_rfl) rfl (bF q91) rfl (by kernel_rfl) (eC [.tmp 58] [.int .u8 ((x1.getD (((IntKind.i64.wrap (x6 + 1))).toNat) (0 : UInt8)).toNat : Int)] Try.func30) (spec_l1blank.calls w64 H (x1.getD (((IntKind.i64.wrap (x6 + 1))).toNat) (0 : UInt8))  S66.own0 t107 u108) ?_
      rintro _ w109 ⟨rfl, C110⟩
      refine ⟨_, rfl, ?_⟩
      obtain ⟨S111, K112⟩ := S66.still C110
      replace b19 := K112.blk 0 rfl b19
      replace b10 := K112.blk 1 rfl b10
      refine lG 60 47 (bT q90) (eF (.bool t107) (bF q91)) (lG 61 47 (bT q90) (eM (.bool t107)) ?_)
      by_cases q113 : t107 = true
      · replace M := ifp q113 M
        refine lK 61 true (bvt q113 (by kernel_rfl)) ?_
        refine lK 61 true (bvt q113 (by kernel_rfl)) ?_
        refine lK 61 true (bvt q113 (by kernel_rfl)) ?_
        refine lK 61 true (bvt q113 (by kernel_rfl)) ?_
        refine lK 61 true (bvt q113 (by kernel_rfl)) ?_
        refine lK 61 true (bvt q113 (by kernel_rfl)) ?_
        refine lG 68 47 (bT q90) (eT (.bool true) (bvt q113 (by kernel_rfl))) (lV 69 (eT (.bool true) (bT q90)) (wpList_nil (then_n (cond_t rfl (by kernel_rfl) (wp_seq (wp_region_lit (lV 70 (eM (.int .i64 x6)) ?_)))))))
        refine lV 71 (show _ = Result.ok (Next.value (.agg #[.int .i64 7, .int .i64 x6, .int .i64 1, .slice none 0 0, .int .i64 0])) w109 from by kernel_rfl) ?_
        have S114 := S111.pull (F := (is g9)) (Fr := [(is g14)]) 1 rfl rfl
        refine lE (e_store (g := g9) (o := 0) (v := .agg #[.int .i64 7, .int .i64 x6, .int .i64 1, .slice none 0 0, .int .i64 0]) (cur' := #[.int .i64 7, .int .i64 x6, .int .i64 1, .slice none 0 0, .int .i64 0]) (vs := [.int .i64 7, .int .i64 x6, .int .i64 1, .slice none 0 0, .int .i64 0]) S114 (by kernel_rfl) (by kernel_rfl) rfl (by kernel_rfl) b10 (Nat.le_of_ble_eq_true rfl) (List.forall_mem_cons.2 ⟨rfl, (List.forall_mem_cons.2 ⟨rfl, (List.forall_mem_cons.2 ⟨rfl, (List.forall_mem_cons.2 ⟨rfl, (List.forall_mem_cons.2 ⟨rfl, (fun _ h_ => by cases h_)⟩)⟩)⟩)⟩)⟩) rfl) ?_
        rintro w115 ⟨b116, S117, K118⟩
        clear b10
        refine lV 7 (eA (.int .i64 0)) (wpList_nil (then_n (wp_ret (then_r ?_))))
        obtain rfl := Option.some.inj M
        have S119 := S117.unit
        have S120 := St.first (Fa := [no]) (Fr := [(is g9), (is g14)]) S119
        exact retST (ty := 37) (cur := #[.int .i64 7, .int .i64 x6, .int .i64 1, .slice none 0 0, .int .i64 0]) rfl rfl rfl (by kernel_rfl) b116 Try.underlying37 rfl (by kernel_rfl) (show _ = .int .i64 0 from (by kernel_rfl)) ⟨none, 0, no, H, rfl, (Row.nil _ _ _ _ no), S120⟩
      replace M := ifn q113 M
      refine lG 62 61 (bvf q113 (by kernel_rfl)) (eM (.slice A2 x1.length c3)) (lG 63 61 (bvf q113 (by kernel_rfl)) (eM (.int .i64 x6)) (lG 64 61 (bvf q113 (by kernel_rfl)) (eAdd .i64 x6 1) ?_))
      obtain ⟨b121, o122, e123⟩ := Rd.addr h4 (show ((IntKind.i64.wrap (x6 + 1))).toNat < x1.length by omega)
      obtain ⟨y124, r125, k126⟩ := Rd.at h4 e123 (getD_some (0 : UInt8) (show ((IntKind.i64.wrap (x6 + 1))).toNat < x1.length by omega))
      obtain rfl := r125
      refine lG 65 61 (bvf q113 (by kernel_rfl)) (eI b121 o122 x1.length c3 1 (IntKind.i64.wrap (x6 + 1)) .i64 Try.underlying23 e123 q99 q100) (lG 66 61 (bvf q113 (by kernel_rfl)) (eL ⟨b121, o122 + ((IntKind.i64.wrap (x6 + 1)) : Int).toNat * 1, none⟩ (.int .u8 ((x1.getD (((IntKind.i64.wrap (x6 + 1))).toNat) (0 : UInt8)).toNat : Int)) Try.underlying5 (hpx (S111.inv.cell (k126 0 _ rfl)))) (lG 67 61 (bvf q113 (by kernel_rfl)) (eEq .u8 ((x1.getD (((IntKind.i64.wrap (x6 + 1))).toNat) (0 : UInt8)).toNat : Int) 37) (lG 68 47 (bT q90) (eF (.bool (decide (((x1.getD (((IntKind.i64.wrap (x6 + 1))).toNat) (0 : UInt8)).toNat : Int) = 37))) (bvf q113 (by kernel_rfl))) (lV 69 (eT (.bool (decide (((x1.getD (((IntKind.i64.wrap (x6 + 1))).toNat) (0 : UInt8)).toNat : Int) = 37))) (bT q90)) (wpList_nil (then_n ?_))))))
      by_cases q127 : ((x1.getD (((IntKind.i64.wrap (x6 + 1))).toNat) (0 : UInt8)).toNat : Int) = 37
      · replace M := ifp q127 M
        refine cT (bT q127) (wp_seq (wp_region_lit (lV 70 (eM (.int .i64 x6)) (lV 71 (show _ = Result.ok (Next.value (.agg #[.int .i64 7, .int .i64 x6, .int .i64 1, .slice none 0 0, .int .i64 0])) w109 from by kernel_rfl) ?_))))
        have S128 := S111.pull (F := (is g9)) (Fr := [(is g14)]) 1 rfl rfl
        refine lE (e_store (g := g9) (o := 0) (v := .agg #[.int .i64 7, .int .i64 x6, .int .i64 1, .slice none 0 0, .int .i64 0]) (cur' := #[.int .i64 7, .int .i64 x6, .int .i64 1, .slice none 0 0, .int .i64 0]) (vs := [.int .i64 7, .int .i64 x6, .int .i64 1, .slice none 0 0, .int .i64 0]) S128 (by kernel_rfl) (by kernel_rfl) rfl (by kernel_rfl) b10 (Nat.le_of_ble_eq_true rfl) (List.forall_mem_cons.2 ⟨rfl, (List.forall_mem_cons.2 ⟨rfl, (List.forall_mem_cons.2 ⟨rfl, (List.forall_mem_cons.2 ⟨rfl, (List.forall_mem_cons.2 ⟨rfl, (fun _ h_ => by cases h_)⟩)⟩)⟩)⟩)⟩) rfl) ?_
        rintro w129 ⟨b130, S131, K132⟩
        clear b10
        refine lV 7 (eA (.int .i64 0)) (wpList_nil (then_n (wp_ret (then_r ?_))))
        obtain rfl := Option.some.inj M
        have S133 := S131.unit
        have S134 := St.first (Fa := [no]) (Fr := [(is g9), (is g14)]) S133
        exact retST (ty := 37) (cur := #[.int .i64 7, .int .i64 x6, .int .i64 1, .slice none 0 0, .int .i64 0]) rfl rfl rfl (by kernel_rfl) b130 Try.underlying37 rfl (by kernel_rfl) (show _ = .int .i64 0 from (by kernel_rfl)) ⟨none, 0, no, H, rfl, (Row.nil _ _ _ _ no), S134⟩
      replace M := ifn q127 M
      refine cF (bF q127) (wp_seq (wp_region_lit (lV 72 (eM (.int .u8 ((x1.getD ((x6).toNat) (0 : UInt8)).toNat : Int))) ?_)))
      obtain ⟨t135, u136, M⟩ := bnd M
      refine lC 73 (eC [.tmp 72] [.int .u8 ((x1.getD ((x6).toNat) (0 : UInt8)).toNat : Int)] Try.func25) (spec_l1symbol.calls k w109 H (x1.getD ((x6).toNat) (0 : UInt8))  S111.own0 t135 u136) ?_
      rintro _ w137 ⟨rfl, C138⟩
      refine ⟨_, rfl, ?_⟩
      obtain ⟨S139, K140⟩ := S111.still C138
      replace b19 := K140.blk 0 rfl b19
      replace b10 := K140.blk 1 rfl b10
      refine wpList_nil (then_n ?_)
      by_cases q141 : t135 = true
      · replace M := ifp q141 M
        refine cT (bvt q141 (by kernel_rfl)) (wp_region_lit (lV 74 (eM (.slice A2 x1.length c3)) (lV 75 (eM (.int .i64 x6)) ?_)))
        obtain ⟨t142, u143, M⟩ := bnd M
        refine lC 76 (eC [.tmp 74, .tmp 75, .const (.bool true)] [.slice A2 x1.length c3, .int .i64 x6, .bool true] Try.func17) (spec_l1run.calls k w137 H x1 A2 c3 x6 true h4 l5 S139.own0 t142 u143) ?_
        rintro _ w144 ⟨rfl, C145⟩
        refine ⟨_, rfl, ?_⟩
        obtain ⟨S146, K147⟩ := S139.still C145
        replace b19 := K147.blk 0 rfl b19
        replace b10 := K147.blk 1 rfl b10
        refine lV 77 (eD g14 0 2 1 Try.underlying37) ?_
        refine lE (eS g14 (0 + 2) (.int .i64 t142) #[.int .i64 1, .int .i64 x6, .int .i64 t142, .slice none 0 0, .int .i64 0] [.int .i64 t142] S146 b19) ?_
        rintro w148 ⟨b149, S150, K151⟩
        replace b10 := K151.blk 0 rfl b10
        clear b19
        refine wpList_nil (then_n ?_)
        exact ⟨_, 1, t142, rfl, (by kernel_rfl), (by kernel_rfl), (by kernel_rfl), (by kernel_rfl), b149, b10, S150, M⟩
      replace M := ifn q141 M
      refine cF (bvf q141 (by kernel_rfl)) (wp_seq (wp_region_lit (lV 78 (eM (.int .u8 ((x1.getD ((x6).toNat) (0 : UInt8)).toNat : Int))) (lV 79 (eEq .u8 ((x1.getD ((x6).toNat) (0 : UInt8)).toNat : Int) 33) (lV 80 (eM (.bool (decide (((x1.getD ((x6).toNat) (0 : UInt8)).toNat : Int) = 33)))) ?_)))))
      by_cases q152 : ((x1.getD ((x6).toNat) (0 : UInt8)).toNat : Int) = 33
      · replace M := ifp q152 M
        refine lK 80 true (bT q152) ?_
        refine lK 80 true (bT q152) ?_
        refine lV 83 (eT (.bool true) (bT q152)) (wpList_nil (then_n (cond_t rfl (by kernel_rfl) (wp_region_lit (lV 84 (eD g14 0 2 1 Try.underlying37) ?_)))))
        refine lE (eS g14 (0 + 2) (.int .i64 1) #[.int .i64 1, .int .i64 x6, .int .i64 1, .slice none 0 0, .int .i64 0] [.int .i64 1] S139 b19) ?_
        rintro w153 ⟨b154, S155, K156⟩
        replace b10 := K156.blk 0 rfl b10
        clear b19
        refine wpList_nil (then_n ?_)
        exact ⟨_, 1, 1, rfl, (by kernel_rfl), (by kernel_rfl), (by kernel_rfl), (by kernel_rfl), b154, b10, S155, M⟩
      replace M := ifn q152 M
      refine lG 81 80 (bF q152) (eM (.int .u8 ((x1.getD ((x6).toNat) (0 : UInt8)).toNat : Int))) (lG 82 80 (bF q152) (eEq .u8 ((x1.getD ((x6).toNat) (0 : UInt8)).toNat : Int) 59) (lV 83 (eF (.bool (decide (((x1.getD ((x6).toNat) (0 : UInt8)).toNat : Int) = 59))) (bF q152)) (wpList_nil (then_n ?_))))
      by_cases q157 : ((x1.getD ((x6).toNat) (0 : UInt8)).toNat : Int) = 59
      · replace M := ifp q157 M
        refine cT (bT q157) (wp_region_lit (lV 84 (eD g14 0 2 1 Try.underlying37) ?_))
        refine lE (eS g14 (0 + 2) (.int .i64 1) #[.int .i64 1, .int .i64 x6, .int .i64 1, .slice none 0 0, .int .i64 0] [.int .i64 1] S139 b19) ?_
        rintro w158 ⟨b159, S160, K161⟩
        replace b10 := K161.blk 0 rfl b10
        clear b19
        refine wpList_nil (then_n ?_)
        exact ⟨_, 1, 1, rfl, (by kernel_rfl), (by kernel_rfl), (by kernel_rfl), (by kernel_rfl), b159, b10, S160, M⟩
      replace M := ifn q157 M
      refine cF (bF q157) (wp_seq (wp_region_lit (lV 85 (eM (.int .u8 ((x1.getD ((x6).toNat) (0 : UInt8)).toNat : Int))) (lV 86 (eEq .u8 ((x1.getD ((x6).toNat) (0 : UInt8)).toNat : Int) 39) (lV 87 (eM (.bool (decide (((x1.getD ((x6).toNat) (0 : UInt8)).toNat : Int) = 39)))) ?_)))))
      by_cases q162 : ((x1.getD ((x6).toNat) (0 : UInt8)).toNat : Int) = 39
      · replace M := ifp q162 M
        refine lK 87 true (bT q162) ?_
        refine lK 87 true (bT q162) ?_
        refine lV 90 (eT (.bool true) (bT q162)) (wpList_nil (then_n (cond_t rfl (by kernel_rfl) ?_)))
        refine wp_seq_cut (fun a173 w163 => ∃ (f164 : Nat → Value) (x165 : Int), a173 = mk 166 f164 ∧ f164 0 = .slice A2 x1.length c3 ∧ f164 1 = .int .i64 x6 ∧ f164 6 = .pointer (some ⟨g9, 0, none⟩) ∧ f164 8 = .pointer (some ⟨g14, 0, none⟩) ∧ w163.heap[g14]? = some (.cells #[.int .i64 x165, .int .i64 x6, .int .i64 0, .slice none 0 0, .int .i64 0] 37 (0, 0)) ∧ w163.heap[g9]? = some (.cells #[.int .i64 0, .int .i64 0, .int .i64 0, .slice none 0 0, .int .i64 0] 37 (0, 0)) ∧ St (anyOf []) H w [(is g14), (is g9)] H w163 ∧ spec_l1token.l1 k x1 x6 x165 = some r) ?_ ?_
        · refine wp_seq (wp_region_lit (lV 91 (eM (.int .u8 ((x1.getD ((x6).toNat) (0 : UInt8)).toNat : Int))) (lV 92 (eEq .u8 ((x1.getD ((x6).toNat) (0 : UInt8)).toNat : Int) 34) (wpList_nil (then_n ?_)))))
          by_cases q174 : ((x1.getD ((x6).toNat) (0 : UInt8)).toNat : Int) = 34
          · replace M := ifp q174 M
            refine cT (bT q174) (wp_region_lit (lV 93 (eD g14 0 0 1 Try.underlying37) ?_))
            refine lE (eS g14 (0 + 0) (.int .i64 4) #[.int .i64 4, .int .i64 x6, .int .i64 0, .slice none 0 0, .int .i64 0] [.int .i64 4] S139 b19) ?_
            rintro w175 ⟨b176, S177, K178⟩
            replace b10 := K178.blk 0 rfl b10
            clear b19
            refine wpList_nil (then_n ?_)
            exact ⟨_, 4, rfl, (by kernel_rfl), (by kernel_rfl), (by kernel_rfl), (by kernel_rfl), b176, b10, S177, M⟩
          replace M := ifn q174 M
          refine cF (bF q174) (wp_skip (then_n ?_))
          exact ⟨_, 1, rfl, (by kernel_rfl), (by kernel_rfl), (by kernel_rfl), (by kernel_rfl), b19, b10, S139, M⟩
        clear M
        rintro a173 w163 ⟨f164, x165, rfl, e166, e167, e168, e169, b19, b10, S170, M⟩
        rw [spec_l1token.l1] at M
        refine wp_seq (wp_region_lit (lV 95 (eM (.slice A2 x1.length c3) (by exact e166)) (lV 96 (eM (.int .i64 x6) (by exact e167)) ?_)))
        obtain ⟨t179, u180, M⟩ := bnd M
        refine lC 97 (eC [.tmp 95, .tmp 96] [.slice A2 x1.length c3, .int .i64 x6] Try.func33) (spec_l1text.calls k w163 H x1 A2 c3 x6 h4 l5 (St.own' (Fa := []) (Fr := [(is g14), (is g9)]) S170) t179 u180) ?_
        rintro _ w181 ⟨A184, c185, F187, H182, rfl, h186, T183⟩
        refine ⟨_, rfl, ?_⟩
        obtain ⟨S188, K189⟩ := St.call (Fa := []) (Fr := [(is g14), (is g9)]) S170 T183
        replace b19 := K189.blk 0 rfl b19
        replace b10 := K189.blk 1 rfl b10
        have E190 := T183.ext
        refine lV 94 (eM (.tuple #[.slice A184 t179.1.length c185, .int .i64 t179.2])) (lV 98 (e_extract (vs := #[.slice A184 t179.1.length c185, .int .i64 t179.2]) (v := .slice A184 t179.1.length c185) (by kernel_rfl) rfl) (lV 99 (e_extract (vs := #[.slice A184 t179.1.length c185, .int .i64 t179.2]) (v := .int .i64 t179.2) (by kernel_rfl) rfl) (lV 13 (eA (.slice A184 t179.1.length c185)) (lV 14 (eA (.int .i64 t179.2)) (wpList_nil (then_n (wp_seq ?_)))))))
        refine wp_seq (wp_region_lit (lV 100 (eM (.int .i64 t179.2)) (lV 101 (eEq .i64 t179.2 0) (wpList_nil (then_n ?_)))))
        by_cases q191 : t179.2 = 0
        · replace M := ifp q191 M
          refine cT (bT q191) (wp_seq (wp_region_lit (lV 102 (show _ = Result.ok (Next.value (.agg #[.int .i64 0, .int .i64 0, .int .i64 0, .slice none 0 0, .int .i64 0])) w181 from by kernel_rfl) ?_)))
          have S192 := S188.pull (F := (is g9)) (Fr := [F187, (is g14)]) 2 rfl rfl
          refine lE (e_store (g := g9) (o := 0) (v := .agg #[.int .i64 0, .int .i64 0, .int .i64 0, .slice none 0 0, .int .i64 0]) (cur' := #[.int .i64 0, .int .i64 0, .int .i64 0, .slice none 0 0, .int .i64 0]) (vs := [.int .i64 0, .int .i64 0, .int .i64 0, .slice none 0 0, .int .i64 0]) S192 (by exact e168) (by kernel_rfl) rfl (by kernel_rfl) b10 (Nat.le_of_ble_eq_true rfl) (List.forall_mem_cons.2 ⟨rfl, (List.forall_mem_cons.2 ⟨rfl, (List.forall_mem_cons.2 ⟨rfl, (List.forall_mem_cons.2 ⟨rfl, (List.forall_mem_cons.2 ⟨rfl, (fun _ h_ => by cases h_)⟩)⟩)⟩)⟩)⟩) rfl) ?_
          rintro w193 ⟨b194, S195, K196⟩
          clear b10
          refine lV 7 (eA (.int .i64 2)) (wpList_nil (then_n (wp_ret (then_r (then_r ?_)))))
          obtain rfl := Option.some.inj M
          have S197 := S195.unit
          have S198 := St.first (Fa := [no]) (Fr := [(is g9), F187, (is g14)]) S197
          exact retST (ty := 37) (cur := #[.int .i64 0, .int .i64 0, .int .i64 0, .slice none 0 0, .int .i64 0]) rfl rfl rfl (by exact e168) b194 Try.underlying37 rfl (by kernel_rfl) (show _ = .int .i64 2 from (by kernel_rfl)) ⟨none, 0, no, H182, rfl, (Row.nil _ _ _ _ no), S198⟩
        replace M := ifn q191 M
        refine cF (bF q191) (wp_skip (then_n (wp_seq (wp_region_lit (lV 103 (eM (.slice A184 t179.1.length c185)) (lV 104 (eD g14 0 3 1 Try.underlying37 (by exact e169)) ?_))))))
        have S199 := S188.pull (F := (is g14)) (Fr := [F187, (is g9)]) 1 rfl rfl
        refine lE (eS g14 (0 + 3) (.slice A184 t179.1.length c185) #[.int .i64 x165, .int .i64 x6, .int .i64 0, .slice A184 t179.1.length c185, .int .i64 0] [.slice A184 t179.1.length c185] S199 b19) ?_
        rintro w200 ⟨b201, S202, K203⟩
        replace h186 := h186.move (K203.at 0 rfl)
        replace b10 := K203.blk 1 rfl b10
        clear b19
        refine wpList_nil (then_n (wp_seq (wp_region_lit (lV 105 (eM (.int .i64 t179.2)) (lV 106 (eD g14 0 2 1 Try.underlying37 (by exact e169)) ?_)))))
        refine lE (eS g14 (0 + 2) (.int .i64 t179.2) #[.int .i64 x165, .int .i64 x6, .int .i64 t179.2, .slice A184 t179.1.length c185, .int .i64 0] [.int .i64 t179.2] S202 b201) ?_
        rintro w204 ⟨b205, S206, K207⟩
        replace h186 := h186.move (K207.at 0 rfl)
        replace b10 := K207.blk 1 rfl b10
        clear b201
        refine wpList_nil (then_n (wp_seq (wp_seq (wp_region_lit (lV 107 (eM (.slice A184 t179.1.length c185)) (lV 108 (e_len (A := A184) (n := t179.1.length) (c := c185) Try.underlying23 (by kernel_rfl)) (lV 109 (e_gtr (k := .i64) (a := (t179.1.length : Int)) (b := 100) (by kernel_rfl) rfl) ?_)))))))
        refine wpList_nil (then_n ?_)
        by_cases q208 : (t179.1.length : Int) > 100
        · replace M := ifp q208 M
          refine cT (bT q208) (wp_seq (wp_region_lit (lV 110 (show _ = Result.ok (Next.value (.agg #[.int .i64 0, .int .i64 0, .int .i64 0, .slice none 0 0, .int .i64 0])) w204 from by kernel_rfl) ?_)))
          have S209 := S206.pull (F := (is g9)) (Fr := [(is g14), F187]) 2 rfl rfl
          refine lE (e_store (g := g9) (o := 0) (v := .agg #[.int .i64 0, .int .i64 0, .int .i64 0, .slice none 0 0, .int .i64 0]) (cur' := #[.int .i64 0, .int .i64 0, .int .i64 0, .slice none 0 0, .int .i64 0]) (vs := [.int .i64 0, .int .i64 0, .int .i64 0, .slice none 0 0, .int .i64 0]) S209 (by exact e168) (by kernel_rfl) rfl (by kernel_rfl) b10 (Nat.le_of_ble_eq_true rfl) (List.forall_mem_cons.2 ⟨rfl, (List.forall_mem_cons.2 ⟨rfl, (List.forall_mem_cons.2 ⟨rfl, (List.forall_mem_cons.2 ⟨rfl, (List.forall_mem_cons.2 ⟨rfl, (fun _ h_ => by cases h_)⟩)⟩)⟩)⟩)⟩) rfl) ?_
          rintro w210 ⟨b211, S212, K213⟩
          clear b10
          refine lV 7 (eA (.int .i64 3)) (wpList_nil (then_n (wp_ret (then_r (then_r ?_)))))
          obtain rfl := Option.some.inj M
          have S214 := S212.unit
          have S215 := St.first (Fa := [no]) (Fr := [(is g9), (is g14), F187]) S214
          exact retST (ty := 37) (cur := #[.int .i64 0, .int .i64 0, .int .i64 0, .slice none 0 0, .int .i64 0]) rfl rfl rfl (by exact e168) b211 Try.underlying37 rfl (by kernel_rfl) (show _ = .int .i64 3 from (by kernel_rfl)) ⟨none, 0, no, H182, rfl, (Row.nil _ _ _ _ no), S215⟩
        replace M := ifn q208 M
        refine cF (bF q208) (wp_skip (then_n (wp_seq (wp_region_lit (lV 111 (e_loadS (b := g14) (off := 0) (cs := [.int .i64 x165, .int .i64 x6, .int .i64 t179.2, .slice A184 t179.1.length c185, .int .i64 0]) Try.underlying37 rfl (by kernel_rfl) (by exact e169) (blk_cells b205 rfl)) ?_)))))
        have S216 := S206.pull (F := (is g9)) (Fr := [(is g14), F187]) 2 rfl rfl
        refine lE (e_store (g := g9) (o := 0) (v := .agg #[.int .i64 x165, .int .i64 x6, .int .i64 t179.2, .slice A184 t179.1.length c185, .int .i64 0]) (cur' := #[.int .i64 x165, .int .i64 x6, .int .i64 t179.2, .slice A184 t179.1.length c185, .int .i64 0]) (vs := [.int .i64 x165, .int .i64 x6, .int .i64 t179.2, .slice A184 t179.1.length c185, .int .i64 0]) S216 (by exact e168) (by kernel_rfl) rfl (by kernel_rfl) b10 (Nat.le_of_ble_eq_true rfl) (List.forall_mem_cons.2 ⟨rfl, (List.forall_mem_cons.2 ⟨rfl, (List.forall_mem_cons.2 ⟨rfl, (List.forall_mem_cons.2 ⟨rfl, (List.forall_mem_cons.2 ⟨rfl, (fun _ h_ => by cases h_)⟩)⟩)⟩)⟩)⟩) rfl) ?_
        rintro w217 ⟨b218, S219, K220⟩
        replace h186 := h186.move (K220.at 1 rfl)
        clear b10
        refine lV 7 (eA (.int .i64 0)) (wpList_nil (then_n (wp_ret (then_r ?_))))
        obtain rfl := Option.some.inj M
        have S221 := S219.pull (F := F187) (Fr := [(is g9), (is g14)]) 2 rfl rfl
        have S222 := St.first (Fa := [F187]) (Fr := [(is g9), (is g14)]) S221
        exact retST (ty := 37) (cur := #[.int .i64 x165, .int .i64 x6, .int .i64 t179.2, .slice A184 t179.1.length c185, .int .i64 0]) rfl rfl rfl (by exact e168) b218 Try.underlying37 rfl (by kernel_rfl) (show _ = .int .i64 0 from (by kernel_rfl)) ⟨A184, c185, F187, H182, rfl, h186, S222⟩
      replace M := ifn q162 M
      refine lG 88 87 (bF q162) (eM (.int .u8 ((x1.getD ((x6).toNat) (0 : UInt8)).toNat : Int))) (lG 89 87 (bF q162) (eEq .u8 ((x1.getD ((x6).toNat) (0 : UInt8)).toNat : Int) 34) (lV 90 (eF (.bool (decide (((x1.getD ((x6).toNat) (0 : UInt8)).toNat : Int) = 34))) (bF q162)) (wpList_nil (then_n ?_))))
      by_cases q224 : ((x1.getD ((x6).toNat) (0 : UInt8)).toNat : Int) = 34
      · replace M := ifp q224 M
        refine cT (bT q224) (wp_seq (wp_seq (wp_region_lit (lV 91 (eM (.int .u8 ((x1.getD ((x6).toNat) (0 : UInt8)).toNat : Int))) (lV 92 (eEq .u8 ((x1.getD ((x6).toNat) (0 : UInt8)).toNat : Int) 34) (wpList_nil (then_n ?_)))))))
        refine cT (bT q224) (wp_region_lit (lV 93 (eD g14 0 0 1 Try.underlying37) ?_))
        refine lE (eS g14 (0 + 0) (.int .i64 4) #[.int .i64 4, .int .i64 x6, .int .i64 0, .slice none 0 0, .int .i64 0] [.int .i64 4] S139 b19) ?_
        rintro w225 ⟨b226, S227, K228⟩
        replace b10 := K228.blk 0 rfl b10
        clear b19
        refine wpList_nil (then_n (wp_seq (wp_region_lit (lV 95 (eM (.slice A2 x1.length c3)) (lV 96 (eM (.int .i64 x6)) ?_)))))
        obtain ⟨t229, u230, M⟩ := bnd M
        refine lC 97 (eC [.tmp 95, .tmp 96] [.slice A2 x1.length c3, .int .i64 x6] Try.func33) (spec_l1text.calls k w225 H x1 A2 c3 x6 h4 l5 (St.own' (Fa := []) (Fr := [(is g14), (is g9)]) S227) t229 u230) ?_
        rintro _ w231 ⟨A234, c235, F237, H232, rfl, h236, T233⟩
        refine ⟨_, rfl, ?_⟩
        obtain ⟨S238, K239⟩ := St.call (Fa := []) (Fr := [(is g14), (is g9)]) S227 T233
        replace b226 := K239.blk 0 rfl b226
        replace b10 := K239.blk 1 rfl b10
        have E240 := T233.ext
        refine lV 94 (eM (.tuple #[.slice A234 t229.1.length c235, .int .i64 t229.2])) (lV 98 (e_extract (vs := #[.slice A234 t229.1.length c235, .int .i64 t229.2]) (v := .slice A234 t229.1.length c235) (by kernel_rfl) rfl) (lV 99 (e_extract (vs := #[.slice A234 t229.1.length c235, .int .i64 t229.2]) (v := .int .i64 t229.2) (by kernel_rfl) rfl) (lV 13 (eA (.slice A234 t229.1.length c235)) (lV 14 (eA (.int .i64 t229.2)) (wpList_nil (then_n (wp_seq ?_)))))))
        refine wp_seq (wp_region_lit (lV 100 (eM (.int .i64 t229.2)) (lV 101 (eEq .i64 t229.2 0) (wpList_nil (then_n ?_)))))
        by_cases q241 : t229.2 = 0
        · replace M := ifp q241 M
          refine cT (bT q241) (wp_seq (wp_region_lit (lV 102 (show _ = Result.ok (Next.value (.agg #[.int .i64 0, .int .i64 0, .int .i64 0, .slice none 0 0, .int .i64 0])) w231 from by kernel_rfl) ?_)))
          have S242 := S238.pull (F := (is g9)) (Fr := [F237, (is g14)]) 2 rfl rfl
          refine lE (e_store (g := g9) (o := 0) (v := .agg #[.int .i64 0, .int .i64 0, .int .i64 0, .slice none 0 0, .int .i64 0]) (cur' := #[.int .i64 0, .int .i64 0, .int .i64 0, .slice none 0 0, .int .i64 0]) (vs := [.int .i64 0, .int .i64 0, .int .i64 0, .slice none 0 0, .int .i64 0]) S242 (by kernel_rfl) (by kernel_rfl) rfl (by kernel_rfl) b10 (Nat.le_of_ble_eq_true rfl) (List.forall_mem_cons.2 ⟨rfl, (List.forall_mem_cons.2 ⟨rfl, (List.forall_mem_cons.2 ⟨rfl, (List.forall_mem_cons.2 ⟨rfl, (List.forall_mem_cons.2 ⟨rfl, (fun _ h_ => by cases h_)⟩)⟩)⟩)⟩)⟩) rfl) ?_
          rintro w243 ⟨b244, S245, K246⟩
          clear b10
          refine lV 7 (eA (.int .i64 2)) (wpList_nil (then_n (wp_ret (then_r (then_r ?_)))))
          obtain rfl := Option.some.inj M
          have S247 := S245.unit
          have S248 := St.first (Fa := [no]) (Fr := [(is g9), F237, (is g14)]) S247
          exact retST (ty := 37) (cur := #[.int .i64 0, .int .i64 0, .int .i64 0, .slice none 0 0, .int .i64 0]) rfl rfl rfl (by kernel_rfl) b244 Try.underlying37 rfl (by kernel_rfl) (show _ = .int .i64 2 from (by kernel_rfl)) ⟨none, 0, no, H232, rfl, (Row.nil _ _ _ _ no), S248⟩
        replace M := ifn q241 M
        refine cF (bF q241) (wp_skip (then_n (wp_seq (wp_region_lit (lV 103 (eM (.slice A234 t229.1.length c235)) (lV 104 (eD g14 0 3 1 Try.underlying37) ?_))))))
        have S249 := S238.pull (F := (is g14)) (Fr := [F237, (is g9)]) 1 rfl rfl
        refine lE (eS g14 (0 + 3) (.slice A234 t229.1.length c235) #[.int .i64 4, .int .i64 x6, .int .i64 0, .slice A234 t229.1.length c235, .int .i64 0] [.slice A234 t229.1.length c235] S249 b226) ?_
        rintro w250 ⟨b251, S252, K253⟩
        replace h236 := h236.move (K253.at 0 rfl)
        replace b10 := K253.blk 1 rfl b10
        clear b226
        refine wpList_nil (then_n (wp_seq (wp_region_lit (lV 105 (eM (.int .i64 t229.2)) (lV 106 (eD g14 0 2 1 Try.underlying37) ?_)))))
        refine lE (eS g14 (0 + 2) (.int .i64 t229.2) #[.int .i64 4, .int .i64 x6, .int .i64 t229.2, .slice A234 t229.1.length c235, .int .i64 0] [.int .i64 t229.2] S252 b251) ?_
        rintro w254 ⟨b255, S256, K257⟩
        replace h236 := h236.move (K257.at 0 rfl)
        replace b10 := K257.blk 1 rfl b10
        clear b251
        refine wpList_nil (then_n (wp_seq (wp_seq (wp_region_lit (lV 107 (eM (.slice A234 t229.1.length c235)) (lV 108 (e_len (A := A234) (n := t229.1.length) (c := c235) Try.underlying23 (by kernel_rfl)) (lV 109 (e_gtr (k := .i64) (a := (t229.1.length : Int)) (b := 100) (by kernel_rfl) rfl) ?_)))))))
        refine wpList_nil (then_n ?_)
        by_cases q258 : (t229.1.length : Int) > 100
        · replace M := ifp q258 M
          refine cT (bT q258) (wp_seq (wp_region_lit (lV 110 (show _ = Result.ok (Next.value (.agg #[.int .i64 0, .int .i64 0, .int .i64 0, .slice none 0 0, .int .i64 0])) w254 from by kernel_rfl) ?_)))
          have S259 := S256.pull (F := (is g9)) (Fr := [(is g14), F237]) 2 rfl rfl
          refine lE (e_store (g := g9) (o := 0) (v := .agg #[.int .i64 0, .int .i64 0, .int .i64 0, .slice none 0 0, .int .i64 0]) (cur' := #[.int .i64 0, .int .i64 0, .int .i64 0, .slice none 0 0, .int .i64 0]) (vs := [.int .i64 0, .int .i64 0, .int .i64 0, .slice none 0 0, .int .i64 0]) S259 (by kernel_rfl) (by kernel_rfl) rfl (by kernel_rfl) b10 (Nat.le_of_ble_eq_true rfl) (List.forall_mem_cons.2 ⟨rfl, (List.forall_mem_cons.2 ⟨rfl, (List.forall_mem_cons.2 ⟨rfl, (List.forall_mem_cons.2 ⟨rfl, (List.forall_mem_cons.2 ⟨rfl, (fun _ h_ => by cases h_)⟩)⟩)⟩)⟩)⟩) rfl) ?_
          rintro w260 ⟨b261, S262, K263⟩
          clear b10
          refine lV 7 (eA (.int .i64 3)) (wpList_nil (then_n (wp_ret (then_r (then_r ?_)))))
          obtain rfl := Option.some.inj M
          have S264 := S262.unit
          have S265 := St.first (Fa := [no]) (Fr := [(is g9), (is g14), F237]) S264
          exact retST (ty := 37) (cur := #[.int .i64 0, .int .i64 0, .int .i64 0, .slice none 0 0, .int .i64 0]) rfl rfl rfl (by kernel_rfl) b261 Try.underlying37 rfl (by kernel_rfl) (show _ = .int .i64 3 from (by kernel_rfl)) ⟨none, 0, no, H232, rfl, (Row.nil _ _ _ _ no), S265⟩
        replace M := ifn q258 M
        refine cF (bF q258) (wp_skip (then_n (wp_seq (wp_region_lit (lV 111 (e_loadS (b := g14) (off := 0) (cs := [.int .i64 4, .int .i64 x6, .int .i64 t229.2, .slice A234 t229.1.length c235, .int .i64 0]) Try.underlying37 rfl (by kernel_rfl) (by kernel_rfl) (blk_cells b255 rfl)) ?_)))))
        have S266 := S256.pull (F := (is g9)) (Fr := [(is g14), F237]) 2 rfl rfl
        refine lE (e_store (g := g9) (o := 0) (v := .agg #[.int .i64 4, .int .i64 x6, .int .i64 t229.2, .slice A234 t229.1.length c235, .int .i64 0]) (cur' := #[.int .i64 4, .int .i64 x6, .int .i64 t229.2, .slice A234 t229.1.length c235, .int .i64 0]) (vs := [.int .i64 4, .int .i64 x6, .int .i64 t229.2, .slice A234 t229.1.length c235, .int .i64 0]) S266 (by kernel_rfl) (by kernel_rfl) rfl (by kernel_rfl) b10 (Nat.le_of_ble_eq_true rfl) (List.forall_mem_cons.2 ⟨rfl, (List.forall_mem_cons.2 ⟨rfl, (List.forall_mem_cons.2 ⟨rfl, (List.forall_mem_cons.2 ⟨rfl, (List.forall_mem_cons.2 ⟨rfl, (fun _ h_ => by cases h_)⟩)⟩)⟩)⟩)⟩) rfl) ?_
        rintro w267 ⟨b268, S269, K270⟩
        replace h236 := h236.move (K270.at 1 rfl)
        clear b10
        refine lV 7 (eA (.int .i64 0)) (wpList_nil (then_n (wp_ret (then_r ?_))))
        obtain rfl := Option.some.inj M
        have S271 := S269.pull (F := F237) (Fr := [(is g9), (is g14)]) 2 rfl rfl
        have S272 := St.first (Fa := [F237]) (Fr := [(is g9), (is g14)]) S271
        exact retST (ty := 37) (cur := #[.int .i64 4, .int .i64 x6, .int .i64 t229.2, .slice A234 t229.1.length c235, .int .i64 0]) rfl rfl rfl (by kernel_rfl) b268 Try.underlying37 rfl (by kernel_rfl) (show _ = .int .i64 0 from (by kernel_rfl)) ⟨A234, c235, F237, H232, rfl, h236, S272⟩
      replace M := ifn q224 M
      refine cF (bF q224) (wp_seq (wp_region_lit (lV 112 (eM (.int .u8 ((x1.getD ((x6).toNat) (0 : UInt8)).toNat : Int))) (lV 113 (eEq .u8 ((x1.getD ((x6).toNat) (0 : UInt8)).toNat : Int) 40) (lV 114 (eM (.bool (decide (((x1.getD ((x6).toNat) (0 : UInt8)).toNat : Int) = 40)))) ?_)))))
      by_cases q273 : ((x1.getD ((x6).toNat) (0 : UInt8)).toNat : Int) = 40
      · replace M := ifp q273 M
        refine lK 114 true (bT q273) ?_
        refine lK 114 true (bT q273) ?_
        refine lV 117 (eT (.bool true) (bT q273)) (lV 118 (eM (.bool true)) ?_)
        refine lJ 118 true ?_
        refine lJ 118 true ?_
        refine lV 121 (eT (.bool true)) (lV 122 (eM (.bool true)) ?_)
        refine lJ 122 true ?_
        refine lJ 122 true ?_
        refine lV 125 (eT (.bool true)) (lV 126 (eM (.bool true)) ?_)
        refine lJ 126 true ?_
        refine lJ 126 true ?_
        refine lV 129 (eT (.bool true)) (lV 130 (eM (.bool true)) ?_)
        refine lJ 130 true ?_
        refine lJ 130 true ?_
        refine lV 133 (eT (.bool true)) (lV 134 (eM (.bool true)) ?_)
        refine lJ 134 true ?_
        refine lJ 134 true ?_
        refine lV 137 (eT (.bool true)) (lV 138 (eM (.bool true)) ?_)
        refine lJ 138 true ?_
        refine lJ 138 true ?_
        refine lV 141 (eT (.bool true)) (wpList_nil (then_n (cond_t rfl (by kernel_rfl) (wp_seq (wp_region_lit (lV 142 (eD g14 0 0 1 Try.underlying37) ?_))))))
        refine lE (eS g14 (0 + 0) (.int .i64 5) #[.int .i64 5, .int .i64 x6, .int .i64 0, .slice none 0 0, .int .i64 0] [.int .i64 5] S139 b19) ?_
        rintro w274 ⟨b275, S276, K277⟩
        replace b10 := K277.blk 0 rfl b10
        clear b19
        refine wpList_nil (then_n (wp_seq (wp_seq (wp_region_lit (lV 143 (eM (.int .u8 ((x1.getD ((x6).toNat) (0 : UInt8)).toNat : Int))) (lV 144 (eEq .u8 ((x1.getD ((x6).toNat) (0 : UInt8)).toNat : Int) 40) (lV 145 (eM (.bool (decide (((x1.getD ((x6).toNat) (0 : UInt8)).toNat : Int) = 40)))) ?_)))))))
        refine lG 146 145 (bT q273) (eM (.bool x7)) (lV 147 (eT (.bool x7) (bT q273)) (wpList_nil (then_n ?_)))
        by_cases q278 : x7 = true
        · replace M := ifp q278 M
          refine cT (bvt q278 (by kernel_rfl)) (wp_region_lit (lV 148 (eD g14 0 0 1 Try.underlying37) ?_))
          refine lE (eS g14 (0 + 0) (.int .i64 6) #[.int .i64 6, .int .i64 x6, .int .i64 0, .slice none 0 0, .int .i64 0] [.int .i64 6] S276 b275) ?_
          rintro w279 ⟨b280, S281, K282⟩
          replace b10 := K282.blk 0 rfl b10
          clear b275
          refine wpList_nil (then_n (wp_region_lit (lV 149 (eD g14 0 2 1 Try.underlying37) ?_)))
          refine lE (eS g14 (0 + 2) (.int .i64 1) #[.int .i64 6, .int .i64 x6, .int .i64 1, .slice none 0 0, .int .i64 0] [.int .i64 1] S281 b280) ?_
          rintro w283 ⟨b284, S285, K286⟩
          replace b10 := K286.blk 0 rfl b10
          clear b280
          refine wpList_nil (then_n ?_)
          exact ⟨_, 6, 1, rfl, (by kernel_rfl), (by kernel_rfl), (by kernel_rfl), (by kernel_rfl), b284, b10, S285, M⟩
        replace M := ifn q278 M
        refine cF (bvf q278 (by kernel_rfl)) (wp_skip (then_n (wp_region_lit (lV 149 (eD g14 0 2 1 Try.underlying37) ?_))))
        refine lE (eS g14 (0 + 2) (.int .i64 1) #[.int .i64 5, .int .i64 x6, .int .i64 1, .slice none 0 0, .int .i64 0] [.int .i64 1] S276 b275) ?_
        rintro w287 ⟨b288, S289, K290⟩
        replace b10 := K290.blk 0 rfl b10
        clear b275
        refine wpList_nil (then_n ?_)
        exact ⟨_, 5, 1, rfl, (by kernel_rfl), (by kernel_rfl), (by kernel_rfl), (by kernel_rfl), b288, b10, S289, M⟩
      replace M := ifn q273 M
      refine lG 115 114 (bF q273) (eM (.int .u8 ((x1.getD ((x6).toNat) (0 : UInt8)).toNat : Int))) (lG 116 114 (bF q273) (eEq .u8 ((x1.getD ((x6).toNat) (0 : UInt8)).toNat : Int) 41) (lV 117 (eF (.bool (decide (((x1.getD ((x6).toNat) (0 : UInt8)).toNat : Int) = 41))) (bF q273)) (lV 118 (eM (.bool (decide (((x1.getD ((x6).toNat) (0 : UInt8)).toNat : Int) = 41)))) ?_)))
      by_cases q291 : ((x1.getD ((x6).toNat) (0 : UInt8)).toNat : Int) = 41
      · replace M := ifp q291 M
        refine lK 118 true (bT q291) ?_
        refine lK 118 true (bT q291) ?_
        refine lV 121 (eT (.bool true) (bT q291)) (lV 122 (eM (.bool true)) ?_)
        refine lJ 122 true ?_
        refine lJ 122 true ?_
        refine lV 125 (eT (.bool true)) (lV 126 (eM (.bool true)) ?_)
        refine lJ 126 true ?_
        refine lJ 126 true ?_
        refine lV 129 (eT (.bool true)) (lV 130 (eM (.bool true)) ?_)
        refine lJ 130 true ?_
        refine lJ 130 true ?_
        refine lV 133 (eT (.bool true)) (lV 134 (eM (.bool true)) ?_)
        refine lJ 134 true ?_
        refine lJ 134 true ?_
        refine lV 137 (eT (.bool true)) (lV 138 (eM (.bool true)) ?_)
        refine lJ 138 true ?_
        refine lJ 138 true ?_
        refine lV 141 (eT (.bool true)) (wpList_nil (then_n (cond_t rfl (by kernel_rfl) (wp_seq (wp_region_lit (lV 142 (eD g14 0 0 1 Try.underlying37) ?_))))))
        refine lE (eS g14 (0 + 0) (.int .i64 5) #[.int .i64 5, .int .i64 x6, .int .i64 0, .slice none 0 0, .int .i64 0] [.int .i64 5] S139 b19) ?_
        rintro w292 ⟨b293, S294, K295⟩
        replace b10 := K295.blk 0 rfl b10
        clear b19
        refine wpList_nil (then_n (wp_seq (wp_seq (wp_region_lit (lV 143 (eM (.int .u8 ((x1.getD ((x6).toNat) (0 : UInt8)).toNat : Int))) (lV 144 (eEq .u8 ((x1.getD ((x6).toNat) (0 : UInt8)).toNat : Int) 40) (lV 145 (eM (.bool (decide (((x1.getD ((x6).toNat) (0 : UInt8)).toNat : Int) = 40)))) ?_)))))))
        refine lK 145 false (bF q273) ?_
        refine lV 147 (eF (.bool false) (bF q273)) (wpList_nil (then_n (cond_f rfl (by kernel_rfl) (wp_skip (then_n (wp_region_lit (lV 149 (eD g14 0 2 1 Try.underlying37) ?_)))))))
        refine lE (eS g14 (0 + 2) (.int .i64 1) #[.int .i64 5, .int .i64 x6, .int .i64 1, .slice none 0 0, .int .i64 0] [.int .i64 1] S294 b293) ?_
        rintro w296 ⟨b297, S298, K299⟩
        replace b10 := K299.blk 0 rfl b10
        clear b293
        refine wpList_nil (then_n ?_)
        exact ⟨_, 5, 1, rfl, (by kernel_rfl), (by kernel_rfl), (by kernel_rfl), (by kernel_rfl), b297, b10, S298, M⟩
      replace M := ifn q291 M
      refine lG 119 118 (bF q291) (eM (.int .u8 ((x1.getD ((x6).toNat) (0 : UInt8)).toNat : Int))) (lG 120 118 (bF q291) (eEq .u8 ((x1.getD ((x6).toNat) (0 : UInt8)).toNat : Int) 91) (lV 121 (eF (.bool (decide (((x1.getD ((x6).toNat) (0 : UInt8)).toNat : Int) = 91))) (bF q291)) (lV 122 (eM (.bool (decide (((x1.getD ((x6).toNat) (0 : UInt8)).toNat : Int) = 91)))) ?_)))
      by_cases q300 : ((x1.getD ((x6).toNat) (0 : UInt8)).toNat : Int) = 91
      · replace M := ifp q300 M
        refine lK 122 true (bT q300) ?_
        refine lK 122 true (bT q300) ?_
        refine lV 125 (eT (.bool true) (bT q300)) (lV 126 (eM (.bool true)) ?_)
        refine lJ 126 true ?_
        refine lJ 126 true ?_
        refine lV 129 (eT (.bool true)) (lV 130 (eM (.bool true)) ?_)
        refine lJ 130 true ?_
        refine lJ 130 true ?_
        refine lV 133 (eT (.bool true)) (lV 134 (eM (.bool true)) ?_)
        refine lJ 134 true ?_
        refine lJ 134 true ?_
        refine lV 137 (eT (.bool true)) (lV 138 (eM (.bool true)) ?_)
        refine lJ 138 true ?_
        refine lJ 138 true ?_
        refine lV 141 (eT (.bool true)) (wpList_nil (then_n (cond_t rfl (by kernel_rfl) (wp_seq (wp_region_lit (lV 142 (eD g14 0 0 1 Try.underlying37) ?_))))))
        refine lE (eS g14 (0 + 0) (.int .i64 5) #[.int .i64 5, .int .i64 x6, .int .i64 0, .slice none 0 0, .int .i64 0] [.int .i64 5] S139 b19) ?_
        rintro w301 ⟨b302, S303, K304⟩
        replace b10 := K304.blk 0 rfl b10
        clear b19
        refine wpList_nil (then_n (wp_seq (wp_seq (wp_region_lit (lV 143 (eM (.int .u8 ((x1.getD ((x6).toNat) (0 : UInt8)).toNat : Int))) (lV 144 (eEq .u8 ((x1.getD ((x6).toNat) (0 : UInt8)).toNat : Int) 40) (lV 145 (eM (.bool (decide (((x1.getD ((x6).toNat) (0 : UInt8)).toNat : Int) = 40)))) ?_)))))))
        refine lK 145 false (bF q273) ?_
        refine lV 147 (eF (.bool false) (bF q273)) (wpList_nil (then_n (cond_f rfl (by kernel_rfl) (wp_skip (then_n (wp_region_lit (lV 149 (eD g14 0 2 1 Try.underlying37) ?_)))))))
        refine lE (eS g14 (0 + 2) (.int .i64 1) #[.int .i64 5, .int .i64 x6, .int .i64 1, .slice none 0 0, .int .i64 0] [.int .i64 1] S303 b302) ?_
        rintro w305 ⟨b306, S307, K308⟩
        replace b10 := K308.blk 0 rfl b10
        clear b302
        refine wpList_nil (then_n ?_)
        exact ⟨_, 5, 1, rfl, (by kernel_rfl), (by kernel_rfl), (by kernel_rfl), (by kernel_rfl), b306, b10, S307, M⟩
      replace M := ifn q300 M
      refine lG 123 122 (bF q300) (eM (.int .u8 ((x1.getD ((x6).toNat) (0 : UInt8)).toNat : Int))) (lG 124 122 (bF q300) (eEq .u8 ((x1.getD ((x6).toNat) (0 : UInt8)).toNat : Int) 93) (lV 125 (eF (.bool (decide (((x1.getD ((x6).toNat) (0 : UInt8)).toNat : Int) = 93))) (bF q300)) (lV 126 (eM (.bool (decide (((x1.getD ((x6).toNat) (0 : UInt8)).toNat : Int) = 93)))) ?_)))
      by_cases q309 : ((x1.getD ((x6).toNat) (0 : UInt8)).toNat : Int) = 93
      · replace M := ifp q309 M
        refine lK 126 true (bT q309) ?_
        refine lK 126 true (bT q309) ?_
        refine lV 129 (eT (.bool true) (bT q309)) (lV 130 (eM (.bool true)) ?_)
        refine lJ 130 true ?_
        refine lJ 130 true ?_
        refine lV 133 (eT (.bool true)) (lV 134 (eM (.bool true)) ?_)
        refine lJ 134 true ?_
        refine lJ 134 true ?_
        refine lV 137 (eT (.bool true)) (lV 138 (eM (.bool true)) ?_)
        refine lJ 138 true ?_
        refine lJ 138 true ?_
        refine lV 141 (eT (.bool true)) (wpList_nil (then_n (cond_t rfl (by kernel_rfl) (wp_seq (wp_region_lit (lV 142 (eD g14 0 0 1 Try.underlying37) ?_))))))
        refine lE (eS g14 (0 + 0) (.int .i64 5) #[.int .i64 5, .int .i64 x6, .int .i64 0, .slice none 0 0, .int .i64 0] [.int .i64 5] S139 b19) ?_
        rintro w310 ⟨b311, S312, K313⟩
        replace b10 := K313.blk 0 rfl b10
        clear b19
        refine wpList_nil (then_n (wp_seq (wp_seq (wp_region_lit (lV 143 (eM (.int .u8 ((x1.getD ((x6).toNat) (0 : UInt8)).toNat : Int))) (lV 144 (eEq .u8 ((x1.getD ((x6).toNat) (0 : UInt8)).toNat : Int) 40) (lV 145 (eM (.bool (decide (((x1.getD ((x6).toNat) (0 : UInt8)).toNat : Int) = 40)))) ?_)))))))
        refine lK 145 false (bF q273) ?_
        refine lV 147 (eF (.bool false) (bF q273)) (wpList_nil (then_n (cond_f rfl (by kernel_rfl) (wp_skip (then_n (wp_region_lit (lV 149 (eD g14 0 2 1 Try.underlying37) ?_)))))))
        refine lE (eS g14 (0 + 2) (.int .i64 1) #[.int .i64 5, .int .i64 x6, .int .i64 1, .slice none 0 0, .int .i64 0] [.int .i64 1] S312 b311) ?_
        rintro w314 ⟨b315, S316, K317⟩
        replace b10 := K317.blk 0 rfl b10
        clear b311
        refine wpList_nil (then_n ?_)
        exact ⟨_, 5, 1, rfl, (by kernel_rfl), (by kernel_rfl), (by kernel_rfl), (by kernel_rfl), b315, b10, S316, M⟩
      replace M := ifn q309 M
      refine lG 127 126 (bF q309) (eM (.int .u8 ((x1.getD ((x6).toNat) (0 : UInt8)).toNat : Int))) (lG 128 126 (bF q309) (eEq .u8 ((x1.getD ((x6).toNat) (0 : UInt8)).toNat : Int) 123) (lV 129 (eF (.bool (decide (((x1.getD ((x6).toNat) (0 : UInt8)).toNat : Int) = 123))) (bF q309)) (lV 130 (eM (.bool (decide (((x1.getD ((x6).toNat) (0 : UInt8)).toNat : Int) = 123)))) ?_)))
      by_cases q318 : ((x1.getD ((x6).toNat) (0 : UInt8)).toNat : Int) = 123
      · replace M := ifp q318 M
        refine lK 130 true (bT q318) ?_
        refine lK 130 true (bT q318) ?_
        refine lV 133 (eT (.bool true) (bT q318)) (lV 134 (eM (.bool true)) ?_)
        refine lJ 134 true ?_
        refine lJ 134 true ?_
        refine lV 137 (eT (.bool true)) (lV 138 (eM (.bool true)) ?_)
        refine lJ 138 true ?_
        refine lJ 138 true ?_
        refine lV 141 (eT (.bool true)) (wpList_nil (then_n (cond_t rfl (by kernel_rfl) (wp_seq (wp_region_lit (lV 142 (eD g14 0 0 1 Try.underlying37) ?_))))))
        refine lE (eS g14 (0 + 0) (.int .i64 5) #[.int .i64 5, .int .i64 x6, .int .i64 0, .slice none 0 0, .int .i64 0] [.int .i64 5] S139 b19) ?_
        rintro w319 ⟨b320, S321, K322⟩
        replace b10 := K322.blk 0 rfl b10
        clear b19
        refine wpList_nil (then_n (wp_seq (wp_seq (wp_region_lit (lV 143 (eM (.int .u8 ((x1.getD ((x6).toNat) (0 : UInt8)).toNat : Int))) (lV 144 (eEq .u8 ((x1.getD ((x6).toNat) (0 : UInt8)).toNat : Int) 40) (lV 145 (eM (.bool (decide (((x1.getD ((x6).toNat) (0 : UInt8)).toNat : Int) = 40)))) ?_)))))))
        refine lK 145 false (bF q273) ?_
        refine lV 147 (eF (.bool false) (bF q273)) (wpList_nil (then_n (cond_f rfl (by kernel_rfl) (wp_skip (then_n (wp_region_lit (lV 149 (eD g14 0 2 1 Try.underlying37) ?_)))))))
        refine lE (eS g14 (0 + 2) (.int .i64 1) #[.int .i64 5, .int .i64 x6, .int .i64 1, .slice none 0 0, .int .i64 0] [.int .i64 1] S321 b320) ?_
        rintro w323 ⟨b324, S325, K326⟩
        replace b10 := K326.blk 0 rfl b10
        clear b320
        refine wpList_nil (then_n ?_)
        exact ⟨_, 5, 1, rfl, (by kernel_rfl), (by kernel_rfl), (by kernel_rfl), (by kernel_rfl), b324, b10, S325, M⟩
      replace M := ifn q318 M
      refine lG 131 130 (bF q318) (eM (.int .u8 ((x1.getD ((x6).toNat) (0 : UInt8)).toNat : Int))) (lG 132 130 (bF q318) (eEq .u8 ((x1.getD ((x6).toNat) (0 : UInt8)).toNat : Int) 125) (lV 133 (eF (.bool (decide (((x1.getD ((x6).toNat) (0 : UInt8)).toNat : Int) = 125))) (bF q318)) (lV 134 (eM (.bool (decide (((x1.getD ((x6).toNat) (0 : UInt8)).toNat : Int) = 125)))) ?_)))
      by_cases q327 : ((x1.getD ((x6).toNat) (0 : UInt8)).toNat : Int) = 125
      · replace M := ifp q327 M
        refine lK 134 true (bT q327) ?_
        refine lK 134 true (bT q327) ?_
        refine lV 137 (eT (.bool true) (bT q327)) (lV 138 (eM (.bool true)) ?_)
        refine lJ 138 true ?_
        refine lJ 138 true ?_
        refine lV 141 (eT (.bool true)) (wpList_nil (then_n (cond_t rfl (by kernel_rfl) (wp_seq (wp_region_lit (lV 142 (eD g14 0 0 1 Try.underlying37) ?_))))))
        refine lE (eS g14 (0 + 0) (.int .i64 5) #[.int .i64 5, .int .i64 x6, .int .i64 0, .slice none 0 0, .int .i64 0] [.int .i64 5] S139 b19) ?_
        rintro w328 ⟨b329, S330, K331⟩
        replace b10 := K331.blk 0 rfl b10
        clear b19
        refine wpList_nil (then_n (wp_seq (wp_seq (wp_region_lit (lV 143 (eM (.int .u8 ((x1.getD ((x6).toNat) (0 : UInt8)).toNat : Int))) (lV 144 (eEq .u8 ((x1.getD ((x6).toNat) (0 : UInt8)).toNat : Int) 40) (lV 145 (eM (.bool (decide (((x1.getD ((x6).toNat) (0 : UInt8)).toNat : Int) = 40)))) ?_)))))))
        refine lK 145 false (bF q273) ?_
        refine lV 147 (eF (.bool false) (bF q273)) (wpList_nil (then_n (cond_f rfl (by kernel_rfl) (wp_skip (then_n (wp_region_lit (lV 149 (eD g14 0 2 1 Try.underlying37) ?_)))))))
        refine lE (eS g14 (0 + 2) (.int .i64 1) #[.int .i64 5, .int .i64 x6, .int .i64 1, .slice none 0 0, .int .i64 0] [.int .i64 1] S330 b329) ?_
        rintro w332 ⟨b333, S334, K335⟩
        replace b10 := K335.blk 0 rfl b10
        clear b329
        refine wpList_nil (then_n ?_)
        exact ⟨_, 5, 1, rfl, (by kernel_rfl), (by kernel_rfl), (by kernel_rfl), (by kernel_rfl), b333, b10, S334, M⟩
      replace M := ifn q327 M
      refine lG 135 134 (bF q327) (eM (.int .u8 ((x1.getD ((x6).toNat) (0 : UInt8)).toNat : Int))) (lG 136 134 (bF q327) (eEq .u8 ((x1.getD ((x6).toNat) (0 : UInt8)).toNat : Int) 44) (lV 137 (eF (.bool (decide (((x1.getD ((x6).toNat) (0 : UInt8)).toNat : Int) = 44))) (bF q327)) (lV 138 (eM (.bool (decide (((x1.getD ((x6).toNat) (0 : UInt8)).toNat : Int) = 44)))) ?_)))
      by_cases q336 : ((x1.getD ((x6).toNat) (0 : UInt8)).toNat : Int) = 44
      · replace M := ifp q336 M
        refine lK 138 true (bT q336) ?_
        refine lK 138 true (bT q336) ?_
        refine lV 141 (eT (.bool true) (bT q336)) (wpList_nil (then_n (cond_t rfl (by kernel_rfl) (wp_seq (wp_region_lit (lV 142 (eD g14 0 0 1 Try.underlying37) ?_))))))
        refine lE (eS g14 (0 + 0) (.int .i64 5) #[.int .i64 5, .int .i64 x6, .int .i64 0, .slice none 0 0, .int .i64 0] [.int .i64 5] S139 b19) ?_
        rintro w337 ⟨b338, S339, K340⟩
        replace b10 := K340.blk 0 rfl b10
        clear b19
        refine wpList_nil (then_n (wp_seq (wp_seq (wp_region_lit (lV 143 (eM (.int .u8 ((x1.getD ((x6).toNat) (0 : UInt8)).toNat : Int))) (lV 144 (eEq .u8 ((x1.getD ((x6).toNat) (0 : UInt8)).toNat : Int) 40) (lV 145 (eM (.bool (decide (((x1.getD ((x6).toNat) (0 : UInt8)).toNat : Int) = 40)))) ?_)))))))
        refine lK 145 false (bF q273) ?_
        refine lV 147 (eF (.bool false) (bF q273)) (wpList_nil (then_n (cond_f rfl (by kernel_rfl) (wp_skip (then_n (wp_region_lit (lV 149 (eD g14 0 2 1 Try.underlying37) ?_)))))))
        refine lE (eS g14 (0 + 2) (.int .i64 1) #[.int .i64 5, .int .i64 x6, .int .i64 1, .slice none 0 0, .int .i64 0] [.int .i64 1] S339 b338) ?_
        rintro w341 ⟨b342, S343, K344⟩
        replace b10 := K344.blk 0 rfl b10
        clear b338
        refine wpList_nil (then_n ?_)
        exact ⟨_, 5, 1, rfl, (by kernel_rfl), (by kernel_rfl), (by kernel_rfl), (by kernel_rfl), b342, b10, S343, M⟩
      replace M := ifn q336 M
      refine lG 139 138 (bF q336) (eM (.int .u8 ((x1.getD ((x6).toNat) (0 : UInt8)).toNat : Int))) (lG 140 138 (bF q336) (eEq .u8 ((x1.getD ((x6).toNat) (0 : UInt8)).toNat : Int) 124) (lV 141 (eF (.bool (decide (((x1.getD ((x6).toNat) (0 : UInt8)).toNat : Int) = 124))) (bF q336)) (wpList_nil (then_n ?_))))
      by_cases q345 : ((x1.getD ((x6).toNat) (0 : UInt8)).toNat : Int) = 124
      · replace M := ifp q345 M
        refine cT (bT q345) (wp_seq (wp_region_lit (lV 142 (eD g14 0 0 1 Try.underlying37) ?_)))
        refine lE (eS g14 (0 + 0) (.int .i64 5) #[.int .i64 5, .int .i64 x6, .int .i64 0, .slice none 0 0, .int .i64 0] [.int .i64 5] S139 b19) ?_
        rintro w346 ⟨b347, S348, K349⟩
        replace b10 := K349.blk 0 rfl b10
        clear b19
        refine wpList_nil (then_n (wp_seq (wp_seq (wp_region_lit (lV 143 (eM (.int .u8 ((x1.getD ((x6).toNat) (0 : UInt8)).toNat : Int))) (lV 144 (eEq .u8 ((x1.getD ((x6).toNat) (0 : UInt8)).toNat : Int) 40) (lV 145 (eM (.bool (decide (((x1.getD ((x6).toNat) (0 : UInt8)).toNat : Int) = 40)))) ?_)))))))
        refine lK 145 false (bF q273) ?_
        refine lV 147 (eF (.bool false) (bF q273)) (wpList_nil (then_n (cond_f rfl (by kernel_rfl) (wp_skip (then_n (wp_region_lit (lV 149 (eD g14 0 2 1 Try.underlying37) ?_)))))))
        refine lE (eS g14 (0 + 2) (.int .i64 1) #[.int .i64 5, .int .i64 x6, .int .i64 1, .slice none 0 0, .int .i64 0] [.int .i64 1] S348 b347) ?_
        rintro w350 ⟨b351, S352, K353⟩
        replace b10 := K353.blk 0 rfl b10
        clear b347
        refine wpList_nil (then_n ?_)
        exact ⟨_, 5, 1, rfl, (by kernel_rfl), (by kernel_rfl), (by kernel_rfl), (by kernel_rfl), b351, b10, S352, M⟩
      replace M := ifn q345 M
      refine cF (bF q345) (wp_seq (wp_region_lit (lV 150 (show _ = Result.ok (Next.value (.agg #[.int .i64 0, .int .i64 0, .int .i64 0, .slice none 0 0, .int .i64 0])) w137 from by kernel_rfl) ?_)))
      have S354 := S139.pull (F := (is g9)) (Fr := [(is g14)]) 1 rfl rfl
      refine lE (e_store (g := g9) (o := 0) (v := .agg #[.int .i64 0, .int .i64 0, .int .i64 0, .slice none 0 0, .int .i64 0]) (cur' := #[.int .i64 0, .int .i64 0, .int .i64 0, .slice none 0 0, .int .i64 0]) (vs := [.int .i64 0, .int .i64 0, .int .i64 0, .slice none 0 0, .int .i64 0]) S354 (by kernel_rfl) (by kernel_rfl) rfl (by kernel_rfl) b10 (Nat.le_of_ble_eq_true rfl) (List.forall_mem_cons.2 ⟨rfl, (List.forall_mem_cons.2 ⟨rfl, (List.forall_mem_cons.2 ⟨rfl, (List.forall_mem_cons.2 ⟨rfl, (List.forall_mem_cons.2 ⟨rfl, (fun _ h_ => by cases h_)⟩)⟩)⟩)⟩)⟩) rfl) ?_
      rintro w355 ⟨b356, S357, K358⟩
      clear b10
      refine lV 7 (eA (.int .i64 2)) (wpList_nil (then_n (wp_ret (then_r ?_))))
      obtain rfl := Option.some.inj M
      have S359 := S357.unit
      have S360 := St.first (Fa := [no]) (Fr := [(is g9), (is g14)]) S359
      exact retST (ty := 37) (cur := #[.int .i64 0, .int .i64 0, .int .i64 0, .slice none 0 0, .int .i64 0]) rfl rfl rfl (by kernel_rfl) b356 Try.underlying37 rfl (by kernel_rfl) (show _ = .int .i64 2 from (by kernel_rfl)) ⟨none, 0, no, H, rfl, (Row.nil _ _ _ _ no), S360⟩
    replace M := ifn q90 M
    refine lK 47 false (bF q90) ?_
    refine lK 47 false (bF q90) ?_
    refine lK 47 false (bF q90) ?_
    refine lK 47 false (bF q90) ?_
    refine lK 47 false (bF q90) ?_
    refine lK 47 false (bF q90) ?_
    refine lskipu (t := 53) rfl (by kernel_rfl) rfl (by kernel_rfl) rfl ?_
    refine lskipu (t := 53) rfl (by kernel_rfl) rfl (by kernel_rfl) rfl ?_
    refine lskipu (t := 53) rfl (by kernel_rfl) rfl (by kernel_rfl) rfl ?_
    refine lskipu (t := 53) rfl (by kernel_rfl) rfl (by kernel_rfl) rfl ?_
    refine lskipu (t := 53) rfl (by kernel_rfl) rfl (by kernel_rfl) rfl ?_
    refine lskipu (t := 53) rfl (by kernel_rfl) rfl (by kernel_rfl) rfl ?_
    refine lK 47 false (bF q90) ?_
    refine lK 47 false (bF q90) ?_
    refine lskipu (t := 61) rfl (by kernel_rfl) rfl (by kernel_rfl) rfl ?_
    refine lskipu (t := 61) rfl (by kernel_rfl) rfl (by kernel_rfl) rfl ?_
    refine lskipu (t := 61) rfl (by kernel_rfl) rfl (by kernel_rfl) rfl ?_
    refine lskipu (t := 61) rfl (by kernel_rfl) rfl (by kernel_rfl) rfl ?_
    refine lskipu (t := 61) rfl (by kernel_rfl) rfl (by kernel_rfl) rfl ?_
    refine lskipu (t := 61) rfl (by kernel_rfl) rfl (by kernel_rfl) rfl ?_
    refine lK 47 false (bF q90) ?_
    refine lV 69 (eF (.bool false) (bF q90)) (wpList_nil (then_n (cond_f rfl (by kernel_rfl) (wp_seq (wp_region_lit (lV 72 (eM (.int .u8 ((x1.getD ((x6).toNat) (0 : UInt8)).toNat : Int))) ?_))))))
    obtain ⟨t361, u362, M⟩ := bnd M
    refine lC 73 (eC [.tmp 72] [.int .u8 ((x1.getD ((x6).toNat) (0 : UInt8)).toNat : Int)] Try.func25) (spec_l1symbol.calls k w64 H (x1.getD ((x6).toNat) (0 : UInt8))  S66.own0 t361 u362) ?_
    rintro _ w363 ⟨rfl, C364⟩
    refine ⟨_, rfl, ?_⟩
    obtain ⟨S365, K366⟩ := S66.still C364
    replace b19 := K366.blk 0 rfl b19
    replace b10 := K366.blk 1 rfl b10
    refine wpList_nil (then_n ?_)
    by_cases q367 : t361 = true
    · replace M := ifp q367 M
      refine cT (bvt q367 (by kernel_rfl)) (wp_region_lit (lV 74 (eM (.slice A2 x1.length c3)) (lV 75 (eM (.int .i64 x6)) ?_)))
      obtain ⟨t368, u369, M⟩ := bnd M
      refine lC 76 (eC [.tmp 74, .tmp 75, .const (.bool true)] [.slice A2 x1.length c3, .int .i64 x6, .bool true] Try.func17) (spec_l1run.calls k w363 H x1 A2 c3 x6 true h4 l5 S365.own0 t368 u369) ?_
      rintro _ w370 ⟨rfl, C371⟩
      refine ⟨_, rfl, ?_⟩
      obtain ⟨S372, K373⟩ := S365.still C371
      replace b19 := K373.blk 0 rfl b19
      replace b10 := K373.blk 1 rfl b10
      refine lV 77 (eD g14 0 2 1 Try.underlying37) ?_
      refine lE (eS g14 (0 + 2) (.int .i64 t368) #[.int .i64 1, .int .i64 x6, .int .i64 t368, .slice none 0 0, .int .i64 0] [.int .i64 t368] S372 b19) ?_
      rintro w374 ⟨b375, S376, K377⟩
      replace b10 := K377.blk 0 rfl b10
      clear b19
      refine wpList_nil (then_n ?_)
      exact ⟨_, 1, t368, rfl, (by kernel_rfl), (by kernel_rfl), (by kernel_rfl), (by kernel_rfl), b375, b10, S376, M⟩
    replace M := ifn q367 M
    refine cF (bvf q367 (by kernel_rfl)) (wp_seq (wp_region_lit (lV 78 (eM (.int .u8 ((x1.getD ((x6).toNat) (0 : UInt8)).toNat : Int))) (lV 79 (eEq .u8 ((x1.getD ((x6).toNat) (0 : UInt8)).toNat : Int) 33) (lV 80 (eM (.bool (decide (((x1.getD ((x6).toNat) (0 : UInt8)).toNat : Int) = 33)))) ?_)))))
    by_cases q378 : ((x1.getD ((x6).toNat) (0 : UInt8)).toNat : Int) = 33
    · replace M := ifp q378 M
      refine lK 80 true (bT q378) ?_
      refine lK 80 true (bT q378) ?_
      refine lV 83 (eT (.bool true) (bT q378)) (wpList_nil (then_n (cond_t rfl (by kernel_rfl) (wp_region_lit (lV 84 (eD g14 0 2 1 Try.underlying37) ?_)))))
      refine lE (eS g14 (0 + 2) (.int .i64 1) #[.int .i64 1, .int .i64 x6, .int .i64 1, .slice none 0 0, .int .i64 0] [.int .i64 1] S365 b19) ?_
      rintro w379 ⟨b380, S381, K382⟩
      replace b10 := K382.blk 0 rfl b10
      clear b19
      refine wpList_nil (then_n ?_)
      exact ⟨_, 1, 1, rfl, (by kernel_rfl), (by kernel_rfl), (by kernel_rfl), (by kernel_rfl), b380, b10, S381, M⟩
    replace M := ifn q378 M
    refine lG 81 80 (bF q378) (eM (.int .u8 ((x1.getD ((x6).toNat) (0 : UInt8)).toNat : Int))) (lG 82 80 (bF q378) (eEq .u8 ((x1.getD ((x6).toNat) (0 : UInt8)).toNat : Int) 59) (lV 83 (eF (.bool (decide (((x1.getD ((x6).toNat) (0 : UInt8)).toNat : Int) = 59))) (bF q378)) (wpList_nil (then_n ?_))))
    by_cases q383 : ((x1.getD ((x6).toNat) (0 : UInt8)).toNat : Int) = 59
    · replace M := ifp q383 M
      refine cT (bT q383) (wp_region_lit (lV 84 (eD g14 0 2 1 Try.underlying37) ?_))
      refine lE (eS g14 (0 + 2) (.int .i64 1) #[.int .i64 1, .int .i64 x6, .int .i64 1, .slice none 0 0, .int .i64 0] [.int .i64 1] S365 b19) ?_
      rintro w384 ⟨b385, S386, K387⟩
      replace b10 := K387.blk 0 rfl b10
      clear b19
      refine wpList_nil (then_n ?_)
      exact ⟨_, 1, 1, rfl, (by kernel_rfl), (by kernel_rfl), (by kernel_rfl), (by kernel_rfl), b385, b10, S386, M⟩
    replace M := ifn q383 M
    refine cF (bF q383) (wp_seq (wp_region_lit (lV 85 (eM (.int .u8 ((x1.getD ((x6).toNat) (0 : UInt8)).toNat : Int))) (lV 86 (eEq .u8 ((x1.getD ((x6).toNat) (0 : UInt8)).toNat : Int) 39) (lV 87 (eM (.bool (decide (((x1.getD ((x6).toNat) (0 : UInt8)).toNat : Int) = 39)))) ?_)))))
    by_cases q388 : ((x1.getD ((x6).toNat) (0 : UInt8)).toNat : Int) = 39
    · replace M := ifp q388 M
      refine lK 87 true (bT q388) ?_
      refine lK 87 true (bT q388) ?_
      refine lV 90 (eT (.bool true) (bT q388)) (wpList_nil (then_n (cond_t rfl (by kernel_rfl) ?_)))
      refine wp_seq_cut (fun a399 w389 => ∃ (f390 : Nat → Value) (x391 : Int), a399 = mk 166 f390 ∧ f390 0 = .slice A2 x1.length c3 ∧ f390 1 = .int .i64 x6 ∧ f390 6 = .pointer (some ⟨g9, 0, none⟩) ∧ f390 8 = .pointer (some ⟨g14, 0, none⟩) ∧ w389.heap[g14]? = some (.cells #[.int .i64 x391, .int .i64 x6, .int .i64 0, .slice none 0 0, .int .i64 0] 37 (0, 0)) ∧ w389.heap[g9]? = some (.cells #[.int .i64 0, .int .i64 0, .int .i64 0, .slice none 0 0, .int .i64 0] 37 (0, 0)) ∧ St (anyOf []) H w [(is g14), (is g9)] H w389 ∧ spec_l1token.l2 k x1 x6 x391 = some r) ?_ ?_
      · refine wp_seq (wp_region_lit (lV 91 (eM (.int .u8 ((x1.getD ((x6).toNat) (0 : UInt8)).toNat : Int))) (lV 92 (eEq .u8 ((x1.getD ((x6).toNat) (0 : UInt8)).toNat : Int) 34) (wpList_nil (then_n ?_)))))
        by_cases q400 : ((x1.getD ((x6).toNat) (0 : UInt8)).toNat : Int) = 34
        · replace M := ifp q400 M
          refine cT (bT q400) (wp_region_lit (lV 93 (eD g14 0 0 1 Try.underlying37) ?_))
          refine lE (eS g14 (0 + 0) (.int .i64 4) #[.int .i64 4, .int .i64 x6, .int .i64 0, .slice none 0 0, .int .i64 0] [.int .i64 4] S365 b19) ?_
          rintro w401 ⟨b402, S403, K404⟩
          replace b10 := K404.blk 0 rfl b10
          clear b19
          refine wpList_nil (then_n ?_)
          exact ⟨_, 4, rfl, (by kernel_rfl), (by kernel_rfl), (by kernel_rfl), (by kernel_rfl), b402, b10, S403, M⟩
        replace M := ifn q400 M
        refine cF (bF q400) (wp_skip (then_n ?_))
        exact ⟨_, 1, rfl, (by kernel_rfl), (by kernel_rfl), (by kernel_rfl), (by kernel_rfl), b19, b10, S365, M⟩
      clear M
      rintro a399 w389 ⟨f390, x391, rfl, e392, e393, e394, e395, b19, b10, S396, M⟩
      rw [spec_l1token.l2] at M
      refine wp_seq (wp_region_lit (lV 95 (eM (.slice A2 x1.length c3) (by exact e392)) (lV 96 (eM (.int .i64 x6) (by exact e393)) ?_)))
      obtain ⟨t405, u406, M⟩ := bnd M
      refine lC 97 (eC [.tmp 95, .tmp 96] [.slice A2 x1.length c3, .int .i64 x6] Try.func33) (spec_l1text.calls k w389 H x1 A2 c3 x6 h4 l5 (St.own' (Fa := []) (Fr := [(is g14), (is g9)]) S396) t405 u406) ?_
      rintro _ w407 ⟨A410, c411, F413, H408, rfl, h412, T409⟩
      refine ⟨_, rfl, ?_⟩
      obtain ⟨S414, K415⟩ := St.call (Fa := []) (Fr := [(is g14), (is g9)]) S396 T409
      replace b19 := K415.blk 0 rfl b19
      replace b10 := K415.blk 1 rfl b10
      have E416 := T409.ext
      refine lV 94 (eM (.tuple #[.slice A410 t405.1.length c411, .int .i64 t405.2])) (lV 98 (e_extract (vs := #[.slice A410 t405.1.length c411, .int .i64 t405.2]) (v := .slice A410 t405.1.length c411) (by kernel_rfl) rfl) (lV 99 (e_extract (vs := #[.slice A410 t405.1.length c411, .int .i64 t405.2]) (v := .int .i64 t405.2) (by kernel_rfl) rfl) (lV 13 (eA (.slice A410 t405.1.length c411)) (lV 14 (eA (.int .i64 t405.2)) (wpList_nil (then_n (wp_seq ?_)))))))
      refine wp_seq (wp_region_lit (lV 100 (eM (.int .i64 t405.2)) (lV 101 (eEq .i64 t405.2 0) (wpList_nil (then_n ?_)))))
      by_cases q417 : t405.2 = 0
      · replace M := ifp q417 M
        refine cT (bT q417) (wp_seq (wp_region_lit (lV 102 (show _ = Result.ok (Next.value (.agg #[.int .i64 0, .int .i64 0, .int .i64 0, .slice none 0 0, .int .i64 0])) w407 from by kernel_rfl) ?_)))
        have S418 := S414.pull (F := (is g9)) (Fr := [F413, (is g14)]) 2 rfl rfl
        refine lE (e_store (g := g9) (o := 0) (v := .agg #[.int .i64 0, .int .i64 0, .int .i64 0, .slice none 0 0, .int .i64 0]) (cur' := #[.int .i64 0, .int .i64 0, .int .i64 0, .slice none 0 0, .int .i64 0]) (vs := [.int .i64 0, .int .i64 0, .int .i64 0, .slice none 0 0, .int .i64 0]) S418 (by exact e394) (by kernel_rfl) rfl (by kernel_rfl) b10 (Nat.le_of_ble_eq_true rfl) (List.forall_mem_cons.2 ⟨rfl, (List.forall_mem_cons.2 ⟨rfl, (List.forall_mem_cons.2 ⟨rfl, (List.forall_mem_cons.2 ⟨rfl, (List.forall_mem_cons.2 ⟨rfl, (fun _ h_ => by cases h_)⟩)⟩)⟩)⟩)⟩) rfl) ?_
        rintro w419 ⟨b420, S421, K422⟩
        clear b10
        refine lV 7 (eA (.int .i64 2)) (wpList_nil (then_n (wp_ret (then_r (then_r ?_)))))
        obtain rfl := Option.some.inj M
        have S423 := S421.unit
        have S424 := St.first (Fa := [no]) (Fr := [(is g9), F413, (is g14)]) S423
        exact retST (ty := 37) (cur := #[.int .i64 0, .int .i64 0, .int .i64 0, .slice none 0 0, .int .i64 0]) rfl rfl rfl (by exact e394) b420 Try.underlying37 rfl (by kernel_rfl) (show _ = .int .i64 2 from (by kernel_rfl)) ⟨none, 0, no, H408, rfl, (Row.nil _ _ _ _ no), S424⟩
      replace M := ifn q417 M
      refine cF (bF q417) (wp_skip (then_n (wp_seq (wp_region_lit (lV 103 (eM (.slice A410 t405.1.length c411)) (lV 104 (eD g14 0 3 1 Try.underlying37 (by exact e395)) ?_))))))
      have S425 := S414.pull (F := (is g14)) (Fr := [F413, (is g9)]) 1 rfl rfl
      refine lE (eS g14 (0 + 3) (.slice A410 t405.1.length c411) #[.int .i64 x391, .int .i64 x6, .int .i64 0, .slice A410 t405.1.length c411, .int .i64 0] [.slice A410 t405.1.length c411] S425 b19) ?_
      rintro w426 ⟨b427, S428, K429⟩
      replace h412 := h412.move (K429.at 0 rfl)
      replace b10 := K429.blk 1 rfl b10
      clear b19
      refine wpList_nil (then_n (wp_seq (wp_region_lit (lV 105 (eM (.int .i64 t405.2)) (lV 106 (eD g14 0 2 1 Try.underlying37 (by exact e395)) ?_)))))
      refine lE (eS g14 (0 + 2) (.int .i64 t405.2) #[.int .i64 x391, .int .i64 x6, .int .i64 t405.2, .slice A410 t405.1.length c411, .int .i64 0] [.int .i64 t405.2] S428 b427) ?_
      rintro w430 ⟨b431, S432, K433⟩
      replace h412 := h412.move (K433.at 0 rfl)
      replace b10 := K433.blk 1 rfl b10
      clear b427
      refine wpList_nil (then_n (wp_seq (wp_seq (wp_region_lit (lV 107 (eM (.slice A410 t405.1.length c411)) (lV 108 (e_len (A := A410) (n := t405.1.length) (c := c411) Try.underlying23 (by kernel_rfl)) (lV 109 (e_gtr (k := .i64) (a := (t405.1.length : Int)) (b := 100) (by kernel_rfl) rfl) ?_)))))))
      refine wpList_nil (then_n ?_)
      by_cases q434 : (t405.1.length : Int) > 100
      · replace M := ifp q434 M
        refine cT (bT q434) (wp_seq (wp_region_lit (lV 110 (show _ = Result.ok (Next.value (.agg #[.int .i64 0, .int .i64 0, .int .i64 0, .slice none 0 0, .int .i64 0])) w430 from by kernel_rfl) ?_)))
        have S435 := S432.pull (F := (is g9)) (Fr := [(is g14), F413]) 2 rfl rfl
        refine lE (e_store (g := g9) (o := 0) (v := .agg #[.int .i64 0, .int .i64 0, .int .i64 0, .slice none 0 0, .int .i64 0]) (cur' := #[.int .i64 0, .int .i64 0, .int .i64 0, .slice none 0 0, .int .i64 0]) (vs := [.int .i64 0, .int .i64 0, .int .i64 0, .slice none 0 0, .int .i64 0]) S435 (by exact e394) (by kernel_rfl) rfl (by kernel_rfl) b10 (Nat.le_of_ble_eq_true rfl) (List.forall_mem_cons.2 ⟨rfl, (List.forall_mem_cons.2 ⟨rfl, (List.forall_mem_cons.2 ⟨rfl, (List.forall_mem_cons.2 ⟨rfl, (List.forall_mem_cons.2 ⟨rfl, (fun _ h_ => by cases h_)⟩)⟩)⟩)⟩)⟩) rfl) ?_
        rintro w436 ⟨b437, S438, K439⟩
        clear b10
        refine lV 7 (eA (.int .i64 3)) (wpList_nil (then_n (wp_ret (then_r (then_r ?_)))))
        obtain rfl := Option.some.inj M
        have S440 := S438.unit
        have S441 := St.first (Fa := [no]) (Fr := [(is g9), (is g14), F413]) S440
        exact retST (ty := 37) (cur := #[.int .i64 0, .int .i64 0, .int .i64 0, .slice none 0 0, .int .i64 0]) rfl rfl rfl (by exact e394) b437 Try.underlying37 rfl (by kernel_rfl) (show _ = .int .i64 3 from (by kernel_rfl)) ⟨none, 0, no, H408, rfl, (Row.nil _ _ _ _ no), S441⟩
      replace M := ifn q434 M
      refine cF (bF q434) (wp_skip (then_n (wp_seq (wp_region_lit (lV 111 (e_loadS (b := g14) (off := 0) (cs := [.int .i64 x391, .int .i64 x6, .int .i64 t405.2, .slice A410 t405.1.length c411, .int .i64 0]) Try.underlying37 rfl (by kernel_rfl) (by exact e395) (blk_cells b431 rfl)) ?_)))))
      have S442 := S432.pull (F := (is g9)) (Fr := [(is g14), F413]) 2 rfl rfl
      refine lE (e_store (g := g9) (o := 0) (v := .agg #[.int .i64 x391, .int .i64 x6, .int .i64 t405.2, .slice A410 t405.1.length c411, .int .i64 0]) (cur' := #[.int .i64 x391, .int .i64 x6, .int .i64 t405.2, .slice A410 t405.1.length c411, .int .i64 0]) (vs := [.int .i64 x391, .int .i64 x6, .int .i64 t405.2, .slice A410 t405.1.length c411, .int .i64 0]) S442 (by exact e394) (by kernel_rfl) rfl (by kernel_rfl) b10 (Nat.le_of_ble_eq_true rfl) (List.forall_mem_cons.2 ⟨rfl, (List.forall_mem_cons.2 ⟨rfl, (List.forall_mem_cons.2 ⟨rfl, (List.forall_mem_cons.2 ⟨rfl, (List.forall_mem_cons.2 ⟨rfl, (fun _ h_ => by cases h_)⟩)⟩)⟩)⟩)⟩) rfl) ?_
      rintro w443 ⟨b444, S445, K446⟩
      replace h412 := h412.move (K446.at 1 rfl)
      clear b10
      refine lV 7 (eA (.int .i64 0)) (wpList_nil (then_n (wp_ret (then_r ?_))))
      obtain rfl := Option.some.inj M
      have S447 := S445.pull (F := F413) (Fr := [(is g9), (is g14)]) 2 rfl rfl
      have S448 := St.first (Fa := [F413]) (Fr := [(is g9), (is g14)]) S447
      exact retST (ty := 37) (cur := #[.int .i64 x391, .int .i64 x6, .int .i64 t405.2, .slice A410 t405.1.length c411, .int .i64 0]) rfl rfl rfl (by exact e394) b444 Try.underlying37 rfl (by kernel_rfl) (show _ = .int .i64 0 from (by kernel_rfl)) ⟨A410, c411, F413, H408, rfl, h412, S448⟩
    replace M := ifn q388 M
    refine lG 88 87 (bF q388) (eM (.int .u8 ((x1.getD ((x6).toNat) (0 : UInt8)).toNat : Int))) (lG 89 87 (bF q388) (eEq .u8 ((x1.getD ((x6).toNat) (0 : UInt8)).toNat : Int) 34) (lV 90 (eF (.bool (decide (((x1.getD ((x6).toNat) (0 : UInt8)).toNat : Int) = 34))) (bF q388)) (wpList_nil (then_n ?_))))
    by_cases q450 : ((x1.getD ((x6).toNat) (0 : UInt8)).toNat : Int) = 34
    · replace M := ifp q450 M
      refine cT (bT q450) (wp_seq (wp_seq (wp_region_lit (lV 91 (eM (.int .u8 ((x1.getD ((x6).toNat) (0 : UInt8)).toNat : Int))) (lV 92 (eEq .u8 ((x1.getD ((x6).toNat) (0 : UInt8)).toNat : Int) 34) (wpList_nil (then_n ?_)))))))
      refine cT (bT q450) (wp_region_lit (lV 93 (eD g14 0 0 1 Try.underlying37) ?_))
      refine lE (eS g14 (0 + 0) (.int .i64 4) #[.int .i64 4, .int .i64 x6, .int .i64 0, .slice none 0 0, .int .i64 0] [.int .i64 4] S365 b19) ?_
      rintro w451 ⟨b452, S453, K454⟩
      replace b10 := K454.blk 0 rfl b10
      clear b19
      refine wpList_nil (then_n (wp_seq (wp_region_lit (lV 95 (eM (.slice A2 x1.length c3)) (lV 96 (eM (.int .i64 x6)) ?_)))))
      obtain ⟨t455, u456, M⟩ := bnd M
      refine lC 97 (eC [.tmp 95, .tmp 96] [.slice A2 x1.length c3, .int .i64 x6] Try.func33) (spec_l1text.calls k w451 H x1 A2 c3 x6 h4 l5 (St.own' (Fa := []) (Fr := [(is g14), (is g9)]) S453) t455 u456) ?_
      rintro _ w457 ⟨A460, c461, F463, H458, rfl, h462, T459⟩
      refine ⟨_, rfl, ?_⟩
      obtain ⟨S464, K465⟩ := St.call (Fa := []) (Fr := [(is g14), (is g9)]) S453 T459
      replace b452 := K465.blk 0 rfl b452
      replace b10 := K465.blk 1 rfl b10
      have E466 := T459.ext
      refine lV 94 (eM (.tuple #[.slice A460 t455.1.length c461, .int .i64 t455.2])) (lV 98 (e_extract (vs := #[.slice A460 t455.1.length c461, .int .i64 t455.2]) (v := .slice A460 t455.1.length c461) (by kernel_rfl) rfl) (lV 99 (e_extract (vs := #[.slice A460 t455.1.length c461, .int .i64 t455.2]) (v := .int .i64 t455.2) (by kernel_rfl) rfl) (lV 13 (eA (.slice A460 t455.1.length c461)) (lV 14 (eA (.int .i64 t455.2)) (wpList_nil (then_n (wp_seq ?_)))))))
      refine wp_seq (wp_region_lit (lV 100 (eM (.int .i64 t455.2)) (lV 101 (eEq .i64 t455.2 0) (wpList_nil (then_n ?_)))))
      by_cases q467 : t455.2 = 0
      · replace M := ifp q467 M
        refine cT (bT q467) (wp_seq (wp_region_lit (lV 102 (show _ = Result.ok (Next.value (.agg #[.int .i64 0, .int .i64 0, .int .i64 0, .slice none 0 0, .int .i64 0])) w457 from by kernel_rfl) ?_)))
        have S468 := S464.pull (F := (is g9)) (Fr := [F463, (is g14)]) 2 rfl rfl
        refine lE (e_store (g := g9) (o := 0) (v := .agg #[.int .i64 0, .int .i64 0, .int .i64 0, .slice none 0 0, .int .i64 0]) (cur' := #[.int .i64 0, .int .i64 0, .int .i64 0, .slice none 0 0, .int .i64 0]) (vs := [.int .i64 0, .int .i64 0, .int .i64 0, .slice none 0 0, .int .i64 0]) S468 (by kernel_rfl) (by kernel_rfl) rfl (by kernel_rfl) b10 (Nat.le_of_ble_eq_true rfl) (List.forall_mem_cons.2 ⟨rfl, (List.forall_mem_cons.2 ⟨rfl, (List.forall_mem_cons.2 ⟨rfl, (List.forall_mem_cons.2 ⟨rfl, (List.forall_mem_cons.2 ⟨rfl, (fun _ h_ => by cases h_)⟩)⟩)⟩)⟩)⟩) rfl) ?_
        rintro w469 ⟨b470, S471, K472⟩
        clear b10
        refine lV 7 (eA (.int .i64 2)) (wpList_nil (then_n (wp_ret (then_r (then_r ?_)))))
        obtain rfl := Option.some.inj M
        have S473 := S471.unit
        have S474 := St.first (Fa := [no]) (Fr := [(is g9), F463, (is g14)]) S473
        exact retST (ty := 37) (cur := #[.int .i64 0, .int .i64 0, .int .i64 0, .slice none 0 0, .int .i64 0]) rfl rfl rfl (by kernel_rfl) b470 Try.underlying37 rfl (by kernel_rfl) (show _ = .int .i64 2 from (by kernel_rfl)) ⟨none, 0, no, H458, rfl, (Row.nil _ _ _ _ no), S474⟩
      replace M := ifn q467 M
      refine cF (bF q467) (wp_skip (then_n (wp_seq (wp_region_lit (lV 103 (eM (.slice A460 t455.1.length c461)) (lV 104 (eD g14 0 3 1 Try.underlying37) ?_))))))
      have S475 := S464.pull (F := (is g14)) (Fr := [F463, (is g9)]) 1 rfl rfl
      refine lE (eS g14 (0 + 3) (.slice A460 t455.1.length c461) #[.int .i64 4, .int .i64 x6, .int .i64 0, .slice A460 t455.1.length c461, .int .i64 0] [.slice A460 t455.1.length c461] S475 b452) ?_
      rintro w476 ⟨b477, S478, K479⟩
      replace h462 := h462.move (K479.at 0 rfl)
      replace b10 := K479.blk 1 rfl b10
      clear b452
      refine wpList_nil (then_n (wp_seq (wp_region_lit (lV 105 (eM (.int .i64 t455.2)) (lV 106 (eD g14 0 2 1 Try.underlying37) ?_)))))
      refine lE (eS g14 (0 + 2) (.int .i64 t455.2) #[.int .i64 4, .int .i64 x6, .int .i64 t455.2, .slice A460 t455.1.length c461, .int .i64 0] [.int .i64 t455.2] S478 b477) ?_
      rintro w480 ⟨b481, S482, K483⟩
      replace h462 := h462.move (K483.at 0 rfl)
      replace b10 := K483.blk 1 rfl b10
      clear b477
      refine wpList_nil (then_n (wp_seq (wp_seq (wp_region_lit (lV 107 (eM (.slice A460 t455.1.length c461)) (lV 108 (e_len (A := A460) (n := t455.1.length) (c := c461) Try.underlying23 (by kernel_rfl)) (lV 109 (e_gtr (k := .i64) (a := (t455.1.length : Int)) (b := 100) (by kernel_rfl) rfl) ?_)))))))
      refine wpList_nil (then_n ?_)
      by_cases q484 : (t455.1.length : Int) > 100
      · replace M := ifp q484 M
        refine cT (bT q484) (wp_seq (wp_region_lit (lV 110 (show _ = Result.ok (Next.value (.agg #[.int .i64 0, .int .i64 0, .int .i64 0, .slice none 0 0, .int .i64 0])) w480 from by kernel_rfl) ?_)))
        have S485 := S482.pull (F := (is g9)) (Fr := [(is g14), F463]) 2 rfl rfl
        refine lE (e_store (g := g9) (o := 0) (v := .agg #[.int .i64 0, .int .i64 0, .int .i64 0, .slice none 0 0, .int .i64 0]) (cur' := #[.int .i64 0, .int .i64 0, .int .i64 0, .slice none 0 0, .int .i64 0]) (vs := [.int .i64 0, .int .i64 0, .int .i64 0, .slice none 0 0, .int .i64 0]) S485 (by kernel_rfl) (by kernel_rfl) rfl (by kernel_rfl) b10 (Nat.le_of_ble_eq_true rfl) (List.forall_mem_cons.2 ⟨rfl, (List.forall_mem_cons.2 ⟨rfl, (List.forall_mem_cons.2 ⟨rfl, (List.forall_mem_cons.2 ⟨rfl, (List.forall_mem_cons.2 ⟨rfl, (fun _ h_ => by cases h_)⟩)⟩)⟩)⟩)⟩) rfl) ?_
        rintro w486 ⟨b487, S488, K489⟩
        clear b10
        refine lV 7 (eA (.int .i64 3)) (wpList_nil (then_n (wp_ret (then_r (then_r ?_)))))
        obtain rfl := Option.some.inj M
        have S490 := S488.unit
        have S491 := St.first (Fa := [no]) (Fr := [(is g9), (is g14), F463]) S490
        exact retST (ty := 37) (cur := #[.int .i64 0, .int .i64 0, .int .i64 0, .slice none 0 0, .int .i64 0]) rfl rfl rfl (by kernel_rfl) b487 Try.underlying37 rfl (by kernel_rfl) (show _ = .int .i64 3 from (by kernel_rfl)) ⟨none, 0, no, H458, rfl, (Row.nil _ _ _ _ no), S491⟩
      replace M := ifn q484 M
      refine cF (bF q484) (wp_skip (then_n (wp_seq (wp_region_lit (lV 111 (e_loadS (b := g14) (off := 0) (cs := [.int .i64 4, .int .i64 x6, .int .i64 t455.2, .slice A460 t455.1.length c461, .int .i64 0]) Try.underlying37 rfl (by kernel_rfl) (by kernel_rfl) (blk_cells b481 rfl)) ?_)))))
      have S492 := S482.pull (F := (is g9)) (Fr := [(is g14), F463]) 2 rfl rfl
      refine lE (e_store (g := g9) (o := 0) (v := .agg #[.int .i64 4, .int .i64 x6, .int .i64 t455.2, .slice A460 t455.1.length c461, .int .i64 0]) (cur' := #[.int .i64 4, .int .i64 x6, .int .i64 t455.2, .slice A460 t455.1.length c461, .int .i64 0]) (vs := [.int .i64 4, .int .i64 x6, .int .i64 t455.2, .slice A460 t455.1.length c461, .int .i64 0]) S492 (by kernel_rfl) (by kernel_rfl) rfl (by kernel_rfl) b10 (Nat.le_of_ble_eq_true rfl) (List.forall_mem_cons.2 ⟨rfl, (List.forall_mem_cons.2 ⟨rfl, (List.forall_mem_cons.2 ⟨rfl, (List.forall_mem_cons.2 ⟨rfl, (List.forall_mem_cons.2 ⟨rfl, (fun _ h_ => by cases h_)⟩)⟩)⟩)⟩)⟩) rfl) ?_
      rintro w493 ⟨b494, S495, K496⟩
      replace h462 := h462.move (K496.at 1 rfl)
      clear b10
      refine lV 7 (eA (.int .i64 0)) (wpList_nil (then_n (wp_ret (then_r ?_))))
      obtain rfl := Option.some.inj M
      have S497 := S495.pull (F := F463) (Fr := [(is g9), (is g14)]) 2 rfl rfl
      have S498 := St.first (Fa := [F463]) (Fr := [(is g9), (is g14)]) S497
      exact retST (ty := 37) (cur := #[.int .i64 4, .int .i64 x6, .int .i64 t455.2, .slice A460 t455.1.length c461, .int .i64 0]) rfl rfl rfl (by kernel_rfl) b494 Try.underlying37 rfl (by kernel_rfl) (show _ = .int .i64 0 from (by kernel_rfl)) ⟨A460, c461, F463, H458, rfl, h462, S498⟩
    replace M := ifn q450 M
    refine cF (bF q450) (wp_seq (wp_region_lit (lV 112 (eM (.int .u8 ((x1.getD ((x6).toNat) (0 : UInt8)).toNat : Int))) (lV 113 (eEq .u8 ((x1.getD ((x6).toNat) (0 : UInt8)).toNat : Int) 40) (lV 114 (eM (.bool (decide (((x1.getD ((x6).toNat) (0 : UInt8)).toNat : Int) = 40)))) ?_)))))
    by_cases q499 : ((x1.getD ((x6).toNat) (0 : UInt8)).toNat : Int) = 40
    · replace M := ifp q499 M
      refine lK 114 true (bT q499) ?_
      refine lK 114 true (bT q499) ?_
      refine lV 117 (eT (.bool true) (bT q499)) (lV 118 (eM (.bool true)) ?_)
      refine lJ 118 true ?_
      refine lJ 118 true ?_
      refine lV 121 (eT (.bool true)) (lV 122 (eM (.bool true)) ?_)
      refine lJ 122 true ?_
      refine lJ 122 true ?_
      refine lV 125 (eT (.bool true)) (lV 126 (eM (.bool true)) ?_)
      refine lJ 126 true ?_
      refine lJ 126 true ?_
      refine lV 129 (eT (.bool true)) (lV 130 (eM (.bool true)) ?_)
      refine lJ 130 true ?_
      refine lJ 130 true ?_
      refine lV 133 (eT (.bool true)) (lV 134 (eM (.bool true)) ?_)
      refine lJ 134 true ?_
      refine lJ 134 true ?_
      refine lV 137 (eT (.bool true)) (lV 138 (eM (.bool true)) ?_)
      refine lJ 138 true ?_
      refine lJ 138 true ?_
      refine lV 141 (eT (.bool true)) (wpList_nil (then_n (cond_t rfl (by kernel_rfl) (wp_seq (wp_region_lit (lV 142 (eD g14 0 0 1 Try.underlying37) ?_))))))
      refine lE (eS g14 (0 + 0) (.int .i64 5) #[.int .i64 5, .int .i64 x6, .int .i64 0, .slice none 0 0, .int .i64 0] [.int .i64 5] S365 b19) ?_
      rintro w500 ⟨b501, S502, K503⟩
      replace b10 := K503.blk 0 rfl b10
      clear b19
      refine wpList_nil (then_n (wp_seq (wp_seq (wp_region_lit (lV 143 (eM (.int .u8 ((x1.getD ((x6).toNat) (0 : UInt8)).toNat : Int))) (lV 144 (eEq .u8 ((x1.getD ((x6).toNat) (0 : UInt8)).toNat : Int) 40) (lV 145 (eM (.bool (decide (((x1.getD ((x6).toNat) (0 : UInt8)).toNat : Int) = 40)))) ?_)))))))
      refine lG 146 145 (bT q499) (eM (.bool x7)) (lV 147 (eT (.bool x7) (bT q499)) (wpList_nil (then_n ?_)))
      by_cases q504 : x7 = true
      · replace M := ifp q504 M
        refine cT (bvt q504 (by kernel_rfl)) (wp_region_lit (lV 148 (eD g14 0 0 1 Try.underlying37) ?_))
        refine lE (eS g14 (0 + 0) (.int .i64 6) #[.int .i64 6, .int .i64 x6, .int .i64 0, .slice none 0 0, .int .i64 0] [.int .i64 6] S502 b501) ?_
        rintro w505 ⟨b506, S507, K508⟩
        replace b10 := K508.blk 0 rfl b10
        clear b501
        refine wpList_nil (then_n (wp_region_lit (lV 149 (eD g14 0 2 1 Try.underlying37) ?_)))
        refine lE (eS g14 (0 + 2) (.int .i64 1) #[.int .i64 6, .int .i64 x6, .int .i64 1, .slice none 0 0, .int .i64 0] [.int .i64 1] S507 b506) ?_
        rintro w509 ⟨b510, S511, K512⟩
        replace b10 := K512.blk 0 rfl b10
        clear b506
        refine wpList_nil (then_n ?_)
        exact ⟨_, 6, 1, rfl, (by kernel_rfl), (by kernel_rfl), (by kernel_rfl), (by kernel_rfl), b510, b10, S511, M⟩
      replace M := ifn q504 M
      refine cF (bvf q504 (by kernel_rfl)) (wp_skip (then_n (wp_region_lit (lV 149 (eD g14 0 2 1 Try.underlying37) ?_))))
      refine lE (eS g14 (0 + 2) (.int .i64 1) #[.int .i64 5, .int .i64 x6, .int .i64 1, .slice none 0 0, .int .i64 0] [.int .i64 1] S502 b501) ?_
      rintro w513 ⟨b514, S515, K516⟩
      replace b10 := K516.blk 0 rfl b10
      clear b501
      refine wpList_nil (then_n ?_)
      exact ⟨_, 5, 1, rfl, (by kernel_rfl), (by kernel_rfl), (by kernel_rfl), (by kernel_rfl), b514, b10, S515, M⟩
    replace M := ifn q499 M
    refine lG 115 114 (bF q499) (eM (.int .u8 ((x1.getD ((x6).toNat) (0 : UInt8)).toNat : Int))) (lG 116 114 (bF q499) (eEq .u8 ((x1.getD ((x6).toNat) (0 : UInt8)).toNat : Int) 41) (lV 117 (eF (.bool (decide (((x1.getD ((x6).toNat) (0 : UInt8)).toNat : Int) = 41))) (bF q499)) (lV 118 (eM (.bool (decide (((x1.getD ((x6).toNat) (0 : UInt8)).toNat : Int) = 41)))) ?_)))
    by_cases q517 : ((x1.getD ((x6).toNat) (0 : UInt8)).toNat : Int) = 41
    · replace M := ifp q517 M
      refine lK 118 true (bT q517) ?_
      refine lK 118 true (bT q517) ?_
      refine lV 121 (eT (.bool true) (bT q517)) (lV 122 (eM (.bool true)) ?_)
      refine lJ 122 true ?_
      refine lJ 122 true ?_
      refine lV 125 (eT (.bool true)) (lV 126 (eM (.bool true)) ?_)
      refine lJ 126 true ?_
      refine lJ 126 true ?_
      refine lV 129 (eT (.bool true)) (lV 130 (eM (.bool true)) ?_)
      refine lJ 130 true ?_
      refine lJ 130 true ?_
      refine lV 133 (eT (.bool true)) (lV 134 (eM (.bool true)) ?_)
      refine lJ 134 true ?_
      refine lJ 134 true ?_
      refine lV 137 (eT (.bool true)) (lV 138 (eM (.bool true)) ?_)
      refine lJ 138 true ?_
      refine lJ 138 true ?_
      refine lV 141 (eT (.bool true)) (wpList_nil (then_n (cond_t rfl (by kernel_rfl) (wp_seq (wp_region_lit (lV 142 (eD g14 0 0 1 Try.underlying37) ?_))))))
      refine lE (eS g14 (0 + 0) (.int .i64 5) #[.int .i64 5, .int .i64 x6, .int .i64 0, .slice none 0 0, .int .i64 0] [.int .i64 5] S365 b19) ?_
      rintro w518 ⟨b519, S520, K521⟩
      replace b10 := K521.blk 0 rfl b10
      clear b19
      refine wpList_nil (then_n (wp_seq (wp_seq (wp_region_lit (lV 143 (eM (.int .u8 ((x1.getD ((x6).toNat) (0 : UInt8)).toNat : Int))) (lV 144 (eEq .u8 ((x1.getD ((x6).toNat) (0 : UInt8)).toNat : Int) 40) (lV 145 (eM (.bool (decide (((x1.getD ((x6).toNat) (0 : UInt8)).toNat : Int) = 40)))) ?_)))))))
      refine lK 145 false (bF q499) ?_
      refine lV 147 (eF (.bool false) (bF q499)) (wpList_nil (then_n (cond_f rfl (by kernel_rfl) (wp_skip (then_n (wp_region_lit (lV 149 (eD g14 0 2 1 Try.underlying37) ?_)))))))
      refine lE (eS g14 (0 + 2) (.int .i64 1) #[.int .i64 5, .int .i64 x6, .int .i64 1, .slice none 0 0, .int .i64 0] [.int .i64 1] S520 b519) ?_
      rintro w522 ⟨b523, S524, K525⟩
      replace b10 := K525.blk 0 rfl b10
      clear b519
      refine wpList_nil (then_n ?_)
      exact ⟨_, 5, 1, rfl, (by kernel_rfl), (by kernel_rfl), (by kernel_rfl), (by kernel_rfl), b523, b10, S524, M⟩
    replace M := ifn q517 M
    refine lG 119 118 (bF q517) (eM (.int .u8 ((x1.getD ((x6).toNat) (0 : UInt8)).toNat : Int))) (lG 120 118 (bF q517) (eEq .u8 ((x1.getD ((x6).toNat) (0 : UInt8)).toNat : Int) 91) (lV 121 (eF (.bool (decide (((x1.getD ((x6).toNat) (0 : UInt8)).toNat : Int) = 91))) (bF q517)) (lV 122 (eM (.bool (decide (((x1.getD ((x6).toNat) (0 : UInt8)).toNat : Int) = 91)))) ?_)))
    by_cases q526 : ((x1.getD ((x6).toNat) (0 : UInt8)).toNat : Int) = 91
    · replace M := ifp q526 M
      refine lK 122 true (bT q526) ?_
      refine lK 122 true (bT q526) ?_
      refine lV 125 (eT (.bool true) (bT q526)) (lV 126 (eM (.bool true)) ?_)
      refine lJ 126 true ?_
      refine lJ 126 true ?_
      refine lV 129 (eT (.bool true)) (lV 130 (eM (.bool true)) ?_)
      refine lJ 130 true ?_
      refine lJ 130 true ?_
      refine lV 133 (eT (.bool true)) (lV 134 (eM (.bool true)) ?_)
      refine lJ 134 true ?_
      refine lJ 134 true ?_
      refine lV 137 (eT (.bool true)) (lV 138 (eM (.bool true)) ?_)
      refine lJ 138 true ?_
      refine lJ 138 true ?_
      refine lV 141 (eT (.bool true)) (wpList_nil (then_n (cond_t rfl (by kernel_rfl) (wp_seq (wp_region_lit (lV 142 (eD g14 0 0 1 Try.underlying37) ?_))))))
      refine lE (eS g14 (0 + 0) (.int .i64 5) #[.int .i64 5, .int .i64 x6, .int .i64 0, .slice none 0 0, .int .i64 0] [.int .i64 5] S365 b19) ?_
      rintro w527 ⟨b528, S529, K530⟩
      replace b10 := K530.blk 0 rfl b10
      clear b19
      refine wpList_nil (then_n (wp_seq (wp_seq (wp_region_lit (lV 143 (eM (.int .u8 ((x1.getD ((x6).toNat) (0 : UInt8)).toNat : Int))) (lV 144 (eEq .u8 ((x1.getD ((x6).toNat) (0 : UInt8)).toNat : Int) 40) (lV 145 (eM (.bool (decide (((x1.getD ((x6).toNat) (0 : UInt8)).toNat : Int) = 40)))) ?_)))))))
      refine lK 145 false (bF q499) ?_
      refine lV 147 (eF (.bool false) (bF q499)) (wpList_nil (then_n (cond_f rfl (by kernel_rfl) (wp_skip (then_n (wp_region_lit (lV 149 (eD g14 0 2 1 Try.underlying37) ?_)))))))
      refine lE (eS g14 (0 + 2) (.int .i64 1) #[.int .i64 5, .int .i64 x6, .int .i64 1, .slice none 0 0, .int .i64 0] [.int .i64 1] S529 b528) ?_
      rintro w531 ⟨b532, S533, K534⟩
      replace b10 := K534.blk 0 rfl b10
      clear b528
      refine wpList_nil (then_n ?_)
      exact ⟨_, 5, 1, rfl, (by kernel_rfl), (by kernel_rfl), (by kernel_rfl), (by kernel_rfl), b532, b10, S533, M⟩
    replace M := ifn q526 M
    refine lG 123 122 (bF q526) (eM (.int .u8 ((x1.getD ((x6).toNat) (0 : UInt8)).toNat : Int))) (lG 124 122 (bF q526) (eEq .u8 ((x1.getD ((x6).toNat) (0 : UInt8)).toNat : Int) 93) (lV 125 (eF (.bool (decide (((x1.getD ((x6).toNat) (0 : UInt8)).toNat : Int) = 93))) (bF q526)) (lV 126 (eM (.bool (decide (((x1.getD ((x6).toNat) (0 : UInt8)).toNat : Int) = 93)))) ?_)))
    by_cases q535 : ((x1.getD ((x6).toNat) (0 : UInt8)).toNat : Int) = 93
    · replace M := ifp q535 M
      refine lK 126 true (bT q535) ?_
      refine lK 126 true (bT q535) ?_
      refine lV 129 (eT (.bool true) (bT q535)) (lV 130 (eM (.bool true)) ?_)
      refine lJ 130 true ?_
      refine lJ 130 true ?_
      refine lV 133 (eT (.bool true)) (lV 134 (eM (.bool true)) ?_)
      refine lJ 134 true ?_
      refine lJ 134 true ?_
      refine lV 137 (eT (.bool true)) (lV 138 (eM (.bool true)) ?_)
      refine lJ 138 true ?_
      refine lJ 138 true ?_
      refine lV 141 (eT (.bool true)) (wpList_nil (then_n (cond_t rfl (by kernel_rfl) (wp_seq (wp_region_lit (lV 142 (eD g14 0 0 1 Try.underlying37) ?_))))))
      refine lE (eS g14 (0 + 0) (.int .i64 5) #[.int .i64 5, .int .i64 x6, .int .i64 0, .slice none 0 0, .int .i64 0] [.int .i64 5] S365 b19) ?_
      rintro w536 ⟨b537, S538, K539⟩
      replace b10 := K539.blk 0 rfl b10
      clear b19
      refine wpList_nil (then_n (wp_seq (wp_seq (wp_region_lit (lV 143 (eM (.int .u8 ((x1.getD ((x6).toNat) (0 : UInt8)).toNat : Int))) (lV 144 (eEq .u8 ((x1.getD ((x6).toNat) (0 : UInt8)).toNat : Int) 40) (lV 145 (eM (.bool (decide (((x1.getD ((x6).toNat) (0 : UInt8)).toNat : Int) = 40)))) ?_)))))))
      refine lK 145 false (bF q499) ?_
      refine lV 147 (eF (.bool false) (bF q499)) (wpList_nil (then_n (cond_f rfl (by kernel_rfl) (wp_skip (then_n (wp_region_lit (lV 149 (eD g14 0 2 1 Try.underlying37) ?_)))))))
      refine lE (eS g14 (0 + 2) (.int .i64 1) #[.int .i64 5, .int .i64 x6, .int .i64 1, .slice none 0 0, .int .i64 0] [.int .i64 1] S538 b537) ?_
      rintro w540 ⟨b541, S542, K543⟩
      replace b10 := K543.blk 0 rfl b10
      clear b537
      refine wpList_nil (then_n ?_)
      exact ⟨_, 5, 1, rfl, (by kernel_rfl), (by kernel_rfl), (by kernel_rfl), (by kernel_rfl), b541, b10, S542, M⟩
    replace M := ifn q535 M
    refine lG 127 126 (bF q535) (eM (.int .u8 ((x1.getD ((x6).toNat) (0 : UInt8)).toNat : Int))) (lG 128 126 (bF q535) (eEq .u8 ((x1.getD ((x6).toNat) (0 : UInt8)).toNat : Int) 123) (lV 129 (eF (.bool (decide (((x1.getD ((x6).toNat) (0 : UInt8)).toNat : Int) = 123))) (bF q535)) (lV 130 (eM (.bool (decide (((x1.getD ((x6).toNat) (0 : UInt8)).toNat : Int) = 123)))) ?_)))
    by_cases q544 : ((x1.getD ((x6).toNat) (0 : UInt8)).toNat : Int) = 123
    · replace M := ifp q544 M
      refine lK 130 true (bT q544) ?_
      refine lK 130 true (bT q544) ?_
      refine lV 133 (eT (.bool true) (bT q544)) (lV 134 (eM (.bool true)) ?_)
      refine lJ 134 true ?_
      refine lJ 134 true ?_
      refine lV 137 (eT (.bool true)) (lV 138 (eM (.bool true)) ?_)
      refine lJ 138 true ?_
      refine lJ 138 true ?_
      refine lV 141 (eT (.bool true)) (wpList_nil (then_n (cond_t rfl (by kernel_rfl) (wp_seq (wp_region_lit (lV 142 (eD g14 0 0 1 Try.underlying37) ?_))))))
      refine lE (eS g14 (0 + 0) (.int .i64 5) #[.int .i64 5, .int .i64 x6, .int .i64 0, .slice none 0 0, .int .i64 0] [.int .i64 5] S365 b19) ?_
      rintro w545 ⟨b546, S547, K548⟩
      replace b10 := K548.blk 0 rfl b10
      clear b19
      refine wpList_nil (then_n (wp_seq (wp_seq (wp_region_lit (lV 143 (eM (.int .u8 ((x1.getD ((x6).toNat) (0 : UInt8)).toNat : Int))) (lV 144 (eEq .u8 ((x1.getD ((x6).toNat) (0 : UInt8)).toNat : Int) 40) (lV 145 (eM (.bool (decide (((x1.getD ((x6).toNat) (0 : UInt8)).toNat : Int) = 40)))) ?_)))))))
      refine lK 145 false (bF q499) ?_
      refine lV 147 (eF (.bool false) (bF q499)) (wpList_nil (then_n (cond_f rfl (by kernel_rfl) (wp_skip (then_n (wp_region_lit (lV 149 (eD g14 0 2 1 Try.underlying37) ?_)))))))
      refine lE (eS g14 (0 + 2) (.int .i64 1) #[.int .i64 5, .int .i64 x6, .int .i64 1, .slice none 0 0, .int .i64 0] [.int .i64 1] S547 b546) ?_
      rintro w549 ⟨b550, S551, K552⟩
      replace b10 := K552.blk 0 rfl b10
      clear b546
      refine wpList_nil (then_n ?_)
      exact ⟨_, 5, 1, rfl, (by kernel_rfl), (by kernel_rfl), (by kernel_rfl), (by kernel_rfl), b550, b10, S551, M⟩
    replace M := ifn q544 M
    refine lG 131 130 (bF q544) (eM (.int .u8 ((x1.getD ((x6).toNat) (0 : UInt8)).toNat : Int))) (lG 132 130 (bF q544) (eEq .u8 ((x1.getD ((x6).toNat) (0 : UInt8)).toNat : Int) 125) (lV 133 (eF (.bool (decide (((x1.getD ((x6).toNat) (0 : UInt8)).toNat : Int) = 125))) (bF q544)) (lV 134 (eM (.bool (decide (((x1.getD ((x6).toNat) (0 : UInt8)).toNat : Int) = 125)))) ?_)))
    by_cases q553 : ((x1.getD ((x6).toNat) (0 : UInt8)).toNat : Int) = 125
    · replace M := ifp q553 M
      refine lK 134 true (bT q553) ?_
      refine lK 134 true (bT q553) ?_
      refine lV 137 (eT (.bool true) (bT q553)) (lV 138 (eM (.bool true)) ?_)
      refine lJ 138 true ?_
      refine lJ 138 true ?_
      refine lV 141 (eT (.bool true)) (wpList_nil (then_n (cond_t rfl (by kernel_rfl) (wp_seq (wp_region_lit (lV 142 (eD g14 0 0 1 Try.underlying37) ?_))))))
      refine lE (eS g14 (0 + 0) (.int .i64 5) #[.int .i64 5, .int .i64 x6, .int .i64 0, .slice none 0 0, .int .i64 0] [.int .i64 5] S365 b19) ?_
      rintro w554 ⟨b555, S556, K557⟩
      replace b10 := K557.blk 0 rfl b10
      clear b19
      refine wpList_nil (then_n (wp_seq (wp_seq (wp_region_lit (lV 143 (eM (.int .u8 ((x1.getD ((x6).toNat) (0 : UInt8)).toNat : Int))) (lV 144 (eEq .u8 ((x1.getD ((x6).toNat) (0 : UInt8)).toNat : Int) 40) (lV 145 (eM (.bool (decide (((x1.getD ((x6).toNat) (0 : UInt8)).toNat : Int) = 40)))) ?_)))))))
      refine lK 145 false (bF q499) ?_
      refine lV 147 (eF (.bool false) (bF q499)) (wpList_nil (then_n (cond_f rfl (by kernel_rfl) (wp_skip (then_n (wp_region_lit (lV 149 (eD g14 0 2 1 Try.underlying37) ?_)))))))
      refine lE (eS g14 (0 + 2) (.int .i64 1) #[.int .i64 5, .int .i64 x6, .int .i64 1, .slice none 0 0, .int .i64 0] [.int .i64 1] S556 b555) ?_
      rintro w558 ⟨b559, S560, K561⟩
      replace b10 := K561.blk 0 rfl b10
      clear b555
      refine wpList_nil (then_n ?_)
      exact ⟨_, 5, 1, rfl, (by kernel_rfl), (by kernel_rfl), (by kernel_rfl), (by kernel_rfl), b559, b10, S560, M⟩
    replace M := ifn q553 M
    refine lG 135 134 (bF q553) (eM (.int .u8 ((x1.getD ((x6).toNat) (0 : UInt8)).toNat : Int))) (lG 136 134 (bF q553) (eEq .u8 ((x1.getD ((x6).toNat) (0 : UInt8)).toNat : Int) 44) (lV 137 (eF (.bool (decide (((x1.getD ((x6).toNat) (0 : UInt8)).toNat : Int) = 44))) (bF q553)) (lV 138 (eM (.bool (decide (((x1.getD ((x6).toNat) (0 : UInt8)).toNat : Int) = 44)))) ?_)))
    by_cases q562 : ((x1.getD ((x6).toNat) (0 : UInt8)).toNat : Int) = 44
    · replace M := ifp q562 M
      refine lK 138 true (bT q562) ?_
      refine lK 138 true (bT q562) ?_
      refine lV 141 (eT (.bool true) (bT q562)) (wpList_nil (then_n (cond_t rfl (by kernel_rfl) (wp_seq (wp_region_lit (lV 142 (eD g14 0 0 1 Try.underlying37) ?_))))))
      refine lE (eS g14 (0 + 0) (.int .i64 5) #[.int .i64 5, .int .i64 x6, .int .i64 0, .slice none 0 0, .int .i64 0] [.int .i64 5] S365 b19) ?_
      rintro w563 ⟨b564, S565, K566⟩
      replace b10 := K566.blk 0 rfl b10
      clear b19
      refine wpList_nil (then_n (wp_seq (wp_seq (wp_region_lit (lV 143 (eM (.int .u8 ((x1.getD ((x6).toNat) (0 : UInt8)).toNat : Int))) (lV 144 (eEq .u8 ((x1.getD ((x6).toNat) (0 : UInt8)).toNat : Int) 40) (lV 145 (eM (.bool (decide (((x1.getD ((x6).toNat) (0 : UInt8)).toNat : Int) = 40)))) ?_)))))))
      refine lK 145 false (bF q499) ?_
      refine lV 147 (eF (.bool false) (bF q499)) (wpList_nil (then_n (cond_f rfl (by kernel_rfl) (wp_skip (then_n (wp_region_lit (lV 149 (eD g14 0 2 1 Try.underlying37) ?_)))))))
      refine lE (eS g14 (0 + 2) (.int .i64 1) #[.int .i64 5, .int .i64 x6, .int .i64 1, .slice none 0 0, .int .i64 0] [.int .i64 1] S565 b564) ?_
      rintro w567 ⟨b568, S569, K570⟩
      replace b10 := K570.blk 0 rfl b10
      clear b564
      refine wpList_nil (then_n ?_)
      exact ⟨_, 5, 1, rfl, (by kernel_rfl), (by kernel_rfl), (by kernel_rfl), (by kernel_rfl), b568, b10, S569, M⟩
    replace M := ifn q562 M
    refine lG 139 138 (bF q562) (eM (.int .u8 ((x1.getD ((x6).toNat) (0 : UInt8)).toNat : Int))) (lG 140 138 (bF q562) (eEq .u8 ((x1.getD ((x6).toNat) (0 : UInt8)).toNat : Int) 124) (lV 141 (eF (.bool (decide (((x1.getD ((x6).toNat) (0 : UInt8)).toNat : Int) = 124))) (bF q562)) (wpList_nil (then_n ?_))))
    by_cases q571 : ((x1.getD ((x6).toNat) (0 : UInt8)).toNat : Int) = 124
    · replace M := ifp q571 M
      refine cT (bT q571) (wp_seq (wp_region_lit (lV 142 (eD g14 0 0 1 Try.underlying37) ?_)))
      refine lE (eS g14 (0 + 0) (.int .i64 5) #[.int .i64 5, .int .i64 x6, .int .i64 0, .slice none 0 0, .int .i64 0] [.int .i64 5] S365 b19) ?_
      rintro w572 ⟨b573, S574, K575⟩
      replace b10 := K575.blk 0 rfl b10
      clear b19
      refine wpList_nil (then_n (wp_seq (wp_seq (wp_region_lit (lV 143 (eM (.int .u8 ((x1.getD ((x6).toNat) (0 : UInt8)).toNat : Int))) (lV 144 (eEq .u8 ((x1.getD ((x6).toNat) (0 : UInt8)).toNat : Int) 40) (lV 145 (eM (.bool (decide (((x1.getD ((x6).toNat) (0 : UInt8)).toNat : Int) = 40)))) ?_)))))))
      refine lK 145 false (bF q499) ?_
      refine lV 147 (eF (.bool false) (bF q499)) (wpList_nil (then_n (cond_f rfl (by kernel_rfl) (wp_skip (then_n (wp_region_lit (lV 149 (eD g14 0 2 1 Try.underlying37) ?_)))))))
      refine lE (eS g14 (0 + 2) (.int .i64 1) #[.int .i64 5, .int .i64 x6, .int .i64 1, .slice none 0 0, .int .i64 0] [.int .i64 1] S574 b573) ?_
      rintro w576 ⟨b577, S578, K579⟩
      replace b10 := K579.blk 0 rfl b10
      clear b573
      refine wpList_nil (then_n ?_)
      exact ⟨_, 5, 1, rfl, (by kernel_rfl), (by kernel_rfl), (by kernel_rfl), (by kernel_rfl), b577, b10, S578, M⟩
    replace M := ifn q571 M
    refine cF (bF q571) (wp_seq (wp_region_lit (lV 150 (show _ = Result.ok (Next.value (.agg #[.int .i64 0, .int .i64 0, .int .i64 0, .slice none 0 0, .int .i64 0])) w363 from by kernel_rfl) ?_)))
    have S580 := S365.pull (F := (is g9)) (Fr := [(is g14)]) 1 rfl rfl
    refine lE (e_store (g := g9) (o := 0) (v := .agg #[.int .i64 0, .int .i64 0, .int .i64 0, .slice none 0 0, .int .i64 0]) (cur' := #[.int .i64 0, .int .i64 0, .int .i64 0, .slice none 0 0, .int .i64 0]) (vs := [.int .i64 0, .int .i64 0, .int .i64 0, .slice none 0 0, .int .i64 0]) S580 (by kernel_rfl) (by kernel_rfl) rfl (by kernel_rfl) b10 (Nat.le_of_ble_eq_true rfl) (List.forall_mem_cons.2 ⟨rfl, (List.forall_mem_cons.2 ⟨rfl, (List.forall_mem_cons.2 ⟨rfl, (List.forall_mem_cons.2 ⟨rfl, (List.forall_mem_cons.2 ⟨rfl, (fun _ h_ => by cases h_)⟩)⟩)⟩)⟩)⟩) rfl) ?_
    rintro w581 ⟨b582, S583, K584⟩
    clear b10
    refine lV 7 (eA (.int .i64 2)) (wpList_nil (then_n (wp_ret (then_r ?_))))
    obtain rfl := Option.some.inj M
    have S585 := S583.unit
    have S586 := St.first (Fa := [no]) (Fr := [(is g9), (is g14)]) S585
    exact retST (ty := 37) (cur := #[.int .i64 0, .int .i64 0, .int .i64 0, .slice none 0 0, .int .i64 0]) rfl rfl rfl (by kernel_rfl) b582 Try.underlying37 rfl (by kernel_rfl) (show _ = .int .i64 2 from (by kernel_rfl)) ⟨none, 0, no, H, rfl, (Row.nil _ _ _ _ no), S586⟩
  clear M
  rintro a61 w50 ⟨f51, x52, x53, rfl, e54, e55, e56, e57, b19, b10, S58, M⟩
  rw [spec_l1token.l0] at M
  refine wp_seq (wp_region_lit (lV 151 (eM (.slice A2 x1.length c3) (by exact e54)) (lV 152 (eM (.int .i64 x6) (by exact e55)) (lV 153 (eM (.int .i64 x6) (by exact e55)) (lV 154 (eD g14 0 2 1 Try.underlying37 (by exact e57)) (lV 155 (eL ⟨g14, 0 + 2, none⟩ (.int .i64 x53) Try.underlying3 (blk_cell b19 rfl)) (lV 156 (eAdd .i64 x6 x53) ?_)))))))
  obtain ⟨q587, M⟩ := chk M
  obtain ⟨q588, M⟩ := chk M
  obtain ⟨A589, h592, l591, h590⟩ := Rd.sub2 (d := tByte) (n := x1.length) (m := 1) (cap := c3) (a := x6) (b := (IntKind.i64.wrap (x6 + x53))) rfl h4 q22 q587 q588 rfl l5
  refine lV 157 (e_slice_lh (n := x1.length) (m := 1) (cap := c3) (A := A2) (a := x6) (b := (IntKind.i64.wrap (x6 + x53))) (k := .i64) (k2 := .i64) Try.underlying23 (by kernel_rfl) (by kernel_rfl) (by kernel_rfl) (by kernel_rfl) q22 q587 q588 l5 h592) ?_
  obtain ⟨t593, u594, M⟩ := bnd M
  refine lC 158 (eC [.tmp 157] [.slice A589 ((x1.drop ((x6 : Int).toNat)).take (((IntKind.i64.wrap (x6 + x53)) : Int).toNat - (x6 : Int).toNat)).length (c3 - ((x6 : Int).toNat))] Try.func34) (spec_l1copy.calls w50 H ((x1.drop ((x6 : Int).toNat)).take (((IntKind.i64.wrap (x6 + x53)) : Int).toNat - (x6 : Int).toNat)) A589 (c3 - ((x6 : Int).toNat)) h590 l591 (St.own' (Fa := []) (Fr := [(is g14), (is g9)]) S58) t593 u594) ?_
  rintro _ w595 ⟨A598, c599, F601, H596, rfl, h600, T597⟩
  refine ⟨_, rfl, ?_⟩
  obtain ⟨S602, K603⟩ := St.call (Fa := []) (Fr := [(is g14), (is g9)]) S58 T597
  replace b19 := K603.blk 0 rfl b19
  replace b10 := K603.blk 1 rfl b10
  have E604 := T597.ext
  refine lV 159 (eD g14 0 3 1 Try.underlying37 (by exact e57)) ?_
  have S605 := S602.pull (F := (is g14)) (Fr := [F601, (is g9)]) 1 rfl rfl
  refine lE (eS g14 (0 + 3) (.slice A598 t593.length c599) #[.int .i64 x52, .int .i64 x6, .int .i64 x53, .slice A598 t593.length c599, .int .i64 0] [.slice A598 t593.length c599] S605 b19) ?_
  rintro w606 ⟨b607, S608, K609⟩
  replace h600 := h600.move (K609.at 0 rfl)
  replace b10 := K609.blk 1 rfl b10
  clear b19
  refine wpList_nil (then_n (wp_seq (wp_seq (wp_region_lit (lV 160 (eD g14 0 3 1 Try.underlying37 (by exact e57)) (lV 161 (eL ⟨g14, 0 + 3, none⟩ (.slice A598 t593.length c599) Try.underlying23 (blk_cell b607 rfl)) (lV 162 (e_len (A := A598) (n := t593.length) (c := c599) Try.underlying23 (by kernel_rfl)) ?_)))))))
  refine lV 163 (e_gtr (k := .i64) (a := (t593.length : Int)) (b := 100) (by kernel_rfl) rfl) (wpList_nil (then_n ?_))
  by_cases q610 : (t593.length : Int) > 100
  · replace M := ifp q610 M
    refine cT (bT q610) (wp_seq (wp_region_lit (lV 164 (show _ = Result.ok (Next.value (.agg #[.int .i64 0, .int .i64 0, .int .i64 0, .slice none 0 0, .int .i64 0])) w606 from by kernel_rfl) ?_)))
    have S611 := S608.pull (F := (is g9)) (Fr := [(is g14), F601]) 2 rfl rfl
    refine lE (e_store (g := g9) (o := 0) (v := .agg #[.int .i64 0, .int .i64 0, .int .i64 0, .slice none 0 0, .int .i64 0]) (cur' := #[.int .i64 0, .int .i64 0, .int .i64 0, .slice none 0 0, .int .i64 0]) (vs := [.int .i64 0, .int .i64 0, .int .i64 0, .slice none 0 0, .int .i64 0]) S611 (by exact e56) (by kernel_rfl) rfl (by kernel_rfl) b10 (Nat.le_of_ble_eq_true rfl) (List.forall_mem_cons.2 ⟨rfl, (List.forall_mem_cons.2 ⟨rfl, (List.forall_mem_cons.2 ⟨rfl, (List.forall_mem_cons.2 ⟨rfl, (List.forall_mem_cons.2 ⟨rfl, (fun _ h_ => by cases h_)⟩)⟩)⟩)⟩)⟩) rfl) ?_
    rintro w612 ⟨b613, S614, K615⟩
    clear b10
    refine lV 7 (eA (.int .i64 3)) (wpList_nil (then_n (wp_ret (then_r ?_))))
    obtain rfl := Option.some.inj M
    have S616 := S614.unit
    have S617 := St.first (Fa := [no]) (Fr := [(is g9), (is g14), F601]) S616
    exact retST (ty := 37) (cur := #[.int .i64 0, .int .i64 0, .int .i64 0, .slice none 0 0, .int .i64 0]) rfl rfl rfl (by exact e56) b613 Try.underlying37 rfl (by kernel_rfl) (show _ = .int .i64 3 from (by kernel_rfl)) ⟨none, 0, no, H596, rfl, (Row.nil _ _ _ _ no), S617⟩
  replace M := ifn q610 M
  refine cF (bF q610) (wp_skip (then_n (wp_seq (wp_region_lit (lV 165 (e_loadS (b := g14) (off := 0) (cs := [.int .i64 x52, .int .i64 x6, .int .i64 x53, .slice A598 t593.length c599, .int .i64 0]) Try.underlying37 rfl (by kernel_rfl) (by exact e57) (blk_cells b607 rfl)) ?_)))))
  have S618 := S608.pull (F := (is g9)) (Fr := [(is g14), F601]) 2 rfl rfl
  refine lE (e_store (g := g9) (o := 0) (v := .agg #[.int .i64 x52, .int .i64 x6, .int .i64 x53, .slice A598 t593.length c599, .int .i64 0]) (cur' := #[.int .i64 x52, .int .i64 x6, .int .i64 x53, .slice A598 t593.length c599, .int .i64 0]) (vs := [.int .i64 x52, .int .i64 x6, .int .i64 x53, .slice A598 t593.length c599, .int .i64 0]) S618 (by exact e56) (by kernel_rfl) rfl (by kernel_rfl) b10 (Nat.le_of_ble_eq_true rfl) (List.forall_mem_cons.2 ⟨rfl, (List.forall_mem_cons.2 ⟨rfl, (List.forall_mem_cons.2 ⟨rfl, (List.forall_mem_cons.2 ⟨rfl, (List.forall_mem_cons.2 ⟨rfl, (fun _ h_ => by cases h_)⟩)⟩)⟩)⟩)⟩) rfl) ?_
  rintro w619 ⟨b620, S621, K622⟩
  replace h600 := h600.move (K622.at 1 rfl)
  clear b10
  refine lV 7 (eA (.int .i64 0)) (wpList_nil (then_n (wp_ret ?_)))
  obtain rfl := Option.some.inj M
  have S623 := S621.pull (F := F601) (Fr := [(is g9), (is g14)]) 2 rfl rfl
  have S624 := St.first (Fa := [F601]) (Fr := [(is g9), (is g14)]) S623
  exact retST (ty := 37) (cur := #[.int .i64 x52, .int .i64 x6, .int .i64 x53, .slice A598 t593.length c599, .int .i64 0]) rfl rfl rfl (by exact e56) b620 Try.underlying37 rfl (by kernel_rfl) (show _ = .int .i64 0 from (by kernel_rfl)) ⟨A598, c599, F601, H596, rfl, h600, S624⟩

/-! spec_Lex -/
def sl5 : Ty (List UInt8) := slice 5 tByte (by decide)
def st37 : Ty Token := iso (pair tInt (pair tInt (pair tInt (pair sl5 tInt)))) (fun x => (x.kind, x.place, x.size, x.text, x.n))
theorem st37_open {H : Hp} {x : Token} {cs : List Value} (h : st37.R H x cs) : ∃ (A3 : Option Addr) (c3 : Nat), cs = [.int .i64 x.kind, .int .i64 x.place, .int .i64 x.size, .slice A3 x.text.length c3, .int .i64 x.n] ∧ x.text.length ≤ c3 ∧ Rd tByte H A3 x.text := by
  obtain ⟨_, _, rfl, rfl, ⟨_, _, rfl, rfl, ⟨_, _, rfl, rfl, ⟨_, _, rfl, ⟨A3, c3, rfl, l3, h3⟩, rfl⟩⟩⟩⟩ := h
  exact ⟨A3, c3, rfl, l3, h3⟩
theorem st37_mkR {H : Hp} {x : Token} {A3 : Option Addr} {c3 : Nat} (l3 : x.text.length ≤ c3) (h3 : Rd tByte H A3 x.text) : st37.R H x [.int .i64 x.kind, .int .i64 x.place, .int .i64 x.size, .slice A3 x.text.length c3, .int .i64 x.n] := ⟨[.int .i64 x.kind], [.int .i64 x.place, .int .i64 x.size, .slice A3 x.text.length c3, .int .i64 x.n], rfl, rfl, ⟨[.int .i64 x.place], [.int .i64 x.size, .slice A3 x.text.length c3, .int .i64 x.n], rfl, rfl, ⟨[.int .i64 x.size], [.slice A3 x.text.length c3, .int .i64 x.n], rfl, rfl, ⟨[.slice A3 x.text.length c3], [.int .i64 x.n], rfl, ⟨A3, c3, rfl, l3, h3⟩, rfl⟩⟩⟩⟩
theorem st37_mkO {H X : Hp} {F3 : Foot} {x : Token} {A3 : Option Addr} {c3 : Nat} (h3 : Row tByte 5 H X F3 A3 c3 x.text) : st37.O H X F3 x [.int .i64 x.kind, .int .i64 x.place, .int .i64 x.size, .slice A3 x.text.length c3, .int .i64 x.n] := (pairO0 (a := tInt) (b := (pair tInt (pair tInt (pair sl5 tInt)))) (x := (x.kind, (x.place, (x.size, (x.text, x.n))))) (c0 := [.int .i64 x.kind]) (c1 := [.int .i64 x.place, .int .i64 x.size, .slice A3 x.text.length c3, .int .i64 x.n]) rfl (pairO0 (a := tInt) (b := (pair tInt (pair sl5 tInt))) (x := (x.place, (x.size, (x.text, x.n)))) (c0 := [.int .i64 x.place]) (c1 := [.int .i64 x.size, .slice A3 x.text.length c3, .int .i64 x.n]) rfl (pairO0 (a := tInt) (b := (pair sl5 tInt)) (x := (x.size, (x.text, x.n))) (c0 := [.int .i64 x.size]) (c1 := [.slice A3 x.text.length c3, .int .i64 x.n]) rfl (pairO1 (a := sl5) (b := tInt) (x := (x.text, x.n)) (c0 := [.slice A3 x.text.length c3]) (c1 := [.int .i64 x.n]) ⟨A3, c3, rfl, h3⟩ rfl))))
theorem st37_openO {H X : Hp} {F : Foot} {x : Token} {cs : List Value} (h : st37.O H X F x cs) : ∃ (A3 : Option Addr) (c3 : Nat) (F3 : Foot), cs = [.int .i64 x.kind, .int .i64 x.place, .int .i64 x.size, .slice A3 x.text.length c3, .int .i64 x.n] ∧ Row tByte 5 H X F3 A3 c3 x.text ∧ (∀ b, F3 b → F b) := by
  obtain ⟨_, _, K3, L3, rfl, rfl, ⟨_, _, K2, L2, rfl, rfl, ⟨_, _, K1, L1, rfl, rfl, ⟨_, _, K0, L0, rfl, ⟨A3, c3, rfl, h3⟩, rfl, d0, s0⟩, d1, s1⟩, d2, s2⟩, d3, s3⟩ := h
  exact ⟨A3, c3, _, rfl, h3, fun b hb => s3 b (.inr (s2 b (.inr (s1 b (.inr (s0 b (.inl (hb))))))))⟩
theorem st37_c0 {H X : Hp} {F : Foot} {x : Token} {cs : List Value} (h : st37.O H X F x cs) : cs[0]? = some (.int .i64 x.kind) := by obtain ⟨_, _, _, rfl, _, _⟩ := st37_openO h; rfl
theorem st37_r0 {H : Hp} {x : Token} {cs : List Value} (h : st37.R H x cs) : cs[0]? = some (.int .i64 x.kind) := by obtain ⟨_, _, rfl, _, _⟩ := st37_open h; rfl
theorem st37_c1 {H X : Hp} {F : Foot} {x : Token} {cs : List Value} (h : st37.O H X F x cs) : cs[1]? = some (.int .i64 x.place) := by obtain ⟨_, _, _, rfl, _, _⟩ := st37_openO h; rfl
theorem st37_r1 {H : Hp} {x : Token} {cs : List Value} (h : st37.R H x cs) : cs[1]? = some (.int .i64 x.place) := by obtain ⟨_, _, rfl, _, _⟩ := st37_open h; rfl
theorem st37_c2 {H X : Hp} {F : Foot} {x : Token} {cs : List Value} (h : st37.O H X F x cs) : cs[2]? = some (.int .i64 x.size) := by obtain ⟨_, _, _, rfl, _, _⟩ := st37_openO h; rfl
theorem st37_r2 {H : Hp} {x : Token} {cs : List Value} (h : st37.R H x cs) : cs[2]? = some (.int .i64 x.size) := by obtain ⟨_, _, rfl, _, _⟩ := st37_open h; rfl
theorem st37_c4 {H X : Hp} {F : Foot} {x : Token} {cs : List Value} (h : st37.O H X F x cs) : cs[4]? = some (.int .i64 x.n) := by obtain ⟨_, _, _, rfl, _, _⟩ := st37_openO h; rfl
theorem st37_r4 {H : Hp} {x : Token} {cs : List Value} (h : st37.R H x cs) : cs[4]? = some (.int .i64 x.n) := by obtain ⟨_, _, rfl, _, _⟩ := st37_open h; rfl
theorem st37_u0 {H X : Hp} {F1 F2 : Foot} {x : Token} (y : Int) {cs : List Value} (h : st37.O H X F1 x cs) : st37.O H X (or2 F1 F2) {x with kind := y} (cs.take 0 ++ [.int .i64 y] ++ cs.drop 1) := by
  obtain ⟨_, _, _, rfl, h3, s3⟩ := st37_openO h
  exact st37_mkO (x := {x with kind := y}) (h3.mono fun b hb => .inl (s3 b hb))
theorem st37_u1 {H X : Hp} {F1 F2 : Foot} {x : Token} (y : Int) {cs : List Value} (h : st37.O H X F1 x cs) : st37.O H X (or2 F1 F2) {x with place := y} (cs.take 1 ++ [.int .i64 y] ++ cs.drop 2) := by
  obtain ⟨_, _, _, rfl, h3, s3⟩ := st37_openO h
  exact st37_mkO (x := {x with place := y}) (h3.mono fun b hb => .inl (s3 b hb))
theorem st37_u2 {H X : Hp} {F1 F2 : Foot} {x : Token} (y : Int) {cs : List Value} (h : st37.O H X F1 x cs) : st37.O H X (or2 F1 F2) {x with size := y} (cs.take 2 ++ [.int .i64 y] ++ cs.drop 3) := by
  obtain ⟨_, _, _, rfl, h3, s3⟩ := st37_openO h
  exact st37_mkO (x := {x with size := y}) (h3.mono fun b hb => .inl (s3 b hb))
theorem st37_u3 {H X : Hp} {F1 F2 : Foot} {x : Token} {y : List UInt8} {A : Option Addr} {c : Nat} {cs : List Value} (hy : Row tByte 5 H X F2 A c y) (h : st37.O H X F1 x cs) : st37.O H X (or2 F1 F2) {x with text := y} (cs.take 3 ++ [.slice A y.length c] ++ cs.drop 4) := by
  obtain ⟨_, _, _, rfl, h3, _⟩ := st37_openO h
  exact st37_mkO (x := {x with text := y}) (hy.mono fun b hb => .inr hb)
theorem st37_u4 {H X : Hp} {F1 F2 : Foot} {x : Token} (y : Int) {cs : List Value} (h : st37.O H X F1 x cs) : st37.O H X (or2 F1 F2) {x with n := y} (cs.take 4 ++ [.int .i64 y] ++ cs.drop 5) := by
  obtain ⟨_, _, _, rfl, h3, s3⟩ := st37_openO h
  exact st37_mkO (x := {x with n := y}) (h3.mono fun b hb => .inl (s3 b hb))
def z37 : Token := ⟨(0 : Int), (0 : Int), (0 : Int), ([] : List UInt8), (0 : Int)⟩
theorem z37_O (H X : Hp) : st37.O H X no z37 [.int .i64 (0 : Int), .int .i64 (0 : Int), .int .i64 (0 : Int), .slice none 0 0, .int .i64 (0 : Int)] := st37_mkO (x := z37) (Row.nil _ _ _ _ no)
theorem z37_R (H : Hp) : st37.R H z37 [.int .i64 (0 : Int), .int .i64 (0 : Int), .int .i64 (0 : Int), .slice none 0 0, .int .i64 (0 : Int)] := st37_mkR (x := z37) (Nat.le_refl _) (Rd.nil _ _ _)
def spec_Lex.l0 : Nat → (List UInt8) → (List Token) → Int → Int → Option ((List Token) × Int × Int)
  | 0, _, _, _, _ => none
  | k28 + 1, x1, x12, x17, x18 => (if x17 < (x1.length : Int) then ((spec_l1skip.f k28 x1 x17).bind fun t31 => (if t31 > 0 then (spec_Lex.l0 k28 x1 x12 (IntKind.i64.wrap (x17 + t31)) x18) else (if t31 < 0 then some ([], 2, x17) else ((spec_l1token.f k28 x1 x17 (decide (x18 = x17))).bind fun t41 => (if t41.2 ≠ 0 then some ([], t41.2, x17) else (if x12.length + 1 ≤ 2513169434916 then (if t41.1.kind = 1 then (spec_Lex.l0 k28 x1 (x12 ++ [t41.1]) (IntKind.i64.wrap (x17 + t41.1.size)) (IntKind.i64.wrap (x17 + t41.1.size))) else (spec_Lex.l0 k28 x1 (x12 ++ [t41.1]) (IntKind.i64.wrap (x17 + t41.1.size)) (-1))) else none)))))) else some (x12, 0, 0))
def spec_Lex.f (k : Nat) (x1 : List UInt8) : Option ((List Token) × Int × Int) := (if (x1.length : Int) > 10000 then some ([], 3, 10000) else (spec_Lex.l0 k x1 [] 0 (-1)))
theorem spec_Lex.calls (k : Nat) (w : World) (H : Hp) (x1 : List UInt8) (A2 : Option Addr) (c3 : Nat) (h4 : Rd tByte H A2 x1) (l5 : x1.length ≤ c3) (S : Own [] H w) (r : (List Token) × Int × Int) (M : spec_Lex.f k x1 = some r) :
    Calls Try.prog 10 #[.slice A2 x1.length c3] w (fun e e_w => ∃ (A_1 : Option Addr) (c_1 : Nat) (F_1 : Foot) (H_ : Hp), e = .returned (.tuple #[.slice A_1 r.1.length c_1, .int .i64 r.2.1, .int .i64 r.2.2]) ∧ Row st37 37 H_ (hp e_w) F_1 A_1 c_1 r.1 ∧ St (anyOf []) H w [F_1] H_ e_w) := by
  rw [spec_Lex.f] at M
  refine enter (l := [.slice A2 x1.length c3]) 55 Try.func10 rfl rfl rfl ?_
  have S0_ := S.st
  refine wp_seq (wp_region_lit (lV 2 (eA (.slice none 0 0)) (lV 3 (eA (.int .i64 0)) (lV 4 (eA (.int .i64 0)) (wpList_nil (then_n (wp_seq ?_)))))))
  refine wp_seq (wp_region_lit (lV 11 (eM (.slice A2 x1.length c3)) (lV 12 (e_len (A := A2) (n := x1.length) (c := c3) Try.underlying23 (by kernel_rfl)) (lV 13 (e_gtr (k := .i64) (a := (x1.length : Int)) (b := 10000) (by kernel_rfl) rfl) (wpList_nil (then_n ?_))))))
  by_cases q6 : (x1.length : Int) > 10000
  · replace M := ifp q6 M
    refine cT (bT q6) (wp_seq (wp_region_lit (lV 2 (eA (.slice none 0 0)) (lV 3 (eA (.int .i64 3)) (lV 4 (eA (.int .i64 10000)) (wpList_nil (then_n ?_)))))))
    refine wp_ret (then_r ?_)
    obtain rfl := Option.some.inj M
    have S7 := S0_.unit
    exact ret3 rfl rfl rfl rfl (show _ = .slice none 0 0 from (by kernel_rfl)) (show _ = .int .i64 3 from (by kernel_rfl)) (show _ = .int .i64 10000 from (by kernel_rfl)) ⟨none, 0, no, H, rfl, (Row.nil _ _ _ _ no), S7⟩
  replace M := ifn q6 M
  refine cF (bF q6) (wp_skip (then_n (wp_seq (wp_region_lit (lV 5 (eA (.slice none 0 0)) (wpList_nil (then_n ?_)))))))
  refine wp_seq (wp_region_lit (lV 6 (eA (.int .i64 0)) (wpList_nil (then_n (wp_seq (wp_region_lit (lV 7 (eA (.int .i64 (-1))) ?_)))))))
  refine wpList_nil (then_n (wp_seq (wp_block ?_)))
  have S29 := S0_.unit
  refine wp_loop_g (fun k26 a27 w8 => ∃ (f9 : Nat → Value) (H10 : Hp) (x12 : List Token) (A13 : Option Addr) (c14 : Nat) (F15 : Foot) (x17 : Int) (x18 : Int), a27 = mk 55 f9 ∧ f9 0 = .slice A2 x1.length c3 ∧ f9 5 = .slice A13 x12.length c14 ∧ f9 6 = .int .i64 x17 ∧ f9 7 = .int .i64 x18 ∧ Row st37 37 H10 (hp w8) F15 A13 c14 x12 ∧ Ext H H10 ∧ St (anyOf []) H w [F15] H10 w8 ∧ spec_Lex.l0 k26 x1 x12 x17 x18 = some r) k ⟨_, H, [], none, 0, no, 0, (-1), rfl, (by kernel_rfl), (by kernel_rfl), (by kernel_rfl), (by kernel_rfl), (Row.nil _ _ _ _ _), (Ext.refl _), S29, M⟩ ?_
  clear M
  rintro k26 a27 w8 ⟨f9, H10, x12, A13, c14, F15, x17, x18, rfl, e19, e20, e21, e22, h16, Y11, S23, M⟩
  rcases k26 with _ | k28
  · rw [spec_Lex.l0] at M
    cases M
  rw [spec_Lex.l0] at M
  refine wp_seq (wp_seq (wp_region_lit (lV 14 (eM (.int .i64 x17) (by exact e21)) (lV 15 (eM (.slice A2 x1.length c3) (by exact e19)) (lV 16 (e_len (A := A2) (n := x1.length) (c := c3) Try.underlying23 (by kernel_rfl)) (lV 17 (eLt .i64 x17 (x1.length : Int)) (wpList_nil ?_)))))))
  refine then_n ?_
  by_cases q30 : x17 < (x1.length : Int)
  · replace M := ifp q30 M
    refine cT (bT q30) (wp_skip (then_n (wp_block (wp_seq (wp_region_lit (lV 18 (eM (.slice A2 x1.length c3) (by exact e19)) (lV 19 (eM (.int .i64 x17) (by exact e21)) ?_)))))))
    obtain ⟨t31, u32, M⟩ := bnd M
    refine lC 20 (eC [.tmp 18, .tmp 19] [.slice A2 x1.length c3, .int .i64 x17] Try.func19) (spec_l1skip.calls k28 w8 H10 x1 A2 c3 x17 (h4.ext Y11) l5 S23.own0 t31 u32) ?_
    rintro _ w33 ⟨rfl, C34⟩
    refine ⟨_, rfl, ?_⟩
    obtain ⟨S35, K36⟩ := S23.still C34
    replace h16 := h16.move (K36.at 0 rfl)
    refine lV 8 (eA (.int .i64 t31)) (wpList_nil (then_n (wp_seq (wp_seq (wp_region_lit (lV 21 (eM (.int .i64 t31)) (lV 22 (e_gtr (k := .i64) (a := t31) (b := 0) (by kernel_rfl) rfl) ?_)))))))
    refine wpList_nil (then_n ?_)
    by_cases q37 : t31 > 0
    · replace M := ifp q37 M
      refine cT (bT q37) (wp_seq (wp_region_lit (lV 23 (eM (.int .i64 x17) (by exact e21)) (lV 24 (eM (.int .i64 t31)) (lV 25 (eAdd .i64 x17 t31) (lV 6 (eA (.int .i64 (IntKind.i64.wrap (x17 + t31)))) (wpList_nil ?_)))))))
      refine then_n (wp_exit (then_e (inb_hit (then_n ?_))))
      exact ⟨k28, (by omega), _, H10, x12, A13, c14, F15, (IntKind.i64.wrap (x17 + t31)), x18, rfl, (by exact e19), (by exact e20), (by kernel_rfl), (by exact e22), h16, Y11, S35, M⟩
    replace M := ifn q37 M
    refine cF (bF q37) (wp_skip (then_n (wp_seq (wp_seq (wp_region_lit (lV 26 (eM (.int .i64 t31)) (lV 27 (eLt .i64 t31 0) ?_)))))))
    refine wpList_nil (then_n ?_)
    by_cases q38 : t31 < 0
    · replace M := ifp q38 M
      refine cT (bT q38) (wp_seq (wp_region_lit (lV 28 (eM (.int .i64 x17) (by exact e21)) (lV 2 (eA (.slice none 0 0)) (lV 3 (eA (.int .i64 2)) (lV 4 (eA (.int .i64 x17)) (wpList_nil ?_)))))))
      refine then_n (wp_ret (then_r (inb_r (then_r (inb_r (then_r ?_))))))
      obtain rfl := Option.some.inj M
      have S39 := S35.unit
      have S40 := St.first (Fa := [no]) (Fr := [F15]) S39
      exact ret3 rfl rfl rfl rfl (show _ = .slice none 0 0 from (by kernel_rfl)) (show _ = .int .i64 2 from (by kernel_rfl)) (show _ = .int .i64 x17 from (by kernel_rfl)) ⟨none, 0, no, H10, rfl, (Row.nil _ _ _ _ no), S40⟩
    replace M := ifn q38 M
    refine cF (bF q38) (wp_skip (then_n (wp_seq (wp_region_lit (lV 30 (eM (.slice A2 x1.length c3) (by exact e19)) (lV 31 (eM (.int .i64 x17) (by exact e21)) (lV 32 (eM (.int .i64 x18) (by exact e22)) ?_)))))))
    refine lV 33 (eM (.int .i64 x17) (by exact e21)) (lV 34 (eEq .i64 x18 x17) ?_)
    obtain ⟨t41, u42, M⟩ := bnd M
    refine lC 35 (eC [.tmp 30, .tmp 31, .tmp 34] [.slice A2 x1.length c3, .int .i64 x17, .bool (decide (x18 = x17))] Try.func20) (spec_l1token.calls k28 w33 H10 x1 A2 c3 x17 (decide (x18 = x17)) (h4.ext Y11) l5 (St.own' (Fa := []) (Fr := [F15]) S35) t41 u42) ?_
    rintro _ w43 ⟨A46, c47, F49, H44, rfl, h48, T45⟩
    refine ⟨_, rfl, ?_⟩
    obtain ⟨S50, K51⟩ := St.call (Fa := []) (Fr := [F15]) S35 T45
    replace h16 := h16.move (K51.at 0 rfl)
    have E52 := T45.ext
    replace h16 := h16.ext E52
    refine lV 29 (eM (.tuple #[.agg #[.int .i64 t41.1.kind, .int .i64 t41.1.place, .int .i64 t41.1.size, .slice A46 t41.1.text.length c47, .int .i64 t41.1.n], .int .i64 t41.2])) (lV 36 (e_extract (vs := #[.agg #[.int .i64 t41.1.kind, .int .i64 t41.1.place, .int .i64 t41.1.size, .slice A46 t41.1.text.length c47, .int .i64 t41.1.n], .int .i64 t41.2]) (v := .agg #[.int .i64 t41.1.kind, .int .i64 t41.1.place, .int .i64 t41.1.size, .slice A46 t41.1.text.length c47, .int .i64 t41.1.n]) (by kernel_rfl) rfl) (lV 37 (e_extract (vs := #[.agg #[.int .i64 t41.1.kind, .int .i64 t41.1.place, .int .i64 t41.1.size, .slice A46 t41.1.text.length c47, .int .i64 t41.1.n], .int .i64 t41.2]) (v := .int .i64 t41.2) (by kernel_rfl) rfl) ?_))
    refine lve (d := 9) rfl rfl (by kernel_rfl) (new_blk (v := fun g_ => .pointer (some ⟨g_, 0, none⟩)) (cs := #[.int .i64 0, .int .i64 0, .int .i64 0, .slice none 0 0, .int .i64 0]) (t := 37) S50 (by kernel_rfl)) ?_
    rintro _ w53 ⟨g54, rfl, b55, S56, K57⟩
    replace h48 := h48.move (K57.at 0 rfl)
    replace h16 := h16.move (K57.at 1 rfl)
    refine lE (e_store (g := g54) (o := 0) (v := .agg #[.int .i64 t41.1.kind, .int .i64 t41.1.place, .int .i64 t41.1.size, .slice A46 t41.1.text.length c47, .int .i64 t41.1.n]) (cur' := #[.int .i64 t41.1.kind, .int .i64 t41.1.place, .int .i64 t41.1.size, .slice A46 t41.1.text.length c47, .int .i64 t41.1.n]) (vs := [.int .i64 t41.1.kind, .int .i64 t41.1.place, .int .i64 t41.1.size, .slice A46 t41.1.text.length c47, .int .i64 t41.1.n]) S56 (by kernel_rfl) (by kernel_rfl) rfl (by kernel_rfl) b55 (Nat.le_of_ble_eq_true rfl) (List.forall_mem_cons.2 ⟨rfl, (List.forall_mem_cons.2 ⟨rfl, (List.forall_mem_cons.2 ⟨rfl, (List.forall_mem_cons.2 ⟨rfl, (List.forall_mem_cons.2 ⟨rfl, (fun _ h_ => by cases h_)⟩)⟩)⟩)⟩)⟩) rfl) ?_
    rintro w58 ⟨b59, S60, K61⟩
    replace h48 := h48.move (K61.at 0 rfl)
    replace h16 := h16.move (K61.at 1 rfl)
    clear b55
    refine lV 10 (eA (.int .i64 t41.2)) (wpList_nil (then_n (wp_seq (wp_seq (wp_region_lit (lV 38 (eM (.int .i64 t41.2)) (lV 39 (eNe .i64 t41.2 0) ?_)))))))
    refine wpList_nil (then_n ?_)
    by_cases q62 : t41.2 ≠ 0
    · replace M := ifp q62 M
      refine cT (bT q62) (wp_seq (wp_region_lit (lV 40 (eM (.int .i64 t41.2)) (lV 41 (eM (.int .i64 x17) (by exact e21)) (lV 2 (eA (.slice none 0 0)) (lV 3 (eA (.int .i64 t41.2)) (lV 4 (eA (.int .i64 x17)) ?_)))))))
      refine wpList_nil (then_n (wp_ret (then_r (inb_r (then_r (inb_r (then_r ?_)))))))
      obtain rfl := Option.some.inj M
      have S63 := S60.unit
      have S64 := St.first (Fa := [no]) (Fr := [(is g54), F49, F15]) S63
      exact ret3 rfl rfl rfl rfl (show _ = .slice none 0 0 from (by kernel_rfl)) (show _ = .int .i64 t41.2 from (by kernel_rfl)) (show _ = .int .i64 x17 from (by kernel_rfl)) ⟨none, 0, no, H44, rfl, (Row.nil _ _ _ _ no), S64⟩
    replace M := ifn q62 M
    refine cF (bF q62) (wp_skip (then_n (wp_seq (wp_region_lit (lV 42 (eM (.slice A13 x12.length c14) (by exact e20)) (lV 43 (e_loadS (b := g54) (off := 0) (cs := [.int .i64 t41.1.kind, .int .i64 t41.1.place, .int .i64 t41.1.size, .slice A46 t41.1.text.length c47, .int .i64 t41.1.n]) Try.underlying37 rfl (by kernel_rfl) (by kernel_rfl) (blk_cells b59 rfl)) ?_))))))
    refine lve (d := 44) rfl rfl (by kernel_rfl) (new_blk (v := fun g_ => .slice (some ⟨g_, 0, none⟩) 1 1) (cs := #[.int .i64 t41.1.kind, .int .i64 t41.1.place, .int .i64 t41.1.size, .slice A46 t41.1.text.length c47, .int .i64 t41.1.n]) (t := 37) S60 (by kernel_rfl)) ?_
    rintro _ w65 ⟨g66, rfl, b67, S68, K69⟩
    replace b59 := K69.blk 0 rfl b59
    replace h48 := h48.move (K69.at 1 rfl)
    replace h16 := h16.move (K69.at 2 rfl)
    obtain ⟨q70, M⟩ := chk M
    have S71 := S68.pull (F := F49) (Fr := [(is g66), (is g54), F15]) 2 rfl rfl
    have S72 := S71.pull (F := F15) (Fr := [F49, (is g66), (is g54)]) 3 rfl rfl
    refine lve (d := 45) rfl rfl (by kernel_rfl) (e_append (d := st37) (n := x12.length) (xs := x12) (cap := c14) (A := A13) (ys := [t41.1]) (A2 := (some ⟨g66, 0, none⟩)) (c2 := 1) (z := .agg #[.int .i64 0, .int .i64 0, .int .i64 0, .slice none 0 0, .int .i64 0]) (bytes := 56) S72 Try.underlying27 (by kernel_rfl) rfl (by decide) (by kernel_rfl) rfl (by kernel_rfl) h16 (elsO_one1 (st37_mkO (x := t41.1) h48)) (.inr (blk_news b67 rfl)) (show (x12.length + [t41.1].length) * 56 ≤ _ by first | omega | (simp only [List.length_cons, List.length_nil]; omega)) (by decide)) ?_
    rintro _ w73 ⟨A74, c75, F76, rfl, h77, S78, K79⟩
    replace b59 := K79.blk 1 rfl b59
    refine lV 5 (eA (.slice A74 ((x12 ++ [t41.1]).length) c75)) (wpList_nil (then_n (wp_seq (wp_region_lit (lV 46 (eM (.int .i64 x17) (by exact e21)) (lV 47 (eD g54 0 2 1 Try.underlying37) (lV 48 (eL ⟨g54, 0 + 2, none⟩ (.int .i64 t41.1.size) Try.underlying3 (blk_cell b59 rfl)) ?_)))))))
    refine lV 49 (eAdd .i64 x17 t41.1.size) (lV 6 (eA (.int .i64 (IntKind.i64.wrap (x17 + t41.1.size)))) (wpList_nil (then_n (wp_seq (wp_region_lit (lV 7 (eA (.int .i64 (-1))) (wpList_nil ?_)))))))
    refine then_n (wp_seq (wp_region_lit (lV 50 (eD g54 0 0 1 Try.underlying37) (lV 51 (eL ⟨g54, 0 + 0, none⟩ (.int .i64 t41.1.kind) Try.underlying3 (blk_cell b59 rfl)) (lV 52 (eEq .i64 t41.1.kind 1) (wpList_nil (then_n ?_)))))))
    by_cases q80 : t41.1.kind = 1
    · replace M := ifp q80 M
      refine cT (bT q80) (wp_region_lit (lV 53 (eM (.int .i64 (IntKind.i64.wrap (x17 + t41.1.size)))) (lV 7 (eA (.int .i64 (IntKind.i64.wrap (x17 + t41.1.size)))) (wpList_nil (inb_n (then_n ?_))))))
      have S81 := St.first (Fa := [F76]) (Fr := [(is g66), (is g54)]) S78
      exact ⟨k28, (by omega), _, H44, (x12 ++ [t41.1]), A74, c75, F76, (IntKind.i64.wrap (x17 + t41.1.size)), (IntKind.i64.wrap (x17 + t41.1.size)), rfl, (by exact e19), (by kernel_rfl), (by kernel_rfl), (by kernel_rfl), h77, (Y11.trans E52), S81, M⟩
    replace M := ifn q80 M
    refine cF (bF q80) (wp_skip (inb_n (then_n ?_)))
    have S82 := St.first (Fa := [F76]) (Fr := [(is g66), (is g54)]) S78
    exact ⟨k28, (by omega), _, H44, (x12 ++ [t41.1]), A74, c75, F76, (IntKind.i64.wrap (x17 + t41.1.size)), (-1), rfl, (by exact e19), (by kernel_rfl), (by kernel_rfl), (by kernel_rfl), h77, (Y11.trans E52), S82, M⟩
  replace M := ifn q30 M
  refine cF (bF q30) (wp_exit (then_e (then_e (inb_hit (then_n (wp_seq (wp_region_lit ?_)))))))
  refine lV 54 (eM (.slice A13 x12.length c14) (by exact e20)) (lV 2 (eA (.slice A13 x12.length c14)) (lV 3 (eA (.int .i64 0)) (lV 4 (eA (.int .i64 0)) (wpList_nil (then_n (wp_ret ?_))))))
  obtain rfl := Option.some.inj M
  exact ret3 rfl rfl rfl rfl (show _ = .slice A13 x12.length c14 from (by kernel_rfl)) (show _ = .int .i64 0 from (by kernel_rfl)) (show _ = .int .i64 0 from (by kernel_rfl)) ⟨A13, c14, F15, H10, rfl, h16, S23⟩

/-! impl_isBlank -/
structure GLexer where
  s_ : List UInt8
  at_ : Int
  tokens_ : List Token
  code_ : Int
  place_ : Int
  deriving Inhabited
def impl_isBlank.f (x1 : UInt8) : Option Bool := (if (x1.toNat : Int) = 32 then some true else (if (x1.toNat : Int) = 9 then some true else (if (x1.toNat : Int) = 10 then some true else some (decide ((x1.toNat : Int) = 13)))))
theorem impl_isBlank.calls (w : World) (H : Hp) (x1 : UInt8) (S : Own [] H w) (r : Bool) (M : impl_isBlank.f x1 = some r) :
    Calls Try.prog 35 #[.int .u8 (x1.toNat : Int)] w (fun e e_w => e = .returned (.bool r) ∧ Chg no w e_w) := by
  rw [impl_isBlank.f] at M
  refine enter (l := [.int .u8 (x1.toNat : Int)]) 17 Try.func35 rfl rfl rfl ?_
  have S0_ := S.st
  refine wp_seq (wp_region_lit (lV 2 (eA (.bool false)) (wpList_nil (then_n (wp_seq (wp_region_lit (lV 3 (eM (.int .u8 (x1.toNat : Int))) ?_)))))))
  refine lV 4 (eEq .u8 (x1.toNat : Int) 32) (lV 5 (eM (.bool (decide ((x1.toNat : Int) = 32)))) ?_)
  by_cases q2 : (x1.toNat : Int) = 32
  · replace M := ifp q2 M
    refine lK 5 true (bT q2) ?_
    refine lK 5 true (bT q2) ?_
    refine lV 8 (eT (.bool true) (bT q2)) (lV 9 (eM (.bool true)) ?_)
    refine lJ 9 true ?_
    refine lJ 9 true ?_
    refine lV 12 (eT (.bool true)) (lV 13 (eM (.bool true)) ?_)
    refine lJ 13 true ?_
    refine lJ 13 true ?_
    refine lV 16 (eT (.bool true)) (lV 2 (eA (.bool true)) (wpList_nil (then_n (wp_ret ?_))))
    obtain rfl := Option.some.inj M
    exact ret1 rfl rfl  (show _ = .bool true from (by kernel_rfl)) ⟨rfl, S0_.chg⟩
  replace M := ifn q2 M
  refine lG 6 5 (bF q2) (eM (.int .u8 (x1.toNat : Int))) (lG 7 5 (bF q2) (eEq .u8 (x1.toNat : Int) 9) (lV 8 (eF (.bool (decide ((x1.toNat : Int) = 9))) (bF q2)) (lV 9 (eM (.bool (decide ((x1.toNat : Int) = 9)))) ?_)))
  by_cases q3 : (x1.toNat : Int) = 9
  · replace M := ifp q3 M
    refine lK 9 true (bT q3) ?_
    refine lK 9 true (bT q3) ?_
    refine lV 12 (eT (.bool true) (bT q3)) (lV 13 (eM (.bool true)) ?_)
    refine lJ 13 true ?_
    refine lJ 13 true ?_
    refine lV 16 (eT (.bool true)) (lV 2 (eA (.bool true)) (wpList_nil (then_n (wp_ret ?_))))
    obtain rfl := Option.some.inj M
    exact ret1 rfl rfl  (show _ = .bool true from (by kernel_rfl)) ⟨rfl, S0_.chg⟩
  replace M := ifn q3 M
  refine lG 10 9 (bF q3) (eM (.int .u8 (x1.toNat : Int))) (lG 11 9 (bF q3) (eEq .u8 (x1.toNat : Int) 10) (lV 12 (eF (.bool (decide ((x1.toNat : Int) = 10))) (bF q3)) (lV 13 (eM (.bool (decide ((x1.toNat : Int) = 10)))) ?_)))
  by_cases q4 : (x1.toNat : Int) = 10
  · replace M := ifp q4 M
    refine lK 13 true (bT q4) ?_
    refine lK 13 true (bT q4) ?_
    refine lV 16 (eT (.bool true) (bT q4)) (lV 2 (eA (.bool true)) (wpList_nil (then_n (wp_ret ?_))))
    obtain rfl := Option.some.inj M
    exact ret1 rfl rfl  (show _ = .bool true from (by kernel_rfl)) ⟨rfl, S0_.chg⟩
  replace M := ifn q4 M
  refine lG 14 13 (bF q4) (eM (.int .u8 (x1.toNat : Int))) (lG 15 13 (bF q4) (eEq .u8 (x1.toNat : Int) 13) (lV 16 (eF (.bool (decide ((x1.toNat : Int) = 13))) (bF q4)) (lV 2 (eA (.bool (decide ((x1.toNat : Int) = 13)))) (wpList_nil (then_n (wp_ret ?_))))))
  obtain rfl := Option.some.inj M
  exact ret1 rfl rfl  (show _ = .bool (decide ((x1.toNat : Int) = 13)) from (by kernel_rfl)) ⟨rfl, S0_.chg⟩

/-! impl_lexer_peek -/
def impl_lexer_peek.f (x1 : GLexer) (x8 : Int) : Option UInt8 := (if (IntKind.i64.wrap (x1.at_ + x8)) < (x1.s_.length : Int) then (if 0 ≤ (IntKind.i64.wrap (x1.at_ + x8)) then some (x1.s_.getD ((IntKind.i64.wrap (x1.at_ + x8)) : Int).toNat (0 : UInt8)) else none) else some (0 : UInt8))
theorem impl_lexer_peek.calls (w : World) (H : Hp) (x1 : GLexer) (g2 : Nat) (A4 : Option Addr) (c5 : Nat) (x8 : Int) (h6 : Rd st37 H A4 x1.tokens_) (l7 : x1.tokens_.length ≤ c5) (b3 : H g2 = some (.cells #[str x1.s_, .int .i64 x1.at_, .slice A4 x1.tokens_.length c5, .int .i64 x1.code_, .int .i64 x1.place_] 42 (0, 0))) (S : Own [] H w) (r : UInt8) (M : impl_lexer_peek.f x1 x8 = some r) :
    Calls Try.prog 36 #[.pointer (some ⟨g2, 0, none⟩), .int .i64 x8] w (fun e e_w => e = .returned (.int .u8 (r.toNat : Int)) ∧ Chg no w e_w) := by
  rw [impl_lexer_peek.f] at M
  refine enter (l := [.pointer (some ⟨g2, 0, none⟩), .int .i64 x8]) 28 Try.func36 rfl rfl rfl ?_
  have S0_ := S.st
  refine wp_seq (wp_region_lit (lV 4 (eA (.int .u8 0)) (wpList_nil (then_n (wp_seq (wp_seq ?_))))))
  refine region_still (by kernel_rfl) (by kernel_rfl) S0_ ?_
  intro w9 S10 K11
  refine sV 5 (eM (.pointer (some ⟨g2, 0, none⟩))) (sV 6 (eN ⟨g2, 0, none⟩) (sV 7 (eD g2 0 1 1 Try.underlying42) (sV 8 (eL ⟨g2, 0 + 1, none⟩ (.int .i64 x1.at_) Try.underlying3 (blk_cell (S10.inv _ _ b3) rfl)) (sV 9 (eM (.int .i64 x8)) (sV 10 (eAdd .i64 x1.at_ x8) (sV 11 (eM (.pointer (some ⟨g2, 0, none⟩))) (sV 12 (eN ⟨g2, 0, none⟩) ?_)))))))
  refine sV 13 (eD g2 0 0 1 Try.underlying42) (sV 14 (eL ⟨g2, 0 + 0, none⟩ (str x1.s_) Try.underlying9 (blk_cell (S10.inv _ _ b3) rfl)) (sV 15 (e_slen (p := x1.s_) Try.underlying9 (by kernel_rfl)) (sV 16 (eLt .i64 (IntKind.i64.wrap (x1.at_ + x8)) (x1.s_.length : Int)) (wpStill_nil (then_n ?_)))))
  by_cases q12 : (IntKind.i64.wrap (x1.at_ + x8)) < (x1.s_.length : Int)
  · replace M := ifp q12 M
    refine cT (bT q12) (wp_seq ?_)
    refine region_still (by kernel_rfl) (by kernel_rfl) S10 ?_
    intro w13 S14 K15
    refine sV 17 (eM (.pointer (some ⟨g2, 0, none⟩))) (sV 18 (eN ⟨g2, 0, none⟩) (sV 19 (eD g2 0 0 1 Try.underlying42) (sV 20 (eL ⟨g2, 0 + 0, none⟩ (str x1.s_) Try.underlying9 (blk_cell (S14.inv _ _ b3) rfl)) (sV 21 (eM (.pointer (some ⟨g2, 0, none⟩))) (sV 22 (eN ⟨g2, 0, none⟩) (sV 23 (eD g2 0 1 1 Try.underlying42) (sV 24 (eL ⟨g2, 0 + 1, none⟩ (.int .i64 x1.at_) Try.underlying3 (blk_cell (S14.inv _ _ b3) rfl)) ?_)))))))
    refine sV 25 (eM (.int .i64 x8)) (sV 26 (eAdd .i64 x1.at_ x8) ?_)
    obtain ⟨q16, M⟩ := chk M
    refine sV 27 (e_sindex (p := x1.s_) (i := (IntKind.i64.wrap (x1.at_ + x8))) (k := .i64) Try.underlying9 (by kernel_rfl) (by kernel_rfl) q16 q12) (sV 4 (eA (.int .u8 ((x1.s_.getD ((IntKind.i64.wrap (x1.at_ + x8)) : Int).toNat (0 : UInt8)).toNat : Int))) (wpStill_nil (then_n (wp_ret (then_r ?_)))))
    obtain rfl := Option.some.inj M
    exact ret1 rfl rfl  (show _ = .int .u8 ((x1.s_.getD ((IntKind.i64.wrap (x1.at_ + x8)) : Int).toNat (0 : UInt8)).toNat : Int) from (by kernel_rfl)) ⟨rfl, S14.chg⟩
  replace M := ifn q12 M
  refine cF (bF q12) (wp_skip (then_n (wp_seq (wp_region_lit (lV 4 (eA (.int .u8 0)) (wpList_nil (then_n ?_)))))))
  refine wp_ret ?_
  obtain rfl := Option.some.inj M
  exact ret1 rfl rfl  (show _ = .int .u8 0 from (by kernel_rfl)) ⟨rfl, S10.chg⟩

/-! impl_lexer_fault -/
def impl_lexer_fault.f (x1 : GLexer) (x8 : Int) (x9 : Int) : Option GLexer := some (⟨x1.s_, x1.at_, x1.tokens_, x8, x9⟩ : GLexer)
theorem impl_lexer_fault.calls (w : World) (H : Hp) (x1 : GLexer) (g2 : Nat) (A4 : Option Addr) (c5 : Nat) (F7 : Foot) (x8 : Int) (x9 : Int) (h6 : Row st37 37 H (hp w) F7 A4 c5 x1.tokens_) (b3 : w.heap[g2]? = some (.cells #[str x1.s_, .int .i64 x1.at_, .slice A4 x1.tokens_.length c5, .int .i64 x1.code_, .int .i64 x1.place_] 42 (0, 0))) (S : Own [F7, (is g2)] H w) (r : GLexer) (M : impl_lexer_fault.f x1 x8 x9 = some r) :
    Calls Try.prog 37 #[.pointer (some ⟨g2, 0, none⟩), .int .i64 x8, .int .i64 x9] w (fun e e_w => ∃ (A_1 : Option Addr) (c_1 : Nat) (F_1 : Foot) (H_ : Hp), e = .returned (.tuple #[]) ∧ Row st37 37 H_ (hp e_w) F_1 A_1 c_1 r.tokens_ ∧ e_w.heap[g2]? = some (.cells #[str r.s_, .int .i64 r.at_, .slice A_1 r.tokens_.length c_1, .int .i64 r.code_, .int .i64 r.place_] 42 (0, 0)) ∧ St (anyOf [F7, (is g2)]) H w [(is g2), F_1] H_ e_w) := by
  rw [impl_lexer_fault.f] at M
  refine enter (l := [.pointer (some ⟨g2, 0, none⟩), .int .i64 x8, .int .i64 x9]) 14 Try.func37 rfl rfl rfl ?_
  have S0_ := S.st
  refine wp_region_lit (lV 6 (eM (.pointer (some ⟨g2, 0, none⟩))) (lV 7 (eM (.pointer (some ⟨g2, 0, none⟩))) (lV 8 (eM (.int .i64 x8)) (lV 9 (eM (.int .i64 x9)) (lV 10 (eN ⟨g2, 0, none⟩) (lV 11 (eD g2 0 3 1 Try.underlying42) ?_))))))
  have S10 := S0_.pull (F := (is g2)) (Fr := [F7]) 1 rfl rfl
  refine lE (eS g2 (0 + 3) (.int .i64 x8) #[str x1.s_, .int .i64 x1.at_, .slice A4 x1.tokens_.length c5, .int .i64 x8, .int .i64 x1.place_] [.int .i64 x8] S10 b3) ?_
  rintro w11 ⟨b12, S13, K14⟩
  replace h6 := h6.move (K14.at 0 rfl)
  clear b3
  refine lV 12 (eN ⟨g2, 0, none⟩) (lV 13 (eD g2 0 4 1 Try.underlying42) ?_)
  refine lE (eS g2 (0 + 4) (.int .i64 x9) #[str x1.s_, .int .i64 x1.at_, .slice A4 x1.tokens_.length c5, .int .i64 x8, .int .i64 x9] [.int .i64 x9] S13 b12) ?_
  rintro w15 ⟨b16, S17, K18⟩
  replace h6 := h6.move (K18.at 0 rfl)
  clear b12
  refine wpList_nil ?_
  obtain rfl := Option.some.inj M
  exact end0 rfl ⟨A4, c5, F7, H, rfl, h6, b16, S17⟩
end Go.Proofs.Ytdkbfcmekppnmaa
