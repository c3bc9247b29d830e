import Derived.Test.YtnigifmkjmbfiaaWkUs4
namespace Go.Proofs.Ytnigifmkjmbfiaa
open Go.Sx Go.Sy
attribute [local irreducible] Go.wpList Go.wpStill Go.wpQuiet Go.Code.wp
set_option maxRecDepth 100000
set_option maxHeartbeats 1000000
set_option linter.unusedVariables false
set_option linter.unusedSimpArgs false

/-! laws_eqIntS -/
def laws_eqIntS.l0 : Nat → (List Int) → (List Int) → Int → Option Bool
  | 0, _, _, _ => none
  | k23 + 1, x1, x6, x14 => (if x14 < (x1.length : Int) then (if 0 ≤ x14 then (if x14 < (x6.length : Int) then (if (x1.getD ((x14).toNat) (0 : Int)) ≠ (x6.getD ((x14).toNat) (0 : Int)) then some false else (laws_eqIntS.l0 k23 x1 x6 (IntKind.i64.wrap (x14 + 1)))) else none) else none) else some true)
def laws_eqIntS.f (k : Nat) (x1 : List Int) (x6 : List Int) : Option Bool := (if (x1.length : Int) ≠ (x6.length : Int) then some false else (laws_eqIntS.l0 k x1 x6 0))
theorem laws_eqIntS.calls (k : Nat) (w : World) (H : Hp) (x1 : List Int) (A2 : Option Addr) (c3 : Nat) (x6 : List Int) (A7 : Option Addr) (c8 : Nat) (h4 : Rd tInt H A2 x1) (l5 : x1.length ≤ c3) (h9 : Rd tInt H A7 x6) (l10 : x6.length ≤ c8) (S : Own [] H w) (r : Bool) (M : laws_eqIntS.f k x1 x6 = some r) :
    Calls Try.prog 44 #[.slice A2 x1.length c3, .slice A7 x6.length c8] w (fun e e_w => e = .returned (.bool r) ∧ Chg no w e_w) := by
  rw [laws_eqIntS.f] at M
  refine enter (l := [.slice A2 x1.length c3, .slice A7 x6.length c8]) 26 Try.func44 rfl rfl rfl ?_
  have S0_ := S.st
  refine wp_seq (wR (lV 4 (eA (.bool false)) (wN (then_n (wp_seq (wp_seq (wR ?_)))))))
  refine lV 6 (eM (.slice A2 x1.length c3)) (lV 7 (e_len (A := A2) (n := x1.length) (c := c3) Try.underlying23 (by kernel_rfl)) (lV 8 (eM (.slice A7 x6.length c8)) (lV 9 (e_len (A := A7) (n := x6.length) (c := c8) Try.underlying23 (by kernel_rfl)) (lV 10 (eNe .i64 (x1.length : Int) (x6.length : Int)) (wN (then_n ?_))))))
  by_cases q11 : (x1.length : Int) ≠ (x6.length : Int)
  · replace M := ifp q11 M
    refine cT (bT q11) (wp_seq (wR (lV 4 (eA (.bool false)) (wN (then_n (wp_ret (then_r ?_)))))))
    obtain rfl := Option.some.inj M
    exact ret1 rfl rfl  (show _ = .bool false from (by kernel_rfl)) ⟨rfl, S0_.chg⟩
  replace M := ifn q11 M
  refine cF (bF q11) (wp_skip (then_n (wp_seq (wp_seq (wR (lV 5 (eA (.int .i64 0)) (wN ?_)))))))
  refine then_n (wp_block ?_)
  refine wp_loop_g (fun k21 a22 w12 => ∃ (f13 : Nat → Value) (x14 : Int), a22 = mk 26 f13 ∧ f13 0 = .slice A2 x1.length c3 ∧ f13 1 = .slice A7 x6.length c8 ∧ f13 5 = .int .i64 x14 ∧ St (anyOf []) H w [] H w12 ∧ laws_eqIntS.l0 k21 x1 x6 x14 = some r) k ⟨_, 0, rfl, (by kernel_rfl), (by kernel_rfl), (by kernel_rfl), S0_, M⟩ ?_
  clear M
  rintro k21 a22 w12 ⟨f13, x14, rfl, e15, e16, e17, S18, M⟩
  rcases k21 with _ | k23
  · rw [laws_eqIntS.l0] at M
    cases M
  rw [laws_eqIntS.l0] at M
  refine wp_seq (wp_seq (wR (lV 11 (eM (.int .i64 x14) (by exact e17)) (lV 12 (eM (.slice A2 x1.length c3) (by exact e15)) (lV 13 (e_len (A := A2) (n := x1.length) (c := c3) Try.underlying23 (by kernel_rfl)) (lV 14 (eLt .i64 x14 (x1.length : Int)) (wN ?_)))))))
  refine then_n ?_
  by_cases q24 : x14 < (x1.length : Int)
  · replace M := ifp q24 M
    refine cT (bT q24) (wp_skip (then_n (wp_seq (wp_block (wp_seq ?_)))))
    refine region_still (by kernel_rfl) (by kernel_rfl) S18 ?_
    intro w25 S26 K27
    refine sV 17 (eM (.slice A2 x1.length c3) (by exact e15)) (sV 18 (eM (.int .i64 x14) (by exact e17)) ?_)
    obtain ⟨q28, M⟩ := chk M
    obtain ⟨b29, o30, e31⟩ := Rd.addr h4 (show (x14).toNat < x1.length by omega)
    obtain ⟨y32, r33, k34⟩ := Rd.at h4 e31 (getD_some (0 : Int) (show (x14).toNat < x1.length by omega))
    obtain rfl := r33
    refine sV 19 (eI b29 o30 x1.length c3 1 x14 .i64 Try.underlying23 e31 q28 q24) (sV 20 (eL ⟨b29, o30 + (x14 : Int).toNat * 1, none⟩ (.int .i64 (x1.getD ((x14).toNat) (0 : Int))) Try.underlying3 (hpx (S26.inv.cell (k34 0 _ rfl)))) (sV 21 (eM (.slice A7 x6.length c8) (by exact e16)) (sV 22 (eM (.int .i64 x14) (by exact e17)) ?_)))
    obtain ⟨q35, M⟩ := chk M
    obtain ⟨b36, o37, e38⟩ := Rd.addr h9 (show (x14).toNat < x6.length by omega)
    obtain ⟨y39, r40, k41⟩ := Rd.at h9 e38 (getD_some (0 : Int) (show (x14).toNat < x6.length by omega))
    obtain rfl := r40
    refine sV 23 (eI b36 o37 x6.length c8 1 x14 .i64 Try.underlying23 e38 q28 q35) (sV 24 (eL ⟨b36, o37 + (x14 : Int).toNat * 1, none⟩ (.int .i64 (x6.getD ((x14).toNat) (0 : Int))) Try.underlying3 (hpx (S26.inv.cell (k41 0 _ rfl)))) (sV 25 (eNe .i64 (x1.getD ((x14).toNat) (0 : Int)) (x6.getD ((x14).toNat) (0 : Int))) (wpStill_nil (then_n ?_))))
    by_cases q42 : (x1.getD ((x14).toNat) (0 : Int)) ≠ (x6.getD ((x14).toNat) (0 : Int))
    · replace M := ifp q42 M
      refine cT (bT q42) (wp_seq (wR (lV 4 (eA (.bool false)) (wN (then_n (wp_ret (inb_r ?_)))))))
      refine then_r (then_r (inb_r (then_r ?_)))
      obtain rfl := Option.some.inj M
      exact ret1 rfl rfl  (show _ = .bool false from (by kernel_rfl)) ⟨rfl, S26.chg⟩
    replace M := ifn q42 M
    refine cF (bF q42) (wp_skip (inb_n (then_n (wR (lV 15 (eM (.int .i64 x14) (by exact e17)) (lV 16 (eAdd .i64 x14 1) (lV 5 (eA (.int .i64 (IntKind.i64.wrap (x14 + 1)))) ?_)))))))
    refine wN (then_n ?_)
    exact ⟨k23, (by omega), _, (IntKind.i64.wrap (x14 + 1)), rfl, (by exact e15), (by exact e16), (by kernel_rfl), S26, M⟩
  replace M := ifn q24 M
  refine cF (bF q24) (wp_exit (then_e (then_e (inb_hit (then_n (wp_seq (wR ?_)))))))
  refine lV 4 (eA (.bool true)) (wN (then_n (wp_ret ?_)))
  obtain rfl := Option.some.inj M
  exact ret1 rfl rfl  (show _ = .bool true from (by kernel_rfl)) ⟨rfl, S18.chg⟩

/-! laws_eqStore -/
def laws_eqStore.f (k : Nat) (x1 : Store) (x10 : Store) : Option Bool := ((laws_eqCellS.f k x1.cells x10.cells).bind fun t29 => (if ¬ (t29 = true) then some false else ((laws_eqIntS.f k x1.trail x10.trail).bind fun t36 => (if ¬ (t36 = true) then some false else some true))))
theorem laws_eqStore.calls (k : Nat) (w : World) (H : Hp) (x1 : Store) (A2 : Option Addr) (c3 : Nat) (A6 : Option Addr) (c7 : Nat) (x10 : Store) (A11 : Option Addr) (c12 : Nat) (A15 : Option Addr) (c16 : Nat) (h4 : Rd st36 H A2 x1.cells) (l5 : x1.cells.length ≤ c3) (h8 : Rd tInt H A6 x1.trail) (l9 : x1.trail.length ≤ c7) (h13 : Rd st36 H A11 x10.cells) (l14 : x10.cells.length ≤ c12) (h17 : Rd tInt H A15 x10.trail) (l18 : x10.trail.length ≤ c16) (S : Own [] H w) (r : Bool) (M : laws_eqStore.f k x1 x10 = some r) :
    Calls Try.prog 15 #[.agg #[.slice A2 x1.cells.length c3, .slice A6 x1.trail.length c7], .agg #[.slice A11 x10.cells.length c12, .slice A15 x10.trail.length c16]] w (fun e e_w => e = .returned (.bool r) ∧ Chg no w e_w) := by
  rw [laws_eqStore.f] at M
  refine enter (l := [.agg #[.slice A2 x1.cells.length c3, .slice A6 x1.trail.length c7], .agg #[.slice A11 x10.cells.length c12, .slice A15 x10.trail.length c16]]) 17 Try.func15 rfl rfl rfl ?_
  have S0_ := S.st
  refine wp_seq (wR ?_)
  refine lW 2 (nB #[.slice A2 x1.cells.length c3, .slice A6 x1.trail.length c7] 34 S0_) ?_
  rintro _ w19 ⟨g20, rfl, b21, S22, K23⟩
  refine lW 3 (nB #[.slice A11 x10.cells.length c12, .slice A15 x10.trail.length c16] 34 S22) ?_
  rintro _ w24 ⟨g25, rfl, b26, S27, K28⟩
  replace b21 := K28.blk 0 rfl b21
  refine lV 4 (eA (.bool false)) (wN (then_n (wp_seq (wp_seq (wR (lV 5 (eD g20 0 0 1 Try.underlying34) (lV 6 (eL ⟨g20, 0 + 0, none⟩ (.slice A2 x1.cells.length c3) Try.underlying32 (blk_cell b21 rfl)) ?_)))))))
  refine lV 7 (eD g25 0 0 1 Try.underlying34) (lV 8 (eL ⟨g25, 0 + 0, none⟩ (.slice A11 x10.cells.length c12) Try.underlying32 (blk_cell b26 rfl)) ?_)
  obtain ⟨t29, u30, M⟩ := bnd M
  refine lC 9 (eC [.tmp 6, .tmp 8] [.slice A2 x1.cells.length c3, .slice A11 x10.cells.length c12] Try.func24) (laws_eqCellS.calls k w24 H x1.cells A2 c3 x10.cells A11 c12 h4 l5 h13 l14 S27.own0 t29 u30) ?_
  rintro _ w31 ⟨rfl, C32⟩
  refine ⟨_, rfl, ?_⟩
  obtain ⟨S33, K34⟩ := S27.still C32
  replace b26 := K34.blk 0 rfl b26
  replace b21 := K34.blk 1 rfl b21
  refine lV 10 (e_notv (c := t29) (by kernel_rfl)) (wN (then_n ?_))
  by_cases q35 : ¬ (t29 = true)
  · replace M := ifp q35 M
    refine cT (bT q35) (wp_seq (wR (lV 4 (eA (.bool false)) (wN (then_n (wp_ret (then_r ?_)))))))
    obtain rfl := Option.some.inj M
    exact ret1 rfl rfl  (show _ = .bool false from (by kernel_rfl)) ⟨rfl, S33.chg⟩
  replace M := ifn q35 M
  refine cF (bF q35) (wp_skip (then_n (wp_seq (wp_seq (wR (lV 11 (eD g20 0 1 1 Try.underlying34) (lV 12 (eL ⟨g20, 0 + 1, none⟩ (.slice A6 x1.trail.length c7) Try.underlying23 (blk_cell b21 rfl)) ?_)))))))
  refine lV 13 (eD g25 0 1 1 Try.underlying34) (lV 14 (eL ⟨g25, 0 + 1, none⟩ (.slice A15 x10.trail.length c16) Try.underlying23 (blk_cell b26 rfl)) ?_)
  obtain ⟨t36, u37, M⟩ := bnd M
  refine lC 15 (eC [.tmp 12, .tmp 14] [.slice A6 x1.trail.length c7, .slice A15 x10.trail.length c16] Try.func44) (laws_eqIntS.calls k w31 H x1.trail A6 c7 x10.trail A15 c16 h8 l9 h17 l18 S33.own0 t36 u37) ?_
  rintro _ w38 ⟨rfl, C39⟩
  refine ⟨_, rfl, ?_⟩
  obtain ⟨S40, K41⟩ := S33.still C39
  refine lV 16 (e_notv (c := t36) (by kernel_rfl)) (wN (then_n ?_))
  by_cases q42 : ¬ (t36 = true)
  · replace M := ifp q42 M
    refine cT (bT q42) (wp_seq (wR (lV 4 (eA (.bool false)) (wN (then_n (wp_ret (then_r ?_)))))))
    obtain rfl := Option.some.inj M
    exact ret1 rfl rfl  (show _ = .bool false from (by kernel_rfl)) ⟨rfl, S40.chg⟩
  replace M := ifn q42 M
  refine cF (bF q42) (wp_skip (then_n (wp_seq (wR (lV 4 (eA (.bool true)) (wN (then_n ?_)))))))
  refine wp_ret ?_
  obtain rfl := Option.some.inj M
  exact ret1 rfl rfl  (show _ = .bool true from (by kernel_rfl)) ⟨rfl, S40.chg⟩

/-! laws_markByteS -/
def laws_markByteS_2.l0 : Nat → (List UInt8) → Int → Int → (List UInt8) → Option (Int × (List UInt8))
  | 0, _, _, _, _ => none
  | k22 + 1, x1, x9, x10, x12 => (if x10 < (x1.length : Int) then (if 0 ≤ x10 then (laws_markByteS_2.l0 k22 x1 (IntKind.i64.wrap (x9 + 1)) (IntKind.i64.wrap (x10 + 1)) (x12.set ((x10).toNat) (b8 (x9)))) else none) else some (x9, x12))
def laws_markByteS_2.f (k : Nat) (x1 : List UInt8) (x6 : Int) : Option (Int × (List UInt8)) := (laws_markByteS_2.l0 k x1 x6 0 x1)
theorem laws_markByteS_2.calls (k : Nat) (w : World) (H : Hp) (x1 : List UInt8) (A2 : Option Addr) (c3 : Nat) (F5 : Foot) (x6 : Int) (h4 : Row tByte 5 H (hp w) F5 A2 c3 x1) (S : Own [F5] H w) (r : Int × (List UInt8)) (M : laws_markByteS_2.f k x1 x6 = some r) :
    Calls Try.prog 52 #[.slice A2 x1.length c3, .int .i64 x6] w (fun e e_w => ∃ (F_1 : Foot) (H_ : Hp), e = .returned (.int .i64 r.1) ∧ r.2.length = x1.length ∧ Row tByte 5 H_ (hp e_w) F_1 A2 c3 r.2 ∧ St (anyOf [F5]) H w [F_1] H_ e_w) := by
  rw [laws_markByteS_2.f] at M
  refine enter (l := [.slice A2 x1.length c3, .int .i64 x6]) 20 Try.func52 rfl rfl rfl ?_
  have S0_ := S.st
  refine wp_seq (wR (lV 4 (eA (.int .i64 0)) (wN (then_n (wp_seq (wp_seq (wR ?_)))))))
  refine lV 5 (eA (.int .i64 0)) (wN (then_n (wp_block ?_)))
  refine wp_loop_g (fun k20 a21 w7 => ∃ (f8 : Nat → Value) (x9 : Int) (x10 : Int) (F11 : Foot) (x12 : List UInt8), a21 = mk 20 f8 ∧ f8 0 = .slice A2 x1.length c3 ∧ f8 1 = .int .i64 x9 ∧ f8 5 = .int .i64 x10 ∧ Row tByte 5 H (hp w7) F11 A2 c3 x12 ∧ x12.length = x1.length ∧ St (anyOf [F5]) H w [F11] H w7 ∧ laws_markByteS_2.l0 k20 x1 x9 x10 x12 = some r) k ⟨_, x6, 0, F5, x1, rfl, (by kernel_rfl), (by kernel_rfl), (by kernel_rfl), h4, rfl, S0_, M⟩ ?_
  clear M
  rintro k20 a21 w7 ⟨f8, x9, x10, F11, x12, rfl, e14, e15, e16, h4, n13, S17, M⟩
  rcases k20 with _ | k22
  · rw [laws_markByteS_2.l0] at M
    cases M
  rw [laws_markByteS_2.l0] at M
  refine wp_seq (wp_seq (wR (lV 6 (eM (.int .i64 x10) (by exact e16)) (lV 7 (eM (.slice A2 x1.length c3) (by exact e14)) (lV 8 (e_len (A := A2) (n := x1.length) (c := c3) Try.underlying26 (by kernel_rfl)) (lV 9 (eLt .i64 x10 (x1.length : Int)) (wN ?_)))))))
  refine then_n ?_
  by_cases q23 : x10 < (x1.length : Int)
  · replace M := ifp q23 M
    refine cT (bT q23) (wp_skip (then_n (wp_seq (wp_block (wp_seq (wR (lV 12 (eM (.slice A2 x1.length c3) (by exact e14)) ?_)))))))
    refine lV 13 (eM (.int .i64 x10) (by exact e16)) (lV 14 (eM (.int .i64 x9) (by exact e15)) (lV 15 (e_conv_i8 (k := .i64) (a := x9) (by kernel_rfl) Try.underlying5 (by kernel_rfl)) ?_))
    obtain ⟨q24, M⟩ := chk M
    obtain ⟨b25, e27⟩ := Row.addr h4 (show (x10).toNat < x12.length by have : x12.length = x1.length := n13; omega)
    refine lV 16 (eI b25 0 x1.length c3 1 x10 .i64 Try.underlying26 e27 q24 q23) ?_
    have S28 := S17.unit
    have S29 := S28.pulls [F11, no] [1] rfl
    refine lE (e_setel (d := tByte) (b := b25) (i := (x10).toNat) (v := .int .u8 ((b8 (x9)).toNat : Int)) (vs := [.int .u8 ((b8 (x9)).toNat : Int)]) (yv := (b8 (x9))) S29 (by kernel_rfl) e27 (by kernel_rfl) rfl (by kernel_rfl) h4 (show (x10).toNat < x12.length by have : x12.length = x1.length := n13; omega) rfl) ?_
    rintro w30 ⟨F32, h31, S33, K34⟩
    clear h4
    refine wN (then_n (wR (lV 17 (eM (.int .i64 x9) (by exact e15)) (lV 18 (eAdd .i64 x9 1) (lV 1 (eA (.int .i64 (IntKind.i64.wrap (x9 + 1)))) (wN (inb_n ?_)))))))
    refine then_n (wR (lV 10 (eM (.int .i64 x10) (by exact e16)) (lV 11 (eAdd .i64 x10 1) (lV 5 (eA (.int .i64 (IntKind.i64.wrap (x10 + 1)))) (wN (then_n ?_))))))
    exact ⟨k22, (by omega), _, (IntKind.i64.wrap (x9 + 1)), (IntKind.i64.wrap (x10 + 1)), F32, (x12.set ((x10).toNat) (b8 (x9))), rfl, (by exact e14), (by kernel_rfl), (by kernel_rfl), h31, (List.length_set.trans n13), S33, M⟩
  replace M := ifn q23 M
  refine cF (bF q23) (wp_exit (then_e (then_e (inb_hit (then_n (wp_seq (wR ?_)))))))
  refine lV 19 (eM (.int .i64 x9) (by exact e15)) (lV 4 (eA (.int .i64 x9)) (wN (then_n (wp_ret ?_))))
  obtain rfl := Option.some.inj M
  exact ret1 rfl rfl  (show _ = .int .i64 x9 from (by kernel_rfl)) ⟨F11, H, rfl, n13, h4, S17⟩

/-! laws_markCellS -/
def laws_markCellS_2.l0 : Nat → (List Cell) → Int → Int → (List Cell) → Option (Int × (List Cell))
  | 0, _, _, _, _ => none
  | k24 + 1, x1, x11, x12, x14 => (if x12 < (x1.length : Int) then (if 0 ≤ x12 then ((laws_markByteS_2.f k24 ((((x14.set ((x12).toNat) ({(x14.getD ((x12).toNat) z36) with kind := x11})).set ((x12).toNat) ({((x14.set ((x12).toNat) ({(x14.getD ((x12).toNat) z36) with kind := x11})).getD ((x12).toNat) z36) with n := (IntKind.i64.wrap (x11 + 1))})).getD ((x12).toNat) z36).text) (IntKind.i64.wrap ((IntKind.i64.wrap (x11 + 1)) + 1))).bind fun t71 => (laws_markCellS_2.l0 k24 x1 t71.1 (IntKind.i64.wrap (x12 + 1)) (((x14.set ((x12).toNat) ({(x14.getD ((x12).toNat) z36) with kind := x11})).set ((x12).toNat) ({((x14.set ((x12).toNat) ({(x14.getD ((x12).toNat) z36) with kind := x11})).getD ((x12).toNat) z36) with n := (IntKind.i64.wrap (x11 + 1))})).set ((x12).toNat) ({(((x14.set ((x12).toNat) ({(x14.getD ((x12).toNat) z36) with kind := x11})).set ((x12).toNat) ({((x14.set ((x12).toNat) ({(x14.getD ((x12).toNat) z36) with kind := x11})).getD ((x12).toNat) z36) with n := (IntKind.i64.wrap (x11 + 1))})).getD ((x12).toNat) z36) with text := t71.2})))) else none) else some (x11, x14))
def laws_markCellS_2.f (k : Nat) (x1 : List Cell) (x6 : Int) : Option (Int × (List Cell)) := (laws_markCellS_2.l0 k x1 x6 0 x1)
theorem laws_markCellS_2.calls (k : Nat) (w : World) (H : Hp) (x1 : List Cell) (A2 : Option Addr) (c3 : Nat) (F5 : Foot) (x6 : Int) (h4 : Row st36 36 H (hp w) F5 A2 c3 x1) (S : Own [F5] H w) (r : Int × (List Cell)) (M : laws_markCellS_2.f k x1 x6 = some r) :
    Calls Try.prog 25 #[.slice A2 x1.length c3, .int .i64 x6] w (fun e e_w => ∃ (F_1 : Foot) (H_ : Hp), e = .returned (.int .i64 r.1) ∧ r.2.length = x1.length ∧ Row st36 36 H_ (hp e_w) F_1 A2 c3 r.2 ∧ St (anyOf [F5]) H w [F_1] H_ e_w) := by
  rw [laws_markCellS_2.f] at M
  refine enter (l := [.slice A2 x1.length c3, .int .i64 x6]) 34 Try.func25 rfl rfl rfl ?_
  have S0_ := S.st
  refine wp_seq (wR (lV 4 (eA (.int .i64 0)) (wN (then_n (wp_seq (wp_seq (wR ?_)))))))
  refine lV 5 (eA (.int .i64 0)) (wN (then_n (wp_block ?_)))
  refine wp_loop_g (fun k22 a23 w7 => ∃ (f8 : Nat → Value) (H9 : Hp) (x11 : Int) (x12 : Int) (F13 : Foot) (x14 : List Cell), a23 = mk 34 f8 ∧ f8 0 = .slice A2 x1.length c3 ∧ f8 1 = .int .i64 x11 ∧ f8 5 = .int .i64 x12 ∧ Row st36 36 H9 (hp w7) F13 A2 c3 x14 ∧ x14.length = x1.length ∧ Ext H H9 ∧ St (anyOf [F5]) H w [F13] H9 w7 ∧ laws_markCellS_2.l0 k22 x1 x11 x12 x14 = some r) k ⟨_, H, x6, 0, F5, x1, rfl, (by kernel_rfl), (by kernel_rfl), (by kernel_rfl), h4, rfl, (Ext.refl _), S0_, M⟩ ?_
  clear M
  rintro k22 a23 w7 ⟨f8, H9, x11, x12, F13, x14, rfl, e16, e17, e18, h4, n15, Y10, S19, M⟩
  rcases k22 with _ | k24
  · rw [laws_markCellS_2.l0] at M
    cases M
  rw [laws_markCellS_2.l0] at M
  refine wp_seq (wp_seq (wR (lV 6 (eM (.int .i64 x12) (by exact e18)) (lV 7 (eM (.slice A2 x1.length c3) (by exact e16)) (lV 8 (e_len (A := A2) (n := x1.length) (c := c3) Try.underlying32 (by kernel_rfl)) (lV 9 (eLt .i64 x12 (x1.length : Int)) (wN ?_)))))))
  refine then_n ?_
  by_cases q25 : x12 < (x1.length : Int)
  · replace M := ifp q25 M
    refine cT (bT q25) (wp_skip (then_n (wp_seq (wp_block (wp_seq (wR (lV 12 (eM (.slice A2 x1.length c3) (by exact e16)) ?_)))))))
    refine lV 13 (eM (.int .i64 x12) (by exact e18)) (lV 14 (eM (.int .i64 x11) (by exact e17)) ?_)
    obtain ⟨q26, M⟩ := chk M
    obtain ⟨b27, e29⟩ := Row.addr h4 (show (x12).toNat < x14.length by have : x14.length = x1.length := n15; omega)
    refine lV 15 (eI b27 0 x1.length c3 3 x12 .i64 Try.underlying32 e29 q26 q25) (lV 16 (eD b27 (0 + (x12 : Int).toNat * 3) 0 1 Try.underlying36) ?_)
    have S30 := S19.unit
    have S31 := S30.pulls [F13, no] [1] rfl
    refine lE (e_setpart (d := st36) (b := b27) (i := (x12).toNat) (j := 0) (v := .int .i64 x11) (vs := [.int .i64 x11]) (yv := {(x14.getD ((x12).toNat) z36) with kind := x11}) S31 (by kernel_rfl) e29 (by kernel_rfl) rfl (by kernel_rfl) h4 (getD_some z36 (show (x12).toNat < x14.length by have : x14.length = x1.length := n15; omega)) (Nat.le_of_ble_eq_true rfl) (List.forall_mem_cons.2 ⟨rfl, (fun _ h_ => by cases h_)⟩) (fun _ _ _ o_ => st36_u0 x11 o_)) ?_
    rintro w32 ⟨F34, h33, S35, K36⟩
    clear h4
    refine wN (then_n (wp_seq (wR (lV 17 (eM (.int .i64 x11) (by exact e17)) (lV 18 (eAdd .i64 x11 1) (lV 1 (eA (.int .i64 (IntKind.i64.wrap (x11 + 1)))) (wN ?_)))))))
    refine then_n (wp_seq (wR (lV 19 (eM (.slice A2 x1.length c3) (by exact e16)) (lV 20 (eM (.int .i64 x12) (by exact e18)) (lV 21 (eM (.int .i64 (IntKind.i64.wrap (x11 + 1)))) ?_)))))
    obtain ⟨b37, e39⟩ := Row.addr h33 (show (x12).toNat < (x14.set ((x12).toNat) ({(x14.getD ((x12).toNat) z36) with kind := x11})).length by have : (x14.set ((x12).toNat) ({(x14.getD ((x12).toNat) z36) with kind := x11})).length = x1.length := (List.length_set.trans n15); omega)
    refine lV 22 (eI b37 0 x1.length c3 3 x12 .i64 Try.underlying32 e39 q26 q25) (lV 23 (eD b37 (0 + (x12 : Int).toNat * 3) 1 1 Try.underlying36) ?_)
    have S40 := S35.unit
    have S41 := S40.pulls [F34, no] [1] rfl
    refine lE (e_setpart (d := st36) (b := b37) (i := (x12).toNat) (j := 1) (v := .int .i64 (IntKind.i64.wrap (x11 + 1))) (vs := [.int .i64 (IntKind.i64.wrap (x11 + 1))]) (yv := {((x14.set ((x12).toNat) ({(x14.getD ((x12).toNat) z36) with kind := x11})).getD ((x12).toNat) z36) with n := (IntKind.i64.wrap (x11 + 1))}) S41 (by kernel_rfl) e39 (by kernel_rfl) rfl (by kernel_rfl) h33 (getD_some z36 (show (x12).toNat < (x14.set ((x12).toNat) ({(x14.getD ((x12).toNat) z36) with kind := x11})).length by have : (x14.set ((x12).toNat) ({(x14.getD ((x12).toNat) z36) with kind := x11})).length = x1.length := (List.length_set.trans n15); omega)) (Nat.le_of_ble_eq_true rfl) (List.forall_mem_cons.2 ⟨rfl, (fun _ h_ => by cases h_)⟩) (fun _ _ _ o_ => st36_u1 (IntKind.i64.wrap (x11 + 1)) o_)) ?_
    rintro w42 ⟨F44, h43, S45, K46⟩
    clear h33
    refine wN (then_n (wp_seq (wR (lV 24 (eM (.int .i64 (IntKind.i64.wrap (x11 + 1)))) (lV 25 (eAdd .i64 (IntKind.i64.wrap (x11 + 1)) 1) (lV 1 (eA (.int .i64 (IntKind.i64.wrap ((IntKind.i64.wrap (x11 + 1)) + 1)))) (wN ?_)))))))
    refine then_n (wR (lV 26 (eM (.slice A2 x1.length c3) (by exact e16)) (lV 27 (eM (.int .i64 x12) (by exact e18)) ?_)))
    obtain ⟨b47, e49⟩ := Row.addr h43 (show (x12).toNat < ((x14.set ((x12).toNat) ({(x14.getD ((x12).toNat) z36) with kind := x11})).set ((x12).toNat) ({((x14.set ((x12).toNat) ({(x14.getD ((x12).toNat) z36) with kind := x11})).getD ((x12).toNat) z36) with n := (IntKind.i64.wrap (x11 + 1))})).length by have : ((x14.set ((x12).toNat) ({(x14.getD ((x12).toNat) z36) with kind := x11})).set ((x12).toNat) ({((x14.set ((x12).toNat) ({(x14.getD ((x12).toNat) z36) with kind := x11})).getD ((x12).toNat) z36) with n := (IntKind.i64.wrap (x11 + 1))})).length = x1.length := (List.length_set.trans (List.length_set.trans n15)); omega)
    refine lV 28 (eI b47 0 x1.length c3 3 x12 .i64 Try.underlying32 e49 q26 q25) (lV 29 (eD b47 (0 + (x12 : Int).toNat * 3) 2 1 Try.underlying36) ?_)
    obtain ⟨y55, F56, G57, r58, d59, s60, k61, t62⟩ := Row.lend h43 e49 (getD_some z36 (show (x12).toNat < ((x14.set ((x12).toNat) ({(x14.getD ((x12).toNat) z36) with kind := x11})).set ((x12).toNat) ({((x14.set ((x12).toNat) ({(x14.getD ((x12).toNat) z36) with kind := x11})).getD ((x12).toNat) z36) with n := (IntKind.i64.wrap (x11 + 1))})).length by have : ((x14.set ((x12).toNat) ({(x14.getD ((x12).toNat) z36) with kind := x11})).set ((x12).toNat) ({((x14.set ((x12).toNat) ({(x14.getD ((x12).toNat) z36) with kind := x11})).getD ((x12).toNat) z36) with n := (IntKind.i64.wrap (x11 + 1))})).length = x1.length := (List.length_set.trans (List.length_set.trans n15)); omega))
    obtain ⟨A63, c64, F67, rfl, h65, s66⟩ := st36_openO r58
    refine lV 30 (eL ⟨b47, 0 + (x12 : Int).toNat * 3 + 2, none⟩ (.slice A63 ((((x14.set ((x12).toNat) ({(x14.getD ((x12).toNat) z36) with kind := x11})).set ((x12).toNat) ({((x14.set ((x12).toNat) ({(x14.getD ((x12).toNat) z36) with kind := x11})).getD ((x12).toNat) z36) with n := (IntKind.i64.wrap (x11 + 1))})).getD ((x12).toNat) z36).text).length c64) Try.underlying26 (hpx (k61 2 _ rfl))) (lV 31 (eM (.int .i64 (IntKind.i64.wrap ((IntKind.i64.wrap (x11 + 1)) + 1)))) ?_)
    have S68 := S45.part d59 s60
    have S69 := S68.sub s66
    have q70 : ∀ b_, G57 b_ → hp w42 b_ = hp w42 b_ := fun _ _ => rfl
    obtain ⟨t71, u72, M⟩ := bnd M
    refine lC 32 (eC [.tmp 30, .tmp 31] [.slice A63 ((((x14.set ((x12).toNat) ({(x14.getD ((x12).toNat) z36) with kind := x11})).set ((x12).toNat) ({((x14.set ((x12).toNat) ({(x14.getD ((x12).toNat) z36) with kind := x11})).getD ((x12).toNat) z36) with n := (IntKind.i64.wrap (x11 + 1))})).getD ((x12).toNat) z36).text).length c64, .int .i64 (IntKind.i64.wrap ((IntKind.i64.wrap (x11 + 1)) + 1))] Try.func52) (laws_markByteS_2.calls k24 w42 H9 ((((x14.set ((x12).toNat) ({(x14.getD ((x12).toNat) z36) with kind := x11})).set ((x12).toNat) ({((x14.set ((x12).toNat) ({(x14.getD ((x12).toNat) z36) with kind := x11})).getD ((x12).toNat) z36) with n := (IntKind.i64.wrap (x11 + 1))})).getD ((x12).toNat) z36).text) A63 c64 F67 (IntKind.i64.wrap ((IntKind.i64.wrap (x11 + 1)) + 1)) h65 (St.own' (Fa := [F67]) (Fr := [G57]) S69) t71 u72) ?_
    rintro _ w73 ⟨F77, H74, rfl, n78, h76, T75⟩
    refine ⟨_, rfl, ?_⟩
    obtain ⟨S79, K80⟩ := St.call (Fa := [F67]) (Fr := [G57]) S69 T75
    replace q70 := fun b_ h_ => (K80.at 0 rfl b_ h_).trans (q70 b_ h_)
    have E81 := T75.ext
    have S83 := S79.pulls [F77, G57] [1, 1] rfl
    have h84 := t62 H74 (hp w73) F77 ({(((x14.set ((x12).toNat) ({(x14.getD ((x12).toNat) z36) with kind := x11})).set ((x12).toNat) ({((x14.set ((x12).toNat) ({(x14.getD ((x12).toNat) z36) with kind := x11})).getD ((x12).toNat) z36) with n := (IntKind.i64.wrap (x11 + 1))})).getD ((x12).toNat) z36) with text := t71.2} : Cell) E81 q70 (by have q_ := st36_mkO (x := {(((x14.set ((x12).toNat) ({(x14.getD ((x12).toNat) z36) with kind := x11})).set ((x12).toNat) ({((x14.set ((x12).toNat) ({(x14.getD ((x12).toNat) z36) with kind := x11})).getD ((x12).toNat) z36) with n := (IntKind.i64.wrap (x11 + 1))})).getD ((x12).toNat) z36) with text := t71.2}) h76; rw [show t71.2.length = ((((x14.set ((x12).toNat) ({(x14.getD ((x12).toNat) z36) with kind := x11})).set ((x12).toNat) ({((x14.set ((x12).toNat) ({(x14.getD ((x12).toNat) z36) with kind := x11})).getD ((x12).toNat) z36) with n := (IntKind.i64.wrap (x11 + 1))})).getD ((x12).toNat) z36).text).length from n78] at q_; exact q_) S83.dj
    have S85 := S83.join
    refine lV 1 (eA (.int .i64 t71.1)) (wN (inb_n (then_n (wR (lV 10 (eM (.int .i64 x12) (by exact e18)) (lV 11 (eAdd .i64 x12 1) (lV 5 (eA (.int .i64 (IntKind.i64.wrap (x12 + 1)))) ?_)))))))
    refine wN (then_n ?_)
    exact ⟨k24, (by omega), _, H74, t71.1, (IntKind.i64.wrap (x12 + 1)), (or2 F77 G57), (((x14.set ((x12).toNat) ({(x14.getD ((x12).toNat) z36) with kind := x11})).set ((x12).toNat) ({((x14.set ((x12).toNat) ({(x14.getD ((x12).toNat) z36) with kind := x11})).getD ((x12).toNat) z36) with n := (IntKind.i64.wrap (x11 + 1))})).set ((x12).toNat) ({(((x14.set ((x12).toNat) ({(x14.getD ((x12).toNat) z36) with kind := x11})).set ((x12).toNat) ({((x14.set ((x12).toNat) ({(x14.getD ((x12).toNat) z36) with kind := x11})).getD ((x12).toNat) z36) with n := (IntKind.i64.wrap (x11 + 1))})).getD ((x12).toNat) z36) with text := t71.2})), rfl, (by exact e16), (by kernel_rfl), (by kernel_rfl), h84, (List.length_set.trans (List.length_set.trans (List.length_set.trans n15))), (Y10.trans E81), S85, M⟩
  replace M := ifn q25 M
  refine cF (bF q25) (wp_exit (then_e (then_e (inb_hit (then_n (wp_seq (wR ?_)))))))
  refine lV 33 (eM (.int .i64 x11) (by exact e17)) (lV 4 (eA (.int .i64 x11)) (wN (then_n (wp_ret ?_))))
  obtain rfl := Option.some.inj M
  exact ret1 rfl rfl  (show _ = .int .i64 x11 from (by kernel_rfl)) ⟨F13, H9, rfl, n15, h4, S19⟩

/-! laws_markIntS -/
def laws_markIntS_2.l0 : Nat → (List Int) → Int → Int → (List Int) → Option (Int × (List Int))
  | 0, _, _, _, _ => none
  | k22 + 1, x1, x9, x10, x12 => (if x10 < (x1.length : Int) then (if 0 ≤ x10 then (laws_markIntS_2.l0 k22 x1 (IntKind.i64.wrap (x9 + 1)) (IntKind.i64.wrap (x10 + 1)) (x12.set ((x10).toNat) x9)) else none) else some (x9, x12))
def laws_markIntS_2.f (k : Nat) (x1 : List Int) (x6 : Int) : Option (Int × (List Int)) := (laws_markIntS_2.l0 k x1 x6 0 x1)
theorem laws_markIntS_2.calls (k : Nat) (w : World) (H : Hp) (x1 : List Int) (A2 : Option Addr) (c3 : Nat) (F5 : Foot) (x6 : Int) (h4 : Row tInt 3 H (hp w) F5 A2 c3 x1) (S : Own [F5] H w) (r : Int × (List Int)) (M : laws_markIntS_2.f k x1 x6 = some r) :
    Calls Try.prog 51 #[.slice A2 x1.length c3, .int .i64 x6] w (fun e e_w => ∃ (F_1 : Foot) (H_ : Hp), e = .returned (.int .i64 r.1) ∧ r.2.length = x1.length ∧ Row tInt 3 H_ (hp e_w) F_1 A2 c3 r.2 ∧ St (anyOf [F5]) H w [F_1] H_ e_w) := by
  rw [laws_markIntS_2.f] at M
  refine enter (l := [.slice A2 x1.length c3, .int .i64 x6]) 19 Try.func51 rfl rfl rfl ?_
  have S0_ := S.st
  refine wp_seq (wR (lV 4 (eA (.int .i64 0)) (wN (then_n (wp_seq (wp_seq (wR ?_)))))))
  refine lV 5 (eA (.int .i64 0)) (wN (then_n (wp_block ?_)))
  refine wp_loop_g (fun k20 a21 w7 => ∃ (f8 : Nat → Value) (x9 : Int) (x10 : Int) (F11 : Foot) (x12 : List Int), a21 = mk 19 f8 ∧ f8 0 = .slice A2 x1.length c3 ∧ f8 1 = .int .i64 x9 ∧ f8 5 = .int .i64 x10 ∧ Row tInt 3 H (hp w7) F11 A2 c3 x12 ∧ x12.length = x1.length ∧ St (anyOf [F5]) H w [F11] H w7 ∧ laws_markIntS_2.l0 k20 x1 x9 x10 x12 = some r) k ⟨_, x6, 0, F5, x1, rfl, (by kernel_rfl), (by kernel_rfl), (by kernel_rfl), h4, rfl, S0_, M⟩ ?_
  clear M
  rintro k20 a21 w7 ⟨f8, x9, x10, F11, x12, rfl, e14, e15, e16, h4, n13, S17, M⟩
  rcases k20 with _ | k22
  · rw [laws_markIntS_2.l0] at M
    cases M
  rw [laws_markIntS_2.l0] at M
  refine wp_seq (wp_seq (wR (lV 6 (eM (.int .i64 x10) (by exact e16)) (lV 7 (eM (.slice A2 x1.length c3) (by exact e14)) (lV 8 (e_len (A := A2) (n := x1.length) (c := c3) Try.underlying23 (by kernel_rfl)) (lV 9 (eLt .i64 x10 (x1.length : Int)) (wN ?_)))))))
  refine then_n ?_
  by_cases q23 : x10 < (x1.length : Int)
  · replace M := ifp q23 M
    refine cT (bT q23) (wp_skip (then_n (wp_seq (wp_block (wp_seq (wR (lV 12 (eM (.slice A2 x1.length c3) (by exact e14)) ?_)))))))
    refine lV 13 (eM (.int .i64 x10) (by exact e16)) (lV 14 (eM (.int .i64 x9) (by exact e15)) ?_)
    obtain ⟨q24, M⟩ := chk M
    obtain ⟨b25, e27⟩ := Row.addr h4 (show (x10).toNat < x12.length by have : x12.length = x1.length := n13; omega)
    refine lV 15 (eI b25 0 x1.length c3 1 x10 .i64 Try.underlying23 e27 q24 q23) ?_
    have S28 := S17.unit
    have S29 := S28.pulls [F11, no] [1] rfl
    refine lE (e_setel (d := tInt) (b := b25) (i := (x10).toNat) (v := .int .i64 x9) (vs := [.int .i64 x9]) (yv := x9) S29 (by kernel_rfl) e27 (by kernel_rfl) rfl (by kernel_rfl) h4 (show (x10).toNat < x12.length by have : x12.length = x1.length := n13; omega) rfl) ?_
    rintro w30 ⟨F32, h31, S33, K34⟩
    clear h4
    refine wN (then_n (wR (lV 16 (eM (.int .i64 x9) (by exact e15)) (lV 17 (eAdd .i64 x9 1) (lV 1 (eA (.int .i64 (IntKind.i64.wrap (x9 + 1)))) (wN (inb_n ?_)))))))
    refine then_n (wR (lV 10 (eM (.int .i64 x10) (by exact e16)) (lV 11 (eAdd .i64 x10 1) (lV 5 (eA (.int .i64 (IntKind.i64.wrap (x10 + 1)))) (wN (then_n ?_))))))
    exact ⟨k22, (by omega), _, (IntKind.i64.wrap (x9 + 1)), (IntKind.i64.wrap (x10 + 1)), F32, (x12.set ((x10).toNat) x9), rfl, (by exact e14), (by kernel_rfl), (by kernel_rfl), h31, (List.length_set.trans n13), S33, M⟩
  replace M := ifn q23 M
  refine cF (bF q23) (wp_exit (then_e (then_e (inb_hit (then_n (wp_seq (wR ?_)))))))
  refine lV 18 (eM (.int .i64 x9) (by exact e15)) (lV 4 (eA (.int .i64 x9)) (wN (then_n (wp_ret ?_))))
  obtain rfl := Option.some.inj M
  exact ret1 rfl rfl  (show _ = .int .i64 x9 from (by kernel_rfl)) ⟨F11, H, rfl, n13, h4, S17⟩

/-! laws_markStore -/
def laws_markStore_2.f (k : Nat) (x1 : Store) (x10 : Int) : Option (Int × (List Cell) × (List Int)) := ((laws_markCellS_2.f k x1.cells x10).bind fun t17 => ((laws_markIntS_2.f k x1.trail t17.1).bind fun t29 => some (t29.1, t17.2, t29.2)))
theorem laws_markStore_2.calls (k : Nat) (w : World) (H : Hp) (x1 : Store) (A2 : Option Addr) (c3 : Nat) (F5 : Foot) (A6 : Option Addr) (c7 : Nat) (F9 : Foot) (x10 : Int) (h4 : Row st36 36 H (hp w) F5 A2 c3 x1.cells) (h8 : Row tInt 3 H (hp w) F9 A6 c7 x1.trail) (S : Own [F5, F9] H w) (r : Int × (List Cell) × (List Int)) (M : laws_markStore_2.f k x1 x10 = some r) :
    Calls Try.prog 19 #[.agg #[.slice A2 x1.cells.length c3, .slice A6 x1.trail.length c7], .int .i64 x10] w (fun e e_w => ∃ (F_1 : Foot) (F_2 : Foot) (H_ : Hp), e = .returned (.int .i64 r.1) ∧ r.2.1.length = x1.cells.length ∧ Row st36 36 H_ (hp e_w) F_1 A2 c3 r.2.1 ∧ r.2.2.length = x1.trail.length ∧ Row tInt 3 H_ (hp e_w) F_2 A6 c7 r.2.2 ∧ St (anyOf [F5, F9]) H w [F_1, F_2] H_ e_w) := by
  rw [laws_markStore_2.f] at M
  refine enter (l := [.agg #[.slice A2 x1.cells.length c3, .slice A6 x1.trail.length c7], .int .i64 x10]) 14 Try.func19 rfl rfl rfl ?_
  have S0_ := S.st
  refine wp_seq (wR ?_)
  refine lW 2 (nB #[.slice A2 x1.cells.length c3, .slice A6 x1.trail.length c7] 34 S0_) ?_
  rintro _ w11 ⟨g12, rfl, b13, S14, K15⟩
  replace h4 := h4.move (K15.at 0 rfl)
  replace h8 := h8.move (K15.at 1 rfl)
  refine lV 4 (eA (.int .i64 0)) (wN (then_n (wp_seq (wR (lV 5 (eD g12 0 0 1 Try.underlying34) (lV 6 (eL ⟨g12, 0 + 0, none⟩ (.slice A2 x1.cells.length c3) Try.underlying32 (blk_cell b13 rfl)) (lV 7 (eM (.int .i64 x10)) ?_)))))))
  have S16 := S14.pulls [F5, (is g12), F9] [1] rfl
  obtain ⟨t17, u18, M⟩ := bnd M
  refine lC 8 (eC [.tmp 6, .tmp 7] [.slice A2 x1.cells.length c3, .int .i64 x10] Try.func25) (laws_markCellS_2.calls k w11 H x1.cells A2 c3 F5 x10 h4 (St.own' (Fa := [F5]) (Fr := [(is g12), F9]) S16) t17 u18) ?_
  rintro _ w19 ⟨F23, H20, rfl, n24, h22, T21⟩
  refine ⟨_, rfl, ?_⟩
  obtain ⟨S25, K26⟩ := St.call (Fa := [F5]) (Fr := [(is g12), F9]) S16 T21
  replace b13 := K26.blk 0 rfl b13
  replace h8 := h8.move (K26.at 1 rfl)
  have E27 := T21.ext
  replace h8 := h8.ext E27
  refine lV 1 (eA (.int .i64 t17.1)) (wN (then_n (wp_seq (wR (lV 9 (eD g12 0 1 1 Try.underlying34) (lV 10 (eL ⟨g12, 0 + 1, none⟩ (.slice A6 x1.trail.length c7) Try.underlying23 (blk_cell b13 rfl)) (lV 11 (eM (.int .i64 t17.1)) ?_)))))))
  have S28 := S25.pulls [F9, F23, (is g12)] [2] rfl
  obtain ⟨t29, u30, M⟩ := bnd M
  refine lC 12 (eC [.tmp 10, .tmp 11] [.slice A6 x1.trail.length c7, .int .i64 t17.1] Try.func51) (laws_markIntS_2.calls k w19 H20 x1.trail A6 c7 F9 t17.1 h8 (St.own' (Fa := [F9]) (Fr := [F23, (is g12)]) S28) t29 u30) ?_
  rintro _ w31 ⟨F35, H32, rfl, n36, h34, T33⟩
  refine ⟨_, rfl, ?_⟩
  obtain ⟨S37, K38⟩ := St.call (Fa := [F9]) (Fr := [F23, (is g12)]) S28 T33
  replace h22 := h22.move (K38.at 0 rfl)
  have E39 := T33.ext
  replace h22 := h22.ext E39
  refine lV 1 (eA (.int .i64 t29.1)) (wN (then_n (wp_seq (wR (lV 13 (eM (.int .i64 t29.1)) (lV 4 (eA (.int .i64 t29.1)) (wN ?_)))))))
  refine then_n (wp_ret ?_)
  obtain rfl := Option.some.inj M
  have S40 := S37.pulls [F23, F35, (is g12)] [1] rfl
  have S41 := St.first (Fa := [F23, F35]) (Fr := [(is g12)]) S40
  exact ret1 rfl rfl  (show _ = .int .i64 t29.1 from (by kernel_rfl)) ⟨F23, F35, H32, rfl, n24, h22, n36, h34, S41⟩

/-! laws_markCell -/
def laws_markCell_2.f (k : Nat) (x1 : Cell) (x6 : Int) : Option (Int × (List UInt8)) := ((laws_markByteS_2.f k x1.text x6).bind fun t13 => some (t13.1, t13.2))
theorem laws_markCell_2.calls (k : Nat) (w : World) (H : Hp) (x1 : Cell) (A2 : Option Addr) (c3 : Nat) (F5 : Foot) (x6 : Int) (h4 : Row tByte 5 H (hp w) F5 A2 c3 x1.text) (S : Own [F5] H w) (r : Int × (List UInt8)) (M : laws_markCell_2.f k x1 x6 = some r) :
    Calls Try.prog 20 #[.agg #[.int .i64 x1.kind, .int .i64 x1.n, .slice A2 x1.text.length c3], .int .i64 x6] w (fun e e_w => ∃ (F_1 : Foot) (H_ : Hp), e = .returned (.int .i64 r.1) ∧ r.2.length = x1.text.length ∧ Row tByte 5 H_ (hp e_w) F_1 A2 c3 r.2 ∧ St (anyOf [F5]) H w [F_1] H_ e_w) := by
  rw [laws_markCell_2.f] at M
  refine enter (l := [.agg #[.int .i64 x1.kind, .int .i64 x1.n, .slice A2 x1.text.length c3], .int .i64 x6]) 10 Try.func20 rfl rfl rfl ?_
  have S0_ := S.st
  refine wp_seq (wR ?_)
  refine lW 2 (nB #[.int .i64 x1.kind, .int .i64 x1.n, .slice A2 x1.text.length c3] 36 S0_) ?_
  rintro _ w7 ⟨g8, rfl, b9, S10, K11⟩
  replace h4 := h4.move (K11.at 0 rfl)
  refine lV 4 (eA (.int .i64 0)) (wN (then_n (wp_seq (wR (lV 5 (eD g8 0 2 1 Try.underlying36) (lV 6 (eL ⟨g8, 0 + 2, none⟩ (.slice A2 x1.text.length c3) Try.underlying26 (blk_cell b9 rfl)) (lV 7 (eM (.int .i64 x6)) ?_)))))))
  have S12 := S10.pulls [F5, (is g8)] [1] rfl
  obtain ⟨t13, u14, M⟩ := bnd M
  refine lC 8 (eC [.tmp 6, .tmp 7] [.slice A2 x1.text.length c3, .int .i64 x6] Try.func52) (laws_markByteS_2.calls k w7 H x1.text A2 c3 F5 x6 h4 (St.own' (Fa := [F5]) (Fr := [(is g8)]) S12) t13 u14) ?_
  rintro _ w15 ⟨F19, H16, rfl, n20, h18, T17⟩
  refine ⟨_, rfl, ?_⟩
  obtain ⟨S21, K22⟩ := St.call (Fa := [F5]) (Fr := [(is g8)]) S12 T17
  have E23 := T17.ext
  refine lV 1 (eA (.int .i64 t13.1)) (wN (then_n (wp_seq (wR (lV 9 (eM (.int .i64 t13.1)) (lV 4 (eA (.int .i64 t13.1)) (wN ?_)))))))
  refine then_n (wp_ret ?_)
  obtain rfl := Option.some.inj M
  have S24 := St.first (Fa := [F19]) (Fr := [(is g8)]) S21
  exact ret1 rfl rfl  (show _ = .int .i64 t13.1 from (by kernel_rfl)) ⟨F19, H16, rfl, n20, h18, S24⟩

/-! laws_heldByteS -/
def laws_heldByteS.l0 : Nat → (List UInt8) → Int → Int → Option Int
  | 0, _, _, _ => none
  | k19 + 1, x1, x9, x10 => (if x10 < (x1.length : Int) then (if 0 ≤ x10 then (if ((x1.getD ((x10).toNat) (0 : UInt8)).toNat : Int) ≠ ((b8 (x9)).toNat : Int) then some (-1) else (laws_heldByteS.l0 k19 x1 (IntKind.i64.wrap (x9 + 1)) (IntKind.i64.wrap (x10 + 1)))) else none) else some x9)
def laws_heldByteS.f (k : Nat) (x1 : List UInt8) (x6 : Int) : Option Int := (laws_heldByteS.l0 k x1 x6 0)
theorem laws_heldByteS.calls (k : Nat) (w : World) (H : Hp) (x1 : List UInt8) (A2 : Option Addr) (c3 : Nat) (x6 : Int) (h4 : Rd tByte H A2 x1) (l5 : x1.length ≤ c3) (S : Own [] H w) (r : Int) (M : laws_heldByteS.f k x1 x6 = some r) :
    Calls Try.prog 53 #[.slice A2 x1.length c3, .int .i64 x6] w (fun e e_w => e = .returned (.int .i64 r) ∧ Chg no w e_w) := by
  rw [laws_heldByteS.f] at M
  refine enter (l := [.slice A2 x1.length c3, .int .i64 x6]) 22 Try.func53 rfl rfl rfl ?_
  have S0_ := S.st
  refine wp_seq (wR (lV 4 (eA (.int .i64 0)) (wN (then_n (wp_seq (wp_seq (wR ?_)))))))
  refine lV 5 (eA (.int .i64 0)) (wN (then_n (wp_block ?_)))
  refine wp_loop_g (fun k17 a18 w7 => ∃ (f8 : Nat → Value) (x9 : Int) (x10 : Int), a18 = mk 22 f8 ∧ f8 0 = .slice A2 x1.length c3 ∧ f8 1 = .int .i64 x9 ∧ f8 5 = .int .i64 x10 ∧ St (anyOf []) H w [] H w7 ∧ laws_heldByteS.l0 k17 x1 x9 x10 = some r) k ⟨_, x6, 0, rfl, (by kernel_rfl), (by kernel_rfl), (by kernel_rfl), S0_, M⟩ ?_
  clear M
  rintro k17 a18 w7 ⟨f8, x9, x10, rfl, e11, e12, e13, S14, M⟩
  rcases k17 with _ | k19
  · rw [laws_heldByteS.l0] at M
    cases M
  rw [laws_heldByteS.l0] at M
  refine wp_seq (wp_seq (wR (lV 6 (eM (.int .i64 x10) (by exact e13)) (lV 7 (eM (.slice A2 x1.length c3) (by exact e11)) (lV 8 (e_len (A := A2) (n := x1.length) (c := c3) Try.underlying26 (by kernel_rfl)) (lV 9 (eLt .i64 x10 (x1.length : Int)) (wN ?_)))))))
  refine then_n ?_
  by_cases q20 : x10 < (x1.length : Int)
  · replace M := ifp q20 M
    refine cT (bT q20) (wp_skip (then_n (wp_seq (wp_block (wp_seq (wp_seq (wR ?_)))))))
    refine lV 12 (eM (.slice A2 x1.length c3) (by exact e11)) (lV 13 (eM (.int .i64 x10) (by exact e13)) ?_)
    obtain ⟨q21, M⟩ := chk M
    obtain ⟨b22, o23, e24⟩ := Rd.addr h4 (show (x10).toNat < x1.length by omega)
    obtain ⟨y25, r26, k27⟩ := Rd.at h4 e24 (getD_some (0 : UInt8) (show (x10).toNat < x1.length by omega))
    obtain rfl := r26
    refine lV 14 (eI b22 o23 x1.length c3 1 x10 .i64 Try.underlying26 e24 q21 q20) (lV 15 (eL ⟨b22, o23 + (x10 : Int).toNat * 1, none⟩ (.int .u8 ((x1.getD ((x10).toNat) (0 : UInt8)).toNat : Int)) Try.underlying5 (hpx (S14.inv.cell (k27 0 _ rfl)))) (lV 16 (eM (.int .i64 x9) (by exact e12)) (lV 17 (e_conv_i8 (k := .i64) (a := x9) (by kernel_rfl) Try.underlying5 (by kernel_rfl)) (lV 18 (eNe .u8 ((x1.getD ((x10).toNat) (0 : UInt8)).toNat : Int) ((b8 (x9)).toNat : Int)) (wN (then_n ?_))))))
    by_cases q28 : ((x1.getD ((x10).toNat) (0 : UInt8)).toNat : Int) ≠ ((b8 (x9)).toNat : Int)
    · replace M := ifp q28 M
      refine cT (bT q28) (wp_seq (wR (lV 4 (eA (.int .i64 (-1))) (wN (then_n (wp_ret (then_r ?_)))))))
      refine inb_r (then_r (then_r (inb_r (then_r ?_))))
      obtain rfl := Option.some.inj M
      exact ret1 rfl rfl  (show _ = .int .i64 (-1) from (by kernel_rfl)) ⟨rfl, S14.chg⟩
    replace M := ifn q28 M
    refine cF (bF q28) (wp_skip (then_n (wR (lV 19 (eM (.int .i64 x9) (by exact e12)) (lV 20 (eAdd .i64 x9 1) (lV 1 (eA (.int .i64 (IntKind.i64.wrap (x9 + 1)))) (wN ?_)))))))
    refine inb_n (then_n (wR (lV 10 (eM (.int .i64 x10) (by exact e13)) (lV 11 (eAdd .i64 x10 1) (lV 5 (eA (.int .i64 (IntKind.i64.wrap (x10 + 1)))) (wN (then_n ?_)))))))
    exact ⟨k19, (by omega), _, (IntKind.i64.wrap (x9 + 1)), (IntKind.i64.wrap (x10 + 1)), rfl, (by exact e11), (by kernel_rfl), (by kernel_rfl), S14, M⟩
  replace M := ifn q20 M
  refine cF (bF q20) (wp_exit (then_e (then_e (inb_hit (then_n (wp_seq (wR ?_)))))))
  refine lV 21 (eM (.int .i64 x9) (by exact e12)) (lV 4 (eA (.int .i64 x9)) (wN (then_n (wp_ret ?_))))
  obtain rfl := Option.some.inj M
  exact ret1 rfl rfl  (show _ = .int .i64 x9 from (by kernel_rfl)) ⟨rfl, S14.chg⟩

/-! laws_heldCellS -/
def laws_heldCellS.l0 : Nat → (List Cell) → Int → Int → Option Int
  | 0, _, _, _ => none
  | k19 + 1, x1, x9, x10 => (if x10 < (x1.length : Int) then (if 0 ≤ x10 then (if ((x1.getD ((x10).toNat) z36).kind) ≠ x9 then some (-1) else (if ((x1.getD ((x10).toNat) z36).n) ≠ (IntKind.i64.wrap (x9 + 1)) then some (-1) else ((laws_heldByteS.f k19 ((x1.getD ((x10).toNat) z36).text) (IntKind.i64.wrap ((IntKind.i64.wrap (x9 + 1)) + 1))).bind fun t54 => (if t54 < 0 then some (-1) else (laws_heldCellS.l0 k19 x1 t54 (IntKind.i64.wrap (x10 + 1))))))) else none) else some x9)
def laws_heldCellS.f (k : Nat) (x1 : List Cell) (x6 : Int) : Option Int := (laws_heldCellS.l0 k x1 x6 0)
theorem laws_heldCellS.calls (k : Nat) (w : World) (H : Hp) (x1 : List Cell) (A2 : Option Addr) (c3 : Nat) (x6 : Int) (h4 : Rd st36 H A2 x1) (l5 : x1.length ≤ c3) (S : Own [] H w) (r : Int) (M : laws_heldCellS.f k x1 x6 = some r) :
    Calls Try.prog 26 #[.slice A2 x1.length c3, .int .i64 x6] w (fun e e_w => e = .returned (.int .i64 r) ∧ Chg no w e_w) := by
  rw [laws_heldCellS.f] at M
  refine enter (l := [.slice A2 x1.length c3, .int .i64 x6]) 40 Try.func26 rfl rfl rfl ?_
  have S0_ := S.st
  refine wp_seq (wR (lV 4 (eA (.int .i64 0)) (wN (then_n (wp_seq (wp_seq (wR ?_)))))))
  refine lV 5 (eA (.int .i64 0)) (wN (then_n (wp_block ?_)))
  refine wp_loop_g (fun k17 a18 w7 => ∃ (f8 : Nat → Value) (x9 : Int) (x10 : Int), a18 = mk 40 f8 ∧ f8 0 = .slice A2 x1.length c3 ∧ f8 1 = .int .i64 x9 ∧ f8 5 = .int .i64 x10 ∧ St (anyOf []) H w [] H w7 ∧ laws_heldCellS.l0 k17 x1 x9 x10 = some r) k ⟨_, x6, 0, rfl, (by kernel_rfl), (by kernel_rfl), (by kernel_rfl), S0_, M⟩ ?_
  clear M
  rintro k17 a18 w7 ⟨f8, x9, x10, rfl, e11, e12, e13, S14, M⟩
  rcases k17 with _ | k19
  · rw [laws_heldCellS.l0] at M
    cases M
  rw [laws_heldCellS.l0] at M
  refine wp_seq (wp_seq (wR (lV 6 (eM (.int .i64 x10) (by exact e13)) (lV 7 (eM (.slice A2 x1.length c3) (by exact e11)) (lV 8 (e_len (A := A2) (n := x1.length) (c := c3) Try.underlying32 (by kernel_rfl)) (lV 9 (eLt .i64 x10 (x1.length : Int)) (wN ?_)))))))
  refine then_n ?_
  by_cases q20 : x10 < (x1.length : Int)
  · replace M := ifp q20 M
    refine cT (bT q20) (wp_skip (then_n (wp_seq (wp_block (wp_seq (wp_seq (wR ?_)))))))
    refine lV 12 (eM (.slice A2 x1.length c3) (by exact e11)) (lV 13 (eM (.int .i64 x10) (by exact e13)) ?_)
    obtain ⟨q21, M⟩ := chk M
    obtain ⟨b22, o23, e24⟩ := Rd.addr h4 (show (x10).toNat < x1.length by omega)
    obtain ⟨y25, r26, k27⟩ := Rd.at h4 e24 (getD_some z36 (show (x10).toNat < x1.length by omega))
    obtain ⟨A28, c29, rfl, l30, h31⟩ := st36_open r26
    refine lV 14 (eI b22 o23 x1.length c3 3 x10 .i64 Try.underlying32 e24 q21 q20) (lV 15 (eD b22 (o23 + (x10 : Int).toNat * 3) 0 1 Try.underlying36) (lV 16 (eL ⟨b22, o23 + (x10 : Int).toNat * 3 + 0, none⟩ (.int .i64 ((x1.getD ((x10).toNat) z36).kind)) Try.underlying3 (hpx (S14.inv.cell (k27 0 _ rfl)))) (lV 17 (eM (.int .i64 x9) (by exact e12)) (lV 18 (eNe .i64 (x1.getD ((x10).toNat) z36).kind x9) (wN (then_n ?_))))))
    by_cases q32 : ((x1.getD ((x10).toNat) z36).kind) ≠ x9
    · replace M := ifp q32 M
      refine cT (bT q32) (wp_seq (wR (lV 4 (eA (.int .i64 (-1))) (wN (then_n (wp_ret (then_r ?_)))))))
      refine inb_r (then_r (then_r (inb_r (then_r ?_))))
      obtain rfl := Option.some.inj M
      exact ret1 rfl rfl  (show _ = .int .i64 (-1) from (by kernel_rfl)) ⟨rfl, S14.chg⟩
    replace M := ifn q32 M
    refine cF (bF q32) (wp_skip (then_n (wp_seq (wR (lV 19 (eM (.int .i64 x9) (by exact e12)) (lV 20 (eAdd .i64 x9 1) (lV 1 (eA (.int .i64 (IntKind.i64.wrap (x9 + 1)))) ?_)))))))
    refine wN (then_n (wp_seq (wp_seq (wR (lV 21 (eM (.slice A2 x1.length c3) (by exact e11)) (lV 22 (eM (.int .i64 x10) (by exact e13)) ?_))))))
    obtain ⟨b33, o34, e35⟩ := Rd.addr h4 (show (x10).toNat < x1.length by omega)
    obtain ⟨y36, r37, k38⟩ := Rd.at h4 e35 (getD_some z36 (show (x10).toNat < x1.length by omega))
    obtain ⟨A39, c40, rfl, l41, h42⟩ := st36_open r37
    refine lV 23 (eI b33 o34 x1.length c3 3 x10 .i64 Try.underlying32 e35 q21 q20) (lV 24 (eD b33 (o34 + (x10 : Int).toNat * 3) 1 1 Try.underlying36) (lV 25 (eL ⟨b33, o34 + (x10 : Int).toNat * 3 + 1, none⟩ (.int .i64 ((x1.getD ((x10).toNat) z36).n)) Try.underlying3 (hpx (S14.inv.cell (k38 1 _ rfl)))) (lV 26 (eM (.int .i64 (IntKind.i64.wrap (x9 + 1)))) (lV 27 (eNe .i64 (x1.getD ((x10).toNat) z36).n (IntKind.i64.wrap (x9 + 1))) (wN (then_n ?_))))))
    by_cases q43 : ((x1.getD ((x10).toNat) z36).n) ≠ (IntKind.i64.wrap (x9 + 1))
    · replace M := ifp q43 M
      refine cT (bT q43) (wp_seq (wR (lV 4 (eA (.int .i64 (-1))) (wN (then_n (wp_ret (then_r ?_)))))))
      refine inb_r (then_r (then_r (inb_r (then_r ?_))))
      obtain rfl := Option.some.inj M
      exact ret1 rfl rfl  (show _ = .int .i64 (-1) from (by kernel_rfl)) ⟨rfl, S14.chg⟩
    replace M := ifn q43 M
    refine cF (bF q43) (wp_skip (then_n (wp_seq (wR (lV 28 (eM (.int .i64 (IntKind.i64.wrap (x9 + 1)))) (lV 29 (eAdd .i64 (IntKind.i64.wrap (x9 + 1)) 1) (lV 1 (eA (.int .i64 (IntKind.i64.wrap ((IntKind.i64.wrap (x9 + 1)) + 1)))) ?_)))))))
    refine wN (then_n (wp_seq (wR (lV 30 (eM (.slice A2 x1.length c3) (by exact e11)) (lV 31 (eM (.int .i64 x10) (by exact e13)) ?_)))))
    obtain ⟨b44, o45, e46⟩ := Rd.addr h4 (show (x10).toNat < x1.length by omega)
    obtain ⟨y47, r48, k49⟩ := Rd.at h4 e46 (getD_some z36 (show (x10).toNat < x1.length by omega))
    obtain ⟨A50, c51, rfl, l52, h53⟩ := st36_open r48
    refine lV 32 (eI b44 o45 x1.length c3 3 x10 .i64 Try.underlying32 e46 q21 q20) (lV 33 (eD b44 (o45 + (x10 : Int).toNat * 3) 2 1 Try.underlying36) (lV 34 (eL ⟨b44, o45 + (x10 : Int).toNat * 3 + 2, none⟩ (.slice A50 ((x1.getD ((x10).toNat) z36).text).length c51) Try.underlying26 (hpx (S14.inv.cell (k49 2 _ rfl)))) (lV 35 (eM (.int .i64 (IntKind.i64.wrap ((IntKind.i64.wrap (x9 + 1)) + 1)))) ?_)))
    obtain ⟨t54, u55, M⟩ := bnd M
    refine lC 36 (eC [.tmp 34, .tmp 35] [.slice A50 ((x1.getD ((x10).toNat) z36).text).length c51, .int .i64 (IntKind.i64.wrap ((IntKind.i64.wrap (x9 + 1)) + 1))] Try.func53) (laws_heldByteS.calls k19 w7 H ((x1.getD ((x10).toNat) z36).text) A50 c51 (IntKind.i64.wrap ((IntKind.i64.wrap (x9 + 1)) + 1)) h53 l52 S14.own0 t54 u55) ?_
    rintro _ w56 ⟨rfl, C57⟩
    refine ⟨_, rfl, ?_⟩
    obtain ⟨S58, K59⟩ := S14.still C57
    refine lV 1 (eA (.int .i64 t54)) (wN (then_n (wp_seq (wR (lV 37 (eM (.int .i64 t54)) (lV 38 (eLt .i64 t54 0) (wN ?_)))))))
    refine then_n ?_
    by_cases q60 : t54 < 0
    · replace M := ifp q60 M
      refine cT (bT q60) (wp_seq (wR (lV 4 (eA (.int .i64 (-1))) (wN (then_n (wp_ret (inb_r ?_)))))))
      refine then_r (then_r (inb_r (then_r ?_)))
      obtain rfl := Option.some.inj M
      exact ret1 rfl rfl  (show _ = .int .i64 (-1) from (by kernel_rfl)) ⟨rfl, S58.chg⟩
    replace M := ifn q60 M
    refine cF (bF q60) (wp_skip (inb_n (then_n (wR (lV 10 (eM (.int .i64 x10) (by exact e13)) (lV 11 (eAdd .i64 x10 1) (lV 5 (eA (.int .i64 (IntKind.i64.wrap (x10 + 1)))) ?_)))))))
    refine wN (then_n ?_)
    exact ⟨k19, (by omega), _, t54, (IntKind.i64.wrap (x10 + 1)), rfl, (by exact e11), (by kernel_rfl), (by kernel_rfl), S58, M⟩
  replace M := ifn q20 M
  refine cF (bF q20) (wp_exit (then_e (then_e (inb_hit (then_n (wp_seq (wR ?_)))))))
  refine lV 39 (eM (.int .i64 x9) (by exact e12)) (lV 4 (eA (.int .i64 x9)) (wN (then_n (wp_ret ?_))))
  obtain rfl := Option.some.inj M
  exact ret1 rfl rfl  (show _ = .int .i64 x9 from (by kernel_rfl)) ⟨rfl, S14.chg⟩

/-! laws_heldIntS -/
def laws_heldIntS.l0 : Nat → (List Int) → Int → Int → Option Int
  | 0, _, _, _ => none
  | k19 + 1, x1, x9, x10 => (if x10 < (x1.length : Int) then (if 0 ≤ x10 then (if (x1.getD ((x10).toNat) (0 : Int)) ≠ x9 then some (-1) else (laws_heldIntS.l0 k19 x1 (IntKind.i64.wrap (x9 + 1)) (IntKind.i64.wrap (x10 + 1)))) else none) else some x9)
def laws_heldIntS.f (k : Nat) (x1 : List Int) (x6 : Int) : Option Int := (laws_heldIntS.l0 k x1 x6 0)
theorem laws_heldIntS.calls (k : Nat) (w : World) (H : Hp) (x1 : List Int) (A2 : Option Addr) (c3 : Nat) (x6 : Int) (h4 : Rd tInt H A2 x1) (l5 : x1.length ≤ c3) (S : Own [] H w) (r : Int) (M : laws_heldIntS.f k x1 x6 = some r) :
    Calls Try.prog 60 #[.slice A2 x1.length c3, .int .i64 x6] w (fun e e_w => e = .returned (.int .i64 r) ∧ Chg no w e_w) := by
  rw [laws_heldIntS.f] at M
  refine enter (l := [.slice A2 x1.length c3, .int .i64 x6]) 21 Try.func60 rfl rfl rfl ?_
  have S0_ := S.st
  refine wp_seq (wR (lV 4 (eA (.int .i64 0)) (wN (then_n (wp_seq (wp_seq (wR ?_)))))))
  refine lV 5 (eA (.int .i64 0)) (wN (then_n (wp_block ?_)))
  refine wp_loop_g (fun k17 a18 w7 => ∃ (f8 : Nat → Value) (x9 : Int) (x10 : Int), a18 = mk 21 f8 ∧ f8 0 = .slice A2 x1.length c3 ∧ f8 1 = .int .i64 x9 ∧ f8 5 = .int .i64 x10 ∧ St (anyOf []) H w [] H w7 ∧ laws_heldIntS.l0 k17 x1 x9 x10 = some r) k ⟨_, x6, 0, rfl, (by kernel_rfl), (by kernel_rfl), (by kernel_rfl), S0_, M⟩ ?_
  clear M
  rintro k17 a18 w7 ⟨f8, x9, x10, rfl, e11, e12, e13, S14, M⟩
  rcases k17 with _ | k19
  · rw [laws_heldIntS.l0] at M
    cases M
  rw [laws_heldIntS.l0] at M
  refine wp_seq (wp_seq (wR (lV 6 (eM (.int .i64 x10) (by exact e13)) (lV 7 (eM (.slice A2 x1.length c3) (by exact e11)) (lV 8 (e_len (A := A2) (n := x1.length) (c := c3) Try.underlying23 (by kernel_rfl)) (lV 9 (eLt .i64 x10 (x1.length : Int)) (wN ?_)))))))
  refine then_n ?_
  by_cases q20 : x10 < (x1.length : Int)
  · replace M := ifp q20 M
    refine cT (bT q20) (wp_skip (then_n (wp_seq (wp_block (wp_seq (wp_seq (wR ?_)))))))
    refine lV 12 (eM (.slice A2 x1.length c3) (by exact e11)) (lV 13 (eM (.int .i64 x10) (by exact e13)) ?_)
    obtain ⟨q21, M⟩ := chk M
    obtain ⟨b22, o23, e24⟩ := Rd.addr h4 (show (x10).toNat < x1.length by omega)
    obtain ⟨y25, r26, k27⟩ := Rd.at h4 e24 (getD_some (0 : Int) (show (x10).toNat < x1.length by omega))
    obtain rfl := r26
    refine lV 14 (eI b22 o23 x1.length c3 1 x10 .i64 Try.underlying23 e24 q21 q20) (lV 15 (eL ⟨b22, o23 + (x10 : Int).toNat * 1, none⟩ (.int .i64 (x1.getD ((x10).toNat) (0 : Int))) Try.underlying3 (hpx (S14.inv.cell (k27 0 _ rfl)))) (lV 16 (eM (.int .i64 x9) (by exact e12)) (lV 17 (eNe .i64 (x1.getD ((x10).toNat) (0 : Int)) x9) (wN (then_n ?_)))))
    by_cases q28 : (x1.getD ((x10).toNat) (0 : Int)) ≠ x9
    · replace M := ifp q28 M
      refine cT (bT q28) (wp_seq (wR (lV 4 (eA (.int .i64 (-1))) (wN (then_n (wp_ret (then_r ?_)))))))
      refine inb_r (then_r (then_r (inb_r (then_r ?_))))
      obtain rfl := Option.some.inj M
      exact ret1 rfl rfl  (show _ = .int .i64 (-1) from (by kernel_rfl)) ⟨rfl, S14.chg⟩
    replace M := ifn q28 M
    refine cF (bF q28) (wp_skip (then_n (wR (lV 18 (eM (.int .i64 x9) (by exact e12)) (lV 19 (eAdd .i64 x9 1) (lV 1 (eA (.int .i64 (IntKind.i64.wrap (x9 + 1)))) (wN ?_)))))))
    refine inb_n (then_n (wR (lV 10 (eM (.int .i64 x10) (by exact e13)) (lV 11 (eAdd .i64 x10 1) (lV 5 (eA (.int .i64 (IntKind.i64.wrap (x10 + 1)))) (wN (then_n ?_)))))))
    exact ⟨k19, (by omega), _, (IntKind.i64.wrap (x9 + 1)), (IntKind.i64.wrap (x10 + 1)), rfl, (by exact e11), (by kernel_rfl), (by kernel_rfl), S14, M⟩
  replace M := ifn q20 M
  refine cF (bF q20) (wp_exit (then_e (then_e (inb_hit (then_n (wp_seq (wR ?_)))))))
  refine lV 20 (eM (.int .i64 x9) (by exact e12)) (lV 4 (eA (.int .i64 x9)) (wN (then_n (wp_ret ?_))))
  obtain rfl := Option.some.inj M
  exact ret1 rfl rfl  (show _ = .int .i64 x9 from (by kernel_rfl)) ⟨rfl, S14.chg⟩

/-! laws_heldStore -/
def laws_heldStore.f (k : Nat) (x1 : Store) (x10 : Int) : Option Int := ((laws_heldCellS.f k x1.cells x10).bind fun t16 => (if t16 < 0 then some (-1) else ((laws_heldIntS.f k x1.trail t16).bind fun t23 => (if t23 < 0 then some (-1) else some t23))))
theorem laws_heldStore.calls (k : Nat) (w : World) (H : Hp) (x1 : Store) (A2 : Option Addr) (c3 : Nat) (A6 : Option Addr) (c7 : Nat) (x10 : Int) (h4 : Rd st36 H A2 x1.cells) (l5 : x1.cells.length ≤ c3) (h8 : Rd tInt H A6 x1.trail) (l9 : x1.trail.length ≤ c7) (S : Own [] H w) (r : Int) (M : laws_heldStore.f k x1 x10 = some r) :
    Calls Try.prog 29 #[.agg #[.slice A2 x1.cells.length c3, .slice A6 x1.trail.length c7], .int .i64 x10] w (fun e e_w => e = .returned (.int .i64 r) ∧ Chg no w e_w) := by
  rw [laws_heldStore.f] at M
  refine enter (l := [.agg #[.slice A2 x1.cells.length c3, .slice A6 x1.trail.length c7], .int .i64 x10]) 18 Try.func29 rfl rfl rfl ?_
  have S0_ := S.st
  refine wp_seq (wR ?_)
  refine lW 2 (nB #[.slice A2 x1.cells.length c3, .slice A6 x1.trail.length c7] 34 S0_) ?_
  rintro _ w11 ⟨g12, rfl, b13, S14, K15⟩
  refine lV 4 (eA (.int .i64 0)) (wN (then_n (wp_seq (wR (lV 5 (eD g12 0 0 1 Try.underlying34) (lV 6 (eL ⟨g12, 0 + 0, none⟩ (.slice A2 x1.cells.length c3) Try.underlying32 (blk_cell b13 rfl)) (lV 7 (eM (.int .i64 x10)) ?_)))))))
  obtain ⟨t16, u17, M⟩ := bnd M
  refine lC 8 (eC [.tmp 6, .tmp 7] [.slice A2 x1.cells.length c3, .int .i64 x10] Try.func26) (laws_heldCellS.calls k w11 H x1.cells A2 c3 x10 h4 l5 S14.own0 t16 u17) ?_
  rintro _ w18 ⟨rfl, C19⟩
  refine ⟨_, rfl, ?_⟩
  obtain ⟨S20, K21⟩ := S14.still C19
  replace b13 := K21.blk 0 rfl b13
  refine lV 1 (eA (.int .i64 t16)) (wN (then_n (wp_seq (wp_seq (wR (lV 9 (eM (.int .i64 t16)) (lV 10 (eLt .i64 t16 0) ?_)))))))
  refine wN (then_n ?_)
  by_cases q22 : t16 < 0
  · replace M := ifp q22 M
    refine cT (bT q22) (wp_seq (wR (lV 4 (eA (.int .i64 (-1))) (wN (then_n (wp_ret (then_r ?_)))))))
    obtain rfl := Option.some.inj M
    exact ret1 rfl rfl  (show _ = .int .i64 (-1) from (by kernel_rfl)) ⟨rfl, S20.chg⟩
  replace M := ifn q22 M
  refine cF (bF q22) (wp_skip (then_n (wp_seq (wR (lV 11 (eD g12 0 1 1 Try.underlying34) (lV 12 (eL ⟨g12, 0 + 1, none⟩ (.slice A6 x1.trail.length c7) Try.underlying23 (blk_cell b13 rfl)) (lV 13 (eM (.int .i64 t16)) ?_)))))))
  obtain ⟨t23, u24, M⟩ := bnd M
  refine lC 14 (eC [.tmp 12, .tmp 13] [.slice A6 x1.trail.length c7, .int .i64 t16] Try.func60) (laws_heldIntS.calls k w18 H x1.trail A6 c7 t16 h8 l9 S20.own0 t23 u24) ?_
  rintro _ w25 ⟨rfl, C26⟩
  refine ⟨_, rfl, ?_⟩
  obtain ⟨S27, K28⟩ := S20.still C26
  refine lV 1 (eA (.int .i64 t23)) (wN (then_n (wp_seq (wp_seq (wR (lV 15 (eM (.int .i64 t23)) (lV 16 (eLt .i64 t23 0) ?_)))))))
  refine wN (then_n ?_)
  by_cases q29 : t23 < 0
  · replace M := ifp q29 M
    refine cT (bT q29) (wp_seq (wR (lV 4 (eA (.int .i64 (-1))) (wN (then_n (wp_ret (then_r ?_)))))))
    obtain rfl := Option.some.inj M
    exact ret1 rfl rfl  (show _ = .int .i64 (-1) from (by kernel_rfl)) ⟨rfl, S27.chg⟩
  replace M := ifn q29 M
  refine cF (bF q29) (wp_skip (then_n (wp_seq (wR (lV 17 (eM (.int .i64 t23)) (lV 4 (eA (.int .i64 t23)) (wN ?_)))))))
  refine then_n (wp_ret ?_)
  obtain rfl := Option.some.inj M
  exact ret1 rfl rfl  (show _ = .int .i64 t23 from (by kernel_rfl)) ⟨rfl, S27.chg⟩
end Go.Proofs.Ytnigifmkjmbfiaa
