import Derived.Test.YtdkbfcmekppnmaaGreatDoorWkTk4
namespace Go.Proofs.YtdkbfcmekppnmaaGreatDoor
open Go.Sx Go.Sy IntKind Tryz
attribute [local irreducible] Go.wpList Go.wpStill Go.wpQuiet Go.Code.wp
set_option maxRecDepth 100000
set_option maxHeartbeats 1000000
set_option linter.unusedVariables false
set_option linter.unusedSimpArgs false
def spec_l1skip.l0 : Nat → (List UInt8) → Int → Int → Option Int
 | 0, _, _, _ => none
 | k37 + 1, x1, x6, x31 => (if (i64.wrap (x6 + x31)) < (x1.length : Int) then (if 0 ≤ (i64.wrap (x6 + x31)) then (if ((x1.getD (((i64.wrap (x6 + x31))).toNat) (0 : UInt8)).toNat : Int) ≠ 10 then (spec_l1skip.l0 k37 x1 x6 (i64.wrap (x31 + 1))) else some x31) else none) else some x31)
def spec_l1skip.l1 : Nat → (List UInt8) → Int → Int → Option Int
 | 0, _, _, _ => none
 | k72 + 1, x1, x6, x66 => (if (i64.wrap ((i64.wrap (x6 + x66)) + 1)) < (x1.length : Int) then (if 0 ≤ (i64.wrap (x6 + x66)) then (if (i64.wrap (x6 + x66)) < (x1.length : Int) then (if ((x1.getD (((i64.wrap (x6 + x66))).toNat) (0 : UInt8)).toNat : Int) = 42 then (if 0 ≤ (i64.wrap ((i64.wrap (x6 + x66)) + 1)) then (if ((x1.getD (((i64.wrap ((i64.wrap (x6 + x66)) + 1))).toNat) (0 : UInt8)).toNat : Int) = 47 then some (i64.wrap (x66 + 2)) else (spec_l1skip.l1 k72 x1 x6 (i64.wrap (x66 + 1)))) else none) else (spec_l1skip.l1 k72 x1 x6 (i64.wrap (x66 + 1)))) else none) else none) else some (-1))
def spec_l1skip.f (k : Nat) (x1 : List UInt8) (x6 : Int) : Option Int := (if 0 ≤ x6 then (if x6 < (x1.length : Int) then ((spec_l1blank.f (x1.getD ((x6).toNat) (0 : UInt8))).bind fun t15 => (if t15 = true then some 1 else (if ((x1.getD ((x6).toNat) (0 : UInt8)).toNat : Int) = 37 then (spec_l1skip.l0 k x1 x6 0) else (if ((x1.getD ((x6).toNat) (0 : UInt8)).toNat : Int) ≠ 47 then some 0 else (if (i64.wrap (x6 + 1)) ≥ (x1.length : Int) then some 0 else (if 0 ≤ (i64.wrap (x6 + 1)) then (if (i64.wrap (x6 + 1)) < (x1.length : Int) then (if ((x1.getD (((i64.wrap (x6 + 1))).toNat) (0 : UInt8)).toNat : Int) ≠ 42 then some 0 else (spec_l1skip.l1 k x1 x6 2)) else none) else none)))))) else none) else none)
theorem spec_l1skip.calls {k : Nat} {w : World} {H : Hp} {x1 : List UInt8} {A2 : Option Addr} {c3 : Nat} {x6 : Int} (h4 : Rd tByte H A2 x1) (l5 : x1.length ≤ c3) (S : Own [] H w) {r : Int} (M : spec_l1skip.f k x1 x6 = some r) :
  Calls Tryz.prog 12 #[.slice A2 x1.length c3, .int .i64 x6] w (fun e e_w => e = .returned (.int .i64 r) ∧ Chg no w e_w) := by
 rw [spec_l1skip.f] at M
 refine enter (l := [.slice A2 x1.length c3, .int .i64 x6]) 82 func12 rfl rfl rfl ?_
 have S0_ := S.st
 refine wQ (wR (lP 1 (wN (tN (wQ (wQ (wR (lP 2 ?_))))))))
 obtain ⟨q7, M⟩ := chk M
 obtain ⟨q8, M⟩ := chk M
 obtain ⟨b9, o10, e11⟩ := Rd.addr h4 (show (x6).toNat < x1.length by omega)
 obtain ⟨y12, r13, k14⟩ := Rd.at h4 e11 (getD_some (0 : UInt8) (show (x6).toNat < x1.length by omega))
 obtain rfl := r13
 refine lV 8 (eJ underlying22 e11 q7 q8) (lV 9 (eK underlying5 (hpx (S0_.inv.cell (k14 0 _ rfl)))) ?_)
 obtain ⟨t15, u16, M⟩ := bnd M
 refine lC 10 (eE func27) (spec_l1blank.calls  S0_.own0 u16) ?_
 rintro _ w17 ⟨rfl, C18⟩
 refine ⟨_, rfl, ?_⟩
 obtain ⟨S19, K20⟩ := S0_.still C18
 refine wN (tN ?_)
 obtain ⟨q21, M⟩ | ⟨q21, M⟩ := ifc M
 ·refine cT (bvt q21 kr) (wQ (wR (lP 1 (wN (tN (wT (tR ?_)))))))
  obtain rfl := sj M
  exact ret1 rfl rfl  kr ⟨rfl, S19.chg⟩
 refine cF (bvf q21 kr) (wK (tN (wQ (wR (lP 1 (wN (tN (wQ (wQ (wR (lP 2 ?_)))))))))))
 obtain ⟨b22, o23, e24⟩ := Rd.addr h4 (show (x6).toNat < x1.length by omega)
 obtain ⟨y25, r26, k27⟩ := Rd.at h4 e24 (getD_some (0 : UInt8) (show (x6).toNat < x1.length by omega))
 obtain rfl := r26
 refine lV 13 (eJ underlying22 e24 q7 q8) (lV 14 (eK underlying5 (hpx (S19.inv.cell (k27 0 _ rfl)))) (lP 1 (wN (tN ?_))))
 obtain ⟨q28, M⟩ | ⟨q28, M⟩ := ifc M
 ·refine cT (bT q28) (wQ (wp_block ?_))
  refine wp_loop_g (fun k35 a36 w29 => ∃ (f30 : Nat → Value) (x31 : Int), a36 = mk 82 (upd (upd (upd f30 0 (.slice A2 x1.length c3)) 1 (.int .i64 x6)) 5 (.int .i64 x31)) ∧ St (anyOf []) H w [] H w29 ∧ spec_l1skip.l0 k35 x1 x6 x31 = some r) k ⟨_, 0, (hdw (hdc (hdc (hdc rfl kr) kr) kr)), S19, M⟩ ?_
  clear M
  rintro k35 a36 w29 ⟨f30, x31, rfl, S32, M⟩
  rcases k35 with _ | k37
  ·rw [spec_l1skip.l0] at M
   cases M
  rw [spec_l1skip.l0] at M
  refine wQ (wQ (wR (lP 7 ?_)))
  obtain ⟨q38, M⟩ | ⟨q38, M⟩ := ifd M
  ·refine lP1 8 22 (bF q38) (wN (tN (cond_f rfl kr (wp_exit (tE (tE (inb_hit (tN (wQ (wR (lP 2 (wN (tN (wT (tR ?_)))))))))))))))
   obtain rfl := sj M
   exact ret1 rfl rfl  kr ⟨rfl, S32.chg⟩
  refine lP1 4 22 (bT q38) ?_
  obtain ⟨q39, M⟩ := chk M
  obtain ⟨b40, o41, e42⟩ := Rd.addr h4 (show ((i64.wrap (x6 + x31))).toNat < x1.length by omega)
  obtain ⟨y43, r44, k45⟩ := Rd.at h4 e42 (getD_some (0 : UInt8) (show ((i64.wrap (x6 + x31))).toNat < x1.length by omega))
  obtain rfl := r44
  refine lG 27 22 (bT q38) (eJ underlying22 e42 q39 q38) (lG 28 22 (bT q38) (eK underlying5 (hpx (S32.inv.cell (k45 0 _ rfl)))) (lG 29 22 (bT q38) (eNe .u8 ((x1.getD (((i64.wrap (x6 + x31))).toNat) (0 : UInt8)).toNat : Int) 10) (lP1 1 22 (bT q38) (wN (tN ?_)))))
  obtain ⟨q46, M⟩ | ⟨q46, M⟩ := ifd M
  ·refine cF (bF q46) (wp_exit (tE (tE (inb_hit (tN (wQ (wR (lP 2 (wN (tN (wT (tR ?_))))))))))))
   obtain rfl := sj M
   exact ret1 rfl rfl  kr ⟨rfl, S32.chg⟩
  refine cT (bT q46) (wK (tN (wp_block (wR (lP 3 (wN (inb_n (tN ?_))))))))
  exact ⟨k37, (by omega), _, (i64.wrap (x31 + 1)), (hdw (hdc (hdc (hdc rfl kr) kr) kr)), S32, M⟩
 refine cF (bF q28) (wK (tN (wQ (wQ (wR (lP 2 ?_))))))
 obtain ⟨b47, o48, e49⟩ := Rd.addr h4 (show (x6).toNat < x1.length by omega)
 obtain ⟨y50, r51, k52⟩ := Rd.at h4 e49 (getD_some (0 : UInt8) (show (x6).toNat < x1.length by omega))
 obtain rfl := r51
 refine lV 36 (eJ underlying22 e49 q7 q8) (lV 37 (eK underlying5 (hpx (S19.inv.cell (k52 0 _ rfl)))) (lV 38 (eNe .u8 ((x1.getD ((x6).toNat) (0 : UInt8)).toNat : Int) 47) (lP 1 ?_)))
 obtain ⟨q53, M⟩ | ⟨q53, M⟩ := ifc M
 ·refine lP1 14 39 (bT q53) (wN (tN (cond_t rfl kr (wQ (wR (lP 1 (wN (tN (wT (tR ?_))))))))))
  obtain rfl := sj M
  exact ret1 rfl rfl  kr ⟨rfl, S19.chg⟩
 refine lP1 7 39 (bF q53) ?_
 obtain ⟨q54, M⟩ | ⟨q54, M⟩ := ifc M
 ·refine lP1 7 46 (bT q54) (wN (tN (cond_t rfl kr (wQ (wR (lP 1 (wN (tN (wT (tR ?_))))))))))
  obtain rfl := sj M
  exact ret1 rfl rfl  kr ⟨rfl, S19.chg⟩
 refine lP1 3 46 (bF q54) ?_
 obtain ⟨q55, M⟩ := chk M
 obtain ⟨q56, M⟩ := chk M
 obtain ⟨b57, o58, e59⟩ := Rd.addr h4 (show ((i64.wrap (x6 + 1))).toNat < x1.length by omega)
 obtain ⟨y60, r61, k62⟩ := Rd.at h4 e59 (getD_some (0 : UInt8) (show ((i64.wrap (x6 + 1))).toNat < x1.length by omega))
 obtain rfl := r61
 refine lG 50 46 (bF q54) (eJ underlying22 e59 q55 q56) (lG 51 46 (bF q54) (eK underlying5 (hpx (S19.inv.cell (k62 0 _ rfl)))) (lG 52 46 (bF q54) (eNe .u8 ((x1.getD (((i64.wrap (x6 + 1))).toNat) (0 : UInt8)).toNat : Int) 42) (lP1 1 46 (bF q54) (wN (tN ?_)))))
 obtain ⟨q63, M⟩ | ⟨q63, M⟩ := ifc M
 ·refine cT (bT q63) (wQ (wR (lP 1 (wN (tN (wT (tR ?_)))))))
  obtain rfl := sj M
  exact ret1 rfl rfl  kr ⟨rfl, S19.chg⟩
 refine cF (bF q63) (wK (tN (wQ (wR (lP 1 (wN (tN (wQ (wp_block ?_)))))))))
 refine wp_loop_g (fun k70 a71 w64 => ∃ (f65 : Nat → Value) (x66 : Int), a71 = mk 82 (upd (upd (upd f65 0 (.slice A2 x1.length c3)) 1 (.int .i64 x6)) 5 (.int .i64 x66)) ∧ St (anyOf []) H w [] H w64 ∧ spec_l1skip.l1 k70 x1 x6 x66 = some r) k ⟨_, 2, (hdw (hdc (hdc (hdc rfl kr) kr) kr)), S19, M⟩ ?_
 clear M
 rintro k70 a71 w64 ⟨f65, x66, rfl, S67, M⟩
 rcases k70 with _ | k72
 ·rw [spec_l1skip.l1] at M
  cases M
 rw [spec_l1skip.l1] at M
 refine wQ (wQ (wR (lP 7 (wN (tN ?_)))))
 obtain ⟨q73, M⟩ | ⟨q73, M⟩ := ifd M
 ·refine cF (bF q73) (wp_exit (tE (tE (inb_hit (tN (wQ (wR (lP 1 (wN (tN (wT ?_)))))))))))
  obtain rfl := sj M
  exact ret1 rfl rfl  kr ⟨rfl, S67.chg⟩
 refine cT (bT q73) (wK (tN (wp_block (wQ (wQ (wR (lP 4 ?_)))))))
 obtain ⟨q74, M⟩ := chk M
 obtain ⟨q75, M⟩ := chk M
 obtain ⟨b76, o77, e78⟩ := Rd.addr h4 (show ((i64.wrap (x6 + x66))).toNat < x1.length by omega)
 obtain ⟨y79, r80, k81⟩ := Rd.at h4 e78 (getD_some (0 : UInt8) (show ((i64.wrap (x6 + x66))).toNat < x1.length by omega))
 obtain rfl := r80
 refine lV 65 (eJ underlying22 e78 q74 q75) (lV 66 (eK underlying5 (hpx (S67.inv.cell (k81 0 _ rfl)))) (lP 2 ?_))
 obtain ⟨q82, M⟩ | ⟨q82, M⟩ := ifd M
 ·refine lP1 9 68 (bF q82) (wN (tN (cond_f rfl kr (wK (tN (wR (lP 3 (wN (inb_n (tN ?_))))))))))
  exact ⟨k72, (by omega), _, (i64.wrap (x66 + 1)), (hdw (hdc (hdc (hdc rfl kr) kr) kr)), S67, M⟩
 refine lP1 5 68 (bT q82) ?_
 obtain ⟨q83, M⟩ := chk M
 obtain ⟨b84, o85, e86⟩ := Rd.addr h4 (show ((i64.wrap ((i64.wrap (x6 + x66)) + 1))).toNat < x1.length by omega)
 obtain ⟨y87, r88, k89⟩ := Rd.at h4 e86 (getD_some (0 : UInt8) (show ((i64.wrap ((i64.wrap (x6 + x66)) + 1))).toNat < x1.length by omega))
 obtain rfl := r88
 refine lG 74 68 (bT q82) (eJ underlying22 e86 q83 q73) (lG 75 68 (bT q82) (eK underlying5 (hpx (S67.inv.cell (k89 0 _ rfl)))) (lP1 2 68 (bT q82) (wN (tN ?_))))
 obtain ⟨q90, M⟩ | ⟨q90, M⟩ := ifd M
 ·refine cF (bF q90) (wK (tN (wR (lP 3 (wN ?_)))))
  refine inb_n (tN ?_)
  exact ⟨k72, (by omega), _, (i64.wrap (x66 + 1)), (hdw (hdc (hdc (hdc rfl kr) kr) kr)), S67, M⟩
 refine cT (bT q90) (wQ (wR (lP 3 (wN (tN (wT (tR (inb_r (tR (inb_r (tR ?_)))))))))))
 obtain rfl := sj M
 exact ret1 rfl rfl  kr ⟨rfl, S67.chg⟩
def spec_l1hex.f (x1 : UInt8) : Option Int := ((spec_l1digit.f x1).bind fun t2 => (if t2 = true then some ((b8 ((x1.toNat : Int) - 48)).toNat : Int) else (if (x1.toNat : Int) ≥ 97 then (if (x1.toNat : Int) ≤ 102 then some (i64.wrap (((b8 ((x1.toNat : Int) - 97)).toNat : Int) + 10)) else (if (x1.toNat : Int) ≥ 65 then (if (x1.toNat : Int) ≤ 70 then some (i64.wrap (((b8 ((x1.toNat : Int) - 65)).toNat : Int) + 10)) else some 99) else some 99)) else (if (x1.toNat : Int) ≥ 65 then (if (x1.toNat : Int) ≤ 70 then some (i64.wrap (((b8 ((x1.toNat : Int) - 65)).toNat : Int) + 10)) else some 99) else some 99))))
theorem spec_l1hex.calls {w : World} {H : Hp} {x1 : UInt8} (S : Own [] H w) {r : Int} (M : spec_l1hex.f x1 = some r) :
  Calls Tryz.prog 65 #[.int .u8 (x1.toNat : Int)] w (fun e e_w => e = .returned (.int .i64 r) ∧ Chg no w e_w) := by
 rw [spec_l1hex.f] at M
 refine enter (l := [.int .u8 (x1.toNat : Int)]) 28 func65 rfl rfl rfl ?_
 have S0_ := S.st
 refine wQ (wR (lP 1 (wN (tN (wQ (wQ (wR (lP 1 ?_))))))))
 obtain ⟨t2, u3, M⟩ := bnd M
 refine lC 4 (eE func28) (spec_l1digit.calls  S0_.own0 u3) ?_
 rintro _ w4 ⟨rfl, C5⟩
 refine ⟨_, rfl, ?_⟩
 obtain ⟨S6, K7⟩ := S0_.still C5
 refine wN (tN ?_)
 obtain ⟨q8, M⟩ | ⟨q8, M⟩ := ifc M
 ·refine cT (bvt q8 kr) (wQ (wR (lP 1 (lV 6 (e_sub8 (a := (x1.toNat : Int)) (b := 48) kr rfl) (lV 7 (e_conv_8i (a := (b8 ((x1.toNat : Int) - 48))) kr underlying3 kr) (lP 1 (wN (tN (wT (tR ?_))))))))))
  obtain rfl := sj M
  exact ret1 rfl rfl  kr ⟨rfl, S6.chg⟩
 refine cF (bvf q8 kr) (wK (tN (wQ (wQ (wR (lP 3 ?_))))))
 obtain ⟨q9, M⟩ | ⟨q9, M⟩ := ifd M
 ·refine lP1 3 10 (bF q9) (wN (tN (cond_f rfl kr (wK (tN (wQ (wQ (wR (lP 3 ?_)))))))))
  obtain ⟨q13, M⟩ | ⟨q13, M⟩ := ifd M
  ·refine lP1 3 20 (bF q13) (wN (tN (cond_f rfl kr (wK (tN (wQ (wR (lP 1 (wN (tN (wT ?_)))))))))))
   obtain rfl := sj M
   exact ret1 rfl rfl  kr ⟨rfl, S6.chg⟩
  refine lP1 3 20 (bT q13) (wN (tN ?_))
  obtain ⟨q14, M⟩ | ⟨q14, M⟩ := ifd M
  ·refine cF (bF q14) (wK (tN (wQ (wR (lP 1 (wN (tN (wT ?_))))))))
   obtain rfl := sj M
   exact ret1 rfl rfl  kr ⟨rfl, S6.chg⟩
  refine cT (bT q14) (wQ (wR (lP 1 (lV 25 (e_sub8 (a := (x1.toNat : Int)) (b := 65) kr rfl) (lV 26 (e_conv_8i (a := (b8 ((x1.toNat : Int) - 65))) kr underlying3 kr) (lP 2 (wN (tN (wT (tR ?_))))))))))
  obtain rfl := sj M
  exact ret1 rfl rfl  kr ⟨rfl, S6.chg⟩
 refine lP1 3 10 (bT q9) (wN (tN ?_))
 obtain ⟨q10, M⟩ | ⟨q10, M⟩ := ifc M
 ·refine cT (bT q10) (wQ (wR (lP 1 (lV 15 (e_sub8 (a := (x1.toNat : Int)) (b := 97) kr rfl) (lV 16 (e_conv_8i (a := (b8 ((x1.toNat : Int) - 97))) kr underlying3 kr) (lP 2 (wN (tN (wT (tR ?_))))))))))
  obtain rfl := sj M
  exact ret1 rfl rfl  kr ⟨rfl, S6.chg⟩
 refine cF (bF q10) (wK (tN (wQ (wQ (wR (lP 3 ?_))))))
 obtain ⟨q11, M⟩ | ⟨q11, M⟩ := ifd M
 ·refine lP1 3 20 (bF q11) (wN (tN (cond_f rfl kr (wK (tN (wQ (wR (lP 1 (wN (tN (wT ?_)))))))))))
  obtain rfl := sj M
  exact ret1 rfl rfl  kr ⟨rfl, S6.chg⟩
 refine lP1 3 20 (bT q11) (wN (tN ?_))
 obtain ⟨q12, M⟩ | ⟨q12, M⟩ := ifd M
 ·refine cF (bF q12) (wK (tN (wQ (wR (lP 1 (wN (tN (wT ?_))))))))
  obtain rfl := sj M
  exact ret1 rfl rfl  kr ⟨rfl, S6.chg⟩
 refine cT (bT q12) (wQ (wR (lP 1 (lV 25 (e_sub8 (a := (x1.toNat : Int)) (b := 65) kr rfl) (lV 26 (e_conv_8i (a := (b8 ((x1.toNat : Int) - 65))) kr underlying3 kr) (lP 2 (wN (tN (wT (tR ?_))))))))))
 obtain rfl := sj M
 exact ret1 rfl rfl  kr ⟨rfl, S6.chg⟩
def spec_l1escape.l0 : Nat → (List UInt8) → Int → Int → Int → Option ((List UInt8) × Int)
 | 0, _, _, _, _ => none
 | k90 + 1, x1, x6, x83, x84 => (if (i64.wrap ((i64.wrap (x6 + 1)) + x84)) < (x1.length : Int) then (if x84 < 2 then (if 0 ≤ (i64.wrap ((i64.wrap (x6 + 1)) + x84)) then ((spec_l1hex.f (x1.getD (((i64.wrap ((i64.wrap (x6 + 1)) + x84))).toNat) (0 : UInt8))).bind fun t100 => (if t100 < 16 then ((spec_l1hex.f (x1.getD (((i64.wrap ((i64.wrap (x6 + 1)) + x84))).toNat) (0 : UInt8))).bind fun t113 => (spec_l1escape.l0 k90 x1 x6 (i64.wrap ((i64.wrap (x83 * 16)) + t113)) (i64.wrap (x84 + 1)))) else (if x84 = 0 then some ([], 0) else (if (i64.wrap ((i64.wrap (x6 + 1)) + x84)) ≥ (x1.length : Int) then some ([], 0) else (if ((x1.getD (((i64.wrap ((i64.wrap (x6 + 1)) + x84))).toNat) (0 : UInt8)).toNat : Int) ≠ 92 then some ([], 0) else some ([(b8 (x83))], (i64.wrap (x84 + 2)))))))) else none) else (if x84 = 0 then some ([], 0) else (if (i64.wrap ((i64.wrap (x6 + 1)) + x84)) ≥ (x1.length : Int) then some ([], 0) else (if 0 ≤ (i64.wrap ((i64.wrap (x6 + 1)) + x84)) then (if ((x1.getD (((i64.wrap ((i64.wrap (x6 + 1)) + x84))).toNat) (0 : UInt8)).toNat : Int) ≠ 92 then some ([], 0) else some ([(b8 (x83))], (i64.wrap (x84 + 2)))) else none)))) else (if x84 = 0 then some ([], 0) else (if (i64.wrap ((i64.wrap (x6 + 1)) + x84)) ≥ (x1.length : Int) then some ([], 0) else (if 0 ≤ (i64.wrap ((i64.wrap (x6 + 1)) + x84)) then (if (i64.wrap ((i64.wrap (x6 + 1)) + x84)) < (x1.length : Int) then (if ((x1.getD (((i64.wrap ((i64.wrap (x6 + 1)) + x84))).toNat) (0 : UInt8)).toNat : Int) ≠ 92 then some ([], 0) else some ([(b8 (x83))], (i64.wrap (x84 + 2)))) else none) else none))))
def spec_l1escape.f (k : Nat) (x1 : List UInt8) (x6 : Int) : Option ((List UInt8) × Int) := (if x6 ≥ (x1.length : Int) then some ([], 0) else (if 0 ≤ x6 then (if x6 < (x1.length : Int) then (if ((x1.getD ((x6).toNat) (0 : UInt8)).toNat : Int) = 92 then some ([(x1.getD ((x6).toNat) (0 : UInt8))], 1) else (if ((x1.getD ((x6).toNat) (0 : UInt8)).toNat : Int) = 39 then some ([(x1.getD ((x6).toNat) (0 : UInt8))], 1) else (if ((x1.getD ((x6).toNat) (0 : UInt8)).toNat : Int) = 34 then some ([(x1.getD ((x6).toNat) (0 : UInt8))], 1) else (if ((x1.getD ((x6).toNat) (0 : UInt8)).toNat : Int) = 110 then some ([(10 : UInt8)], 1) else (if ((x1.getD ((x6).toNat) (0 : UInt8)).toNat : Int) = 116 then some ([(9 : UInt8)], 1) else (if ((x1.getD ((x6).toNat) (0 : UInt8)).toNat : Int) = 114 then some ([(13 : UInt8)], 1) else (if ((x1.getD ((x6).toNat) (0 : UInt8)).toNat : Int) = 10 then some ([], 1) else (if ((x1.getD ((x6).toNat) (0 : UInt8)).toNat : Int) ≠ 120 then some ([], 0) else (spec_l1escape.l0 k x1 x6 0 0))))))))) else none) else none))
theorem spec_l1escape.calls {k : Nat} {w : World} {H : Hp} {x1 : List UInt8} {A2 : Option Addr} {c3 : Nat} {x6 : Int} (h4 : Rd tByte H A2 x1) (l5 : x1.length ≤ c3) (S : Own [] H w) {r : (List UInt8) × Int} (M : spec_l1escape.f k x1 x6 = some r) :
  Calls Tryz.prog 66 #[.slice A2 x1.length c3, .int .i64 x6] w (fun e e_w => ∃ (A_1 : Option Addr) (c_1 : Nat) (F_1 : Foot) (H_ : Hp), e = .returned (.tuple #[.slice A_1 r.1.length c_1, .int .i64 r.2]) ∧ Row tByte 5 H_ (hp e_w) F_1 A_1 c_1 r.1 ∧ St (anyOf []) H w [F_1] H_ e_w) := by
 rw [spec_l1escape.f] at M
 refine enter (l := [.slice A2 x1.length c3, .int .i64 x6]) 103 func66 rfl rfl rfl ?_
 have S0_ := S.st
 refine wQ (wR (lP 2 (wN (tN (wQ (wQ (wR (lP 4 (wN (tN ?_))))))))))
 obtain ⟨q7, M⟩ | ⟨q7, M⟩ := ifc M
 ·refine cT (bT q7) (wQ (wR (lP 2 (wN (tN (wT (tR ?_)))))))
  obtain rfl := sj M
  have S8 := S0_.unit
  exact ret2 rfl rfl rfl kr kr ⟨none, 0, no, H, rfl, (Row.nil _ _ _ _ no), S8⟩
 refine cF (bF q7) (wK (tN (wQ (wR (lP 2 ?_)))))
 obtain ⟨q9, M⟩ := chk M
 obtain ⟨q10, M⟩ := chk M
 obtain ⟨b11, o12, e13⟩ := Rd.addr h4 (show (x6).toNat < x1.length by omega)
 obtain ⟨y14, r15, k16⟩ := Rd.at h4 e13 (getD_some (0 : UInt8) (show (x6).toNat < x1.length by omega))
 obtain rfl := r15
 refine lV 15 (eJ underlying22 e13 q9 q10) (lV 16 (eK underlying5 (hpx (S0_.inv.cell (k16 0 _ rfl)))) (lP 1 (wN (tN (wQ (wQ (wR (lP 3 ?_))))))))
 obtain ⟨q17, M⟩ | ⟨q17, M⟩ := ifc M
 ·refine lP1 7 19 (bT q17) (wN (tN (cond_t rfl kr (wQ (wR (lP 1 ?_))))))
  refine lW 28 (new_blk (v := fun g_ => .slice (some ⟨g_, 0, none⟩) 1 1) (cs := #[.int .u8 ((x1.getD ((x6).toNat) (0 : UInt8)).toNat : Int)]) (t := 5) S0_ kr) ?_
  rintro _ w18 ⟨g19, rfl, b20, S21, K22⟩
  have S23 := S21.unit
  have S24 := S23.pulls [(is g19), no] [1] rfl
  obtain ⟨h25, S26⟩ := row_lit (d := tByte) (xs := [(x1.getD ((x6).toNat) (0 : UInt8))]) S24 b20 rfl (elsO_one1 rfl) (Nat.le_of_ble_eq_true rfl)
  refine lP 2 (wN (tN (wT (tR ?_))))
  obtain rfl := sj M
  exact ret2 rfl rfl rfl kr kr ⟨(some ⟨g19, 0, none⟩), 1, (or2 (is g19) no), H, rfl, h25, S26⟩
 refine lP1 4 19 (bF q17) ?_
 obtain ⟨q27, M⟩ | ⟨q27, M⟩ := ifc M
 ·refine lP1 3 23 (bT q27) (wN (tN (cond_t rfl kr (wQ (wR (lP 1 ?_))))))
  refine lW 28 (new_blk (v := fun g_ => .slice (some ⟨g_, 0, none⟩) 1 1) (cs := #[.int .u8 ((x1.getD ((x6).toNat) (0 : UInt8)).toNat : Int)]) (t := 5) S0_ kr) ?_
  rintro _ w28 ⟨g29, rfl, b30, S31, K32⟩
  have S33 := S31.unit
  have S34 := S33.pulls [(is g29), no] [1] rfl
  obtain ⟨h35, S36⟩ := row_lit (d := tByte) (xs := [(x1.getD ((x6).toNat) (0 : UInt8))]) S34 b30 rfl (elsO_one1 rfl) (Nat.le_of_ble_eq_true rfl)
  refine lP 2 (wN (tN (wT (tR ?_))))
  obtain rfl := sj M
  exact ret2 rfl rfl rfl kr kr ⟨(some ⟨g29, 0, none⟩), 1, (or2 (is g29) no), H, rfl, h35, S36⟩
 refine lP1 3 23 (bF q27) (wN (tN ?_))
 obtain ⟨q37, M⟩ | ⟨q37, M⟩ := ifc M
 ·refine cT (bT q37) (wQ (wR (lP 1 ?_)))
  refine lW 28 (new_blk (v := fun g_ => .slice (some ⟨g_, 0, none⟩) 1 1) (cs := #[.int .u8 ((x1.getD ((x6).toNat) (0 : UInt8)).toNat : Int)]) (t := 5) S0_ kr) ?_
  rintro _ w38 ⟨g39, rfl, b40, S41, K42⟩
  have S43 := S41.unit
  have S44 := S43.pulls [(is g39), no] [1] rfl
  obtain ⟨h45, S46⟩ := row_lit (d := tByte) (xs := [(x1.getD ((x6).toNat) (0 : UInt8))]) S44 b40 rfl (elsO_one1 rfl) (Nat.le_of_ble_eq_true rfl)
  refine lP 2 (wN (tN (wT (tR ?_))))
  obtain rfl := sj M
  exact ret2 rfl rfl rfl kr kr ⟨(some ⟨g39, 0, none⟩), 1, (or2 (is g39) no), H, rfl, h45, S46⟩
 refine cF (bF q37) (wK (tN (wQ (wQ (wR (lP 2 (wN (tN ?_))))))))
 obtain ⟨q47, M⟩ | ⟨q47, M⟩ := ifc M
 ·refine cT (bT q47) (wQ (wR ?_))
  refine lW 31 (new_blk (v := fun g_ => .slice (some ⟨g_, 0, none⟩) 1 1) (cs := #[.int .u8 10]) (t := 5) S0_ kr) ?_
  rintro _ w48 ⟨g49, rfl, b50, S51, K52⟩
  have S53 := S51.unit
  have S54 := S53.pulls [(is g49), no] [1] rfl
  obtain ⟨h55, S56⟩ := row_lit (d := tByte) (xs := [(10 : UInt8)]) S54 b50 rfl (elsO_one1 rfl) (Nat.le_of_ble_eq_true rfl)
  refine lP 2 (wN (tN (wT (tR ?_))))
  obtain rfl := sj M
  exact ret2 rfl rfl rfl kr kr ⟨(some ⟨g49, 0, none⟩), 1, (or2 (is g49) no), H, rfl, h55, S56⟩
 refine cF (bF q47) (wK (tN (wQ (wQ (wR (lP 2 (wN (tN ?_))))))))
 obtain ⟨q57, M⟩ | ⟨q57, M⟩ := ifc M
 ·refine cT (bT q57) (wQ (wR ?_))
  refine lW 34 (new_blk (v := fun g_ => .slice (some ⟨g_, 0, none⟩) 1 1) (cs := #[.int .u8 9]) (t := 5) S0_ kr) ?_
  rintro _ w58 ⟨g59, rfl, b60, S61, K62⟩
  have S63 := S61.unit
  have S64 := S63.pulls [(is g59), no] [1] rfl
  obtain ⟨h65, S66⟩ := row_lit (d := tByte) (xs := [(9 : UInt8)]) S64 b60 rfl (elsO_one1 rfl) (Nat.le_of_ble_eq_true rfl)
  refine lP 2 (wN (tN (wT (tR ?_))))
  obtain rfl := sj M
  exact ret2 rfl rfl rfl kr kr ⟨(some ⟨g59, 0, none⟩), 1, (or2 (is g59) no), H, rfl, h65, S66⟩
 refine cF (bF q57) (wK (tN (wQ (wQ (wR (lP 2 (wN (tN ?_))))))))
 obtain ⟨q67, M⟩ | ⟨q67, M⟩ := ifc M
 ·refine cT (bT q67) (wQ (wR ?_))
  refine lW 37 (new_blk (v := fun g_ => .slice (some ⟨g_, 0, none⟩) 1 1) (cs := #[.int .u8 13]) (t := 5) S0_ kr) ?_
  rintro _ w68 ⟨g69, rfl, b70, S71, K72⟩
  have S73 := S71.unit
  have S74 := S73.pulls [(is g69), no] [1] rfl
  obtain ⟨h75, S76⟩ := row_lit (d := tByte) (xs := [(13 : UInt8)]) S74 b70 rfl (elsO_one1 rfl) (Nat.le_of_ble_eq_true rfl)
  refine lP 2 (wN (tN (wT (tR ?_))))
  obtain rfl := sj M
  exact ret2 rfl rfl rfl kr kr ⟨(some ⟨g69, 0, none⟩), 1, (or2 (is g69) no), H, rfl, h75, S76⟩
 refine cF (bF q67) (wK (tN (wQ (wQ (wR (lP 2 (wN (tN ?_))))))))
 obtain ⟨q77, M⟩ | ⟨q77, M⟩ := ifc M
 ·refine cT (bT q77) (wQ (wR (lP 2 (wN (tN (wT (tR ?_)))))))
  obtain rfl := sj M
  have S78 := S0_.unit
  exact ret2 rfl rfl rfl kr kr ⟨none, 0, no, H, rfl, (Row.nil _ _ _ _ no), S78⟩
 refine cF (bF q77) (wK (tN (wQ (wQ (wR (lP 1 (lV 41 (eNe .u8 ((x1.getD ((x6).toNat) (0 : UInt8)).toNat : Int) 120) (wN (tN ?_)))))))))
 obtain ⟨q79, M⟩ | ⟨q79, M⟩ := ifc M
 ·refine cT (bT q79) (wQ (wR (lP 2 (wN (tN (wT (tR ?_)))))))
  obtain rfl := sj M
  have S80 := S0_.unit
  exact ret2 rfl rfl rfl kr kr ⟨none, 0, no, H, rfl, (Row.nil _ _ _ _ no), S80⟩
 refine cF (bF q79) (wK (tN (wQ (wR (lP 1 (wN (tN (wQ (wR (lP 1 (wN (tN (wQ (wp_block ?_))))))))))))))
 refine wp_loop_g (fun k88 a89 w81 => ∃ (f82 : Nat → Value) (x83 : Int) (x84 : Int), a89 = mk 103 (upd (upd (upd (upd f82 0 (.slice A2 x1.length c3)) 1 (.int .i64 x6)) 7 (.int .i64 x83)) 8 (.int .i64 x84)) ∧ St (anyOf []) H w [] H w81 ∧ spec_l1escape.l0 k88 x1 x6 x83 x84 = some r) k ⟨_, 0, 0, (hdw (hdc (hdc (hdc (hdc rfl kr) kr) kr) kr)), S0_, M⟩ ?_
 clear M
 rintro k88 a89 w81 ⟨f82, x83, x84, rfl, S85, M⟩
 rcases k88 with _ | k90
 ·rw [spec_l1escape.l0] at M
  cases M
 rw [spec_l1escape.l0] at M
 refine wQ (wQ (wR (lP 8 ?_)))
 obtain ⟨q91, M⟩ | ⟨q91, M⟩ := ifd M
 ·refine lP1 14 49 (bF q91) (wN (tN (cond_f rfl kr (wp_exit (tE (tE (inb_hit (tN (wQ (wQ (wR (lP 3 ?_))))))))))))
  obtain ⟨q162, M⟩ | ⟨q162, M⟩ := ifc M
  ·refine lP1 18 79 (bT q162) (wN (tN (cond_t rfl kr (wQ (wR (lP 2 (wN (tN (wT (tR ?_))))))))))
   obtain rfl := sj M
   have S163 := S85.unit
   exact ret2 rfl rfl rfl kr kr ⟨none, 0, no, H, rfl, (Row.nil _ _ _ _ no), S163⟩
  refine lP1 9 79 (bF q162) ?_
  obtain ⟨q164, M⟩ | ⟨q164, M⟩ := ifc M
  ·refine lP1 9 88 (bT q164) (wN (tN (cond_t rfl kr (wQ (wR (lP 2 (wN (tN (wT (tR ?_))))))))))
   obtain rfl := sj M
   have S165 := S85.unit
   exact ret2 rfl rfl rfl kr kr ⟨none, 0, no, H, rfl, (Row.nil _ _ _ _ no), S165⟩
  refine lP1 5 88 (bF q164) ?_
  obtain ⟨q166, M⟩ := chk M
  obtain ⟨q167, M⟩ := chk M
  obtain ⟨b168, o169, e170⟩ := Rd.addr h4 (show ((i64.wrap ((i64.wrap (x6 + 1)) + x84))).toNat < x1.length by omega)
  obtain ⟨y171, r172, k173⟩ := Rd.at h4 e170 (getD_some (0 : UInt8) (show ((i64.wrap ((i64.wrap (x6 + 1)) + x84))).toNat < x1.length by omega))
  obtain rfl := r172
  refine lG 94 88 (bF q164) (eJ underlying22 e170 q166 q167) (lG 95 88 (bF q164) (eK underlying5 (hpx (S85.inv.cell (k173 0 _ rfl)))) (lG 96 88 (bF q164) (eNe .u8 ((x1.getD (((i64.wrap ((i64.wrap (x6 + 1)) + x84))).toNat) (0 : UInt8)).toNat : Int) 92) (lP1 1 88 (bF q164) (wN (tN ?_)))))
  obtain ⟨q174, M⟩ | ⟨q174, M⟩ := ifc M
  ·refine cT (bT q174) (wQ (wR (lP 2 (wN (tN (wT (tR ?_)))))))
   obtain rfl := sj M
   have S175 := S85.unit
   exact ret2 rfl rfl rfl kr kr ⟨none, 0, no, H, rfl, (Row.nil _ _ _ _ no), S175⟩
  refine cF (bF q174) (wK (tN (wQ (wR (lP 1 (lV 99 (e_conv_i8 (k := .i64) (a := x83) kr underlying5 kr) ?_))))))
  refine lW 100 (new_blk (v := fun g_ => .slice (some ⟨g_, 0, none⟩) 1 1) (cs := #[.int .u8 ((b8 (x83)).toNat : Int)]) (t := 5) S85 kr) ?_
  rintro _ w176 ⟨g177, rfl, b178, S179, K180⟩
  have S181 := S179.unit
  have S182 := S181.pulls [(is g177), no] [1] rfl
  obtain ⟨h183, S184⟩ := row_lit (d := tByte) (xs := [(b8 (x83))]) S182 b178 rfl (elsO_one1 rfl) (Nat.le_of_ble_eq_true rfl)
  refine lP 4 (wN (tN (wT ?_)))
  obtain rfl := sj M
  exact ret2 rfl rfl rfl kr kr ⟨(some ⟨g177, 0, none⟩), 1, (or2 (is g177) no), H, rfl, h183, S184⟩
 refine lP1 4 49 (bT q91) ?_
 obtain ⟨q92, M⟩ | ⟨q92, M⟩ := ifd M
 ·refine lP1 10 53 (bF q92) (wN (tN (cond_f rfl kr (wp_exit (tE (tE (inb_hit (tN (wQ (wQ (wR (lP 3 ?_))))))))))))
  obtain ⟨q140, M⟩ | ⟨q140, M⟩ := ifc M
  ·refine lP1 18 79 (bT q140) (wN (tN (cond_t rfl kr (wQ (wR (lP 2 (wN (tN (wT (tR ?_))))))))))
   obtain rfl := sj M
   have S141 := S85.unit
   exact ret2 rfl rfl rfl kr kr ⟨none, 0, no, H, rfl, (Row.nil _ _ _ _ no), S141⟩
  refine lP1 9 79 (bF q140) ?_
  obtain ⟨q142, M⟩ | ⟨q142, M⟩ := ifc M
  ·refine lP1 9 88 (bT q142) (wN (tN (cond_t rfl kr (wQ (wR (lP 2 (wN (tN (wT (tR ?_))))))))))
   obtain rfl := sj M
   have S143 := S85.unit
   exact ret2 rfl rfl rfl kr kr ⟨none, 0, no, H, rfl, (Row.nil _ _ _ _ no), S143⟩
  refine lP1 5 88 (bF q142) ?_
  obtain ⟨q144, M⟩ := chk M
  obtain ⟨b145, o146, e147⟩ := Rd.addr h4 (show ((i64.wrap ((i64.wrap (x6 + 1)) + x84))).toNat < x1.length by omega)
  obtain ⟨y148, r149, k150⟩ := Rd.at h4 e147 (getD_some (0 : UInt8) (show ((i64.wrap ((i64.wrap (x6 + 1)) + x84))).toNat < x1.length by omega))
  obtain rfl := r149
  refine lG 94 88 (bF q142) (eJ underlying22 e147 q144 q91) (lG 95 88 (bF q142) (eK underlying5 (hpx (S85.inv.cell (k150 0 _ rfl)))) (lG 96 88 (bF q142) (eNe .u8 ((x1.getD (((i64.wrap ((i64.wrap (x6 + 1)) + x84))).toNat) (0 : UInt8)).toNat : Int) 92) (lP1 1 88 (bF q142) (wN (tN ?_)))))
  obtain ⟨q151, M⟩ | ⟨q151, M⟩ := ifc M
  ·refine cT (bT q151) (wQ (wR (lP 2 (wN (tN (wT (tR ?_)))))))
   obtain rfl := sj M
   have S152 := S85.unit
   exact ret2 rfl rfl rfl kr kr ⟨none, 0, no, H, rfl, (Row.nil _ _ _ _ no), S152⟩
  refine cF (bF q151) (wK (tN (wQ (wR (lP 1 (lV 99 (e_conv_i8 (k := .i64) (a := x83) kr underlying5 kr) ?_))))))
  refine lW 100 (new_blk (v := fun g_ => .slice (some ⟨g_, 0, none⟩) 1 1) (cs := #[.int .u8 ((b8 (x83)).toNat : Int)]) (t := 5) S85 kr) ?_
  rintro _ w153 ⟨g154, rfl, b155, S156, K157⟩
  have S158 := S156.unit
  have S159 := S158.pulls [(is g154), no] [1] rfl
  obtain ⟨h160, S161⟩ := row_lit (d := tByte) (xs := [(b8 (x83))]) S159 b155 rfl (elsO_one1 rfl) (Nat.le_of_ble_eq_true rfl)
  refine lP 4 (wN (tN (wT ?_)))
  obtain rfl := sj M
  exact ret2 rfl rfl rfl kr kr ⟨(some ⟨g154, 0, none⟩), 1, (or2 (is g154) no), H, rfl, h160, S161⟩
 refine lP1 5 53 (bT q92) ?_
 obtain ⟨q93, M⟩ := chk M
 obtain ⟨b94, o95, e96⟩ := Rd.addr h4 (show ((i64.wrap ((i64.wrap (x6 + 1)) + x84))).toNat < x1.length by omega)
 obtain ⟨y97, r98, k99⟩ := Rd.at h4 e96 (getD_some (0 : UInt8) (show ((i64.wrap ((i64.wrap (x6 + 1)) + x84))).toNat < x1.length by omega))
 obtain rfl := r98
 refine lG 59 53 (bT q92) (eJ underlying22 e96 q93 q91) (lG 60 53 (bT q92) (eK underlying5 (hpx (S85.inv.cell (k99 0 _ rfl)))) ?_)
 obtain ⟨t100, u101, M⟩ := bnd M
 refine lcallg (d := 61) (t := 53) rfl kr rfl (bT q92) rfl kr (eE func65) (spec_l1hex.calls  S85.own0 u101) ?_
 rintro _ w102 ⟨rfl, C103⟩
 refine ⟨_, rfl, ?_⟩
 obtain ⟨S104, K105⟩ := S85.still C103
 refine lP1 2 53 (bT q92) (wN (tN ?_))
 obtain ⟨q106, M⟩ | ⟨q106, M⟩ := ifc M
 ·refine cT (bT q106) (wK (tN (wp_block (wQ (wR (lP 7 ?_))))))
  obtain ⟨b107, o108, e109⟩ := Rd.addr h4 (show ((i64.wrap ((i64.wrap (x6 + 1)) + x84))).toNat < x1.length by omega)
  obtain ⟨y110, r111, k112⟩ := Rd.at h4 e109 (getD_some (0 : UInt8) (show ((i64.wrap ((i64.wrap (x6 + 1)) + x84))).toNat < x1.length by omega))
  obtain rfl := r111
  refine lV 71 (eJ underlying22 e109 q93 q91) (lV 72 (eK underlying5 (hpx (S104.inv.cell (k112 0 _ rfl)))) ?_)
  obtain ⟨t113, u114, M⟩ := bnd M
  refine lC 73 (eE func65) (spec_l1hex.calls  S104.own0 u114) ?_
  rintro _ w115 ⟨rfl, C116⟩
  refine ⟨_, rfl, ?_⟩
  obtain ⟨S117, K118⟩ := S104.still C116
  refine lP 2 (wN (tN (wR (lP 3 (wN (inb_n (tN ?_)))))))
  exact ⟨k90, (by omega), _, (i64.wrap ((i64.wrap (x83 * 16)) + t113)), (i64.wrap (x84 + 1)), (hdw (hdc (hdc (hdc (hdc rfl kr) kr) kr) kr)), S117, M⟩
 refine cF (bF q106) (wp_exit (tE (tE (inb_hit (tN (wQ (wQ (wR (lP 3 ?_)))))))))
 obtain ⟨q119, M⟩ | ⟨q119, M⟩ := ifc M
 ·refine lP1 18 79 (bT q119) (wN (tN (cond_t rfl kr (wQ (wR (lP 2 (wN (tN (wT (tR ?_))))))))))
  obtain rfl := sj M
  have S120 := S104.unit
  exact ret2 rfl rfl rfl kr kr ⟨none, 0, no, H, rfl, (Row.nil _ _ _ _ no), S120⟩
 refine lP1 9 79 (bF q119) ?_
 obtain ⟨q121, M⟩ | ⟨q121, M⟩ := ifc M
 ·refine lP1 9 88 (bT q121) (wN (tN (cond_t rfl kr (wQ (wR (lP 2 (wN (tN (wT (tR ?_))))))))))
  obtain rfl := sj M
  have S122 := S104.unit
  exact ret2 rfl rfl rfl kr kr ⟨none, 0, no, H, rfl, (Row.nil _ _ _ _ no), S122⟩
 refine lP1 5 88 (bF q121) ?_
 obtain ⟨b123, o124, e125⟩ := Rd.addr h4 (show ((i64.wrap ((i64.wrap (x6 + 1)) + x84))).toNat < x1.length by omega)
 obtain ⟨y126, r127, k128⟩ := Rd.at h4 e125 (getD_some (0 : UInt8) (show ((i64.wrap ((i64.wrap (x6 + 1)) + x84))).toNat < x1.length by omega))
 obtain rfl := r127
 refine lG 94 88 (bF q121) (eJ underlying22 e125 q93 q91) (lG 95 88 (bF q121) (eK underlying5 (hpx (S104.inv.cell (k128 0 _ rfl)))) (lG 96 88 (bF q121) (eNe .u8 ((x1.getD (((i64.wrap ((i64.wrap (x6 + 1)) + x84))).toNat) (0 : UInt8)).toNat : Int) 92) (lP1 1 88 (bF q121) (wN (tN ?_)))))
 obtain ⟨q129, M⟩ | ⟨q129, M⟩ := ifc M
 ·refine cT (bT q129) (wQ (wR (lP 2 (wN (tN (wT (tR ?_)))))))
  obtain rfl := sj M
  have S130 := S104.unit
  exact ret2 rfl rfl rfl kr kr ⟨none, 0, no, H, rfl, (Row.nil _ _ _ _ no), S130⟩
 refine cF (bF q129) (wK (tN (wQ (wR (lP 1 (lV 99 (e_conv_i8 (k := .i64) (a := x83) kr underlying5 kr) ?_))))))
 refine lW 100 (new_blk (v := fun g_ => .slice (some ⟨g_, 0, none⟩) 1 1) (cs := #[.int .u8 ((b8 (x83)).toNat : Int)]) (t := 5) S104 kr) ?_
 rintro _ w131 ⟨g132, rfl, b133, S134, K135⟩
 have S136 := S134.unit
 have S137 := S136.pulls [(is g132), no] [1] rfl
 obtain ⟨h138, S139⟩ := row_lit (d := tByte) (xs := [(b8 (x83))]) S137 b133 rfl (elsO_one1 rfl) (Nat.le_of_ble_eq_true rfl)
 refine lP 4 (wN (tN (wT ?_)))
 obtain rfl := sj M
 exact ret2 rfl rfl rfl kr kr ⟨(some ⟨g132, 0, none⟩), 1, (or2 (is g132) no), H, rfl, h138, S139⟩
def spec_l1raw.f (x1 : UInt8) : Option Bool := (if (x1.toNat : Int) ≥ 32 then some (decide ((x1.toNat : Int) ≠ 127)) else some false)
theorem spec_l1raw.calls {w : World} {H : Hp} {x1 : UInt8} (S : Own [] H w) {r : Bool} (M : spec_l1raw.f x1 = some r) :
  Calls Tryz.prog 67 #[.int .u8 (x1.toNat : Int)] w (fun e e_w => e = .returned (.bool r) ∧ Chg no w e_w) := by
 rw [spec_l1raw.f] at M
 refine enter (l := [.int .u8 (x1.toNat : Int)]) 9 func67 rfl rfl rfl ?_
 have S0_ := S.st
 refine wQ (wR (lP 1 (wN (tN (wQ (wR (lP 3 ?_)))))))
 obtain ⟨q2, M⟩ | ⟨q2, M⟩ := ifd M
 ·refine lP1 4 5 (bF q2) (wN (tN (wT ?_)))
  obtain rfl := sj M
  exact ret1 rfl rfl  kr ⟨rfl, S0_.chg⟩
 refine lP1 1 5 (bT q2) (lG 7 5 (bT q2) (eNe .u8 (x1.toNat : Int) 127) (lP1 2 5 (bT q2) (wN (tN (wT ?_)))))
 obtain rfl := sj M
 exact ret1 rfl rfl  kr ⟨rfl, S0_.chg⟩
def spec_l1char.l0 (_k : Nat) (x1 : List UInt8) (x6 : Int) (x11 : Int) (x12 : Int) : Option (Int × Int × Int) := (if x11 = 0 then some (0, 0, 2) else (if (i64.wrap (x6 + x11)) < (x1.length : Int) then (if 0 ≤ (i64.wrap (x6 + x11)) then ((spec_l1alnum.f (x1.getD (((i64.wrap (x6 + x11))).toNat) (0 : UInt8))).bind fun t202 => (if t202 = true then some (0, 0, 2) else some (x12, x11, 0))) else none) else some (x12, x11, 0)))
def spec_l1char.f (k : Nat) (x1 : List UInt8) (x6 : Int) : Option (Int × Int × Int) := (if (i64.wrap (x6 + 3)) < (x1.length : Int) then (if 0 ≤ (i64.wrap (x6 + 2)) then (if (i64.wrap (x6 + 2)) < (x1.length : Int) then (if ((x1.getD (((i64.wrap (x6 + 2))).toNat) (0 : UInt8)).toNat : Int) = 39 then (if 0 ≤ (i64.wrap (x6 + 3)) then (if ((x1.getD (((i64.wrap (x6 + 3))).toNat) (0 : UInt8)).toNat : Int) = 39 then (spec_l1char.l0 0 x1 x6 4 39) else (if ((x1.getD (((i64.wrap (x6 + 2))).toNat) (0 : UInt8)).toNat : Int) = 92 then ((spec_l1escape.f k x1 (i64.wrap (x6 + 3))).bind fun t42 => (if (t42.1.length : Int) = 1 then (if 0 < (t42.1.length : Int) then (spec_l1char.l0 0 x1 x6 (i64.wrap (3 + t42.2)) ((t42.1.getD 0 (0 : UInt8)).toNat : Int)) else none) else (spec_l1char.l0 0 x1 x6 0 0))) else (if ((x1.getD (((i64.wrap (x6 + 2))).toNat) (0 : UInt8)).toNat : Int) ≠ 39 then ((spec_l1raw.f (x1.getD (((i64.wrap (x6 + 2))).toNat) (0 : UInt8))).bind fun t74 => (if t74 = true then (spec_l1char.l0 0 x1 x6 3 ((x1.getD (((i64.wrap (x6 + 2))).toNat) (0 : UInt8)).toNat : Int)) else (spec_l1char.l0 0 x1 x6 0 0))) else (spec_l1char.l0 0 x1 x6 0 0)))) else none) else (if ((x1.getD (((i64.wrap (x6 + 2))).toNat) (0 : UInt8)).toNat : Int) = 92 then ((spec_l1escape.f k x1 (i64.wrap (x6 + 3))).bind fun t94 => (if (t94.1.length : Int) = 1 then (if 0 < (t94.1.length : Int) then (spec_l1char.l0 0 x1 x6 (i64.wrap (3 + t94.2)) ((t94.1.getD 0 (0 : UInt8)).toNat : Int)) else none) else (spec_l1char.l0 0 x1 x6 0 0))) else (if ((x1.getD (((i64.wrap (x6 + 2))).toNat) (0 : UInt8)).toNat : Int) ≠ 39 then ((spec_l1raw.f (x1.getD (((i64.wrap (x6 + 2))).toNat) (0 : UInt8))).bind fun t126 => (if t126 = true then (spec_l1char.l0 0 x1 x6 3 ((x1.getD (((i64.wrap (x6 + 2))).toNat) (0 : UInt8)).toNat : Int)) else (spec_l1char.l0 0 x1 x6 0 0))) else (spec_l1char.l0 0 x1 x6 0 0)))) else none) else none) else (if (i64.wrap (x6 + 2)) < (x1.length : Int) then (if 0 ≤ (i64.wrap (x6 + 2)) then (if ((x1.getD (((i64.wrap (x6 + 2))).toNat) (0 : UInt8)).toNat : Int) = 92 then ((spec_l1escape.f k x1 (i64.wrap (x6 + 3))).bind fun t148 => (if (t148.1.length : Int) = 1 then (if 0 < (t148.1.length : Int) then (spec_l1char.l0 0 x1 x6 (i64.wrap (3 + t148.2)) ((t148.1.getD 0 (0 : UInt8)).toNat : Int)) else none) else (spec_l1char.l0 0 x1 x6 0 0))) else (if ((x1.getD (((i64.wrap (x6 + 2))).toNat) (0 : UInt8)).toNat : Int) ≠ 39 then ((spec_l1raw.f (x1.getD (((i64.wrap (x6 + 2))).toNat) (0 : UInt8))).bind fun t180 => (if t180 = true then (spec_l1char.l0 0 x1 x6 3 ((x1.getD (((i64.wrap (x6 + 2))).toNat) (0 : UInt8)).toNat : Int)) else (spec_l1char.l0 0 x1 x6 0 0))) else (spec_l1char.l0 0 x1 x6 0 0))) else none) else (spec_l1char.l0 0 x1 x6 0 0)))
theorem spec_l1char.calls {k : Nat} {w : World} {H : Hp} {x1 : List UInt8} {A2 : Option Addr} {c3 : Nat} {x6 : Int} (h4 : Rd tByte H A2 x1) (l5 : x1.length ≤ c3) (S : Own [] H w) {r : Int × Int × Int} (M : spec_l1char.f k x1 x6 = some r) :
  Calls Tryz.prog 64 #[.slice A2 x1.length c3, .int .i64 x6] w (fun e e_w => e = .returned (.tuple #[.int .i64 r.1, .int .i64 r.2.1, .int .i64 r.2.2]) ∧ Chg no w e_w) := by
 rw [spec_l1char.f] at M
 refine enter (l := [.slice A2 x1.length c3, .int .i64 x6]) 109 func64 rfl rfl rfl ?_
 have S0_ := S.st
 refine wQ (wR (lP 3 (wN (tN (wQ (wR (lP 1 (wN (tN (wQ (wR (lP 1 (wN (tN ?_))))))))))))))
 refine wp_seq_cut (fun a16 w7 => ∃ (f8 : Nat → Value) (H9 : Hp) (x11 : Int) (x12 : Int), a16 = mk 109 (upd (upd (upd (upd f8 0 (.slice A2 x1.length c3)) 1 (.int .i64 x6)) 7 (.int .i64 x11)) 8 (.int .i64 x12)) ∧ Ext H H9 ∧ St (anyOf []) H w [] H9 w7 ∧ spec_l1char.l0 0 x1 x6 x11 x12 = some r) ?_ ?_
 ·refine wQ (wR (lP 6 ?_))
  obtain ⟨q17, M⟩ | ⟨q17, M⟩ := ifd M
  ·refine lP1 15 16 (bF q17) (wN (tN (cond_f rfl kr (wQ (wR (lP 6 ?_))))))
   obtain ⟨q139, M⟩ | ⟨q139, M⟩ := ifd M
   ·refine lP1 7 37 (bF q139) (wN (tN (cond_f rfl kr (wQ (wR (lP 6 (lP1 15 66 (bF q139) (wN (tN (cond_f rfl kr (wK (tN ?_))))))))))))
    exact ⟨_, H, 0, 0, (hdw (hdc (hdc (hdc (hdc rfl kr) kr) kr) kr)), (Ext.refl _), S0_, M⟩
   refine lP1 3 37 (bT q139) ?_
   obtain ⟨q140, M⟩ := chk M
   obtain ⟨b141, o142, e143⟩ := Rd.addr h4 (show ((i64.wrap (x6 + 2))).toNat < x1.length by omega)
   obtain ⟨y144, r145, k146⟩ := Rd.at h4 e143 (getD_some (0 : UInt8) (show ((i64.wrap (x6 + 2))).toNat < x1.length by omega))
   obtain rfl := r145
   refine lG 41 37 (bT q139) (eJ underlying22 e143 q140 q139) (lG 42 37 (bT q139) (eK underlying5 (hpx (S0_.inv.cell (k146 0 _ rfl)))) (lP1 2 37 (bT q139) (wN (tN ?_))))
   obtain ⟨q147, M⟩ | ⟨q147, M⟩ := ifc M
   ·refine cT (bT q147) (wQ (wR (lP 3 ?_)))
    obtain ⟨t148, u149, M⟩ := bnd M
    refine lC 49 (eE func66) (spec_l1escape.calls h4 l5 (St.own' (Fa := []) (Fr := []) S0_) u149) ?_
    rintro _ w150 ⟨A153, c154, F156, H151, rfl, h155, T152⟩
    refine ⟨_, rfl, ?_⟩
    obtain ⟨S157, K158⟩ := St.call (Fa := []) (Fr := []) S0_ T152
    have E159 := T152.ext
    refine lP 5 (wN (tN (wQ (wR (lP 3 (wN (tN ?_)))))))
    obtain ⟨q160, M⟩ | ⟨q160, M⟩ := ifd M
    ·refine cF (bF q160) (wK (tN ?_))
     have S166 := St.first (Fa := []) (Fr := [F156]) S157
     exact ⟨_, H151, 0, 0, (hdw (hdc (hdc (hdc (hdc rfl kr) kr) kr) kr)), E159, S166, M⟩
    refine cT (bT q160) (wQ (wR (lP 1 ?_)))
    obtain ⟨q161, M⟩ := chk M
    obtain ⟨b162, e164⟩ := Row.addr h155 (show 0 < t148.1.length by omega)
    refine lV 56 (e_indexAddr (b := b162) (off := 0) (n := t148.1.length) (c := c154) (sz := 1) (i := 0) (k := .i64) underlying22 e164 kr kr rfl (by omega) q161) (lV 57 (eK underlying5 (hpx (Row.pick (j := 0) (u := .int .u8 ((t148.1.getD 0 (0 : UInt8)).toNat : Int)) h155 e164 (getD_some (0 : UInt8) (show 0 < t148.1.length by omega)) (fun _ _ o_ => by rw [show _ = _ from o_]; rfl)))) (lV 58 (e_conv_8i (a := (t148.1.getD 0 (0 : UInt8))) kr underlying3 kr) (lP 1 (wN (tN (wR (lP 3 (wN (tN ?_)))))))))
    have S165 := St.first (Fa := []) (Fr := [F156]) S157
    exact ⟨_, H151, (i64.wrap (3 + t148.2)), ((t148.1.getD 0 (0 : UInt8)).toNat : Int), (hdw (hdc (hdc (hdc (hdc rfl kr) kr) kr) kr)), E159, S165, M⟩
   refine cF (bF q147) (wQ (wR (lP 6 (lP1 3 66 (bT q139) ?_))))
   obtain ⟨b167, o168, e169⟩ := Rd.addr h4 (show ((i64.wrap (x6 + 2))).toNat < x1.length by omega)
   obtain ⟨y170, r171, k172⟩ := Rd.at h4 e169 (getD_some (0 : UInt8) (show ((i64.wrap (x6 + 2))).toNat < x1.length by omega))
   obtain rfl := r171
   refine lG 70 66 (bT q139) (eJ underlying22 e169 q140 q139) (lG 71 66 (bT q139) (eK underlying5 (hpx (S0_.inv.cell (k172 0 _ rfl)))) (lG 72 66 (bT q139) (eNe .u8 ((x1.getD (((i64.wrap (x6 + 2))).toNat) (0 : UInt8)).toNat : Int) 39) (lP1 2 66 (bT q139) ?_)))
   obtain ⟨q173, M⟩ | ⟨q173, M⟩ := ifd M
   ·refine lP1 7 74 (bF q173) (wN (tN (cond_f rfl kr (wK (tN ?_)))))
    exact ⟨_, H, 0, 0, (hdw (hdc (hdc (hdc (hdc rfl kr) kr) kr) kr)), (Ext.refl _), S0_, M⟩
   refine lP1 3 74 (bT q173) ?_
   obtain ⟨b174, o175, e176⟩ := Rd.addr h4 (show ((i64.wrap (x6 + 2))).toNat < x1.length by omega)
   obtain ⟨y177, r178, k179⟩ := Rd.at h4 e176 (getD_some (0 : UInt8) (show ((i64.wrap (x6 + 2))).toNat < x1.length by omega))
   obtain rfl := r178
   refine lG 78 74 (bT q173) (eJ underlying22 e176 q140 q139) (lG 79 74 (bT q173) (eK underlying5 (hpx (S0_.inv.cell (k179 0 _ rfl)))) ?_)
   obtain ⟨t180, u181, M⟩ := bnd M
   refine lcallg (d := 80) (t := 74) rfl kr rfl (bT q173) rfl kr (eE func67) (spec_l1raw.calls  S0_.own0 u181) ?_
   rintro _ w182 ⟨rfl, C183⟩
   refine ⟨_, rfl, ?_⟩
   obtain ⟨S184, K185⟩ := S0_.still C183
   refine lP1 1 74 (bT q173) (wN (tN ?_))
   obtain ⟨q186, M⟩ | ⟨q186, M⟩ := ifd M
   ·refine cF (bvf q186 kr) (wK (tN ?_))
    exact ⟨_, H, 0, 0, (hdw (hdc (hdc (hdc (hdc rfl kr) kr) kr) kr)), (Ext.refl _), S184, M⟩
   refine cT (bvt q186 kr) (wQ (wR (lP 3 ?_)))
   obtain ⟨b187, o188, e189⟩ := Rd.addr h4 (show ((i64.wrap (x6 + 2))).toNat < x1.length by omega)
   obtain ⟨y190, r191, k192⟩ := Rd.at h4 e189 (getD_some (0 : UInt8) (show ((i64.wrap (x6 + 2))).toNat < x1.length by omega))
   obtain rfl := r191
   refine lV 85 (eJ underlying22 e189 q140 q139) (lV 86 (eK underlying5 (hpx (S184.inv.cell (k192 0 _ rfl)))) (lV 87 (e_conv_8i (a := (x1.getD (((i64.wrap (x6 + 2))).toNat) (0 : UInt8))) kr underlying3 kr) (lP 1 (wN (tN (wR (lP 1 (wN (tN ?_)))))))))
   exact ⟨_, H, 3, ((x1.getD (((i64.wrap (x6 + 2))).toNat) (0 : UInt8)).toNat : Int), (hdw (hdc (hdc (hdc (hdc rfl kr) kr) kr) kr)), (Ext.refl _), S184, M⟩
  refine lP1 3 16 (bT q17) ?_
  obtain ⟨q18, M⟩ := chk M
  obtain ⟨q19, M⟩ := chk M
  obtain ⟨b20, o21, e22⟩ := Rd.addr h4 (show ((i64.wrap (x6 + 2))).toNat < x1.length by omega)
  obtain ⟨y23, r24, k25⟩ := Rd.at h4 e22 (getD_some (0 : UInt8) (show ((i64.wrap (x6 + 2))).toNat < x1.length by omega))
  obtain rfl := r24
  refine lG 20 16 (bT q17) (eJ underlying22 e22 q18 q19) (lG 21 16 (bT q17) (eK underlying5 (hpx (S0_.inv.cell (k25 0 _ rfl)))) (lP1 3 16 (bT q17) ?_))
  obtain ⟨q26, M⟩ | ⟨q26, M⟩ := ifd M
  ·refine lP1 7 24 (bF q26) (wN (tN (cond_f rfl kr (wQ (wR (lP 6 (lP1 3 37 (bT q19) ?_)))))))
   obtain ⟨b87, o88, e89⟩ := Rd.addr h4 (show ((i64.wrap (x6 + 2))).toNat < x1.length by omega)
   obtain ⟨y90, r91, k92⟩ := Rd.at h4 e89 (getD_some (0 : UInt8) (show ((i64.wrap (x6 + 2))).toNat < x1.length by omega))
   obtain rfl := r91
   refine lG 41 37 (bT q19) (eJ underlying22 e89 q18 q19) (lG 42 37 (bT q19) (eK underlying5 (hpx (S0_.inv.cell (k92 0 _ rfl)))) (lP1 2 37 (bT q19) (wN (tN ?_))))
   obtain ⟨q93, M⟩ | ⟨q93, M⟩ := ifc M
   ·refine cT (bT q93) (wQ (wR (lP 3 ?_)))
    obtain ⟨t94, u95, M⟩ := bnd M
    refine lC 49 (eE func66) (spec_l1escape.calls h4 l5 (St.own' (Fa := []) (Fr := []) S0_) u95) ?_
    rintro _ w96 ⟨A99, c100, F102, H97, rfl, h101, T98⟩
    refine ⟨_, rfl, ?_⟩
    obtain ⟨S103, K104⟩ := St.call (Fa := []) (Fr := []) S0_ T98
    have E105 := T98.ext
    refine lP 5 (wN (tN (wQ (wR (lP 3 (wN (tN ?_)))))))
    obtain ⟨q106, M⟩ | ⟨q106, M⟩ := ifd M
    ·refine cF (bF q106) (wK (tN ?_))
     have S112 := St.first (Fa := []) (Fr := [F102]) S103
     exact ⟨_, H97, 0, 0, (hdw (hdc (hdc (hdc (hdc rfl kr) kr) kr) kr)), E105, S112, M⟩
    refine cT (bT q106) (wQ (wR (lP 1 ?_)))
    obtain ⟨q107, M⟩ := chk M
    obtain ⟨b108, e110⟩ := Row.addr h101 (show 0 < t94.1.length by omega)
    refine lV 56 (e_indexAddr (b := b108) (off := 0) (n := t94.1.length) (c := c100) (sz := 1) (i := 0) (k := .i64) underlying22 e110 kr kr rfl (by omega) q107) (lV 57 (eK underlying5 (hpx (Row.pick (j := 0) (u := .int .u8 ((t94.1.getD 0 (0 : UInt8)).toNat : Int)) h101 e110 (getD_some (0 : UInt8) (show 0 < t94.1.length by omega)) (fun _ _ o_ => by rw [show _ = _ from o_]; rfl)))) (lV 58 (e_conv_8i (a := (t94.1.getD 0 (0 : UInt8))) kr underlying3 kr) (lP 1 (wN (tN (wR (lP 3 (wN (tN ?_)))))))))
    have S111 := St.first (Fa := []) (Fr := [F102]) S103
    exact ⟨_, H97, (i64.wrap (3 + t94.2)), ((t94.1.getD 0 (0 : UInt8)).toNat : Int), (hdw (hdc (hdc (hdc (hdc rfl kr) kr) kr) kr)), E105, S111, M⟩
   refine cF (bF q93) (wQ (wR (lP 6 (lP1 3 66 (bT q19) ?_))))
   obtain ⟨b113, o114, e115⟩ := Rd.addr h4 (show ((i64.wrap (x6 + 2))).toNat < x1.length by omega)
   obtain ⟨y116, r117, k118⟩ := Rd.at h4 e115 (getD_some (0 : UInt8) (show ((i64.wrap (x6 + 2))).toNat < x1.length by omega))
   obtain rfl := r117
   refine lG 70 66 (bT q19) (eJ underlying22 e115 q18 q19) (lG 71 66 (bT q19) (eK underlying5 (hpx (S0_.inv.cell (k118 0 _ rfl)))) (lG 72 66 (bT q19) (eNe .u8 ((x1.getD (((i64.wrap (x6 + 2))).toNat) (0 : UInt8)).toNat : Int) 39) (lP1 2 66 (bT q19) ?_)))
   obtain ⟨q119, M⟩ | ⟨q119, M⟩ := ifd M
   ·refine lP1 7 74 (bF q119) (wN (tN (cond_f rfl kr (wK (tN ?_)))))
    exact ⟨_, H, 0, 0, (hdw (hdc (hdc (hdc (hdc rfl kr) kr) kr) kr)), (Ext.refl _), S0_, M⟩
   refine lP1 3 74 (bT q119) ?_
   obtain ⟨b120, o121, e122⟩ := Rd.addr h4 (show ((i64.wrap (x6 + 2))).toNat < x1.length by omega)
   obtain ⟨y123, r124, k125⟩ := Rd.at h4 e122 (getD_some (0 : UInt8) (show ((i64.wrap (x6 + 2))).toNat < x1.length by omega))
   obtain rfl := r124
   refine lG 78 74 (bT q119) (eJ underlying22 e122 q18 q19) (lG 79 74 (bT q119) (eK underlying5 (hpx (S0_.inv.cell (k125 0 _ rfl)))) ?_)
   obtain ⟨t126, u127, M⟩ := bnd M
   refine lcallg (d := 80) (t := 74) rfl kr rfl (bT q119) rfl kr (eE func67) (spec_l1raw.calls  S0_.own0 u127) ?_
   rintro _ w128 ⟨rfl, C129⟩
   refine ⟨_, rfl, ?_⟩
   obtain ⟨S130, K131⟩ := S0_.still C129
   refine lP1 1 74 (bT q119) (wN (tN ?_))
   obtain ⟨q132, M⟩ | ⟨q132, M⟩ := ifd M
   ·refine cF (bvf q132 kr) (wK (tN ?_))
    exact ⟨_, H, 0, 0, (hdw (hdc (hdc (hdc (hdc rfl kr) kr) kr) kr)), (Ext.refl _), S130, M⟩
   refine cT (bvt q132 kr) (wQ (wR (lP 3 ?_)))
   obtain ⟨b133, o134, e135⟩ := Rd.addr h4 (show ((i64.wrap (x6 + 2))).toNat < x1.length by omega)
   obtain ⟨y136, r137, k138⟩ := Rd.at h4 e135 (getD_some (0 : UInt8) (show ((i64.wrap (x6 + 2))).toNat < x1.length by omega))
   obtain rfl := r137
   refine lV 85 (eJ underlying22 e135 q18 q19) (lV 86 (eK underlying5 (hpx (S130.inv.cell (k138 0 _ rfl)))) (lV 87 (e_conv_8i (a := (x1.getD (((i64.wrap (x6 + 2))).toNat) (0 : UInt8))) kr underlying3 kr) (lP 1 (wN (tN (wR (lP 1 (wN (tN ?_)))))))))
   exact ⟨_, H, 3, ((x1.getD (((i64.wrap (x6 + 2))).toNat) (0 : UInt8)).toNat : Int), (hdw (hdc (hdc (hdc (hdc rfl kr) kr) kr) kr)), (Ext.refl _), S130, M⟩
  refine lP1 3 24 (bT q26) ?_
  obtain ⟨q27, M⟩ := chk M
  obtain ⟨b28, o29, e30⟩ := Rd.addr h4 (show ((i64.wrap (x6 + 3))).toNat < x1.length by omega)
  obtain ⟨y31, r32, k33⟩ := Rd.at h4 e30 (getD_some (0 : UInt8) (show ((i64.wrap (x6 + 3))).toNat < x1.length by omega))
  obtain rfl := r32
  refine lG 28 24 (bT q26) (eJ underlying22 e30 q27 q17) (lG 29 24 (bT q26) (eK underlying5 (hpx (S0_.inv.cell (k33 0 _ rfl)))) (lP1 2 24 (bT q26) (wN (tN ?_))))
  obtain ⟨q34, M⟩ | ⟨q34, M⟩ := ifc M
  ·refine cT (bT q34) (wQ (wR (lP 1 (wN (tN (wR (lP 1 (wN (tN ?_)))))))))
   exact ⟨_, H, 4, 39, (hdw (hdc (hdc (hdc (hdc rfl kr) kr) kr) kr)), (Ext.refl _), S0_, M⟩
  refine cF (bF q34) (wQ (wR (lP 6 (lP1 3 37 (bT q19) ?_))))
  obtain ⟨b35, o36, e37⟩ := Rd.addr h4 (show ((i64.wrap (x6 + 2))).toNat < x1.length by omega)
  obtain ⟨y38, r39, k40⟩ := Rd.at h4 e37 (getD_some (0 : UInt8) (show ((i64.wrap (x6 + 2))).toNat < x1.length by omega))
  obtain rfl := r39
  refine lG 41 37 (bT q19) (eJ underlying22 e37 q18 q19) (lG 42 37 (bT q19) (eK underlying5 (hpx (S0_.inv.cell (k40 0 _ rfl)))) (lP1 2 37 (bT q19) (wN (tN ?_))))
  obtain ⟨q41, M⟩ | ⟨q41, M⟩ := ifc M
  ·refine cT (bT q41) (wQ (wR (lP 3 ?_)))
   obtain ⟨t42, u43, M⟩ := bnd M
   refine lC 49 (eE func66) (spec_l1escape.calls h4 l5 (St.own' (Fa := []) (Fr := []) S0_) u43) ?_
   rintro _ w44 ⟨A47, c48, F50, H45, rfl, h49, T46⟩
   refine ⟨_, rfl, ?_⟩
   obtain ⟨S51, K52⟩ := St.call (Fa := []) (Fr := []) S0_ T46
   have E53 := T46.ext
   refine lP 5 (wN (tN (wQ (wR (lP 3 (wN (tN ?_)))))))
   obtain ⟨q54, M⟩ | ⟨q54, M⟩ := ifd M
   ·refine cF (bF q54) (wK (tN ?_))
    have S60 := St.first (Fa := []) (Fr := [F50]) S51
    exact ⟨_, H45, 0, 0, (hdw (hdc (hdc (hdc (hdc rfl kr) kr) kr) kr)), E53, S60, M⟩
   refine cT (bT q54) (wQ (wR (lP 1 ?_)))
   obtain ⟨q55, M⟩ := chk M
   obtain ⟨b56, e58⟩ := Row.addr h49 (show 0 < t42.1.length by omega)
   refine lV 56 (e_indexAddr (b := b56) (off := 0) (n := t42.1.length) (c := c48) (sz := 1) (i := 0) (k := .i64) underlying22 e58 kr kr rfl (by omega) q55) (lV 57 (eK underlying5 (hpx (Row.pick (j := 0) (u := .int .u8 ((t42.1.getD 0 (0 : UInt8)).toNat : Int)) h49 e58 (getD_some (0 : UInt8) (show 0 < t42.1.length by omega)) (fun _ _ o_ => by rw [show _ = _ from o_]; rfl)))) (lV 58 (e_conv_8i (a := (t42.1.getD 0 (0 : UInt8))) kr underlying3 kr) (lP 1 (wN (tN (wR (lP 3 (wN (tN ?_)))))))))
   have S59 := St.first (Fa := []) (Fr := [F50]) S51
   exact ⟨_, H45, (i64.wrap (3 + t42.2)), ((t42.1.getD 0 (0 : UInt8)).toNat : Int), (hdw (hdc (hdc (hdc (hdc rfl kr) kr) kr) kr)), E53, S59, M⟩
  refine cF (bF q41) (wQ (wR (lP 6 (lP1 3 66 (bT q19) ?_))))
  obtain ⟨b61, o62, e63⟩ := Rd.addr h4 (show ((i64.wrap (x6 + 2))).toNat < x1.length by omega)
  obtain ⟨y64, r65, k66⟩ := Rd.at h4 e63 (getD_some (0 : UInt8) (show ((i64.wrap (x6 + 2))).toNat < x1.length by omega))
  obtain rfl := r65
  refine lG 70 66 (bT q19) (eJ underlying22 e63 q18 q19) (lG 71 66 (bT q19) (eK underlying5 (hpx (S0_.inv.cell (k66 0 _ rfl)))) (lG 72 66 (bT q19) (eNe .u8 ((x1.getD (((i64.wrap (x6 + 2))).toNat) (0 : UInt8)).toNat : Int) 39) (lP1 2 66 (bT q19) ?_)))
  obtain ⟨q67, M⟩ | ⟨q67, M⟩ := ifd M
  ·refine lP1 7 74 (bF q67) (wN (tN (cond_f rfl kr (wK (tN ?_)))))
   exact ⟨_, H, 0, 0, (hdw (hdc (hdc (hdc (hdc rfl kr) kr) kr) kr)), (Ext.refl _), S0_, M⟩
  refine lP1 3 74 (bT q67) ?_
  obtain ⟨b68, o69, e70⟩ := Rd.addr h4 (show ((i64.wrap (x6 + 2))).toNat < x1.length by omega)
  obtain ⟨y71, r72, k73⟩ := Rd.at h4 e70 (getD_some (0 : UInt8) (show ((i64.wrap (x6 + 2))).toNat < x1.length by omega))
  obtain rfl := r72
  refine lG 78 74 (bT q67) (eJ underlying22 e70 q18 q19) (lG 79 74 (bT q67) (eK underlying5 (hpx (S0_.inv.cell (k73 0 _ rfl)))) ?_)
  obtain ⟨t74, u75, M⟩ := bnd M
  refine lcallg (d := 80) (t := 74) rfl kr rfl (bT q67) rfl kr (eE func67) (spec_l1raw.calls  S0_.own0 u75) ?_
  rintro _ w76 ⟨rfl, C77⟩
  refine ⟨_, rfl, ?_⟩
  obtain ⟨S78, K79⟩ := S0_.still C77
  refine lP1 1 74 (bT q67) (wN (tN ?_))
  obtain ⟨q80, M⟩ | ⟨q80, M⟩ := ifd M
  ·refine cF (bvf q80 kr) (wK (tN ?_))
   exact ⟨_, H, 0, 0, (hdw (hdc (hdc (hdc (hdc rfl kr) kr) kr) kr)), (Ext.refl _), S78, M⟩
  refine cT (bvt q80 kr) (wQ (wR (lP 3 ?_)))
  obtain ⟨b81, o82, e83⟩ := Rd.addr h4 (show ((i64.wrap (x6 + 2))).toNat < x1.length by omega)
  obtain ⟨y84, r85, k86⟩ := Rd.at h4 e83 (getD_some (0 : UInt8) (show ((i64.wrap (x6 + 2))).toNat < x1.length by omega))
  obtain rfl := r85
  refine lV 85 (eJ underlying22 e83 q18 q19) (lV 86 (eK underlying5 (hpx (S78.inv.cell (k86 0 _ rfl)))) (lV 87 (e_conv_8i (a := (x1.getD (((i64.wrap (x6 + 2))).toNat) (0 : UInt8))) kr underlying3 kr) (lP 1 (wN (tN (wR (lP 1 (wN (tN ?_)))))))))
  exact ⟨_, H, 3, ((x1.getD (((i64.wrap (x6 + 2))).toNat) (0 : UInt8)).toNat : Int), (hdw (hdc (hdc (hdc (hdc rfl kr) kr) kr) kr)), (Ext.refl _), S78, M⟩
 clear M
 rintro a16 w7 ⟨f8, H9, x11, x12, rfl, Y10, S13, M⟩
 rw [spec_l1char.l0] at M
 refine wQ (wQ (wR (lP 3 ?_)))
 obtain ⟨q193, M⟩ | ⟨q193, M⟩ := ifc M
 ·refine lP1 16 90 (bT q193) (wN (tN (cond_t rfl kr (wQ (wR (lP 3 (wN (tN (wT (tR ?_))))))))))
  obtain rfl := sj M
  exact ret3 rfl rfl rfl rfl kr kr kr ⟨rfl, S13.chg⟩
 refine lP1 7 90 (bF q193) ?_
 obtain ⟨q194, M⟩ | ⟨q194, M⟩ := ifd M
 ·refine lP2 9 97 (bF q194) 90 (bF q193) (wN (tN (cond_f rfl kr (wK (tN (wQ (wR (lP 5 (wN (tN (wT ?_)))))))))))
  obtain rfl := sj M
  exact ret3 rfl rfl rfl rfl kr kr kr ⟨rfl, S13.chg⟩
 refine lP1 4 97 (bT q194) ?_
 obtain ⟨q195, M⟩ := chk M
 obtain ⟨b196, o197, e198⟩ := Rd.addr h4 (show ((i64.wrap (x6 + x11))).toNat < x1.length by omega)
 obtain ⟨y199, r200, k201⟩ := Rd.at h4 e198 (getD_some (0 : UInt8) (show ((i64.wrap (x6 + x11))).toNat < x1.length by omega))
 obtain rfl := r200
 refine lG 102 97 (bT q194) (eJ underlying22 e198 q195 q194) (lG 103 97 (bT q194) (eK underlying5 (hpx (S13.inv.cell (Y10.cell (k201 0 _ rfl))))) ?_)
 obtain ⟨t202, u203, M⟩ := bnd M
 refine lcallg (d := 104) (t := 97) rfl kr rfl (bT q194) rfl kr (eE func30) (spec_l1alnum.calls  S13.own0 u203) ?_
 rintro _ w204 ⟨rfl, C205⟩
 refine ⟨_, rfl, ?_⟩
 obtain ⟨S206, K207⟩ := S13.still C205
 refine lP2 2 90 (bF q193) 97 (bT q194) (wN (tN ?_))
 obtain ⟨q208, M⟩ | ⟨q208, M⟩ := ifc M
 ·refine cT (bvt q208 kr) (wQ (wR (lP 3 (wN (tN (wT (tR ?_)))))))
  obtain rfl := sj M
  exact ret3 rfl rfl rfl rfl kr kr kr ⟨rfl, S206.chg⟩
 refine cF (bvf q208 kr) (wK (tN (wQ (wR (lP 5 (wN (tN (wT ?_))))))))
 obtain rfl := sj M
 exact ret3 rfl rfl rfl rfl kr kr kr ⟨rfl, S206.chg⟩
mutual
def spec_l1number.l2 : Nat → (List UInt8) → Int → Int → Int → Int → Bool → Option (Int × Int × Int)
 | 0, _, _, _, _, _, _ => none
 | k76 + 1, x1, x6, x9, x68, x69, x70 => (if (i64.wrap (x6 + x68)) < (x1.length : Int) then (if 0 ≤ (i64.wrap (x6 + x68)) then ((spec_l1hex.f (x1.getD (((i64.wrap (x6 + x68))).toNat) (0 : UInt8))).bind fun t85 => (if t85 < x9 then ((spec_l1hex.f (x1.getD (((i64.wrap (x6 + x68))).toNat) (0 : UInt8))).bind fun t98 => (if (i64.wrap ((i64.wrap (x69 * x9)) + t98)) > 1000000000000000 then (spec_l1number.l3 k76 x1 x6 x9 x68 1000000000000000 true) else (spec_l1number.l3 k76 x1 x6 x9 x68 (i64.wrap ((i64.wrap (x69 * x9)) + t98)) x70))) else ((spec_l1alnum.f (x1.getD (((i64.wrap (x6 + x68))).toNat) (0 : UInt8))).bind fun t122 => (if t122 = true then some (0, 0, 2) else (if x70 = true then some (0, 0, 3) else some (x69, x68, 0)))))) else none) else (if x70 = true then some (0, 0, 3) else some (x69, x68, 0)))
def spec_l1number.l3 : Nat → (List UInt8) → Int → Int → Int → Int → Bool → Option (Int × Int × Int)
 | 0, _, _, _, _, _, _ => none
 | k112 + 1, x1, x6, x9, x68, x106, x107 => (spec_l1number.l2 k112 x1 x6 x9 (i64.wrap (x68 + 1)) x106 x107)
end
def spec_l1number.l0 (k : Nat) (x1 : List UInt8) (x6 : Int) (x9 : Int) (x10 : Int) : Option (Int × Int × Int) := (spec_l1number.l2 k x1 x6 x9 x10 0 false)
def spec_l1number.l1 (k : Nat) (x1 : List UInt8) (x6 : Int) (x41 : Int) : Option (Int × Int × Int) := (if x41 > 0 then (if (i64.wrap (x6 + 2)) < (x1.length : Int) then (if 0 ≤ (i64.wrap (x6 + 2)) then ((spec_l1hex.f (x1.getD (((i64.wrap (x6 + 2))).toNat) (0 : UInt8))).bind fun t58 => (if t58 < x41 then (spec_l1number.l0 k x1 x6 x41 2) else (spec_l1number.l0 k x1 x6 10 0))) else none) else (spec_l1number.l0 k x1 x6 10 0)) else (spec_l1number.l0 k x1 x6 10 0))
def spec_l1number.f (k : Nat) (x1 : List UInt8) (x6 : Int) : Option (Int × Int × Int) := (if 0 ≤ x6 then (if x6 < (x1.length : Int) then (if ((x1.getD ((x6).toNat) (0 : UInt8)).toNat : Int) = 48 then (if (i64.wrap (x6 + 1)) < (x1.length : Int) then (if 0 ≤ (i64.wrap (x6 + 1)) then (if ((x1.getD (((i64.wrap (x6 + 1))).toNat) (0 : UInt8)).toNat : Int) = 39 then ((spec_l1char.f k x1 x6).bind fun t33 => some (t33.1, t33.2.1, t33.2.2)) else (if ((x1.getD (((i64.wrap (x6 + 1))).toNat) (0 : UInt8)).toNat : Int) = 120 then (spec_l1number.l1 k x1 x6 16) else (if ((x1.getD (((i64.wrap (x6 + 1))).toNat) (0 : UInt8)).toNat : Int) = 111 then (spec_l1number.l1 k x1 x6 8) else (if ((x1.getD (((i64.wrap (x6 + 1))).toNat) (0 : UInt8)).toNat : Int) = 98 then (spec_l1number.l1 k x1 x6 2) else (spec_l1number.l1 k x1 x6 0))))) else none) else (spec_l1number.l0 k x1 x6 10 0)) else (spec_l1number.l0 k x1 x6 10 0)) else none) else none)
theorem spec_l1number.calls {k : Nat} {w : World} {H : Hp} {x1 : List UInt8} {A2 : Option Addr} {c3 : Nat} {x6 : Int} (h4 : Rd tByte H A2 x1) (l5 : x1.length ≤ c3) (S : Own [] H w) {r : Int × Int × Int} (M : spec_l1number.f k x1 x6 = some r) :
  Calls Tryz.prog 29 #[.slice A2 x1.length c3, .int .i64 x6] w (fun e e_w => e = .returned (.tuple #[.int .i64 r.1, .int .i64 r.2.1, .int .i64 r.2.2]) ∧ Chg no w e_w) := by
 rw [spec_l1number.f] at M
 refine enter (l := [.slice A2 x1.length c3, .int .i64 x6]) 114 func29 rfl rfl rfl ?_
 have S0_ := S.st
 refine wQ (wR (lP 3 (wN (tN (wQ (wR (lP 1 (wN (tN (wQ (wR (lP 1 (wN (tN ?_))))))))))))))
 refine wp_seq_cut (fun a14 w7 => ∃ (f8 : Nat → Value) (x9 : Int) (x10 : Int), a14 = mk 114 (upd (upd (upd (upd f8 0 (.slice A2 x1.length c3)) 1 (.int .i64 x6)) 7 (.int .i64 x9)) 8 (.int .i64 x10)) ∧ St (anyOf []) H w [] H w7 ∧ spec_l1number.l0 k x1 x6 x9 x10 = some r) ?_ ?_
 ·refine wQ (wR (lP 2 ?_))
  obtain ⟨q15, M⟩ := chk M
  obtain ⟨q16, M⟩ := chk M
  obtain ⟨b17, o18, e19⟩ := Rd.addr h4 (show (x6).toNat < x1.length by omega)
  obtain ⟨y20, r21, k22⟩ := Rd.at h4 e19 (getD_some (0 : UInt8) (show (x6).toNat < x1.length by omega))
  obtain rfl := r21
  refine lV 15 (eJ underlying22 e19 q15 q16) (lV 16 (eK underlying5 (hpx (S0_.inv.cell (k22 0 _ rfl)))) (lP 2 ?_))
  obtain ⟨q23, M⟩ | ⟨q23, M⟩ := ifd M
  ·refine lP1 6 18 (bF q23) (wN (tN (cond_f rfl kr (wK (tN ?_)))))
   exact ⟨_, 10, 0, (hdw (hdc (hdc (hdc (hdc rfl kr) kr) kr) kr)), S0_, M⟩
  refine lP1 6 18 (bT q23) (wN (tN ?_))
  obtain ⟨q24, M⟩ | ⟨q24, M⟩ := ifd M
  ·refine cF (bF q24) (wK (tN ?_))
   exact ⟨_, 10, 0, (hdw (hdc (hdc (hdc (hdc rfl kr) kr) kr) kr)), S0_, M⟩
  refine cT (bT q24) (wQ (wR (lP 3 ?_)))
  obtain ⟨q25, M⟩ := chk M
  obtain ⟨b26, o27, e28⟩ := Rd.addr h4 (show ((i64.wrap (x6 + 1))).toNat < x1.length by omega)
  obtain ⟨y29, r30, k31⟩ := Rd.at h4 e28 (getD_some (0 : UInt8) (show ((i64.wrap (x6 + 1))).toNat < x1.length by omega))
  obtain rfl := r30
  refine lV 28 (eJ underlying22 e28 q25 q24) (lV 29 (eK underlying5 (hpx (S0_.inv.cell (k31 0 _ rfl)))) (lP 1 (wN (tN (wQ (wQ (wR (lP 2 (wN (tN ?_))))))))))
  obtain ⟨q32, M⟩ | ⟨q32, M⟩ := ifc M
  ·refine cT (bT q32) (wQ (wR (lP 2 ?_)))
   obtain ⟨t33, u34, M⟩ := bnd M
   refine lC 34 (eE func64) (spec_l1char.calls h4 l5 S0_.own0 u34) ?_
   rintro _ w35 ⟨rfl, C36⟩
   refine ⟨_, rfl, ?_⟩
   obtain ⟨S37, K38⟩ := S0_.still C36
   refine lP 6 (wN (tN (wT (tR (tR ?_)))))
   obtain rfl := sj M
   exact ret3 rfl rfl rfl rfl kr kr kr ⟨rfl, S37.chg⟩
  refine cF (bF q32) (wK (tN (wQ (wR (lP 1 (wN (tN ?_)))))))
  refine wp_seq_cut (fun a45 w39 => ∃ (f40 : Nat → Value) (x41 : Int), a45 = mk 114 (upd (upd (upd (upd (upd f40 0 (.slice A2 x1.length c3)) 1 (.int .i64 x6)) 7 (.int .i64 10)) 8 (.int .i64 0)) 10 (.int .i64 x41)) ∧ St (anyOf []) H w [] H w39 ∧ spec_l1number.l1 k x1 x6 x41 = some r) ?_ ?_
  ·refine wQ (wR (lP 2 (wN (tN ?_))))
   obtain ⟨q46, M⟩ | ⟨q46, M⟩ := ifc M
   ·refine cT (bT q46) (wR (lP 1 (wN (tN ?_))))
    exact ⟨_, 16, (hdw (hdc (hdc (hdc (hdc (hdc rfl kr) kr) kr) kr) kr)), S0_, M⟩
   refine cF (bF q46) (wQ (wR (lP 2 (wN (tN ?_)))))
   obtain ⟨q47, M⟩ | ⟨q47, M⟩ := ifc M
   ·refine cT (bT q47) (wR (lP 1 (wN (tN ?_))))
    exact ⟨_, 8, (hdw (hdc (hdc (hdc (hdc (hdc rfl kr) kr) kr) kr) kr)), S0_, M⟩
   refine cF (bF q47) (wQ (wR (lP 2 (wN (tN ?_)))))
   obtain ⟨q48, M⟩ | ⟨q48, M⟩ := ifd M
   ·refine cF (bF q48) (wK (tN ?_))
    exact ⟨_, 0, (hdw (hdc (hdc (hdc (hdc (hdc rfl kr) kr) kr) kr) kr)), S0_, M⟩
   refine cT (bT q48) (wR (lP 1 (wN (tN ?_))))
   exact ⟨_, 2, (hdw (hdc (hdc (hdc (hdc (hdc rfl kr) kr) kr) kr) kr)), S0_, M⟩
  clear M
  rintro a45 w39 ⟨f40, x41, rfl, S42, M⟩
  rw [spec_l1number.l1] at M
  refine wQ (wR (lP 3 ?_))
  obtain ⟨q49, M⟩ | ⟨q49, M⟩ := ifd M
  ·refine lP1 16 46 (bF q49) (wN (tN (cond_f rfl kr (wK (tN ?_)))))
   exact ⟨_, 10, 0, (hdw (hdc (hdc (hdc (hdc rfl kr) kr) kr) kr)), S42, M⟩
  refine lP1 7 46 (bT q49) ?_
  obtain ⟨q50, M⟩ | ⟨q50, M⟩ := ifd M
  ·refine lP1 9 53 (bF q50) (wN (tN (cond_f rfl kr (wK (tN ?_)))))
   exact ⟨_, 10, 0, (hdw (hdc (hdc (hdc (hdc rfl kr) kr) kr) kr)), S42, M⟩
  refine lP1 3 53 (bT q50) ?_
  obtain ⟨q51, M⟩ := chk M
  obtain ⟨b52, o53, e54⟩ := Rd.addr h4 (show ((i64.wrap (x6 + 2))).toNat < x1.length by omega)
  obtain ⟨y55, r56, k57⟩ := Rd.at h4 e54 (getD_some (0 : UInt8) (show ((i64.wrap (x6 + 2))).toNat < x1.length by omega))
  obtain rfl := r56
  refine lG 57 53 (bT q50) (eJ underlying22 e54 q51 q50) (lG 58 53 (bT q50) (eK underlying5 (hpx (S42.inv.cell (k57 0 _ rfl)))) ?_)
  obtain ⟨t58, u59, M⟩ := bnd M
  refine lcallg (d := 59) (t := 53) rfl kr rfl (bT q50) rfl kr (eE func65) (spec_l1hex.calls  S42.own0 u59) ?_
  rintro _ w60 ⟨rfl, C61⟩
  refine ⟨_, rfl, ?_⟩
  obtain ⟨S62, K63⟩ := S42.still C61
  refine lP1 3 53 (bT q50) (wN (tN ?_))
  obtain ⟨q64, M⟩ | ⟨q64, M⟩ := ifd M
  ·refine cF (bF q64) (wK (tN ?_))
   exact ⟨_, 10, 0, (hdw (hdc (hdc (hdc (hdc rfl kr) kr) kr) kr)), S62, M⟩
  refine cT (bT q64) (wQ (wR (lP 2 (wN (tN (wR (lP 1 (wN (tN ?_)))))))))
  exact ⟨_, x41, 2, (hdw (hdc (hdc (hdc (hdc rfl kr) kr) kr) kr)), S62, M⟩
 clear M
 rintro a14 w7 ⟨f8, x9, x10, rfl, S11, M⟩
 rw [spec_l1number.l0] at M
 refine wQ (wR (lP 1 (wN (tN (wQ (wR (lP 1 (wN (tN (wQ (wp_block ?_)))))))))))
 refine wp_loop_g (fun k74 a75 w66 => ∃ (f67 : Nat → Value) (x68 : Int) (x69 : Int) (x70 : Bool), a75 = mk 114 (upd (upd (upd (upd (upd (upd f67 0 (.slice A2 x1.length c3)) 1 (.int .i64 x6)) 7 (.int .i64 x9)) 8 (.int .i64 x68)) 11 (.int .i64 x69)) 12 (.bool x70)) ∧ St (anyOf []) H w [] H w66 ∧ spec_l1number.l2 k74 x1 x6 x9 x68 x69 x70 = some r) k ⟨_, x10, 0, false, (hdw (hdc (hdc (hdc (hdc (hdc (hdc rfl kr) kr) kr) kr) kr) kr)), S11, M⟩ ?_
 clear M
 rintro k74 a75 w66 ⟨f67, x68, x69, x70, rfl, S71, M⟩
 rcases k74 with _ | k76
 ·rw [spec_l1number.l2] at M
  cases M
 rw [spec_l1number.l2] at M
 refine wQ (wQ (wR (lP 7 ?_)))
 obtain ⟨q77, M⟩ | ⟨q77, M⟩ := ifd M
 ·refine lP1 10 70 (bF q77) (wN (tN (cond_f rfl kr (wp_exit (tE (tE (inb_hit (tN (wQ (wQ (wR (lP 7 (lP1 8 102 (bF q77) (wN (tN (cond_f rfl kr (wK (tN (wQ (wQ (wR (lP 1 (wN (tN ?_))))))))))))))))))))))))
  obtain ⟨q130, M⟩ | ⟨q130, M⟩ := ifc M
  ·refine cT (bvt q130 kr) (wQ (wR (lP 3 (wN (tN (wT (tR ?_)))))))
   obtain rfl := sj M
   exact ret3 rfl rfl rfl rfl kr kr kr ⟨rfl, S71.chg⟩
  refine cF (bvf q130 kr) (wK (tN (wQ (wR (lP 5 (wN (tN (wT ?_))))))))
  obtain rfl := sj M
  exact ret3 rfl rfl rfl rfl kr kr kr ⟨rfl, S71.chg⟩
 refine lP1 4 70 (bT q77) ?_
 obtain ⟨q78, M⟩ := chk M
 obtain ⟨b79, o80, e81⟩ := Rd.addr h4 (show ((i64.wrap (x6 + x68))).toNat < x1.length by omega)
 obtain ⟨y82, r83, k84⟩ := Rd.at h4 e81 (getD_some (0 : UInt8) (show ((i64.wrap (x6 + x68))).toNat < x1.length by omega))
 obtain rfl := r83
 refine lG 75 70 (bT q77) (eJ underlying22 e81 q78 q77) (lG 76 70 (bT q77) (eK underlying5 (hpx (S71.inv.cell (k84 0 _ rfl)))) ?_)
 obtain ⟨t85, u86, M⟩ := bnd M
 refine lcallg (d := 77) (t := 70) rfl kr rfl (bT q77) rfl kr (eE func65) (spec_l1hex.calls  S71.own0 u86) ?_
 rintro _ w87 ⟨rfl, C88⟩
 refine ⟨_, rfl, ?_⟩
 obtain ⟨S89, K90⟩ := S71.still C88
 refine lP1 3 70 (bT q77) (wN (tN ?_))
 obtain ⟨q91, M⟩ | ⟨q91, M⟩ := ifc M
 ·refine cT (bT q91) (wK (tN (wp_block (wQ (wR (lP 7 ?_))))))
  obtain ⟨b92, o93, e94⟩ := Rd.addr h4 (show ((i64.wrap (x6 + x68))).toNat < x1.length by omega)
  obtain ⟨y95, r96, k97⟩ := Rd.at h4 e94 (getD_some (0 : UInt8) (show ((i64.wrap (x6 + x68))).toNat < x1.length by omega))
  obtain rfl := r96
  refine lV 88 (eJ underlying22 e94 q78 q77) (lV 89 (eK underlying5 (hpx (S89.inv.cell (k97 0 _ rfl)))) ?_)
  obtain ⟨t98, u99, M⟩ := bnd M
  refine lC 90 (eE func65) (spec_l1hex.calls  S89.own0 u99) ?_
  rintro _ w100 ⟨rfl, C101⟩
  refine ⟨_, rfl, ?_⟩
  obtain ⟨S102, K103⟩ := S89.still C101
  refine lP 2 (wN (tN ?_))
  refine wp_seq_cut (fun a111 w104 => ∃ (k113 : Nat), k113 ≤ k76 ∧ ∃ (f105 : Nat → Value) (x106 : Int) (x107 : Bool), a111 = mk 114 (upd (upd (upd (upd (upd (upd f105 0 (.slice A2 x1.length c3)) 1 (.int .i64 x6)) 7 (.int .i64 x9)) 8 (.int .i64 x68)) 11 (.int .i64 x106)) 12 (.bool x107)) ∧ St (anyOf []) H w [] H w104 ∧ spec_l1number.l3 k113 x1 x6 x9 x68 x106 x107 = some r) ?_ ?_
  ·refine wQ (wR (lP 2 (wN (tN ?_))))
   obtain ⟨q114, M⟩ | ⟨q114, M⟩ := ifd M
   ·refine cF (bF q114) (wK (tN ?_))
    exact ⟨k76, (by omega), _, (i64.wrap ((i64.wrap (x69 * x9)) + t98)), x70, (hdw (hdc (hdc (hdc (hdc (hdc (hdc rfl kr) kr) kr) kr) kr) kr)), S102, M⟩
   refine cT (bT q114) (wQ (wR (lP 1 (wN (tN (wR (lP 1 (wN (tN ?_)))))))))
   exact ⟨k76, (by omega), _, 1000000000000000, true, (hdw (hdc (hdc (hdc (hdc (hdc (hdc rfl kr) kr) kr) kr) kr) kr)), S102, M⟩
  clear M
  rintro a111 w104 ⟨k113, z115, f105, x106, x107, rfl, S108, M⟩
  rcases k113 with _ | k112
  ·rw [spec_l1number.l3] at M
   cases M
  rw [spec_l1number.l3] at M
  refine wR (lP 3 (wN (inb_n (tN ?_))))
  exact ⟨k112, (by omega), _, (i64.wrap (x68 + 1)), x106, x107, (hdw (hdc (hdc (hdc (hdc (hdc (hdc rfl kr) kr) kr) kr) kr) kr)), S108, M⟩
 refine cF (bF q91) (wp_exit (tE (tE (inb_hit (tN (wQ (wQ (wR (lP 7 (lP1 4 102 (bT q77) ?_))))))))))
 obtain ⟨b116, o117, e118⟩ := Rd.addr h4 (show ((i64.wrap (x6 + x68))).toNat < x1.length by omega)
 obtain ⟨y119, r120, k121⟩ := Rd.at h4 e118 (getD_some (0 : UInt8) (show ((i64.wrap (x6 + x68))).toNat < x1.length by omega))
 obtain rfl := r120
 refine lG 107 102 (bT q77) (eJ underlying22 e118 q78 q77) (lG 108 102 (bT q77) (eK underlying5 (hpx (S89.inv.cell (k121 0 _ rfl)))) ?_)
 obtain ⟨t122, u123, M⟩ := bnd M
 refine lcallg (d := 109) (t := 102) rfl kr rfl (bT q77) rfl kr (eE func30) (spec_l1alnum.calls  S89.own0 u123) ?_
 rintro _ w124 ⟨rfl, C125⟩
 refine ⟨_, rfl, ?_⟩
 obtain ⟨S126, K127⟩ := S89.still C125
 refine lP1 1 102 (bT q77) (wN (tN ?_))
 obtain ⟨q128, M⟩ | ⟨q128, M⟩ := ifc M
 ·refine cT (bvt q128 kr) (wQ (wR (lP 3 (wN (tN (wT (tR ?_)))))))
  obtain rfl := sj M
  exact ret3 rfl rfl rfl rfl kr kr kr ⟨rfl, S126.chg⟩
 refine cF (bvf q128 kr) (wK (tN (wQ (wQ (wR (lP 1 (wN (tN ?_))))))))
 obtain ⟨q129, M⟩ | ⟨q129, M⟩ := ifc M
 ·refine cT (bvt q129 kr) (wQ (wR (lP 3 (wN (tN (wT (tR ?_)))))))
  obtain rfl := sj M
  exact ret3 rfl rfl rfl rfl kr kr kr ⟨rfl, S126.chg⟩
 refine cF (bvf q129 kr) (wK (tN (wQ (wR (lP 5 (wN (tN (wT ?_))))))))
 obtain rfl := sj M
 exact ret3 rfl rfl rfl rfl kr kr kr ⟨rfl, S126.chg⟩
def spec_l1text.l0 : Nat → (List UInt8) → Int → (List UInt8) → Int → Option ((List UInt8) × Int)
 | 0, _, _, _, _ => none
 | k30 + 1, x1, x6, x19, x24 => (if x24 < (x1.length : Int) then (if 0 ≤ x24 then (if ((x1.getD ((x24).toNat) (0 : UInt8)).toNat : Int) = ((x1.getD ((x6).toNat) (0 : UInt8)).toNat : Int) then (if (i64.wrap (x24 + 1)) ≥ (x1.length : Int) then some (x19, (i64.wrap ((i64.wrap (x24 + 1)) - x6))) else (if 0 ≤ (i64.wrap (x24 + 1)) then (if (i64.wrap (x24 + 1)) < (x1.length : Int) then (if ((x1.getD (((i64.wrap (x24 + 1))).toNat) (0 : UInt8)).toNat : Int) ≠ ((x1.getD ((x6).toNat) (0 : UInt8)).toNat : Int) then some (x19, (i64.wrap ((i64.wrap (x24 + 1)) - x6))) else (if x19.length + 1 ≤ 140737488355328 then (spec_l1text.l0 k30 x1 x6 (x19 ++ [(x1.getD ((x6).toNat) (0 : UInt8))]) (i64.wrap (x24 + 2))) else none)) else none) else none)) else (if ((x1.getD ((x24).toNat) (0 : UInt8)).toNat : Int) = 92 then ((spec_l1escape.f k30 x1 (i64.wrap (x24 + 1))).bind fun t75 => (if t75.2 = 0 then some ([], 0) else (if x19.length + t75.1.length ≤ 140737488355328 then (spec_l1text.l0 k30 x1 x6 (x19 ++ t75.1) (i64.wrap (x24 + (i64.wrap (t75.2 + 1))))) else none))) else ((spec_l1raw.f (x1.getD ((x24).toNat) (0 : UInt8))).bind fun t111 => (if t111 = true then (if x19.length + 1 ≤ 140737488355328 then (spec_l1text.l0 k30 x1 x6 (x19 ++ [(x1.getD ((x24).toNat) (0 : UInt8))]) (i64.wrap (x24 + 1))) else none) else some ([], 0))))) else none) else some ([], 0))
def spec_l1text.f (k : Nat) (x1 : List UInt8) (x6 : Int) : Option ((List UInt8) × Int) := (if 0 ≤ x6 then (if x6 < (x1.length : Int) then (spec_l1text.l0 k x1 x6 [] (i64.wrap (x6 + 1))) else none) else none)
theorem spec_l1text.calls {k : Nat} {w : World} {H : Hp} {x1 : List UInt8} {A2 : Option Addr} {c3 : Nat} {x6 : Int} (h4 : Rd tByte H A2 x1) (l5 : x1.length ≤ c3) (S : Own [] H w) {r : (List UInt8) × Int} (M : spec_l1text.f k x1 x6 = some r) :
  Calls Tryz.prog 34 #[.slice A2 x1.length c3, .int .i64 x6] w (fun e e_w => ∃ (A_1 : Option Addr) (c_1 : Nat) (F_1 : Foot) (H_ : Hp), e = .returned (.tuple #[.slice A_1 r.1.length c_1, .int .i64 r.2]) ∧ Row tByte 5 H_ (hp e_w) F_1 A_1 c_1 r.1 ∧ St (anyOf []) H w [F_1] H_ e_w) := by
 rw [spec_l1text.f] at M
 refine enter (l := [.slice A2 x1.length c3, .int .i64 x6]) 87 func34 rfl rfl rfl ?_
 have S0_ := S.st
 refine wQ (wR (lP 2 (wN (tN (wQ (wR (lP 2 ?_)))))))
 obtain ⟨q7, M⟩ := chk M
 obtain ⟨q8, M⟩ := chk M
 obtain ⟨b9, o10, e11⟩ := Rd.addr h4 (show (x6).toNat < x1.length by omega)
 obtain ⟨y12, r13, k14⟩ := Rd.at h4 e11 (getD_some (0 : UInt8) (show (x6).toNat < x1.length by omega))
 obtain rfl := r13
 refine lV 13 (eJ underlying22 e11 q7 q8) (lV 14 (eK underlying5 (hpx (S0_.inv.cell (k14 0 _ rfl)))) (lP 1 (wN (tN (wQ (wR (lP 1 (wN (tN (wQ (wR (lP 3 (wN (tN (wQ (wp_block ?_))))))))))))))))
 have S31 := S0_.unit
 refine wp_loop_g (fun k28 a29 w15 => ∃ (f16 : Nat → Value) (H17 : Hp) (x19 : List UInt8) (A20 : Option Addr) (c21 : Nat) (F22 : Foot) (x24 : Int), a29 = mk 87 (upd (upd (upd (upd (upd f16 0 (.slice A2 x1.length c3)) 1 (.int .i64 x6)) 6 (.int .u8 ((x1.getD ((x6).toNat) (0 : UInt8)).toNat : Int))) 7 (.slice A20 x19.length c21)) 8 (.int .i64 x24)) ∧ Row tByte 5 H17 (hp w15) F22 A20 c21 x19 ∧ Ext H H17 ∧ St (anyOf []) H w [F22] H17 w15 ∧ spec_l1text.l0 k28 x1 x6 x19 x24 = some r) k ⟨_, H, [], none, 0, no, (i64.wrap (x6 + 1)), (hdw (hdc (hdc (hdc (hdc (hdc rfl kr) kr) kr) kr) kr)), (Row.nil _ _ _ _ _), (Ext.refl _), S31, M⟩ ?_
 clear M
 rintro k28 a29 w15 ⟨f16, H17, x19, A20, c21, F22, x24, rfl, h23, Y18, S25, M⟩
 rcases k28 with _ | k30
 ·rw [spec_l1text.l0] at M
  cases M
 rw [spec_l1text.l0] at M
 refine wQ (wQ (wR (lP 4 (wN (tN ?_)))))
 obtain ⟨q32, M⟩ | ⟨q32, M⟩ := ifd M
 ·refine cF (bF q32) (wp_exit (tE (tE (inb_hit (tN (wQ (wR (lP 2 (wN (tN (wT ?_)))))))))))
  obtain rfl := sj M
  have S143 := S25.unit
  have S144 := St.first (Fa := [no]) (Fr := [F22]) S143
  exact ret2 rfl rfl rfl kr kr ⟨none, 0, no, H17, rfl, (Row.nil _ _ _ _ no), S144⟩
 refine cT (bT q32) (wK (tN (wp_block (wQ (wR (lP 2 ?_))))))
 obtain ⟨q33, M⟩ := chk M
 obtain ⟨b34, o35, e36⟩ := Rd.addr h4 (show (x24).toNat < x1.length by omega)
 obtain ⟨y37, r38, k39⟩ := Rd.at h4 e36 (getD_some (0 : UInt8) (show (x24).toNat < x1.length by omega))
 obtain rfl := r38
 refine lV 23 (eJ underlying22 e36 q33 q32) (lV 24 (eK underlying5 (hpx (S25.inv.cell (Y18.cell (k39 0 _ rfl))))) (lP 2 (wN (tN ?_))))
 obtain ⟨q40, M⟩ | ⟨q40, M⟩ := ifc M
 ·refine cT (bT q40) (wQ (wQ (wR (lP 6 ?_))))
  obtain ⟨q41, M⟩ | ⟨q41, M⟩ := ifc M
  ·refine lP1 8 32 (bT q41) (wN (tN (cond_t rfl kr (wQ (wR (lP 7 (wN (tN (wT (tR (inb_r (tR (inb_r (tR ?_))))))))))))))
   obtain rfl := sj M
   exact ret2 rfl rfl rfl kr kr ⟨A20, c21, F22, H17, rfl, h23, S25⟩
  refine lP1 3 32 (bF q41) ?_
  obtain ⟨q42, M⟩ := chk M
  obtain ⟨q43, M⟩ := chk M
  obtain ⟨b44, o45, e46⟩ := Rd.addr h4 (show ((i64.wrap (x24 + 1))).toNat < x1.length by omega)
  obtain ⟨y47, r48, k49⟩ := Rd.at h4 e46 (getD_some (0 : UInt8) (show ((i64.wrap (x24 + 1))).toNat < x1.length by omega))
  obtain rfl := r48
  refine lG 36 32 (bF q41) (eJ underlying22 e46 q42 q43) (lG 37 32 (bF q41) (eK underlying5 (hpx (S25.inv.cell (Y18.cell (k49 0 _ rfl))))) (lP1 1 32 (bF q41) (lG 39 32 (bF q41) (eNe .u8 ((x1.getD (((i64.wrap (x24 + 1))).toNat) (0 : UInt8)).toNat : Int) ((x1.getD ((x6).toNat) (0 : UInt8)).toNat : Int)) (lP1 1 32 (bF q41) (wN (tN ?_))))))
  obtain ⟨q50, M⟩ | ⟨q50, M⟩ := ifc M
  ·refine cT (bT q50) (wQ (wR (lP 7 (wN (tN (wT (tR (inb_r (tR ?_)))))))))
   refine inb_r (tR ?_)
   obtain rfl := sj M
   exact ret2 rfl rfl rfl kr kr ⟨A20, c21, F22, H17, rfl, h23, S25⟩
  refine cF (bF q50) (wK (tN (wQ (wR (lP 2 ?_)))))
  refine lW 48 (new_blk (v := fun g_ => .slice (some ⟨g_, 0, none⟩) 1 1) (cs := #[.int .u8 ((x1.getD ((x6).toNat) (0 : UInt8)).toNat : Int)]) (t := 5) S25 kr) ?_
  rintro _ w51 ⟨g52, rfl, b53, S54, K55⟩
  replace h23 := h23.move (K55.a 0)
  obtain ⟨q56, M⟩ := chk M
  have S57 := S54.pulls [F22, (is g52)] [1] rfl
  have S58 := S57.unit
  have S59 := S58.pulls [F22, no, (is g52)] [1] rfl
  refine lW 49 (e_append (d := tByte) (n := x19.length) (xs := x19) (cap := c21) (A := A20) (ys := [(x1.getD ((x6).toNat) (0 : UInt8))]) (A2 := (some ⟨g52, 0, none⟩)) (c2 := 1) (z := .int .u8 0) (bytes := 1) S59 underlying22 kr rfl (by decide) kr rfl kr h23 (elsO_one1 rfl) (.inr (blk_news b53 rfl)) (show (x19.length + [(x1.getD ((x6).toNat) (0 : UInt8))].length) * 1 ≤ _ by first | omega | (simp only [List.length_cons, List.length_nil]; omega)) (by decide)) ?_
  rintro _ w60 ⟨A61, c62, F63, rfl, h64, S65, K66⟩
  refine lP 1 (wN (tN (wR (lP 3 (wN ?_)))))
  refine inb_n (tN ?_)
  have S67 := St.first (Fa := [F63]) (Fr := [(is g52)]) S65
  exact ⟨k30, (by omega), _, H17, (x19 ++ [(x1.getD ((x6).toNat) (0 : UInt8))]), A61, c62, F63, (i64.wrap (x24 + 2)), (hdw (hdc (hdc (hdc (hdc (hdc rfl kr) kr) kr) kr) kr)), h64, Y18, S67, M⟩
 refine cF (bF q40) (wQ (wR (lP 2 ?_)))
 obtain ⟨b68, o69, e70⟩ := Rd.addr h4 (show (x24).toNat < x1.length by omega)
 obtain ⟨y71, r72, k73⟩ := Rd.at h4 e70 (getD_some (0 : UInt8) (show (x24).toNat < x1.length by omega))
 obtain rfl := r72
 refine lV 54 (eJ underlying22 e70 q33 q32) (lV 55 (eK underlying5 (hpx (S25.inv.cell (Y18.cell (k73 0 _ rfl))))) (lP 1 (wN (tN ?_))))
 obtain ⟨q74, M⟩ | ⟨q74, M⟩ := ifc M
 ·refine cT (bT q74) (wQ (wR (lP 3 ?_)))
  obtain ⟨t75, u76, M⟩ := bnd M
  refine lC 61 (eE func66) (spec_l1escape.calls (h4.ext Y18) l5 (St.own' (Fa := []) (Fr := [F22]) S25) u76) ?_
  rintro _ w77 ⟨A80, c81, F83, H78, rfl, h82, T79⟩
  refine ⟨_, rfl, ?_⟩
  obtain ⟨S84, K85⟩ := St.call (Fa := []) (Fr := [F22]) S25 T79
  replace h23 := h23.move (K85.a 0)
  have E86 := T79.ext
  replace h23 := h23.ext E86
  refine lP 5 (wN (tN (wQ (wQ (wR (lP 2 (wN (tN ?_))))))))
  obtain ⟨q87, M⟩ | ⟨q87, M⟩ := ifc M
  ·refine cT (bT q87) (wQ (wR (lP 2 (wN (tN (wT (tR (inb_r (tR (inb_r (tR ?_)))))))))))
   obtain rfl := sj M
   have S88 := S84.unit
   have S89 := St.first (Fa := [no]) (Fr := [F83, F22]) S88
   exact ret2 rfl rfl rfl kr kr ⟨none, 0, no, H78, rfl, (Row.nil _ _ _ _ no), S89⟩
  refine cF (bF q87) (wK (tN (wQ (wR (lP 2 ?_)))))
  obtain ⟨y90, h91, h92⟩ := Row.news0 (d := tByte) (oo_scal _ _) h82
  obtain ⟨q93, M⟩ := chk M
  have S94 := S84.pulls [F22, F83] [1] rfl
  have S95 := S94.unit
  have S96 := S95.pulls [F22, no, F83] [1] rfl
  refine lW 68 (e_append (d := tByte) (n := x19.length) (xs := x19) (cap := c21) (A := A20) (ys := t75.1) (A2 := A80) (c2 := c81) (z := .int .u8 0) (bytes := 1) S96 underlying22 kr rfl (by decide) kr rfl kr h23 h91 h92 (show (x19.length + t75.1.length) * 1 ≤ _ by first | omega | (simp only [List.length_cons, List.length_nil]; omega)) (by decide)) ?_
  rintro _ w97 ⟨A98, c99, F100, rfl, h101, S102, K103⟩
  refine lP 1 (wN (tN (wR (lP 5 (wN (inb_n (tN ?_)))))))
  have S104 := St.first (Fa := [F100]) (Fr := [F83]) S102
  exact ⟨k30, (by omega), _, H78, (x19 ++ t75.1), A98, c99, F100, (i64.wrap (x24 + (i64.wrap (t75.2 + 1)))), (hdw (hdc (hdc (hdc (hdc (hdc rfl kr) kr) kr) kr) kr)), h101, (Y18.trans E86), S104, M⟩
 refine cF (bF q74) (wQ (wR (lP 2 ?_)))
 obtain ⟨b105, o106, e107⟩ := Rd.addr h4 (show (x24).toNat < x1.length by omega)
 obtain ⟨y108, r109, k110⟩ := Rd.at h4 e107 (getD_some (0 : UInt8) (show (x24).toNat < x1.length by omega))
 obtain rfl := r109
 refine lV 75 (eJ underlying22 e107 q33 q32) (lV 76 (eK underlying5 (hpx (S25.inv.cell (Y18.cell (k110 0 _ rfl))))) ?_)
 obtain ⟨t111, u112, M⟩ := bnd M
 refine lC 77 (eE func67) (spec_l1raw.calls  S25.own0 u112) ?_
 rintro _ w113 ⟨rfl, C114⟩
 refine ⟨_, rfl, ?_⟩
 obtain ⟨S115, K116⟩ := S25.still C114
 replace h23 := h23.move (K116.a 0)
 refine wN (tN ?_)
 obtain ⟨q117, M⟩ | ⟨q117, M⟩ := ifd M
 ·refine cF (bvf q117 kr) (wQ (wR (lP 2 (wN (tN (wT ?_))))))
  refine inb_r (tR (inb_r (tR ?_)))
  obtain rfl := sj M
  have S141 := S115.unit
  have S142 := St.first (Fa := [no]) (Fr := [F22]) S141
  exact ret2 rfl rfl rfl kr kr ⟨none, 0, no, H17, rfl, (Row.nil _ _ _ _ no), S142⟩
 refine cT (bvt q117 kr) (wQ (wR (lP 3 ?_)))
 obtain ⟨b118, o119, e120⟩ := Rd.addr h4 (show (x24).toNat < x1.length by omega)
 obtain ⟨y121, r122, k123⟩ := Rd.at h4 e120 (getD_some (0 : UInt8) (show (x24).toNat < x1.length by omega))
 obtain rfl := r122
 refine lV 81 (eJ underlying22 e120 q33 q32) (lV 82 (eK underlying5 (hpx (S115.inv.cell (Y18.cell (k123 0 _ rfl))))) ?_)
 refine lW 83 (new_blk (v := fun g_ => .slice (some ⟨g_, 0, none⟩) 1 1) (cs := #[.int .u8 ((x1.getD ((x24).toNat) (0 : UInt8)).toNat : Int)]) (t := 5) S115 kr) ?_
 rintro _ w124 ⟨g125, rfl, b126, S127, K128⟩
 replace h23 := h23.move (K128.a 0)
 obtain ⟨q129, M⟩ := chk M
 have S130 := S127.pulls [F22, (is g125)] [1] rfl
 have S131 := S130.unit
 have S132 := S131.pulls [F22, no, (is g125)] [1] rfl
 refine lW 84 (e_append (d := tByte) (n := x19.length) (xs := x19) (cap := c21) (A := A20) (ys := [(x1.getD ((x24).toNat) (0 : UInt8))]) (A2 := (some ⟨g125, 0, none⟩)) (c2 := 1) (z := .int .u8 0) (bytes := 1) S132 underlying22 kr rfl (by decide) kr rfl kr h23 (elsO_one1 rfl) (.inr (blk_news b126 rfl)) (show (x19.length + [(x1.getD ((x24).toNat) (0 : UInt8))].length) * 1 ≤ _ by first | omega | (simp only [List.length_cons, List.length_nil]; omega)) (by decide)) ?_
 rintro _ w133 ⟨A134, c135, F136, rfl, h137, S138, K139⟩
 refine lP 1 (wN (tN (wR (lP 3 (wN ?_)))))
 refine inb_n (tN ?_)
 have S140 := St.first (Fa := [F136]) (Fr := [(is g125)]) S138
 exact ⟨k30, (by omega), _, H17, (x19 ++ [(x1.getD ((x24).toNat) (0 : UInt8))]), A134, c135, F136, (i64.wrap (x24 + 1)), (hdw (hdc (hdc (hdc (hdc (hdc rfl kr) kr) kr) kr) kr)), h137, Y18, S140, M⟩
end Go.Proofs.YtdkbfcmekppnmaaGreatDoor
