import Derived.Test.YtdkbfcmekppnmaaGreatDoorWkTk9
namespace Go.Proofs.YtdkbfcmekppnmaaGreatDoor
open Go.Sx Go.Sy IntKind Tryz
attribute [local irreducible] Go.wpList Go.wpStill Go.wpQuiet Go.Code.wp
set_option maxRecDepth 100000
set_option maxHeartbeats 1000000
set_option linter.unusedVariables false
set_option linter.unusedSimpArgs false
def impl_quoted.l0 : Nat → (List UInt8) → (List UInt8) → Int → Option (List UInt8)
 | 0, _, _, _ => none
 | k19 + 1, x1, x12, x13 => (if x13 < (x1.length : Int) then (if 0 ≤ x13 then (if ((x1.getD (x13 : Int).toNat (0 : UInt8)).toNat : Int) = 39 then (if ([92] : List UInt8).length + (runeS (IntKind.i32.wrap (((x1.getD (x13 : Int).toNat (0 : UInt8)).toNat : Int)))).length ≤ 9223372036854775807 then (if x12.length + (([92] : List UInt8) ++ (runeS (IntKind.i32.wrap (((x1.getD (x13 : Int).toNat (0 : UInt8)).toNat : Int))))).length ≤ 9223372036854775807 then (impl_quoted.l0 k19 x1 (x12 ++ (([92] : List UInt8) ++ (runeS (IntKind.i32.wrap (((x1.getD (x13 : Int).toNat (0 : UInt8)).toNat : Int)))))) (i64.wrap (x13 + 1))) else none) else none) else (if ((x1.getD (x13 : Int).toNat (0 : UInt8)).toNat : Int) = 92 then (if ([92] : List UInt8).length + (runeS (IntKind.i32.wrap (((x1.getD (x13 : Int).toNat (0 : UInt8)).toNat : Int)))).length ≤ 9223372036854775807 then (if x12.length + (([92] : List UInt8) ++ (runeS (IntKind.i32.wrap (((x1.getD (x13 : Int).toNat (0 : UInt8)).toNat : Int))))).length ≤ 9223372036854775807 then (impl_quoted.l0 k19 x1 (x12 ++ (([92] : List UInt8) ++ (runeS (IntKind.i32.wrap (((x1.getD (x13 : Int).toNat (0 : UInt8)).toNat : Int)))))) (i64.wrap (x13 + 1))) else none) else none) else (if ((x1.getD (x13 : Int).toNat (0 : UInt8)).toNat : Int) = 10 then (if x12.length + ([92, 110] : List UInt8).length ≤ 9223372036854775807 then (impl_quoted.l0 k19 x1 (x12 ++ ([92, 110] : List UInt8)) (i64.wrap (x13 + 1))) else none) else (if ((x1.getD (x13 : Int).toNat (0 : UInt8)).toNat : Int) = 9 then (if x12.length + ([92, 116] : List UInt8).length ≤ 9223372036854775807 then (impl_quoted.l0 k19 x1 (x12 ++ ([92, 116] : List UInt8)) (i64.wrap (x13 + 1))) else none) else (if ((x1.getD (x13 : Int).toNat (0 : UInt8)).toNat : Int) < 32 then ((impl_hex2.f (x1.getD (x13 : Int).toNat (0 : UInt8))).bind fun t33 => (if ([92, 120] : List UInt8).length + t33.length ≤ 9223372036854775807 then (if (([92, 120] : List UInt8) ++ t33).length + ([92] : List UInt8).length ≤ 9223372036854775807 then (if x12.length + ((([92, 120] : List UInt8) ++ t33) ++ ([92] : List UInt8)).length ≤ 9223372036854775807 then (impl_quoted.l0 k19 x1 (x12 ++ ((([92, 120] : List UInt8) ++ t33) ++ ([92] : List UInt8))) (i64.wrap (x13 + 1))) else none) else none) else none)) else (if ((x1.getD (x13 : Int).toNat (0 : UInt8)).toNat : Int) > 126 then ((impl_hex2.f (x1.getD (x13 : Int).toNat (0 : UInt8))).bind fun t43 => (if ([92, 120] : List UInt8).length + t43.length ≤ 9223372036854775807 then (if (([92, 120] : List UInt8) ++ t43).length + ([92] : List UInt8).length ≤ 9223372036854775807 then (if x12.length + ((([92, 120] : List UInt8) ++ t43) ++ ([92] : List UInt8)).length ≤ 9223372036854775807 then (impl_quoted.l0 k19 x1 (x12 ++ ((([92, 120] : List UInt8) ++ t43) ++ ([92] : List UInt8))) (i64.wrap (x13 + 1))) else none) else none) else none)) else (if x12.length + (runeS (IntKind.i32.wrap (((x1.getD (x13 : Int).toNat (0 : UInt8)).toNat : Int)))).length ≤ 9223372036854775807 then (impl_quoted.l0 k19 x1 (x12 ++ (runeS (IntKind.i32.wrap (((x1.getD (x13 : Int).toNat (0 : UInt8)).toNat : Int))))) (i64.wrap (x13 + 1))) else none))))))) else none) else (if x12.length + ([39] : List UInt8).length ≤ 9223372036854775807 then some (x12 ++ ([39] : List UInt8)) else none))
def impl_quoted.f (k : Nat) (x1 : List UInt8) : Option (List UInt8) := (if (x1.length : Int) > 100 then some ([] : List UInt8) else ((impl_plain.f k x1).bind fun t3 => (if t3 = true then some x1 else (impl_quoted.l0 k x1 ([39] : List UInt8) 0))))
theorem impl_quoted.calls {k : Nat} {w : World} {H : Hp} {x1 : List UInt8} (hL_ : Laid H) (S : Own [] H w) {r : List UInt8} (M : impl_quoted.f k x1 = some r) :
  Calls Tryz.prog 17 #[str x1] w (fun e e_w => e = .returned (str r) ∧ Chg no w e_w) := by
 rw [impl_quoted.f] at M
 refine enter (l := [str x1]) 64 func17 rfl rfl rfl ?_
 have S0_ := S.st
 refine wQ (wR (lP 1 (wN (tN (wQ (wQ (wR (lP 1 (lV 7 (e_slen (p := x1) underlying9 kr) (lP 1 (wN (tN ?_))))))))))))
 obtain ⟨q2, M⟩ | ⟨q2, M⟩ := ifc M
 ·refine cT (bT q2) (wQ (wR (lP 1 (wN (tN (wT (tR ?_)))))))
  obtain rfl := sj M
  exact ret1 rfl rfl  kr ⟨rfl, S0_.chg⟩
 refine cF (bF q2) (wK (tN (wQ (wQ (wR (lP 1 ?_))))))
 obtain ⟨t3, u4, M⟩ := bnd M
 refine lC 10 (eE func49) (impl_plain.calls  S0_.own0 u4) ?_
 rintro _ w5 ⟨rfl, C6⟩
 refine ⟨_, rfl, ?_⟩
 obtain ⟨S7, K8⟩ := S0_.still C6
 refine wN (tN ?_)
 obtain ⟨q9, M⟩ | ⟨q9, M⟩ := ifc M
 ·refine cT (bvt q9 kr) (wQ (wR (lP 2 (wN (tN (wT (tR ?_)))))))
  obtain rfl := sj M
  exact ret1 rfl rfl  kr ⟨rfl, S7.chg⟩
 refine cF (bvf q9 kr) (wK (tN (wQ (wR (lP 1 (wN (tN (wQ (wQ (wR (lP 1 (wN (tN (wp_block ?_))))))))))))))
 refine wp_loop_g (fun k17 a18 w10 => ∃ (f11 : Nat → Value) (x12 : List UInt8) (x13 : Int), a18 = mk 64 (upd (upd (upd f11 0 (str x1)) 3 (str x12)) 4 (.int .i64 x13)) ∧ St (anyOf []) H w [] H w10 ∧ impl_quoted.l0 k17 x1 x12 x13 = some r) k ⟨_, ([39] : List UInt8), 0, (hdw (hdc (hdc (hdc rfl kr) kr) kr)), S7, M⟩ ?_
 clear M
 rintro k17 a18 w10 ⟨f11, x12, x13, rfl, S14, M⟩
 rcases k17 with _ | k19
 ·rw [impl_quoted.l0] at M
  cases M
 rw [impl_quoted.l0] at M
 refine wQ (wQ (wR (lP 2 (lV 14 (e_slen (p := x1) underlying9 kr) (lP 1 (wN (tN ?_)))))))
 obtain ⟨q20, M⟩ | ⟨q20, M⟩ := ifd M
 ·refine cF (bF q20) (wp_exit (tE (tE (inb_hit (tN (wQ (wR (lP 1 ?_))))))))
  obtain ⟨q53, M⟩ := chk M
  refine lV 63 (e_sadd (p := x12) (q := ([39] : List UInt8)) kr rfl q53) (lP 1 (wN (tN (wT ?_))))
  obtain rfl := sj M
  exact ret1 rfl rfl  kr ⟨rfl, S14.chg⟩
 refine cT (bT q20) (wK (tN (wQ (wp_block (wQ (wR (lP 2 ?_)))))))
 obtain ⟨q21, M⟩ := chk M
 refine lV 20 (e_sindex (p := x1) (i := x13) (k := .i64) underlying9 kr kr q21 q20) (lP 1 (wN (tN (wp_block (wQ (wR (lP 3 ?_)))))))
 obtain ⟨q22, M⟩ | ⟨q22, M⟩ := ifc M
 ·refine lP1 4 29 (bT q22) (wN (tN (cond_t rfl kr (wR (lP 3 (lV 36 (e_conv_rs (k := .i32) (a := (IntKind.i32.wrap (((x1.getD (x13 : Int).toNat (0 : UInt8)).toNat : Int)))) underlying21 underlying9 kr) ?_))))))
  obtain ⟨q23, M⟩ := chk M
  refine lV 37 (e_sadd (p := ([92] : List UInt8)) (q := (runeS (IntKind.i32.wrap (((x1.getD (x13 : Int).toNat (0 : UInt8)).toNat : Int))))) rfl kr q23) ?_
  obtain ⟨q24, M⟩ := chk M
  refine lV 38 (e_sadd (p := x12) (q := (([92] : List UInt8) ++ (runeS (IntKind.i32.wrap (((x1.getD (x13 : Int).toNat (0 : UInt8)).toNat : Int)))))) kr kr q24) (lP 1 (wN (inb_n (inb_n (tN (wR (lP 3 (wN (tN ?_)))))))))
  exact ⟨k19, (by omega), _, (x12 ++ (([92] : List UInt8) ++ (runeS (IntKind.i32.wrap (((x1.getD (x13 : Int).toNat (0 : UInt8)).toNat : Int)))))), (i64.wrap (x13 + 1)), (hdw (hdc (hdc (hdc rfl kr) kr) kr)), S14, M⟩
 refine lP1 4 29 (bF q22) (wN (tN ?_))
 obtain ⟨q25, M⟩ | ⟨q25, M⟩ := ifc M
 ·refine cT (bT q25) (wR (lP 3 (lV 36 (e_conv_rs (k := .i32) (a := (IntKind.i32.wrap (((x1.getD (x13 : Int).toNat (0 : UInt8)).toNat : Int)))) underlying21 underlying9 kr) ?_)))
  obtain ⟨q26, M⟩ := chk M
  refine lV 37 (e_sadd (p := ([92] : List UInt8)) (q := (runeS (IntKind.i32.wrap (((x1.getD (x13 : Int).toNat (0 : UInt8)).toNat : Int))))) rfl kr q26) ?_
  obtain ⟨q27, M⟩ := chk M
  refine lV 38 (e_sadd (p := x12) (q := (([92] : List UInt8) ++ (runeS (IntKind.i32.wrap (((x1.getD (x13 : Int).toNat (0 : UInt8)).toNat : Int)))))) kr kr q27) (lP 1 (wN (inb_n (inb_n (tN (wR (lP 3 (wN (tN ?_)))))))))
  exact ⟨k19, (by omega), _, (x12 ++ (([92] : List UInt8) ++ (runeS (IntKind.i32.wrap (((x1.getD (x13 : Int).toNat (0 : UInt8)).toNat : Int)))))), (i64.wrap (x13 + 1)), (hdw (hdc (hdc (hdc rfl kr) kr) kr)), S14, M⟩
 refine cF (bF q25) (wQ (wR (lP 3 (wN (tN ?_)))))
 obtain ⟨q28, M⟩ | ⟨q28, M⟩ := ifc M
 ·refine cT (bT q28) (wR (lP 1 ?_))
  obtain ⟨q29, M⟩ := chk M
  refine lV 43 (e_sadd (p := x12) (q := ([92, 110] : List UInt8)) kr rfl q29) (lP 1 (wN (inb_n (inb_n (tN (wR (lP 3 (wN (tN ?_)))))))))
  exact ⟨k19, (by omega), _, (x12 ++ ([92, 110] : List UInt8)), (i64.wrap (x13 + 1)), (hdw (hdc (hdc (hdc rfl kr) kr) kr)), S14, M⟩
 refine cF (bF q28) (wQ (wR (lP 3 (wN (tN ?_)))))
 obtain ⟨q30, M⟩ | ⟨q30, M⟩ := ifc M
 ·refine cT (bT q30) (wR (lP 1 ?_))
  obtain ⟨q31, M⟩ := chk M
  refine lV 48 (e_sadd (p := x12) (q := ([92, 116] : List UInt8)) kr rfl q31) (lP 1 (wN (inb_n (inb_n (tN (wR (lP 3 (wN (tN ?_)))))))))
  exact ⟨k19, (by omega), _, (x12 ++ ([92, 116] : List UInt8)), (i64.wrap (x13 + 1)), (hdw (hdc (hdc (hdc rfl kr) kr) kr)), S14, M⟩
 refine cF (bF q30) (wQ (wR (lP 3 ?_)))
 obtain ⟨q32, M⟩ | ⟨q32, M⟩ := ifc M
 ·refine lP1 4 52 (bT q32) (wN (tN (cond_t rfl kr (wR (lP 2 ?_)))))
  obtain ⟨t33, u34, M⟩ := bnd M
  refine lC 58 (eE func50) (impl_hex2.calls hL_ S14.own0 u34) ?_
  rintro _ w35 ⟨rfl, C36⟩
  refine ⟨_, rfl, ?_⟩
  obtain ⟨S37, K38⟩ := S14.still C36
  obtain ⟨q39, M⟩ := chk M
  refine lV 59 (e_sadd (p := ([92, 120] : List UInt8)) (q := t33) rfl kr q39) ?_
  obtain ⟨q40, M⟩ := chk M
  refine lV 60 (e_sadd (p := (([92, 120] : List UInt8) ++ t33)) (q := ([92] : List UInt8)) kr rfl q40) ?_
  obtain ⟨q41, M⟩ := chk M
  refine lV 61 (e_sadd (p := x12) (q := ((([92, 120] : List UInt8) ++ t33) ++ ([92] : List UInt8))) kr kr q41) (lP 1 (wN (inb_n (inb_n (tN (wR (lP 3 (wN (tN ?_)))))))))
  exact ⟨k19, (by omega), _, (x12 ++ ((([92, 120] : List UInt8) ++ t33) ++ ([92] : List UInt8))), (i64.wrap (x13 + 1)), (hdw (hdc (hdc (hdc rfl kr) kr) kr)), S37, M⟩
 refine lP1 4 52 (bF q32) (wN (tN ?_))
 obtain ⟨q42, M⟩ | ⟨q42, M⟩ := ifd M
 ·refine cF (bF q42) (wR (lP 3 (lV 24 (e_conv_rs (k := .i32) (a := (IntKind.i32.wrap (((x1.getD (x13 : Int).toNat (0 : UInt8)).toNat : Int)))) underlying21 underlying9 kr) ?_)))
  obtain ⟨q52, M⟩ := chk M
  refine lV 25 (e_sadd (p := x12) (q := (runeS (IntKind.i32.wrap (((x1.getD (x13 : Int).toNat (0 : UInt8)).toNat : Int))))) kr kr q52) (lP 1 (wN (inb_n (inb_n (tN (wR (lP 3 (wN (tN ?_)))))))))
  exact ⟨k19, (by omega), _, (x12 ++ (runeS (IntKind.i32.wrap (((x1.getD (x13 : Int).toNat (0 : UInt8)).toNat : Int))))), (i64.wrap (x13 + 1)), (hdw (hdc (hdc (hdc rfl kr) kr) kr)), S14, M⟩
 refine cT (bT q42) (wR (lP 2 ?_))
 obtain ⟨t43, u44, M⟩ := bnd M
 refine lC 58 (eE func50) (impl_hex2.calls hL_ S14.own0 u44) ?_
 rintro _ w45 ⟨rfl, C46⟩
 refine ⟨_, rfl, ?_⟩
 obtain ⟨S47, K48⟩ := S14.still C46
 obtain ⟨q49, M⟩ := chk M
 refine lV 59 (e_sadd (p := ([92, 120] : List UInt8)) (q := t43) rfl kr q49) ?_
 obtain ⟨q50, M⟩ := chk M
 refine lV 60 (e_sadd (p := (([92, 120] : List UInt8) ++ t43)) (q := ([92] : List UInt8)) kr rfl q50) ?_
 obtain ⟨q51, M⟩ := chk M
 refine lV 61 (e_sadd (p := x12) (q := ((([92, 120] : List UInt8) ++ t43) ++ ([92] : List UInt8))) kr kr q51) (lP 1 (wN (inb_n (inb_n (tN (wR (lP 3 (wN (tN ?_)))))))))
 exact ⟨k19, (by omega), _, (x12 ++ ((([92, 120] : List UInt8) ++ t43) ++ ([92] : List UInt8))), (i64.wrap (x13 + 1)), (hdw (hdc (hdc (hdc rfl kr) kr) kr)), S47, M⟩
def impl_QuoteAtom.f (k : Nat) (x1 : List UInt8) : Option (List UInt8) := ((impl_quoted.f k x1).bind fun t6 => (if t6.length ≤ 9223372036854775807 then some t6 else none))
theorem impl_QuoteAtom.calls {k : Nat} {w : World} {H : Hp} {x1 : List UInt8} {A2 : Option Addr} {c3 : Nat} (h4 : Rd tByte H A2 x1) (l5 : x1.length ≤ c3) (hL_ : Laid H) (S : Own [] H w) {r : List UInt8} (M : impl_QuoteAtom.f k x1 = some r) :
  Calls Tryz.prog 9 #[.slice A2 x1.length c3] w (fun e e_w => ∃ (A_1 : Option Addr) (c_1 : Nat) (F_1 : Foot) (H_ : Hp), e = .returned (.slice A_1 r.length c_1) ∧ Row tByte 5 H_ (hp e_w) F_1 A_1 c_1 r ∧ St (anyOf []) H w [F_1] H_ e_w) := by
 rw [impl_QuoteAtom.f] at M
 refine enter (l := [.slice A2 x1.length c3]) 7 func9 rfl rfl rfl ?_
 have S0_ := S.st
 refine wQ (wR (lP 1 (wN (tN (wQ (wR (lP 1 (lV 4 (e_conv_bs (A := A2) (n := x1.length) (c := c3) (xs := x1) underlying22 underlying5 underlying9 kr rfl (Rd.bytesE S0_.inv h4)) ?_))))))))
 obtain ⟨t6, u7, M⟩ := bnd M
 refine lC 5 (eE func17) (impl_quoted.calls hL_ S0_.own0 u7) ?_
 rintro _ w8 ⟨rfl, C9⟩
 refine ⟨_, rfl, ?_⟩
 obtain ⟨S10, K11⟩ := S0_.still C9
 obtain ⟨q12, M⟩ := chk M
 refine lW 6 (e_conv_sb (xs := t6) S10 underlying9 underlying22 underlying5 kr q12) ?_
 rintro _ w13 ⟨A14, c15, F16, rfl, h17, S18, K19⟩
 refine lP 1 (wN (tN (wT ?_)))
 obtain rfl := sj M
 exact ret1 rfl rfl  kr ⟨A14, c15, F16, H, rfl, h17, S18⟩
def laws_FnTokens.l0 : Nat → (List UInt8) → Option Bool
 | 0, _ => none
 | k81 + 1, x1 => ((spec_DrawQuoteAtom.f k81 x1).bind fun t620 => ((spec_DrawQuoteAtom.f k81 x1).bind fun t632 => ((impl_QuoteAtom.f k81 t632).bind fun t650 => (if (t620.length : Int) > 100 then some (decide ((t650.length : Int) = 0)) else (if t620 = ([91, 93] : List UInt8) then ((laws_sameB.f k81 t650 t620).bind fun t664 => some t664) else (if t620 = ([123, 125] : List UInt8) then ((laws_sameB.f k81 t650 t620).bind fun t683 => some t683) else ((impl_Lex.f k81 t650).bind fun t708 => (if t708.2.1 = 0 then (if (t708.1.length : Int) = 1 then (if 0 < (t708.1.length : Int) then (if ((t708.1.getD 0 z28).kind) = 1 then ((laws_sameB.f k81 ((t708.1.getD 0 z28).text) t620).bind fun t753 => (if t753 = true then some (decide (((t708.1.getD 0 z28).size) = (t650.length : Int))) else some false)) else some false) else none) else some false) else some false))))))))
mutual
def laws_FnTokens.l1 : Nat → (List UInt8) → ((List Token) × Int × Int) → (List UInt8) → (List Token) → Int → Int → Option Bool
 | 0, _, _, _, _, _, _ => none
 | k104 + 1, x1, t25, x87, x92, x97, x98 => (if x98 ≤ (x92.length : Int) then (if t25.2.1 = 0 then (if x98 < (x92.length : Int) then (if 0 ≤ x98 then (if ((x92.getD ((x98).toNat) z28).size) < 1 then some false else (if ((x92.getD ((x98).toNat) z28).place) < x97 then some false else (if (i64.wrap (((x92.getD ((x98).toNat) z28).place) + ((x92.getD ((x98).toNat) z28).size))) > (x87.length : Int) then some false else (laws_FnTokens.l2 k104 x1 t25 x87 x92 x97 x98 ((x92.getD ((x98).toNat) z28).place))))) else none) else (laws_FnTokens.l2 k104 x1 t25 x87 x92 x97 x98 (x87.length : Int))) else (laws_FnTokens.l0 k104 x1)) else (laws_FnTokens.l0 k104 x1))
def laws_FnTokens.l2 : Nat → (List UInt8) → ((List Token) × Int × Int) → (List UInt8) → (List Token) → Int → Int → Int → Option Bool
 | 0, _, _, _, _, _, _, _ => none
 | k128 + 1, x1, t25, x87, x92, x97, x98, x123 => (if 0 ≤ x97 then (if x97 ≤ x123 then (if x123 ≤ (x87.length : Int) then (if 0 + ((x87.drop ((x97 : Int).toNat)).take ((x123 : Int).toNat - (x97 : Int).toNat)).length ≤ 140737488355328 then ((impl_Lex.f k128 (([] : List UInt8) ++ ((x87.drop ((x97 : Int).toNat)).take ((x123 : Int).toNat - (x97 : Int).toNat)))).bind fun t200 => (if t200.2.1 ≠ 0 then some false else (if (t200.1.length : Int) ≠ 0 then some false else (if x98 = (x92.length : Int) then (laws_FnTokens.l0 k128 x1) else (if 0 ≤ x98 then (if x98 < (x92.length : Int) then (if ((x92.getD ((x98).toNat) z28).kind) = 6 then (laws_FnTokens.l1 k128 x1 t25 x87 x92 (i64.wrap (x123 + ((x92.getD ((x98).toNat) z28).size))) (i64.wrap (x98 + 1))) else (if ((x92.getD ((x98).toNat) z28).kind) = 7 then (laws_FnTokens.l1 k128 x1 t25 x87 x92 (i64.wrap (x123 + ((x92.getD ((x98).toNat) z28).size))) (i64.wrap (x98 + 1))) else (if 0 ≤ x123 then (if x123 ≤ (i64.wrap (x123 + ((x92.getD ((x98).toNat) z28).size))) then (if (i64.wrap (x123 + ((x92.getD ((x98).toNat) z28).size))) ≤ (x87.length : Int) then (if 0 + ((x87.drop ((x123 : Int).toNat)).take (((i64.wrap (x123 + ((x92.getD ((x98).toNat) z28).size))) : Int).toNat - (x123 : Int).toNat)).length ≤ 140737488355328 then ((impl_Lex.f k128 (([] : List UInt8) ++ ((x87.drop ((x123 : Int).toNat)).take (((i64.wrap (x123 + ((x92.getD ((x98).toNat) z28).size))) : Int).toNat - (x123 : Int).toNat)))).bind fun t287 => (if ((x92.getD ((x98).toNat) z28).kind) = 1 then (if ((x92.getD ((x98).toNat) z28).size) = 1 then (if x123 < (x87.length : Int) then (if ¬ (((x87.getD ((x123).toNat) (0 : UInt8)).toNat : Int) = 46) then (if t287.2.1 ≠ 0 then some false else (if (t287.1.length : Int) ≠ 1 then some false else (if 0 < (t287.1.length : Int) then (if ((t287.1.getD 0 z28).kind) ≠ ((x92.getD ((x98).toNat) z28).kind) then some false else (if ((t287.1.getD 0 z28).n) ≠ ((x92.getD ((x98).toNat) z28).n) then some false else ((laws_sameB.f k128 ((t287.1.getD 0 z28).text) ((x92.getD ((x98).toNat) z28).text)).bind fun t416 => (if ¬ (t416 = true) then some false else (laws_FnTokens.l1 k128 x1 t25 x87 x92 (i64.wrap (x123 + ((x92.getD ((x98).toNat) z28).size))) (i64.wrap (x98 + 1))))))) else none))) else (laws_FnTokens.l1 k128 x1 t25 x87 x92 (i64.wrap (x123 + ((x92.getD ((x98).toNat) z28).size))) (i64.wrap (x98 + 1)))) else none) else (if t287.2.1 ≠ 0 then some false else (if (t287.1.length : Int) ≠ 1 then some false else (if 0 < (t287.1.length : Int) then (if ((t287.1.getD 0 z28).kind) ≠ ((x92.getD ((x98).toNat) z28).kind) then some false else (if ((t287.1.getD 0 z28).n) ≠ ((x92.getD ((x98).toNat) z28).n) then some false else ((laws_sameB.f k128 ((t287.1.getD 0 z28).text) ((x92.getD ((x98).toNat) z28).text)).bind fun t516 => (if ¬ (t516 = true) then some false else (laws_FnTokens.l1 k128 x1 t25 x87 x92 (i64.wrap (x123 + ((x92.getD ((x98).toNat) z28).size))) (i64.wrap (x98 + 1))))))) else none)))) else (if t287.2.1 ≠ 0 then some false else (if (t287.1.length : Int) ≠ 1 then some false else (if 0 < (t287.1.length : Int) then (if ((t287.1.getD 0 z28).kind) ≠ ((x92.getD ((x98).toNat) z28).kind) then some false else (if ((t287.1.getD 0 z28).n) ≠ ((x92.getD ((x98).toNat) z28).n) then some false else ((laws_sameB.f k128 ((t287.1.getD 0 z28).text) ((x92.getD ((x98).toNat) z28).text)).bind fun t611 => (if ¬ (t611 = true) then some false else (laws_FnTokens.l1 k128 x1 t25 x87 x92 (i64.wrap (x123 + ((x92.getD ((x98).toNat) z28).size))) (i64.wrap (x98 + 1))))))) else none))))) else none) else none) else none) else none))) else none) else none))))) else none) else none) else none) else none)
end
def laws_FnTokens.f (k : Nat) (x1 : List UInt8) : Option Bool := (if (x1.length : Int) > 1048576 then some true else ((spec_DrawLex.f k x1).bind fun t7 => ((spec_Lex.f k t7).bind fun t25 => ((spec_DrawLex.f k x1).bind fun t40 => ((impl_Lex.f k t40).bind fun t58 => (if t58.2.1 ≠ t25.2.1 then some false else (if t58.2.2 ≠ t25.2.2 then some false else (if (t58.1.length : Int) ≠ (t25.1.length : Int) then some false else (laws_FnTokens.l1 k x1 t25 t7 t58.1 0 0)))))))))
theorem laws_FnTokens.calls (k : Nat) (w : World) (H : Hp) (x1 : List UInt8) (A2 : Option Addr) (c3 : Nat) (h4 : Rd tByte H A2 x1) (l5 : x1.length ≤ c3) (hL_ : Laid H) (S : Own [] H w) (r : Bool) (M : laws_FnTokens.f k x1 = some r) :
  Calls Tryz.prog 3 #[.slice A2 x1.length c3] w (fun e e_w => e = .returned (.bool r) ∧ Chg no w e_w) := by
 rw [laws_FnTokens.f] at M
 refine enter (l := [.slice A2 x1.length c3]) 284 func3 rfl rfl rfl ?_
 have S0_ := S.st
 refine wQ (wR (lP 1 (wN (tN (wQ (wQ (wR (lP 3 (wN (tN ?_))))))))))
 obtain ⟨q6, M⟩ | ⟨q6, M⟩ := ifc M
 ·refine cT (bT q6) (wQ (wR (lP 1 (wN (tN (wT (tR ?_)))))))
  obtain rfl := sj M
  exact ret1 rfl rfl  kr ⟨rfl, S0_.chg⟩
 refine cF (bF q6) (wK (tN (wQ (wR (lP 1 ?_)))))
 obtain ⟨t7, u8, M⟩ := bnd M
 refine lC 29 (eE func4) (spec_DrawLex.calls h4 l5 (St.own' (Fa := []) (Fr := []) S0_) u8) ?_
 rintro _ w9 ⟨A12, c13, F15, H10, rfl, h14, T11⟩
 refine ⟨_, rfl, ?_⟩
 obtain ⟨S16, K17⟩ := St.call (Fa := []) (Fr := []) S0_ T11
 have E18 := T11.ext
 refine lP 1 (wN (tN (wQ (wR (lP 1 ?_)))))
 have l19 := h14.le
 obtain ⟨H20, S21, E22, h23, z24⟩ := S16.frzRow h14
 obtain ⟨t25, u26, M⟩ := bnd M
 refine lC 32 (eE func5) (spec_Lex.calls h23 l19 S21.own0 u26) ?_
 rintro _ w27 ⟨A30, c31, F33, H28, rfl, h32, T29⟩
 refine ⟨_, rfl, ?_⟩
 obtain ⟨S34, K35⟩ := St.call (Fa := []) (Fr := []) S21 T29
 obtain ⟨H36, S37, E38, v39⟩ := St.thaw S16 z24 S34 T29.ext E22 T29.size
 replace h14 := h14.move v39
 replace h14 := h14.ext E38
 refine lP 7 (wN (tN (wQ (wR (lP 1 ?_)))))
 obtain ⟨t40, u41, M⟩ := bnd M
 refine lC 38 (eE func4) (spec_DrawLex.calls (h4.ext (E18.trans E38)) l5 (St.own' (Fa := []) (Fr := [F15, F33]) S37) u41) ?_
 rintro _ w42 ⟨A45, c46, F48, H43, rfl, h47, T44⟩
 refine ⟨_, rfl, ?_⟩
 obtain ⟨S49, K50⟩ := St.call (Fa := []) (Fr := [F15, F33]) S37 T44
 replace h14 := h14.move (K50.a 0)
 have E51 := T44.ext
 replace h14 := h14.ext E51
 have l52 := h47.le
 obtain ⟨H53, S54, E55, h56, z57⟩ := S49.frzRow h47
 replace h14 := h14.ext E55
 obtain ⟨t58, u59, M⟩ := bnd M
 refine lC 39 (eE func6) (impl_Lex.calls h56 l52 (St.own' (Fa := []) (Fr := [F15, F33]) S54) u59) ?_
 rintro _ w60 ⟨A63, c64, F66, H61, rfl, h65, T62⟩
 refine ⟨_, rfl, ?_⟩
 obtain ⟨S67, K68⟩ := St.call (Fa := []) (Fr := [F15, F33]) S54 T62
 replace h14 := h14.move (K68.a 0)
 have E69 := T62.ext
 replace h14 := h14.ext E69
 refine lP 7 (wN (tN (wQ (wQ (wR (lP 2 (lV 45 (eNe .i64 t58.2.1 t25.2.1) (lP 1 ?_))))))))
 obtain ⟨q70, M⟩ | ⟨q70, M⟩ := ifc M
 ·refine lP1 11 46 (bT q70) (wN (tN (cond_t rfl kr (wQ (wR (lP 1 (wN (tN (wT (tR ?_))))))))))
  obtain rfl := sj M
  exact ret1 rfl rfl  kr ⟨rfl, S67.chg⟩
 refine lP1 2 46 (bF q70) (lG 49 46 (bF q70) (eNe .i64 t58.2.2 t25.2.2) (lP1 2 46 (bF q70) ?_))
 obtain ⟨q71, M⟩ | ⟨q71, M⟩ := ifc M
 ·refine lP1 6 51 (bT q71) (wN (tN (cond_t rfl kr (wQ (wR (lP 1 (wN (tN (wT (tR ?_))))))))))
  obtain rfl := sj M
  exact ret1 rfl rfl  kr ⟨rfl, S67.chg⟩
 refine lP1 4 51 (bF q71) (lG 56 51 (bF q71) (eNe .i64 (t58.1.length : Int) (t25.1.length : Int)) (lP1 1 51 (bF q71) (wN (tN ?_))))
 obtain ⟨q72, M⟩ | ⟨q72, M⟩ := ifc M
 ·refine cT (bT q72) (wQ (wR (lP 1 (wN (tN (wT (tR ?_)))))))
  obtain rfl := sj M
  exact ret1 rfl rfl  kr ⟨rfl, S67.chg⟩
 refine cF (bF q72) (wK (tN (wQ (wR (lP 1 (wN (tN ?_)))))))
 refine wp_seq_cut (fun a80 w73 => ∃ (k82 : Nat), ∃ (f74 : Nat → Value) (H75 : Hp), a80 = mk 284 (upd f74 0 (.slice A2 x1.length c3)) ∧ Ext H61 H75 ∧ St (anyOf []) H w [] H75 w73 ∧ laws_FnTokens.l0 k82 x1 = some r) ?_ ?_
 ·refine wQ (wR (lP 1 (wN (tN (wp_block ?_)))))
  have l105 := h14.le
  have S106 := S67.pulls [F15, F66, F33] [1] rfl
  obtain ⟨H107, S108, E109, h110, z111⟩ := S106.frzRow h14
  replace h65 := h65.ext E109
  have l112 := h65.le
  obtain ⟨H113, S114, E115, h116, z117⟩ := S108.frzRow h65
  have S118 := St.first (Fa := []) (Fr := [F33]) S114
  refine wp_loop_g (fun k102 a103 w83 => ∃ (f84 : Nat → Value) (H85 : Hp) (x87 : List UInt8) (A88 : Option Addr) (c89 : Nat) (x92 : List Token) (A93 : Option Addr) (c94 : Nat) (x97 : Int) (x98 : Int), a103 = mk 284 (upd (upd (upd (upd (upd (upd f84 0 (.slice A2 x1.length c3)) 3 (.slice A88 x87.length c89)) 5 (.int .i64 t25.2.1)) 7 (.slice A93 x92.length c94)) 10 (.int .i64 x97)) 11 (.int .i64 x98)) ∧ Rd tByte H85 A88 x87 ∧ x87.length ≤ c89 ∧ Rd st28 H85 A93 x92 ∧ x92.length ≤ c94 ∧ Ext H61 H85 ∧ St (anyOf []) H w [] H85 w83 ∧ laws_FnTokens.l1 k102 x1 t25 x87 x92 x97 x98 = some r) k ⟨_, H113, t7, A12, c13, t58.1, A63, c64, 0, 0, (hdw (hdc (hdc (hdc (hdc (hdc (hdc rfl kr) kr) kr) kr) kr) kr)), (h110.ext E115), l105, h116, l112, (E109.trans E115), S118, M⟩ ?_
  clear M
  rintro k102 a103 w83 ⟨f84, H85, x87, A88, c89, x92, A93, c94, x97, x98, rfl, h90, l91, h95, l96, Y86, S99, M⟩
  rcases k102 with _ | k104
  ·rw [laws_FnTokens.l1] at M
   cases M
  rw [laws_FnTokens.l1] at M
  refine wQ (wQ (wR (lP 5 ?_)))
  obtain ⟨q119, M⟩ | ⟨q119, M⟩ := ifd M
  ·refine lP1 3 62 (bF q119) (wN (tN (cond_f rfl kr (wp_exit (tE (tE (inb_hit (tN ?_))))))))
   exact ⟨k104, _, H85, (hdw (hdc rfl kr)), Y86, S99, M⟩
  refine lP1 3 62 (bT q119) (wN (tN ?_))
  obtain ⟨q120, M⟩ | ⟨q120, M⟩ := ifd M
  ·refine cF (bF q120) (wp_exit (tE (tE (inb_hit (tN ?_)))))
   exact ⟨k104, _, H85, (hdw (hdc rfl kr)), Y86, S99, M⟩
  refine cT (bT q120) (wK (tN (wQ (wp_block (wQ (wR (lP 3 (wN (tN ?_)))))))))
  refine wp_seq_cut (fun a127 w121 => ∃ (k129 : Nat), k129 ≤ k104 ∧ ∃ (f122 : Nat → Value) (x123 : Int), a127 = mk 284 (upd (upd (upd (upd (upd (upd (upd f122 0 (.slice A2 x1.length c3)) 3 (.slice A88 x87.length c89)) 5 (.int .i64 t25.2.1)) 7 (.slice A93 x92.length c94)) 10 (.int .i64 x97)) 11 (.int .i64 x98)) 12 (.int .i64 x123)) ∧ St (anyOf []) H w [] H85 w121 ∧ laws_FnTokens.l2 k129 x1 t25 x87 x92 x97 x98 x123 = some r) ?_ ?_
  ·refine wQ (wR (lP 4 (wN (tN ?_))))
   obtain ⟨q130, M⟩ | ⟨q130, M⟩ := ifd M
   ·refine cF (bF q130) (wK (tN ?_))
    exact ⟨k104, (by omega), _, (x87.length : Int), (hdw (hdc (hdc (hdc (hdc (hdc (hdc (hdc rfl kr) kr) kr) kr) kr) kr) kr)), S99, M⟩
   refine cT (bT q130) (wQ (wR (lP 2 ?_)))
   obtain ⟨q131, M⟩ := chk M
   obtain ⟨b132, o133, e134⟩ := Rd.addr h95 (show (x98).toNat < x92.length by omega)
   obtain ⟨y135, r136, k137⟩ := Rd.at h95 e134 (getD_some z28 (show (x98).toNat < x92.length by omega))
   obtain ⟨A138, c139, rfl, l140, h141⟩ := st28_open r136
   refine lV 76 (eJ underlying24 e134 q131 q130) (lP 1 (lV 78 (eK underlying3 (hpx (S99.inv.cell (k137 1 _ rfl)))) (lP 1 (wN (tN (wQ (wR (lP 2 ?_))))))))
   obtain ⟨b142, o143, e144⟩ := Rd.addr h95 (show (x98).toNat < x92.length by omega)
   obtain ⟨y145, r146, k147⟩ := Rd.at h95 e144 (getD_some z28 (show (x98).toNat < x92.length by omega))
   obtain ⟨A148, c149, rfl, l150, h151⟩ := st28_open r146
   refine lV 81 (eJ underlying24 e144 q131 q130) (lP 1 (lV 83 (eK underlying3 (hpx (S99.inv.cell (k147 2 _ rfl)))) (lP 2 ?_)))
   obtain ⟨q152, M⟩ | ⟨q152, M⟩ := ifc M
   ·refine lP1 16 85 (bT q152) (wN (tN (cond_t rfl kr (wQ (wR (lP 1 (wN (tN (wT (tR (inb_r (tR (tR (inb_r (tR ?_)))))))))))))))
    obtain rfl := sj M
    exact ret1 rfl rfl  kr ⟨rfl, S99.chg⟩
   refine lP1 5 85 (bF q152) ?_
   obtain ⟨q153, M⟩ | ⟨q153, M⟩ := ifc M
   ·refine lP1 11 90 (bT q153) (wN (tN (cond_t rfl kr (wQ (wR (lP 1 (wN (tN (wT (tR (inb_r (tR (tR (inb_r (tR ?_)))))))))))))))
    obtain rfl := sj M
    exact ret1 rfl rfl  kr ⟨rfl, S99.chg⟩
   refine lP1 3 90 (bF q153) ?_
   obtain ⟨b154, o155, e156⟩ := Rd.addr h95 (show (x98).toNat < x92.length by omega)
   obtain ⟨y157, r158, k159⟩ := Rd.at h95 e156 (getD_some z28 (show (x98).toNat < x92.length by omega))
   obtain ⟨A160, c161, rfl, l162, h163⟩ := st28_open r158
   refine lG 94 90 (bF q153) (eJ underlying24 e156 q131 q130) (lP1 1 90 (bF q153) (lG 96 90 (bF q153) (eK underlying3 (hpx (S99.inv.cell (k159 2 _ rfl)))) (lP1 5 90 (bF q153) (wN (tN ?_)))))
   obtain ⟨q164, M⟩ | ⟨q164, M⟩ := ifd M
   ·refine cF (bF q164) (wK (tN ?_))
    exact ⟨k104, (by omega), _, ((x92.getD ((x98).toNat) z28).place), (hdw (hdc (hdc (hdc (hdc (hdc (hdc (hdc rfl kr) kr) kr) kr) kr) kr) kr)), S99, M⟩
   refine cT (bT q164) (wQ (wR (lP 1 (wN (tN (wT (tR ?_)))))))
   refine inb_r (tR (tR (inb_r (tR ?_))))
   obtain rfl := sj M
   exact ret1 rfl rfl  kr ⟨rfl, S99.chg⟩
  clear M
  rintro a127 w121 ⟨k129, z619, f122, x123, rfl, S124, M⟩
  rcases k129 with _ | k128
  ·rw [laws_FnTokens.l2] at M
   cases M
  rw [laws_FnTokens.l2] at M
  refine wQ (wR ?_)
  refine lW 103 (new_blk (v := fun g_ => .slice (some ⟨g_, 0, none⟩) 0 0) (cs := #[]) (t := 5) S124 kr) ?_
  rintro _ w165 ⟨g166, rfl, b167, S168, K169⟩
  have S170 := S168.unit
  have S171 := S170.pulls [(is g166), no] [1] rfl
  obtain ⟨h172, S173⟩ := row_lit (d := tByte) (xs := ([] : List UInt8)) S171 b167 rfl (elsO_nil _ _ _ no) (Nat.le_of_ble_eq_true rfl)
  refine lP 3 ?_
  obtain ⟨q174, M⟩ := chk M
  obtain ⟨q175, M⟩ := chk M
  obtain ⟨q176, M⟩ := chk M
  obtain ⟨A177, h180, l179, h178⟩ := Rd.sub2 (d := tByte) (n := x87.length) (m := 1) (cap := c89) (a := x97) (b := x123) rfl h90 q174 q175 q176 rfl l91
  refine lV 107 (e_slice_lh (n := x87.length) (m := 1) (cap := c89) (A := A88) (a := x97) (b := x123) (k := .i64) (k2 := .i64) underlying22 kr kr kr kr q174 q175 q176 l91 h180) ?_
  obtain ⟨y181, h182, h183⟩ := Rd.news (d := tByte) (ro_scal _ _) S173 h178
  obtain ⟨q184, M⟩ := chk M
  have S185 := S173.unit
  have S186 := S185.pulls [(or2 (is g166) no), no] [1] rfl
  refine lW 108 (e_append (d := tByte) (n := 0) (xs := ([] : List UInt8)) (cap := 0) (A := (some ⟨g166, 0, none⟩)) (ys := ((x87.drop ((x97 : Int).toNat)).take ((x123 : Int).toNat - (x97 : Int).toNat))) (A2 := A177) (c2 := (c89 - ((x97 : Int).toNat))) (z := .int .u8 0) (bytes := 1) S186 underlying22 kr rfl (by decide) kr rfl kr h172 h182 h183 (show (0 + ((x87.drop ((x97 : Int).toNat)).take ((x123 : Int).toNat - (x97 : Int).toNat)).length) * 1 ≤ _ by first | omega | (simp only [List.length_cons, List.length_nil]; omega)) (by decide)) ?_
  rintro _ w187 ⟨A188, c189, F190, rfl, h191, S192, K193⟩
  have l194 := h191.le
  obtain ⟨H195, S196, E197, h198, z199⟩ := S192.frzRow h191
  obtain ⟨t200, u201, M⟩ := bnd M
  refine lC 109 (eE func6) (impl_Lex.calls h198 l194 (St.own' (Fa := []) (Fr := []) S196) u201) ?_
  rintro _ w202 ⟨A205, c206, F208, H203, rfl, h207, T204⟩
  refine ⟨_, rfl, ?_⟩
  obtain ⟨S209, K210⟩ := St.call (Fa := []) (Fr := []) S196 T204
  have E211 := T204.ext
  refine lP 7 (wN (tN (wQ (wQ (wR (lP 1 (lV 114 (eNe .i64 t200.2.1 0) (lP 1 ?_))))))))
  obtain ⟨q212, M⟩ | ⟨q212, M⟩ := ifc M
  ·refine lP1 4 115 (bT q212) (wN (tN (cond_t rfl kr (wQ (wR (lP 1 (wN (tN (wT (tR (inb_r (tR (tR (inb_r (tR ?_)))))))))))))))
   obtain rfl := sj M
   exact ret1 rfl rfl  kr ⟨rfl, S209.chg⟩
  refine lP1 2 115 (bF q212) (lG 118 115 (bF q212) (eNe .i64 (t200.1.length : Int) 0) (lP1 1 115 (bF q212) (wN (tN ?_))))
  obtain ⟨q213, M⟩ | ⟨q213, M⟩ := ifc M
  ·refine cT (bT q213) (wQ (wR (lP 1 (wN (tN (wT (tR ?_)))))))
   refine inb_r (tR (tR (inb_r (tR ?_))))
   obtain rfl := sj M
   exact ret1 rfl rfl  kr ⟨rfl, S209.chg⟩
  refine cF (bF q213) (wK (tN (wQ (wQ (wR (lP 4 (wN (tN ?_))))))))
  obtain ⟨q214, M⟩ | ⟨q214, M⟩ := ifc M
  ·refine cT (bT q214) (wp_exit (tE (inb_miss rfl (tE (tE (inb_hit (tN ?_)))))))
   have S215 := St.first (Fa := []) (Fr := [F208]) S209
   exact ⟨k128, _, H203, (hdw (hdc rfl kr)), ((Y86.trans E197).trans E211), S215, M⟩
  refine cF (bF q214) (wK (tN (wQ (wR (lP 3 ?_)))))
  obtain ⟨q216, M⟩ := chk M
  obtain ⟨q217, M⟩ := chk M
  obtain ⟨b218, o219, e220⟩ := Rd.addr h95 (show (x98).toNat < x92.length by omega)
  obtain ⟨y221, r222, k223⟩ := Rd.at h95 e220 (getD_some z28 (show (x98).toNat < x92.length by omega))
  obtain ⟨A224, c225, rfl, l226, h227⟩ := st28_open r222
  refine lV 127 (eJ underlying24 e220 q216 q217) (lP 1 (lV 129 (eK underlying3 (hpx (S209.inv.cell ((E197.trans E211).cell (k223 2 _ rfl))))) (lP 2 (wN (tN (wQ (wQ (wR (lP 2 ?_)))))))))
  obtain ⟨b228, o229, e230⟩ := Rd.addr h95 (show (x98).toNat < x92.length by omega)
  obtain ⟨y231, r232, k233⟩ := Rd.at h95 e230 (getD_some z28 (show (x98).toNat < x92.length by omega))
  obtain ⟨A234, c235, rfl, l236, h237⟩ := st28_open r232
  refine lV 133 (eJ underlying24 e230 q216 q217) (lP 1 (lV 135 (eK underlying3 (hpx (S209.inv.cell ((E197.trans E211).cell (k233 0 _ rfl))))) (lP 2 ?_)))
  obtain ⟨q238, M⟩ | ⟨q238, M⟩ := ifc M
  ·refine lP1 7 137 (bT q238) (wN (tN (cond_t rfl kr (wp_exit (tE (inb_hit (tN (wR (lP 3 (wN (tN ?_)))))))))))
   have S239 := St.first (Fa := []) (Fr := [F208]) S209
   exact ⟨k128, (by omega), _, H203, x87, A88, c89, x92, A93, c94, (i64.wrap (x123 + ((x92.getD ((x98).toNat) z28).size))), (i64.wrap (x98 + 1)), (hdw (hdc (hdc (hdc (hdc (hdc (hdc rfl kr) kr) kr) kr) kr) kr)), (h90.ext (E197.trans E211)), l91, (h95.ext (E197.trans E211)), l96, ((Y86.trans E197).trans E211), S239, M⟩
  refine lP1 2 137 (bF q238) ?_
  obtain ⟨b240, o241, e242⟩ := Rd.addr h95 (show (x98).toNat < x92.length by omega)
  obtain ⟨y243, r244, k245⟩ := Rd.at h95 e242 (getD_some z28 (show (x98).toNat < x92.length by omega))
  obtain ⟨A246, c247, rfl, l248, h249⟩ := st28_open r244
  refine lG 140 137 (bF q238) (eJ underlying24 e242 q216 q217) (lP1 1 137 (bF q238) (lG 142 137 (bF q238) (eK underlying3 (hpx (S209.inv.cell ((E197.trans E211).cell (k245 0 _ rfl))))) (lP1 2 137 (bF q238) (wN (tN ?_)))))
  obtain ⟨q250, M⟩ | ⟨q250, M⟩ := ifc M
  ·refine cT (bT q250) (wp_exit (tE (inb_hit (tN (wR (lP 3 (wN (tN ?_))))))))
   have S251 := St.first (Fa := []) (Fr := [F208]) S209
   exact ⟨k128, (by omega), _, H203, x87, A88, c89, x92, A93, c94, (i64.wrap (x123 + ((x92.getD ((x98).toNat) z28).size))), (i64.wrap (x98 + 1)), (hdw (hdc (hdc (hdc (hdc (hdc (hdc rfl kr) kr) kr) kr) kr) kr)), (h90.ext (E197.trans E211)), l91, (h95.ext (E197.trans E211)), l96, ((Y86.trans E197).trans E211), S251, M⟩
  refine cF (bF q250) (wK (tN (wQ (wR ?_))))
  refine lW 146 (new_blk (v := fun g_ => .slice (some ⟨g_, 0, none⟩) 0 0) (cs := #[]) (t := 5) S209 kr) ?_
  rintro _ w252 ⟨g253, rfl, b254, S255, K256⟩
  replace h207 := h207.move (K256.a 0)
  have S257 := S255.unit
  have S258 := S257.pulls [(is g253), no, F208] [1] rfl
  obtain ⟨h259, S260⟩ := row_lit (d := tByte) (xs := ([] : List UInt8)) S258 b254 rfl (elsO_nil _ _ _ no) (Nat.le_of_ble_eq_true rfl)
  refine lP 3 ?_
  obtain ⟨q261, M⟩ := chk M
  obtain ⟨q262, M⟩ := chk M
  obtain ⟨q263, M⟩ := chk M
  obtain ⟨A264, h267, l266, h265⟩ := Rd.sub2 (d := tByte) (n := x87.length) (m := 1) (cap := c89) (a := x123) (b := (i64.wrap (x123 + ((x92.getD ((x98).toNat) z28).size)))) rfl (h90.ext (E197.trans E211)) q261 q262 q263 rfl l91
  refine lV 150 (e_slice_lh (n := x87.length) (m := 1) (cap := c89) (A := A88) (a := x123) (b := (i64.wrap (x123 + ((x92.getD ((x98).toNat) z28).size)))) (k := .i64) (k2 := .i64) underlying22 kr kr kr kr q261 q262 q263 l91 h267) ?_
  obtain ⟨y268, h269, h270⟩ := Rd.news (d := tByte) (ro_scal _ _) S260 h265
  obtain ⟨q271, M⟩ := chk M
  have S272 := S260.unit
  have S273 := S272.pulls [(or2 (is g253) no), no, F208] [1] rfl
  refine lW 151 (e_append (d := tByte) (n := 0) (xs := ([] : List UInt8)) (cap := 0) (A := (some ⟨g253, 0, none⟩)) (ys := ((x87.drop ((x123 : Int).toNat)).take (((i64.wrap (x123 + ((x92.getD ((x98).toNat) z28).size))) : Int).toNat - (x123 : Int).toNat))) (A2 := A264) (c2 := (c89 - ((x123 : Int).toNat))) (z := .int .u8 0) (bytes := 1) S273 underlying22 kr rfl (by decide) kr rfl kr h259 h269 h270 (show (0 + ((x87.drop ((x123 : Int).toNat)).take (((i64.wrap (x123 + ((x92.getD ((x98).toNat) z28).size))) : Int).toNat - (x123 : Int).toNat)).length) * 1 ≤ _ by first | omega | (simp only [List.length_cons, List.length_nil]; omega)) (by decide)) ?_
  rintro _ w274 ⟨A275, c276, F277, rfl, h278, S279, K280⟩
  replace h207 := h207.move (K280.a 0)
  have l281 := h278.le
  obtain ⟨H282, S283, E284, h285, z286⟩ := S279.frzRow h278
  replace h207 := h207.ext E284
  obtain ⟨t287, u288, M⟩ := bnd M
  refine lC 152 (eE func6) (impl_Lex.calls h285 l281 (St.own' (Fa := []) (Fr := [F208]) S283) u288) ?_
  rintro _ w289 ⟨A292, c293, F295, H290, rfl, h294, T291⟩
  refine ⟨_, rfl, ?_⟩
  obtain ⟨S296, K297⟩ := St.call (Fa := []) (Fr := [F208]) S283 T291
  replace h207 := h207.move (K297.a 0)
  have E298 := T291.ext
  replace h207 := h207.ext E298
  refine lP 7 (wN (tN (wQ (wR (lP 2 ?_)))))
  obtain ⟨b299, o300, e301⟩ := Rd.addr h95 (show (x98).toNat < x92.length by omega)
  obtain ⟨y302, r303, k304⟩ := Rd.at h95 e301 (getD_some z28 (show (x98).toNat < x92.length by omega))
  obtain ⟨A305, c306, rfl, l307, h308⟩ := st28_open r303
  refine lV 158 (eJ underlying24 e301 q216 q217) (lP 1 (lV 160 (eK underlying3 (hpx (S296.inv.cell ((((E197.trans E211).trans E284).trans E298).cell (k304 0 _ rfl))))) (lP 2 ?_)))
  obtain ⟨q309, M⟩ | ⟨q309, M⟩ := ifd M
  ·refine lP1 15 162 (bF q309) (wN (tN (wQ ?_)))
   have l524 := h294.le
   obtain ⟨H525, S526, E527, h528, z529⟩ := S296.frzRow h294
   replace h207 := h207.ext E527
   refine region_quiet kr kr (qV 177 (fun wq_ hq_ => eM (.bool false)) (qV 178 (fun wq_ hq_ => e_not (c := false) kr) (qV 179 (fun wq_ hq_ => eM (.bool true)) ?_)))
   refine qvg (d := 180) (t := 179) rfl kr rfl kr rfl kr (fun wq_ hq_ => eM (.int .i64 t287.2.1)) ?_
   refine qvg (d := 181) (t := 179) rfl kr rfl kr rfl kr (fun wq_ hq_ => eNe .i64 t287.2.1 0) ?_
   refine qvg (d := 182) (t := 179) rfl kr rfl kr rfl kr (fun wq_ hq_ => eM (.bool (decide (t287.2.1 ≠ 0)))) ?_
   obtain ⟨q530, M⟩ | ⟨q530, M⟩ := ifc M
   ·refine qP1 3 182 (bT q530) ?_
    refine qvg (d := 186) (t := 179) rfl kr rfl kr rfl kr (fun wq_ hq_ => eT (.bool true) (bT q530)) ?_
    refine qvg (d := 187) (t := 179) rfl kr rfl kr rfl kr (fun wq_ hq_ => eM (.bool true)) (qP 10 ?_)
    refine qvg (d := 198) (t := 179) rfl kr rfl kr rfl kr (fun wq_ hq_ => eT (.bool true) kr) ?_
    refine qvg (d := 199) (t := 179) rfl kr rfl kr rfl kr (fun wq_ hq_ => eM (.bool true)) (qP 10 ?_)
    refine qvg (d := 210) (t := 179) rfl kr rfl kr rfl kr (fun wq_ hq_ => eT (.bool true) kr) ?_
    refine qvg (d := 211) (t := 179) rfl kr rfl kr rfl kr (fun wq_ hq_ => eM (.bool true)) (qP 11 ?_)
    refine qvg (d := 223) (t := 179) rfl kr rfl kr rfl kr (fun wq_ hq_ => eT (.bool true) kr) (qV 224 (fun wq_ hq_ => eT (.bool true) kr) ?_)
    refine wpQuiet_nil ?_
    intro w531 C534
    obtain ⟨S532, K533⟩ := S526.still C534
    refine tN (cond_t rfl kr (wQ (wR (lP 1 (wN (tN (wT ?_)))))))
    refine inb_r (tR (tR (inb_r (tR ?_))))
    obtain rfl := sj M
    exact ret1 rfl rfl  kr ⟨rfl, S532.chg⟩
   refine qG 183 182 (bF q530) (fun wq_ hq_ => eM (.slice A292 t287.1.length c293)) (qG 184 182 (bF q530) (fun wq_ hq_ => e_len (A := A292) (n := t287.1.length) (c := c293) underlying24 kr) (qG 185 182 (bF q530) (fun wq_ hq_ => eNe .i64 (t287.1.length : Int) 1) ?_))
   refine qvg (d := 186) (t := 179) rfl kr rfl kr rfl kr (fun wq_ hq_ => eF (.bool (decide ((t287.1.length : Int) ≠ 1))) (bF q530)) ?_
   refine qvg (d := 187) (t := 179) rfl kr rfl kr rfl kr (fun wq_ hq_ => eM (.bool (decide ((t287.1.length : Int) ≠ 1)))) ?_
   obtain ⟨q535, M⟩ | ⟨q535, M⟩ := ifc M
   ·refine qP1 10 187 (bT q535) ?_
    refine qvg (d := 198) (t := 179) rfl kr rfl kr rfl kr (fun wq_ hq_ => eT (.bool true) (bT q535)) ?_
    refine qvg (d := 199) (t := 179) rfl kr rfl kr rfl kr (fun wq_ hq_ => eM (.bool true)) (qP 10 ?_)
    refine qvg (d := 210) (t := 179) rfl kr rfl kr rfl kr (fun wq_ hq_ => eT (.bool true) kr) ?_
    refine qvg (d := 211) (t := 179) rfl kr rfl kr rfl kr (fun wq_ hq_ => eM (.bool true)) (qP 11 ?_)
    refine qvg (d := 223) (t := 179) rfl kr rfl kr rfl kr (fun wq_ hq_ => eT (.bool true) kr) (qV 224 (fun wq_ hq_ => eT (.bool true) kr) ?_)
    refine wpQuiet_nil ?_
    intro w536 C539
    obtain ⟨S537, K538⟩ := S526.still C539
    refine tN (cond_t rfl kr (wQ (wR (lP 1 (wN (tN (wT ?_)))))))
    refine inb_r (tR (tR (inb_r (tR ?_))))
    obtain rfl := sj M
    exact ret1 rfl rfl  kr ⟨rfl, S537.chg⟩
   refine qG 188 187 (bF q535) (fun wq_ hq_ => eM (.slice A292 t287.1.length c293)) ?_
   obtain ⟨q540, M⟩ := chk M
   obtain ⟨b541, o542, e543⟩ := Rd.addr h528 (show 0 < t287.1.length by omega)
   obtain ⟨y544, r545, k546⟩ := Rd.at h528 e543 (getD_some z28 (show 0 < t287.1.length by omega))
   obtain ⟨A547, c548, rfl, l549, h550⟩ := st28_open r545
   refine qG 189 187 (bF q535) (fun wq_ hq_ => e_indexAddr (b := b541) (off := o542) (n := t287.1.length) (c := c293) (sz := 5) (i := 0) (k := .i64) underlying24 e543 kr kr rfl (by omega) q540) (qG 190 187 (bF q535) (fun wq_ hq_ => eD b541 (o542 + (0 : Int).toNat * 5) 0 1 underlying28) (qG 191 187 (bF q535) (fun wq_ hq_ => eK underlying3 (hpx ((S526.still hq_).1.inv.cell (k546 0 _ rfl)))) (qG 192 187 (bF q535) (fun wq_ hq_ => eM (.slice A93 x92.length c94)) (qG 193 187 (bF q535) (fun wq_ hq_ => eM (.int .i64 x98)) ?_))))
   obtain ⟨b551, o552, e553⟩ := Rd.addr h95 (show (x98).toNat < x92.length by omega)
   obtain ⟨y554, r555, k556⟩ := Rd.at h95 e553 (getD_some z28 (show (x98).toNat < x92.length by omega))
   obtain ⟨A557, c558, rfl, l559, h560⟩ := st28_open r555
   refine qG 194 187 (bF q535) (fun wq_ hq_ => eJ underlying24 e553 q216 q217) (qG 195 187 (bF q535) (fun wq_ hq_ => eD b551 (o552 + (x98 : Int).toNat * 5) 0 1 underlying28) (qG 196 187 (bF q535) (fun wq_ hq_ => eK underlying3 (hpx ((S526.still hq_).1.inv.cell (((((E197.trans E211).trans E284).trans E298).trans E527).cell (k556 0 _ rfl))))) (qG 197 187 (bF q535) (fun wq_ hq_ => eNe .i64 (t287.1.getD 0 z28).kind (x92.getD ((x98).toNat) z28).kind) ?_)))
   refine qvg (d := 198) (t := 179) rfl kr rfl kr rfl kr (fun wq_ hq_ => eF (.bool (decide (((t287.1.getD 0 z28).kind) ≠ ((x92.getD ((x98).toNat) z28).kind)))) (bF q535)) ?_
   refine qvg (d := 199) (t := 179) rfl kr rfl kr rfl kr (fun wq_ hq_ => eM (.bool (decide (((t287.1.getD 0 z28).kind) ≠ ((x92.getD ((x98).toNat) z28).kind))))) ?_
   obtain ⟨q561, M⟩ | ⟨q561, M⟩ := ifc M
   ·refine qP1 10 199 (bT q561) ?_
    refine qvg (d := 210) (t := 179) rfl kr rfl kr rfl kr (fun wq_ hq_ => eT (.bool true) (bT q561)) ?_
    refine qvg (d := 211) (t := 179) rfl kr rfl kr rfl kr (fun wq_ hq_ => eM (.bool true)) (qP 11 ?_)
    refine qvg (d := 223) (t := 179) rfl kr rfl kr rfl kr (fun wq_ hq_ => eT (.bool true) kr) (qV 224 (fun wq_ hq_ => eT (.bool true) kr) ?_)
    refine wpQuiet_nil ?_
    intro w562 C565
    obtain ⟨S563, K564⟩ := S526.still C565
    refine tN (cond_t rfl kr (wQ (wR (lP 1 (wN (tN (wT ?_)))))))
    refine inb_r (tR (tR (inb_r (tR ?_))))
    obtain rfl := sj M
    exact ret1 rfl rfl  kr ⟨rfl, S563.chg⟩
   refine qG 200 199 (bF q561) (fun wq_ hq_ => eM (.slice A292 t287.1.length c293)) ?_
   obtain ⟨b566, o567, e568⟩ := Rd.addr h528 (show 0 < t287.1.length by omega)
   obtain ⟨y569, r570, k571⟩ := Rd.at h528 e568 (getD_some z28 (show 0 < t287.1.length by omega))
   obtain ⟨A572, c573, rfl, l574, h575⟩ := st28_open r570
   refine qG 201 199 (bF q561) (fun wq_ hq_ => e_indexAddr (b := b566) (off := o567) (n := t287.1.length) (c := c293) (sz := 5) (i := 0) (k := .i64) underlying24 e568 kr kr rfl (by omega) q540) (qG 202 199 (bF q561) (fun wq_ hq_ => eD b566 (o567 + (0 : Int).toNat * 5) 4 1 underlying28) (qG 203 199 (bF q561) (fun wq_ hq_ => eK underlying3 (hpx ((S526.still hq_).1.inv.cell (k571 4 _ rfl)))) (qG 204 199 (bF q561) (fun wq_ hq_ => eM (.slice A93 x92.length c94)) (qG 205 199 (bF q561) (fun wq_ hq_ => eM (.int .i64 x98)) ?_))))
   obtain ⟨b576, o577, e578⟩ := Rd.addr h95 (show (x98).toNat < x92.length by omega)
   obtain ⟨y579, r580, k581⟩ := Rd.at h95 e578 (getD_some z28 (show (x98).toNat < x92.length by omega))
   obtain ⟨A582, c583, rfl, l584, h585⟩ := st28_open r580
   refine qG 206 199 (bF q561) (fun wq_ hq_ => eJ underlying24 e578 q216 q217) (qG 207 199 (bF q561) (fun wq_ hq_ => eD b576 (o577 + (x98 : Int).toNat * 5) 4 1 underlying28) (qG 208 199 (bF q561) (fun wq_ hq_ => eK underlying3 (hpx ((S526.still hq_).1.inv.cell (((((E197.trans E211).trans E284).trans E298).trans E527).cell (k581 4 _ rfl))))) (qG 209 199 (bF q561) (fun wq_ hq_ => eNe .i64 (t287.1.getD 0 z28).n (x92.getD ((x98).toNat) z28).n) ?_)))
   refine qvg (d := 210) (t := 179) rfl kr rfl kr rfl kr (fun wq_ hq_ => eF (.bool (decide (((t287.1.getD 0 z28).n) ≠ ((x92.getD ((x98).toNat) z28).n)))) (bF q561)) ?_
   refine qvg (d := 211) (t := 179) rfl kr rfl kr rfl kr (fun wq_ hq_ => eM (.bool (decide (((t287.1.getD 0 z28).n) ≠ ((x92.getD ((x98).toNat) z28).n))))) ?_
   obtain ⟨q586, M⟩ | ⟨q586, M⟩ := ifc M
   ·refine qP1 11 211 (bT q586) ?_
    refine qvg (d := 223) (t := 179) rfl kr rfl kr rfl kr (fun wq_ hq_ => eT (.bool true) (bT q586)) (qV 224 (fun wq_ hq_ => eT (.bool true) kr) ?_)
    refine wpQuiet_nil ?_
    intro w587 C590
    obtain ⟨S588, K589⟩ := S526.still C590
    refine tN (cond_t rfl kr (wQ (wR (lP 1 (wN (tN (wT ?_)))))))
    refine inb_r (tR (tR (inb_r (tR ?_))))
    obtain rfl := sj M
    exact ret1 rfl rfl  kr ⟨rfl, S588.chg⟩
   refine qG 212 211 (bF q586) (fun wq_ hq_ => eM (.slice A292 t287.1.length c293)) ?_
   obtain ⟨b591, o592, e593⟩ := Rd.addr h528 (show 0 < t287.1.length by omega)
   obtain ⟨y594, r595, k596⟩ := Rd.at h528 e593 (getD_some z28 (show 0 < t287.1.length by omega))
   obtain ⟨A597, c598, rfl, l599, h600⟩ := st28_open r595
   refine qG 213 211 (bF q586) (fun wq_ hq_ => e_indexAddr (b := b591) (off := o592) (n := t287.1.length) (c := c293) (sz := 5) (i := 0) (k := .i64) underlying24 e593 kr kr rfl (by omega) q540) (qG 214 211 (bF q586) (fun wq_ hq_ => eD b591 (o592 + (0 : Int).toNat * 5) 3 1 underlying28) (qG 215 211 (bF q586) (fun wq_ hq_ => eK underlying22 (hpx ((S526.still hq_).1.inv.cell (k596 3 _ rfl)))) (qG 216 211 (bF q586) (fun wq_ hq_ => eM (.slice A93 x92.length c94)) (qG 217 211 (bF q586) (fun wq_ hq_ => eM (.int .i64 x98)) ?_))))
   obtain ⟨b601, o602, e603⟩ := Rd.addr h95 (show (x98).toNat < x92.length by omega)
   obtain ⟨y604, r605, k606⟩ := Rd.at h95 e603 (getD_some z28 (show (x98).toNat < x92.length by omega))
   obtain ⟨A607, c608, rfl, l609, h610⟩ := st28_open r605
   refine qG 218 211 (bF q586) (fun wq_ hq_ => eJ underlying24 e603 q216 q217) (qG 219 211 (bF q586) (fun wq_ hq_ => eD b601 (o602 + (x98 : Int).toNat * 5) 3 1 underlying28) (qG 220 211 (bF q586) (fun wq_ hq_ => eK underlying22 (hpx ((S526.still hq_).1.inv.cell (((((E197.trans E211).trans E284).trans E298).trans E527).cell (k606 3 _ rfl))))) ?_))
   obtain ⟨t611, u612, M⟩ := bnd M
   refine qcallg (v := .bool t611) (d := 221) (t := 211) rfl kr rfl (bF q586) rfl kr (fun w_ => eE func7) (fun wq_ hq_ => (by obtain ⟨S_, K_⟩ := S526.still hq_; replace h207 := h207.move (K_.a 0); exact (laws_sameB.calls h600 l599 (h610.ext ((((E197.trans E211).trans E284).trans E298).trans E527)) l609 S_.own0 u612))) (qG 222 211 (bF q586) (fun wq_ hq_ => e_notv (c := t611) kr) ?_)
   refine qvg (d := 223) (t := 179) rfl kr rfl kr rfl kr (fun wq_ hq_ => eF (.bool (decide (¬ (t611 = true)))) (bF q586)) (qV 224 (fun wq_ hq_ => eT (.bool (decide (¬ (t611 = true)))) kr) ?_)
   refine wpQuiet_nil ?_
   intro w613 C616
   obtain ⟨S614, K615⟩ := S526.still C616
   refine tN ?_
   obtain ⟨q617, M⟩ | ⟨q617, M⟩ := ifc M
   ·refine cT (bT q617) (wQ (wR (lP 1 (wN (tN (wT (inb_r (tR (tR (inb_r (tR ?_)))))))))))
    obtain rfl := sj M
    exact ret1 rfl rfl  kr ⟨rfl, S614.chg⟩
   refine cF (bF q617) (wK (inb_n (tN (wR (lP 3 (wN (tN ?_)))))))
   have S618 := St.first (Fa := []) (Fr := [F208]) S614
   exact ⟨k128, (by omega), _, H525, x87, A88, c89, x92, A93, c94, (i64.wrap (x123 + ((x92.getD ((x98).toNat) z28).size))), (i64.wrap (x98 + 1)), (hdw (hdc (hdc (hdc (hdc (hdc (hdc rfl kr) kr) kr) kr) kr) kr)), (h90.ext ((((E197.trans E211).trans E284).trans E298).trans E527)), l91, (h95.ext ((((E197.trans E211).trans E284).trans E298).trans E527)), l96, (((((Y86.trans E197).trans E211).trans E284).trans E298).trans E527), S618, M⟩
  refine lP1 2 162 (bT q309) ?_
  obtain ⟨b310, o311, e312⟩ := Rd.addr h95 (show (x98).toNat < x92.length by omega)
  obtain ⟨y313, r314, k315⟩ := Rd.at h95 e312 (getD_some z28 (show (x98).toNat < x92.length by omega))
  obtain ⟨A316, c317, rfl, l318, h319⟩ := st28_open r314
  refine lG 165 162 (bT q309) (eJ underlying24 e312 q216 q217) (lP1 1 162 (bT q309) (lG 167 162 (bT q309) (eK underlying3 (hpx (S296.inv.cell ((((E197.trans E211).trans E284).trans E298).cell (k315 2 _ rfl))))) (lP1 3 162 (bT q309) ?_)))
  obtain ⟨q320, M⟩ | ⟨q320, M⟩ := ifd M
  ·refine lP1 7 170 (bF q320) (wN (tN (wQ ?_)))
   have l429 := h294.le
   obtain ⟨H430, S431, E432, h433, z434⟩ := S296.frzRow h294
   replace h207 := h207.ext E432
   refine region_quiet kr kr (qV 177 (fun wq_ hq_ => eM (.bool false)) (qV 178 (fun wq_ hq_ => e_not (c := false) kr) (qV 179 (fun wq_ hq_ => eM (.bool true)) ?_)))
   refine qvg (d := 180) (t := 179) rfl kr rfl kr rfl kr (fun wq_ hq_ => eM (.int .i64 t287.2.1)) ?_
   refine qvg (d := 181) (t := 179) rfl kr rfl kr rfl kr (fun wq_ hq_ => eNe .i64 t287.2.1 0) ?_
   refine qvg (d := 182) (t := 179) rfl kr rfl kr rfl kr (fun wq_ hq_ => eM (.bool (decide (t287.2.1 ≠ 0)))) ?_
   obtain ⟨q435, M⟩ | ⟨q435, M⟩ := ifc M
   ·refine qP1 3 182 (bT q435) ?_
    refine qvg (d := 186) (t := 179) rfl kr rfl kr rfl kr (fun wq_ hq_ => eT (.bool true) (bT q435)) ?_
    refine qvg (d := 187) (t := 179) rfl kr rfl kr rfl kr (fun wq_ hq_ => eM (.bool true)) (qP 10 ?_)
    refine qvg (d := 198) (t := 179) rfl kr rfl kr rfl kr (fun wq_ hq_ => eT (.bool true) kr) ?_
    refine qvg (d := 199) (t := 179) rfl kr rfl kr rfl kr (fun wq_ hq_ => eM (.bool true)) (qP 10 ?_)
    refine qvg (d := 210) (t := 179) rfl kr rfl kr rfl kr (fun wq_ hq_ => eT (.bool true) kr) ?_
    refine qvg (d := 211) (t := 179) rfl kr rfl kr rfl kr (fun wq_ hq_ => eM (.bool true)) (qP 11 ?_)
    refine qvg (d := 223) (t := 179) rfl kr rfl kr rfl kr (fun wq_ hq_ => eT (.bool true) kr) (qV 224 (fun wq_ hq_ => eT (.bool true) kr) ?_)
    refine wpQuiet_nil ?_
    intro w436 C439
    obtain ⟨S437, K438⟩ := S431.still C439
    refine tN (cond_t rfl kr (wQ (wR (lP 1 (wN (tN (wT ?_)))))))
    refine inb_r (tR (tR (inb_r (tR ?_))))
    obtain rfl := sj M
    exact ret1 rfl rfl  kr ⟨rfl, S437.chg⟩
   refine qG 183 182 (bF q435) (fun wq_ hq_ => eM (.slice A292 t287.1.length c293)) (qG 184 182 (bF q435) (fun wq_ hq_ => e_len (A := A292) (n := t287.1.length) (c := c293) underlying24 kr) (qG 185 182 (bF q435) (fun wq_ hq_ => eNe .i64 (t287.1.length : Int) 1) ?_))
   refine qvg (d := 186) (t := 179) rfl kr rfl kr rfl kr (fun wq_ hq_ => eF (.bool (decide ((t287.1.length : Int) ≠ 1))) (bF q435)) ?_
   refine qvg (d := 187) (t := 179) rfl kr rfl kr rfl kr (fun wq_ hq_ => eM (.bool (decide ((t287.1.length : Int) ≠ 1)))) ?_
   obtain ⟨q440, M⟩ | ⟨q440, M⟩ := ifc M
   ·refine qP1 10 187 (bT q440) ?_
    refine qvg (d := 198) (t := 179) rfl kr rfl kr rfl kr (fun wq_ hq_ => eT (.bool true) (bT q440)) ?_
    refine qvg (d := 199) (t := 179) rfl kr rfl kr rfl kr (fun wq_ hq_ => eM (.bool true)) (qP 10 ?_)
    refine qvg (d := 210) (t := 179) rfl kr rfl kr rfl kr (fun wq_ hq_ => eT (.bool true) kr) ?_
    refine qvg (d := 211) (t := 179) rfl kr rfl kr rfl kr (fun wq_ hq_ => eM (.bool true)) (qP 11 ?_)
    refine qvg (d := 223) (t := 179) rfl kr rfl kr rfl kr (fun wq_ hq_ => eT (.bool true) kr) (qV 224 (fun wq_ hq_ => eT (.bool true) kr) ?_)
    refine wpQuiet_nil ?_
    intro w441 C444
    obtain ⟨S442, K443⟩ := S431.still C444
    refine tN (cond_t rfl kr (wQ (wR (lP 1 (wN (tN (wT ?_)))))))
    refine inb_r (tR (tR (inb_r (tR ?_))))
    obtain rfl := sj M
    exact ret1 rfl rfl  kr ⟨rfl, S442.chg⟩
   refine qG 188 187 (bF q440) (fun wq_ hq_ => eM (.slice A292 t287.1.length c293)) ?_
   obtain ⟨q445, M⟩ := chk M
   obtain ⟨b446, o447, e448⟩ := Rd.addr h433 (show 0 < t287.1.length by omega)
   obtain ⟨y449, r450, k451⟩ := Rd.at h433 e448 (getD_some z28 (show 0 < t287.1.length by omega))
   obtain ⟨A452, c453, rfl, l454, h455⟩ := st28_open r450
   refine qG 189 187 (bF q440) (fun wq_ hq_ => e_indexAddr (b := b446) (off := o447) (n := t287.1.length) (c := c293) (sz := 5) (i := 0) (k := .i64) underlying24 e448 kr kr rfl (by omega) q445) (qG 190 187 (bF q440) (fun wq_ hq_ => eD b446 (o447 + (0 : Int).toNat * 5) 0 1 underlying28) (qG 191 187 (bF q440) (fun wq_ hq_ => eK underlying3 (hpx ((S431.still hq_).1.inv.cell (k451 0 _ rfl)))) (qG 192 187 (bF q440) (fun wq_ hq_ => eM (.slice A93 x92.length c94)) (qG 193 187 (bF q440) (fun wq_ hq_ => eM (.int .i64 x98)) ?_))))
   obtain ⟨b456, o457, e458⟩ := Rd.addr h95 (show (x98).toNat < x92.length by omega)
   obtain ⟨y459, r460, k461⟩ := Rd.at h95 e458 (getD_some z28 (show (x98).toNat < x92.length by omega))
   obtain ⟨A462, c463, rfl, l464, h465⟩ := st28_open r460
   refine qG 194 187 (bF q440) (fun wq_ hq_ => eJ underlying24 e458 q216 q217) (qG 195 187 (bF q440) (fun wq_ hq_ => eD b456 (o457 + (x98 : Int).toNat * 5) 0 1 underlying28) (qG 196 187 (bF q440) (fun wq_ hq_ => eK underlying3 (hpx ((S431.still hq_).1.inv.cell (((((E197.trans E211).trans E284).trans E298).trans E432).cell (k461 0 _ rfl))))) (qG 197 187 (bF q440) (fun wq_ hq_ => eNe .i64 (t287.1.getD 0 z28).kind (x92.getD ((x98).toNat) z28).kind) ?_)))
   refine qvg (d := 198) (t := 179) rfl kr rfl kr rfl kr (fun wq_ hq_ => eF (.bool (decide (((t287.1.getD 0 z28).kind) ≠ ((x92.getD ((x98).toNat) z28).kind)))) (bF q440)) ?_
   refine qvg (d := 199) (t := 179) rfl kr rfl kr rfl kr (fun wq_ hq_ => eM (.bool (decide (((t287.1.getD 0 z28).kind) ≠ ((x92.getD ((x98).toNat) z28).kind))))) ?_
   obtain ⟨q466, M⟩ | ⟨q466, M⟩ := ifc M
   ·refine qP1 10 199 (bT q466) ?_
    refine qvg (d := 210) (t := 179) rfl kr rfl kr rfl kr (fun wq_ hq_ => eT (.bool true) (bT q466)) ?_
    refine qvg (d := 211) (t := 179) rfl kr rfl kr rfl kr (fun wq_ hq_ => eM (.bool true)) (qP 11 ?_)
    refine qvg (d := 223) (t := 179) rfl kr rfl kr rfl kr (fun wq_ hq_ => eT (.bool true) kr) (qV 224 (fun wq_ hq_ => eT (.bool true) kr) ?_)
    refine wpQuiet_nil ?_
    intro w467 C470
    obtain ⟨S468, K469⟩ := S431.still C470
    refine tN (cond_t rfl kr (wQ (wR (lP 1 (wN (tN (wT ?_)))))))
    refine inb_r (tR (tR (inb_r (tR ?_))))
    obtain rfl := sj M
    exact ret1 rfl rfl  kr ⟨rfl, S468.chg⟩
   refine qG 200 199 (bF q466) (fun wq_ hq_ => eM (.slice A292 t287.1.length c293)) ?_
   obtain ⟨b471, o472, e473⟩ := Rd.addr h433 (show 0 < t287.1.length by omega)
   obtain ⟨y474, r475, k476⟩ := Rd.at h433 e473 (getD_some z28 (show 0 < t287.1.length by omega))
   obtain ⟨A477, c478, rfl, l479, h480⟩ := st28_open r475
   refine qG 201 199 (bF q466) (fun wq_ hq_ => e_indexAddr (b := b471) (off := o472) (n := t287.1.length) (c := c293) (sz := 5) (i := 0) (k := .i64) underlying24 e473 kr kr rfl (by omega) q445) (qG 202 199 (bF q466) (fun wq_ hq_ => eD b471 (o472 + (0 : Int).toNat * 5) 4 1 underlying28) (qG 203 199 (bF q466) (fun wq_ hq_ => eK underlying3 (hpx ((S431.still hq_).1.inv.cell (k476 4 _ rfl)))) (qG 204 199 (bF q466) (fun wq_ hq_ => eM (.slice A93 x92.length c94)) (qG 205 199 (bF q466) (fun wq_ hq_ => eM (.int .i64 x98)) ?_))))
   obtain ⟨b481, o482, e483⟩ := Rd.addr h95 (show (x98).toNat < x92.length by omega)
   obtain ⟨y484, r485, k486⟩ := Rd.at h95 e483 (getD_some z28 (show (x98).toNat < x92.length by omega))
   obtain ⟨A487, c488, rfl, l489, h490⟩ := st28_open r485
   refine qG 206 199 (bF q466) (fun wq_ hq_ => eJ underlying24 e483 q216 q217) (qG 207 199 (bF q466) (fun wq_ hq_ => eD b481 (o482 + (x98 : Int).toNat * 5) 4 1 underlying28) (qG 208 199 (bF q466) (fun wq_ hq_ => eK underlying3 (hpx ((S431.still hq_).1.inv.cell (((((E197.trans E211).trans E284).trans E298).trans E432).cell (k486 4 _ rfl))))) (qG 209 199 (bF q466) (fun wq_ hq_ => eNe .i64 (t287.1.getD 0 z28).n (x92.getD ((x98).toNat) z28).n) ?_)))
   refine qvg (d := 210) (t := 179) rfl kr rfl kr rfl kr (fun wq_ hq_ => eF (.bool (decide (((t287.1.getD 0 z28).n) ≠ ((x92.getD ((x98).toNat) z28).n)))) (bF q466)) ?_
   refine qvg (d := 211) (t := 179) rfl kr rfl kr rfl kr (fun wq_ hq_ => eM (.bool (decide (((t287.1.getD 0 z28).n) ≠ ((x92.getD ((x98).toNat) z28).n))))) ?_
   obtain ⟨q491, M⟩ | ⟨q491, M⟩ := ifc M
   ·refine qP1 11 211 (bT q491) ?_
    refine qvg (d := 223) (t := 179) rfl kr rfl kr rfl kr (fun wq_ hq_ => eT (.bool true) (bT q491)) (qV 224 (fun wq_ hq_ => eT (.bool true) kr) ?_)
    refine wpQuiet_nil ?_
    intro w492 C495
    obtain ⟨S493, K494⟩ := S431.still C495
    refine tN (cond_t rfl kr (wQ (wR (lP 1 (wN (tN (wT ?_)))))))
    refine inb_r (tR (tR (inb_r (tR ?_))))
    obtain rfl := sj M
    exact ret1 rfl rfl  kr ⟨rfl, S493.chg⟩
   refine qG 212 211 (bF q491) (fun wq_ hq_ => eM (.slice A292 t287.1.length c293)) ?_
   obtain ⟨b496, o497, e498⟩ := Rd.addr h433 (show 0 < t287.1.length by omega)
   obtain ⟨y499, r500, k501⟩ := Rd.at h433 e498 (getD_some z28 (show 0 < t287.1.length by omega))
   obtain ⟨A502, c503, rfl, l504, h505⟩ := st28_open r500
   refine qG 213 211 (bF q491) (fun wq_ hq_ => e_indexAddr (b := b496) (off := o497) (n := t287.1.length) (c := c293) (sz := 5) (i := 0) (k := .i64) underlying24 e498 kr kr rfl (by omega) q445) (qG 214 211 (bF q491) (fun wq_ hq_ => eD b496 (o497 + (0 : Int).toNat * 5) 3 1 underlying28) (qG 215 211 (bF q491) (fun wq_ hq_ => eK underlying22 (hpx ((S431.still hq_).1.inv.cell (k501 3 _ rfl)))) (qG 216 211 (bF q491) (fun wq_ hq_ => eM (.slice A93 x92.length c94)) (qG 217 211 (bF q491) (fun wq_ hq_ => eM (.int .i64 x98)) ?_))))
   obtain ⟨b506, o507, e508⟩ := Rd.addr h95 (show (x98).toNat < x92.length by omega)
   obtain ⟨y509, r510, k511⟩ := Rd.at h95 e508 (getD_some z28 (show (x98).toNat < x92.length by omega))
   obtain ⟨A512, c513, rfl, l514, h515⟩ := st28_open r510
   refine qG 218 211 (bF q491) (fun wq_ hq_ => eJ underlying24 e508 q216 q217) (qG 219 211 (bF q491) (fun wq_ hq_ => eD b506 (o507 + (x98 : Int).toNat * 5) 3 1 underlying28) (qG 220 211 (bF q491) (fun wq_ hq_ => eK underlying22 (hpx ((S431.still hq_).1.inv.cell (((((E197.trans E211).trans E284).trans E298).trans E432).cell (k511 3 _ rfl))))) ?_))
   obtain ⟨t516, u517, M⟩ := bnd M
   refine qcallg (v := .bool t516) (d := 221) (t := 211) rfl kr rfl (bF q491) rfl kr (fun w_ => eE func7) (fun wq_ hq_ => (by obtain ⟨S_, K_⟩ := S431.still hq_; replace h207 := h207.move (K_.a 0); exact (laws_sameB.calls h505 l504 (h515.ext ((((E197.trans E211).trans E284).trans E298).trans E432)) l514 S_.own0 u517))) (qG 222 211 (bF q491) (fun wq_ hq_ => e_notv (c := t516) kr) ?_)
   refine qvg (d := 223) (t := 179) rfl kr rfl kr rfl kr (fun wq_ hq_ => eF (.bool (decide (¬ (t516 = true)))) (bF q491)) (qV 224 (fun wq_ hq_ => eT (.bool (decide (¬ (t516 = true)))) kr) ?_)
   refine wpQuiet_nil ?_
   intro w518 C521
   obtain ⟨S519, K520⟩ := S431.still C521
   refine tN ?_
   obtain ⟨q522, M⟩ | ⟨q522, M⟩ := ifc M
   ·refine cT (bT q522) (wQ (wR (lP 1 (wN (tN (wT (inb_r (tR (tR (inb_r (tR ?_)))))))))))
    obtain rfl := sj M
    exact ret1 rfl rfl  kr ⟨rfl, S519.chg⟩
   refine cF (bF q522) (wK (inb_n (tN (wR (lP 3 (wN (tN ?_)))))))
   have S523 := St.first (Fa := []) (Fr := [F208]) S519
   exact ⟨k128, (by omega), _, H430, x87, A88, c89, x92, A93, c94, (i64.wrap (x123 + ((x92.getD ((x98).toNat) z28).size))), (i64.wrap (x98 + 1)), (hdw (hdc (hdc (hdc (hdc (hdc (hdc rfl kr) kr) kr) kr) kr) kr)), (h90.ext ((((E197.trans E211).trans E284).trans E298).trans E432)), l91, (h95.ext ((((E197.trans E211).trans E284).trans E298).trans E432)), l96, (((((Y86.trans E197).trans E211).trans E284).trans E298).trans E432), S523, M⟩
  refine lP1 2 170 (bT q320) ?_
  obtain ⟨q321, M⟩ := chk M
  obtain ⟨b322, o323, e324⟩ := Rd.addr h90 (show (x123).toNat < x87.length by omega)
  obtain ⟨y325, r326, k327⟩ := Rd.at h90 e324 (getD_some (0 : UInt8) (show (x123).toNat < x87.length by omega))
  obtain rfl := r326
  refine lG 173 170 (bT q320) (eJ underlying22 e324 q261 q321) (lG 174 170 (bT q320) (eK underlying5 (hpx (S296.inv.cell ((((E197.trans E211).trans E284).trans E298).cell (k327 0 _ rfl))))) (lP1 3 170 (bT q320) (wN (tN (wQ ?_)))))
  have l328 := h294.le
  obtain ⟨H329, S330, E331, h332, z333⟩ := S296.frzRow h294
  replace h207 := h207.ext E331
  refine region_quiet kr kr (qV 177 (fun wq_ hq_ => eM (.bool (decide (((x87.getD ((x123).toNat) (0 : UInt8)).toNat : Int) = 46)))) (qV 178 (fun wq_ hq_ => e_notd (c := ((x87.getD ((x123).toNat) (0 : UInt8)).toNat : Int) = 46) kr) (qV 179 (fun wq_ hq_ => eM (.bool (decide (¬ (((x87.getD ((x123).toNat) (0 : UInt8)).toNat : Int) = 46))))) ?_)))
  obtain ⟨q334, M⟩ | ⟨q334, M⟩ := ifd M
  ·refine qP1 3 179 (bF q334) ?_
   refine qP 1 ?_
   refine qP 1 ?_
   refine qP1 3 179 (bF q334) ?_
   refine qP 1 ?_
   refine qP 1 ?_
   refine qP 1 ?_
   refine qP 1 ?_
   refine qP 1 ?_
   refine qP 1 ?_
   refine qP 1 ?_
   refine qP 1 ?_
   refine qP 1 ?_
   refine qP1 3 179 (bF q334) ?_
   refine qP 1 ?_
   refine qP 1 ?_
   refine qP 1 ?_
   refine qP 1 ?_
   refine qP 1 ?_
   refine qP 1 ?_
   refine qP 1 ?_
   refine qP 1 ?_
   refine qP 1 ?_
   refine qP1 3 179 (bF q334) ?_
   refine qP 1 ?_
   refine qP 1 ?_
   refine qP 1 ?_
   refine qP 1 ?_
   refine qP 1 ?_
   refine qP 1 ?_
   refine qP 1 ?_
   refine qP 1 ?_
   refine qP 1 ?_
   refine qP 1 ?_
   refine qP1 2 179 (bF q334) (qV 224 (fun wq_ hq_ => eF (.bool false) (bF q334)) ?_)
   refine wpQuiet_nil ?_
   intro w424 C427
   obtain ⟨S425, K426⟩ := S330.still C427
   refine tN (cond_f rfl kr (wK (inb_n (tN (wR (lP 3 (wN (tN ?_))))))))
   have S428 := St.first (Fa := []) (Fr := [F208]) S425
   exact ⟨k128, (by omega), _, H329, x87, A88, c89, x92, A93, c94, (i64.wrap (x123 + ((x92.getD ((x98).toNat) z28).size))), (i64.wrap (x98 + 1)), (hdw (hdc (hdc (hdc (hdc (hdc (hdc rfl kr) kr) kr) kr) kr) kr)), (h90.ext ((((E197.trans E211).trans E284).trans E298).trans E331)), l91, (h95.ext ((((E197.trans E211).trans E284).trans E298).trans E331)), l96, (((((Y86.trans E197).trans E211).trans E284).trans E298).trans E331), S428, M⟩
  refine qG 180 179 (bT q334) (fun wq_ hq_ => eM (.int .i64 t287.2.1)) (qG 181 179 (bT q334) (fun wq_ hq_ => eNe .i64 t287.2.1 0) (qG 182 179 (bT q334) (fun wq_ hq_ => eM (.bool (decide (t287.2.1 ≠ 0)))) ?_))
  obtain ⟨q335, M⟩ | ⟨q335, M⟩ := ifc M
  ·refine qP1 3 182 (bT q335) (qG 186 179 (bT q334) (fun wq_ hq_ => eT (.bool true) (bT q335)) (qG 187 179 (bT q334) (fun wq_ hq_ => eM (.bool true)) (qP 10 (qG 198 179 (bT q334) (fun wq_ hq_ => eT (.bool true) kr) (qG 199 179 (bT q334) (fun wq_ hq_ => eM (.bool true)) (qP 10 (qG 210 179 (bT q334) (fun wq_ hq_ => eT (.bool true) kr) (qG 211 179 (bT q334) (fun wq_ hq_ => eM (.bool true)) (qP 11 (qG 223 179 (bT q334) (fun wq_ hq_ => eT (.bool true) kr) (qV 224 (fun wq_ hq_ => eT (.bool true) (bT q334)) ?_)))))))))))
   refine wpQuiet_nil ?_
   intro w336 C339
   obtain ⟨S337, K338⟩ := S330.still C339
   refine tN (cond_t rfl kr (wQ (wR (lP 1 (wN (tN (wT ?_)))))))
   refine inb_r (tR (tR (inb_r (tR ?_))))
   obtain rfl := sj M
   exact ret1 rfl rfl  kr ⟨rfl, S337.chg⟩
  refine qG 183 182 (bF q335) (fun wq_ hq_ => eM (.slice A292 t287.1.length c293)) (qG 184 182 (bF q335) (fun wq_ hq_ => e_len (A := A292) (n := t287.1.length) (c := c293) underlying24 kr) (qG 185 182 (bF q335) (fun wq_ hq_ => eNe .i64 (t287.1.length : Int) 1) (qG 186 179 (bT q334) (fun wq_ hq_ => eF (.bool (decide ((t287.1.length : Int) ≠ 1))) (bF q335)) (qG 187 179 (bT q334) (fun wq_ hq_ => eM (.bool (decide ((t287.1.length : Int) ≠ 1)))) ?_))))
  obtain ⟨q340, M⟩ | ⟨q340, M⟩ := ifc M
  ·refine qP1 10 187 (bT q340) (qG 198 179 (bT q334) (fun wq_ hq_ => eT (.bool true) (bT q340)) (qG 199 179 (bT q334) (fun wq_ hq_ => eM (.bool true)) (qP 10 (qG 210 179 (bT q334) (fun wq_ hq_ => eT (.bool true) kr) (qG 211 179 (bT q334) (fun wq_ hq_ => eM (.bool true)) (qP 11 (qG 223 179 (bT q334) (fun wq_ hq_ => eT (.bool true) kr) (qV 224 (fun wq_ hq_ => eT (.bool true) (bT q334)) ?_))))))))
   refine wpQuiet_nil ?_
   intro w341 C344
   obtain ⟨S342, K343⟩ := S330.still C344
   refine tN (cond_t rfl kr (wQ (wR (lP 1 (wN (tN (wT ?_)))))))
   refine inb_r (tR (tR (inb_r (tR ?_))))
   obtain rfl := sj M
   exact ret1 rfl rfl  kr ⟨rfl, S342.chg⟩
  refine qG 188 187 (bF q340) (fun wq_ hq_ => eM (.slice A292 t287.1.length c293)) ?_
  obtain ⟨q345, M⟩ := chk M
  obtain ⟨b346, o347, e348⟩ := Rd.addr h332 (show 0 < t287.1.length by omega)
  obtain ⟨y349, r350, k351⟩ := Rd.at h332 e348 (getD_some z28 (show 0 < t287.1.length by omega))
  obtain ⟨A352, c353, rfl, l354, h355⟩ := st28_open r350
  refine qG 189 187 (bF q340) (fun wq_ hq_ => e_indexAddr (b := b346) (off := o347) (n := t287.1.length) (c := c293) (sz := 5) (i := 0) (k := .i64) underlying24 e348 kr kr rfl (by omega) q345) (qG 190 187 (bF q340) (fun wq_ hq_ => eD b346 (o347 + (0 : Int).toNat * 5) 0 1 underlying28) (qG 191 187 (bF q340) (fun wq_ hq_ => eK underlying3 (hpx ((S330.still hq_).1.inv.cell (k351 0 _ rfl)))) (qG 192 187 (bF q340) (fun wq_ hq_ => eM (.slice A93 x92.length c94)) (qG 193 187 (bF q340) (fun wq_ hq_ => eM (.int .i64 x98)) ?_))))
  obtain ⟨b356, o357, e358⟩ := Rd.addr h95 (show (x98).toNat < x92.length by omega)
  obtain ⟨y359, r360, k361⟩ := Rd.at h95 e358 (getD_some z28 (show (x98).toNat < x92.length by omega))
  obtain ⟨A362, c363, rfl, l364, h365⟩ := st28_open r360
  refine qG 194 187 (bF q340) (fun wq_ hq_ => eJ underlying24 e358 q216 q217) (qG 195 187 (bF q340) (fun wq_ hq_ => eD b356 (o357 + (x98 : Int).toNat * 5) 0 1 underlying28) (qG 196 187 (bF q340) (fun wq_ hq_ => eK underlying3 (hpx ((S330.still hq_).1.inv.cell (((((E197.trans E211).trans E284).trans E298).trans E331).cell (k361 0 _ rfl))))) (qG 197 187 (bF q340) (fun wq_ hq_ => eNe .i64 (t287.1.getD 0 z28).kind (x92.getD ((x98).toNat) z28).kind) (qG 198 179 (bT q334) (fun wq_ hq_ => eF (.bool (decide (((t287.1.getD 0 z28).kind) ≠ ((x92.getD ((x98).toNat) z28).kind)))) (bF q340)) (qG 199 179 (bT q334) (fun wq_ hq_ => eM (.bool (decide (((t287.1.getD 0 z28).kind) ≠ ((x92.getD ((x98).toNat) z28).kind))))) ?_)))))
  obtain ⟨q366, M⟩ | ⟨q366, M⟩ := ifc M
  ·refine qP1 10 199 (bT q366) (qG 210 179 (bT q334) (fun wq_ hq_ => eT (.bool true) (bT q366)) (qG 211 179 (bT q334) (fun wq_ hq_ => eM (.bool true)) (qP 11 (qG 223 179 (bT q334) (fun wq_ hq_ => eT (.bool true) kr) (qV 224 (fun wq_ hq_ => eT (.bool true) (bT q334)) ?_)))))
   refine wpQuiet_nil ?_
   intro w367 C370
   obtain ⟨S368, K369⟩ := S330.still C370
   refine tN (cond_t rfl kr (wQ (wR (lP 1 (wN (tN (wT ?_)))))))
   refine inb_r (tR (tR (inb_r (tR ?_))))
   obtain rfl := sj M
   exact ret1 rfl rfl  kr ⟨rfl, S368.chg⟩
  refine qG 200 199 (bF q366) (fun wq_ hq_ => eM (.slice A292 t287.1.length c293)) ?_
  obtain ⟨b371, o372, e373⟩ := Rd.addr h332 (show 0 < t287.1.length by omega)
  obtain ⟨y374, r375, k376⟩ := Rd.at h332 e373 (getD_some z28 (show 0 < t287.1.length by omega))
  obtain ⟨A377, c378, rfl, l379, h380⟩ := st28_open r375
  refine qG 201 199 (bF q366) (fun wq_ hq_ => e_indexAddr (b := b371) (off := o372) (n := t287.1.length) (c := c293) (sz := 5) (i := 0) (k := .i64) underlying24 e373 kr kr rfl (by omega) q345) (qG 202 199 (bF q366) (fun wq_ hq_ => eD b371 (o372 + (0 : Int).toNat * 5) 4 1 underlying28) (qG 203 199 (bF q366) (fun wq_ hq_ => eK underlying3 (hpx ((S330.still hq_).1.inv.cell (k376 4 _ rfl)))) (qG 204 199 (bF q366) (fun wq_ hq_ => eM (.slice A93 x92.length c94)) (qG 205 199 (bF q366) (fun wq_ hq_ => eM (.int .i64 x98)) ?_))))
  obtain ⟨b381, o382, e383⟩ := Rd.addr h95 (show (x98).toNat < x92.length by omega)
  obtain ⟨y384, r385, k386⟩ := Rd.at h95 e383 (getD_some z28 (show (x98).toNat < x92.length by omega))
  obtain ⟨A387, c388, rfl, l389, h390⟩ := st28_open r385
  refine qG 206 199 (bF q366) (fun wq_ hq_ => eJ underlying24 e383 q216 q217) (qG 207 199 (bF q366) (fun wq_ hq_ => eD b381 (o382 + (x98 : Int).toNat * 5) 4 1 underlying28) (qG 208 199 (bF q366) (fun wq_ hq_ => eK underlying3 (hpx ((S330.still hq_).1.inv.cell (((((E197.trans E211).trans E284).trans E298).trans E331).cell (k386 4 _ rfl))))) (qG 209 199 (bF q366) (fun wq_ hq_ => eNe .i64 (t287.1.getD 0 z28).n (x92.getD ((x98).toNat) z28).n) (qG 210 179 (bT q334) (fun wq_ hq_ => eF (.bool (decide (((t287.1.getD 0 z28).n) ≠ ((x92.getD ((x98).toNat) z28).n)))) (bF q366)) (qG 211 179 (bT q334) (fun wq_ hq_ => eM (.bool (decide (((t287.1.getD 0 z28).n) ≠ ((x92.getD ((x98).toNat) z28).n))))) ?_)))))
  obtain ⟨q391, M⟩ | ⟨q391, M⟩ := ifc M
  ·refine qP1 11 211 (bT q391) (qG 223 179 (bT q334) (fun wq_ hq_ => eT (.bool true) (bT q391)) (qV 224 (fun wq_ hq_ => eT (.bool true) (bT q334)) ?_))
   refine wpQuiet_nil ?_
   intro w392 C395
   obtain ⟨S393, K394⟩ := S330.still C395
   refine tN (cond_t rfl kr (wQ (wR (lP 1 (wN (tN (wT ?_)))))))
   refine inb_r (tR (tR (inb_r (tR ?_))))
   obtain rfl := sj M
   exact ret1 rfl rfl  kr ⟨rfl, S393.chg⟩
  refine qG 212 211 (bF q391) (fun wq_ hq_ => eM (.slice A292 t287.1.length c293)) ?_
  obtain ⟨b396, o397, e398⟩ := Rd.addr h332 (show 0 < t287.1.length by omega)
  obtain ⟨y399, r400, k401⟩ := Rd.at h332 e398 (getD_some z28 (show 0 < t287.1.length by omega))
  obtain ⟨A402, c403, rfl, l404, h405⟩ := st28_open r400
  refine qG 213 211 (bF q391) (fun wq_ hq_ => e_indexAddr (b := b396) (off := o397) (n := t287.1.length) (c := c293) (sz := 5) (i := 0) (k := .i64) underlying24 e398 kr kr rfl (by omega) q345) (qG 214 211 (bF q391) (fun wq_ hq_ => eD b396 (o397 + (0 : Int).toNat * 5) 3 1 underlying28) (qG 215 211 (bF q391) (fun wq_ hq_ => eK underlying22 (hpx ((S330.still hq_).1.inv.cell (k401 3 _ rfl)))) (qG 216 211 (bF q391) (fun wq_ hq_ => eM (.slice A93 x92.length c94)) (qG 217 211 (bF q391) (fun wq_ hq_ => eM (.int .i64 x98)) ?_))))
  obtain ⟨b406, o407, e408⟩ := Rd.addr h95 (show (x98).toNat < x92.length by omega)
  obtain ⟨y409, r410, k411⟩ := Rd.at h95 e408 (getD_some z28 (show (x98).toNat < x92.length by omega))
  obtain ⟨A412, c413, rfl, l414, h415⟩ := st28_open r410
  refine qG 218 211 (bF q391) (fun wq_ hq_ => eJ underlying24 e408 q216 q217) (qG 219 211 (bF q391) (fun wq_ hq_ => eD b406 (o407 + (x98 : Int).toNat * 5) 3 1 underlying28) (qG 220 211 (bF q391) (fun wq_ hq_ => eK underlying22 (hpx ((S330.still hq_).1.inv.cell (((((E197.trans E211).trans E284).trans E298).trans E331).cell (k411 3 _ rfl))))) ?_))
  obtain ⟨t416, u417, M⟩ := bnd M
  refine qcallg (v := .bool t416) (d := 221) (t := 211) rfl kr rfl (bF q391) rfl kr (fun w_ => eE func7) (fun wq_ hq_ => (by obtain ⟨S_, K_⟩ := S330.still hq_; replace h207 := h207.move (K_.a 0); exact (laws_sameB.calls h405 l404 (h415.ext ((((E197.trans E211).trans E284).trans E298).trans E331)) l414 S_.own0 u417))) (qG 222 211 (bF q391) (fun wq_ hq_ => e_notv (c := t416) kr) (qG 223 179 (bT q334) (fun wq_ hq_ => eF (.bool (decide (¬ (t416 = true)))) (bF q391)) (qV 224 (fun wq_ hq_ => eT (.bool (decide (¬ (t416 = true)))) (bT q334)) ?_)))
  refine wpQuiet_nil ?_
  intro w418 C421
  obtain ⟨S419, K420⟩ := S330.still C421
  refine tN ?_
  obtain ⟨q422, M⟩ | ⟨q422, M⟩ := ifc M
  ·refine cT (bT q422) (wQ (wR (lP 1 (wN (tN (wT (inb_r (tR (tR (inb_r (tR ?_)))))))))))
   obtain rfl := sj M
   exact ret1 rfl rfl  kr ⟨rfl, S419.chg⟩
  refine cF (bF q422) (wK (inb_n (tN (wR (lP 3 (wN (tN ?_)))))))
  have S423 := St.first (Fa := []) (Fr := [F208]) S419
  exact ⟨k128, (by omega), _, H329, x87, A88, c89, x92, A93, c94, (i64.wrap (x123 + ((x92.getD ((x98).toNat) z28).size))), (i64.wrap (x98 + 1)), (hdw (hdc (hdc (hdc (hdc (hdc (hdc rfl kr) kr) kr) kr) kr) kr)), (h90.ext ((((E197.trans E211).trans E284).trans E298).trans E331)), l91, (h95.ext ((((E197.trans E211).trans E284).trans E298).trans E331)), l96, (((((Y86.trans E197).trans E211).trans E284).trans E298).trans E331), S423, M⟩
 clear M
 rintro a80 w73 ⟨k82, f74, H75, rfl, Y76, S77, M⟩
 rcases k82 with _ | k81
 ·rw [laws_FnTokens.l0] at M
  cases M
 rw [laws_FnTokens.l0] at M
 refine wQ (wR (lP 1 ?_))
 obtain ⟨t620, u621, M⟩ := bnd M
 refine lC 226 (eE func8) (spec_DrawQuoteAtom.calls (h4.ext (((((E18.trans E38).trans E51).trans E55).trans E69).trans Y76)) l5 (St.own' (Fa := []) (Fr := []) S77) u621) ?_
 rintro _ w622 ⟨A625, c626, F628, H623, rfl, h627, T624⟩
 refine ⟨_, rfl, ?_⟩
 obtain ⟨S629, K630⟩ := St.call (Fa := []) (Fr := []) S77 T624
 have E631 := T624.ext
 refine lP 1 (wN (tN (wQ (wR (lP 1 ?_)))))
 obtain ⟨t632, u633, M⟩ := bnd M
 refine lC 228 (eE func8) (spec_DrawQuoteAtom.calls (h4.ext ((((((E18.trans E38).trans E51).trans E55).trans E69).trans Y76).trans E631)) l5 (St.own' (Fa := []) (Fr := [F628]) S629) u633) ?_
 rintro _ w634 ⟨A637, c638, F640, H635, rfl, h639, T636⟩
 refine ⟨_, rfl, ?_⟩
 obtain ⟨S641, K642⟩ := St.call (Fa := []) (Fr := [F628]) S629 T636
 replace h627 := h627.move (K642.a 0)
 have E643 := T636.ext
 replace h627 := h627.ext E643
 have l644 := h639.le
 obtain ⟨H645, S646, E647, h648, z649⟩ := S641.frzRow h639
 replace h627 := h627.ext E647
 obtain ⟨t650, u651, M⟩ := bnd M
 refine lC 229 (eE func9) (impl_QuoteAtom.calls h648 l644 (hL_.ext ((((((((E18.trans E38).trans E51).trans E55).trans E69).trans Y76).trans E631).trans E643).trans E647)) (St.own' (Fa := []) (Fr := [F628]) S646) u651) ?_
 rintro _ w652 ⟨A655, c656, F658, H653, rfl, h657, T654⟩
 refine ⟨_, rfl, ?_⟩
 obtain ⟨S659, K660⟩ := St.call (Fa := []) (Fr := [F628]) S646 T654
 replace h627 := h627.move (K660.a 0)
 have E661 := T654.ext
 replace h627 := h627.ext E661
 refine lP 1 (wN (tN (wQ (wQ (wR (lP 3 (wN (tN ?_))))))))
 obtain ⟨q662, M⟩ | ⟨q662, M⟩ := ifc M
 ·refine cT (bT q662) (wQ (wR (lP 4 (wN (tN (wT (tR ?_)))))))
  obtain rfl := sj M
  exact ret1 rfl rfl  kr ⟨rfl, S659.chg⟩
 refine cF (bF q662) (wK (tN (wQ (wQ (wR (lP 1 (lV 237 (e_conv_bs (A := A625) (n := t620.length) (c := c626) (xs := t620) underlying22 underlying5 underlying9 kr rfl (Row.bytes h627)) (lV 238 (e_seql (p := t620) (q := ([91, 93] : List UInt8)) kr rfl) (lP 1 ?_)))))))))
 obtain ⟨q663, M⟩ | ⟨q663, M⟩ := ifc M
 ·refine lP1 4 239 (bT q663) (wN (tN (cond_t rfl kr (wQ (wR (lP 2 ?_))))))
  obtain ⟨t664, u665, M⟩ := bnd M
  refine lC 246 (eE func7) (by have l666 := h657.le; obtain ⟨H667, S668, E669, h670, z671⟩ := S659.frzRow h657; replace h627 := h627.ext E669; have l672 := h627.le; obtain ⟨H673, S674, E675, h676, z677⟩ := S668.frzRow h627; exact (laws_sameB.calls (h670.ext E675) l666 h676 l672 S674.own0 u665)) ?_
  rintro _ w678 ⟨rfl, C679⟩
  refine ⟨_, rfl, ?_⟩
  obtain ⟨S680, K681⟩ := S659.still C679
  refine lP 1 (wN (tN (wT (tR ?_))))
  obtain rfl := sj M
  exact ret1 rfl rfl  kr ⟨rfl, S680.chg⟩
 refine lP1 1 239 (bF q663) (lG 241 239 (bF q663) (e_conv_bs (A := A625) (n := t620.length) (c := c626) (xs := t620) underlying22 underlying5 underlying9 kr rfl (Row.bytes h627)) (lG 242 239 (bF q663) (e_seql (p := t620) (q := ([123, 125] : List UInt8)) kr rfl) (lP1 1 239 (bF q663) (wN (tN ?_)))))
 obtain ⟨q682, M⟩ | ⟨q682, M⟩ := ifc M
 ·refine cT (bT q682) (wQ (wR (lP 2 ?_)))
  obtain ⟨t683, u684, M⟩ := bnd M
  refine lC 246 (eE func7) (by have l685 := h657.le; obtain ⟨H686, S687, E688, h689, z690⟩ := S659.frzRow h657; replace h627 := h627.ext E688; have l691 := h627.le; obtain ⟨H692, S693, E694, h695, z696⟩ := S687.frzRow h627; exact (laws_sameB.calls (h689.ext E694) l685 h695 l691 S693.own0 u684)) ?_
  rintro _ w697 ⟨rfl, C698⟩
  refine ⟨_, rfl, ?_⟩
  obtain ⟨S699, K700⟩ := S659.still C698
  refine lP 1 (wN (tN (wT (tR ?_))))
  obtain rfl := sj M
  exact ret1 rfl rfl  kr ⟨rfl, S699.chg⟩
 refine cF (bF q682) (wK (tN (wQ (wR (lP 1 ?_)))))
 have l701 := h657.le
 obtain ⟨H702, S703, E704, h705, z706⟩ := S659.frzRow h657
 have h707 := h627.ext E704
 obtain ⟨t708, u709, M⟩ := bnd M
 refine lC 249 (eE func6) (impl_Lex.calls h705 l701 S703.own0 u709) ?_
 rintro _ w710 ⟨A713, c714, F716, H711, rfl, h715, T712⟩
 refine ⟨_, rfl, ?_⟩
 obtain ⟨S717, K718⟩ := St.call (Fa := []) (Fr := [F628]) S703 T712
 replace h627 := h627.move (K718.a 0)
 obtain ⟨H719, S720, E721, v722⟩ := St.thaw S659 z706 S717 T712.ext E704 T712.size
 replace h657 := h657.move v722
 replace h657 := h657.ext E721
 replace h627 := h627.ext E721
 replace h715 := Row.free (H' := H719) (free_iso (free_pair (free_scal _ _) (free_pair (free_scal _ _) (free_pair (free_scal _ _) (free_pair (free_slice (free_scal _ _)) (free_scal _ _)))))) h715
 refine lP 7 (wN (tN (wQ (wR (lP 3 ?_)))))
 obtain ⟨q723, M⟩ | ⟨q723, M⟩ := ifd M
 ·refine lP1 29 255 (bF q723) (wN (tN (wT ?_)))
  obtain rfl := sj M
  exact ret1 rfl rfl  kr ⟨rfl, S720.chg⟩
 refine lP1 5 255 (bT q723) ?_
 obtain ⟨q724, M⟩ | ⟨q724, M⟩ := ifd M
 ·refine lP1 24 260 (bF q724) (wN (tN (wT ?_)))
  obtain rfl := sj M
  exact ret1 rfl rfl  kr ⟨rfl, S720.chg⟩
 refine lP1 1 260 (bT q724) ?_
 obtain ⟨q725, M⟩ := chk M
 obtain ⟨b726, e728⟩ := Row.addr h715 (show 0 < t708.1.length by omega)
 refine lG 262 260 (bT q724) (e_indexAddr (b := b726) (off := 0) (n := t708.1.length) (c := c714) (sz := 5) (i := 0) (k := .i64) underlying24 e728 kr kr rfl (by omega) q725) (lP1 1 260 (bT q724) (lG 264 260 (bT q724) (eK underlying3 (hpx (Row.pick (j := 0) (u := .int .i64 ((t708.1.getD 0 z28).kind)) h715 e728 (getD_some z28 (show 0 < t708.1.length by omega)) (fun _ _ o_ => st28_c0 o_)))) (lP1 3 260 (bT q724) ?_)))
 obtain ⟨q729, M⟩ | ⟨q729, M⟩ := ifd M
 ·refine lP1 17 267 (bF q729) (wN (tN (wT ?_)))
  obtain rfl := sj M
  exact ret1 rfl rfl  kr ⟨rfl, S720.chg⟩
 refine lP1 1 267 (bT q729) ?_
 obtain ⟨b730, e732⟩ := Row.addr h715 (show 0 < t708.1.length by omega)
 refine lG 269 267 (bT q729) (e_indexAddr (b := b730) (off := 0) (n := t708.1.length) (c := c714) (sz := 5) (i := 0) (k := .i64) underlying24 e732 kr kr rfl (by omega) q725) (lP1 1 267 (bT q729) ?_)
 have S738 := S720.pulls [F716, F658, F628] [1] rfl
 obtain ⟨H739, F740, S741, E742, h743⟩ := S738.share h715
 replace h657 := h657.ext E742
 replace h627 := h627.ext E742
 obtain ⟨y744, F745, r746, s747, k748⟩ := Row.at h743 e732 (getD_some z28 (show 0 < t708.1.length by omega))
 obtain ⟨A749, c750, rfl, l751, h752⟩ := st28_open r746
 refine lG 271 267 (bT q729) (eK underlying22 (hpx (k748 3 _ rfl))) (lP1 1 267 (bT q729) ?_)
 obtain ⟨t753, u754, M⟩ := bnd M
 refine lcallg (d := 273) (t := 267) rfl kr rfl (bT q729) rfl kr (eE func7) (by have l755 := h627.le; have S756 := S741.pull (F := F628) (Fr := [F740, F658]) 2 rfl rfl; obtain ⟨H757, S758, E759, h760, z761⟩ := S756.frzRow h627; replace h743 := h743.ext E759; replace h657 := h657.ext E759; exact (laws_sameB.calls (h752.ext E759) l751 h760 l755 S758.own0 u754)) ?_
 rintro _ w762 ⟨rfl, C763⟩
 refine ⟨_, rfl, ?_⟩
 obtain ⟨S764, K765⟩ := S741.still C763
 replace h743 := h743.move (K765.a 0)
 refine lP1 2 267 (bT q729) ?_
 obtain ⟨q766, M⟩ | ⟨q766, M⟩ := ifd M
 ·refine lP1 9 275 (bvf q766 kr) (wN (tN (wT ?_)))
  obtain rfl := sj M
  exact ret1 rfl rfl  kr ⟨rfl, S764.chg⟩
 refine lP1 1 275 (bvt q766 kr) ?_
 obtain ⟨b767, e769⟩ := Row.addr h743 (show 0 < t708.1.length by omega)
 refine lG 277 275 (bvt q766 kr) (e_indexAddr (b := b767) (off := 0) (n := t708.1.length) (c := c714) (sz := 5) (i := 0) (k := .i64) underlying24 e769 kr kr rfl (by omega) q725) (lP1 1 275 (bvt q766 kr) (lG 279 275 (bvt q766 kr) (eK underlying3 (hpx (Row.pick (j := 2) (u := .int .i64 ((t708.1.getD 0 z28).size)) h743 e769 (getD_some z28 (show 0 < t708.1.length by omega)) (fun _ _ o_ => st28_r2 o_)))) (lP1 5 275 (bvt q766 kr) (wN (tN (wT ?_))))))
 obtain rfl := sj M
 exact ret1 rfl rfl  kr ⟨rfl, S764.chg⟩
end Go.Proofs.YtdkbfcmekppnmaaGreatDoor
