import Derived.Test.YtdkbfcmekppnmaaGreatDoorWkTk2
namespace Go.Proofs.YtdkbfcmekppnmaaGreatDoor
open Go.Sx Go.Sy IntKind Tryz
attribute [local irreducible] Go.wpList Go.wpStill Go.wpQuiet Go.Code.wp
set_option maxRecDepth 100000
set_option maxHeartbeats 1000000
set_option linter.unusedVariables false
set_option linter.unusedSimpArgs false
def spec_l2next.l0 : Nat → (List Cell) → Int → Int → Option Int
 | 0, _, _, _ => none
 | k16 + 1, x1, x9, x10 => (if x10 > 0 then (if 0 ≤ x9 then (if x9 < (x1.length : Int) then (if ((x1.getD ((x9).toNat) z70).kind) = 3 then (spec_l2next.l0 k16 x1 (i64.wrap (x9 + 1)) (i64.wrap ((i64.wrap (x10 + ((x1.getD ((x9).toNat) z70).n))) - 1))) else (spec_l2next.l0 k16 x1 (i64.wrap (x9 + 1)) (i64.wrap (x10 - 1)))) else none) else none) else some x9)
def spec_l2next.f (k : Nat) (x1 : List Cell) (x6 : Int) : Option Int := (spec_l2next.l0 k x1 x6 1)
theorem spec_l2next.calls {k : Nat} {w : World} {H : Hp} {x1 : List Cell} {A2 : Option Addr} {c3 : Nat} {x6 : Int} (h4 : Rd st70 H A2 x1) (l5 : x1.length ≤ c3) (S : Own [] H w) {r : Int} (M : spec_l2next.f k x1 x6 = some r) :
  Calls Tryz.prog 83 #[.slice A2 x1.length c3, .int .i64 x6] w (fun e e_w => e = .returned (.int .i64 r) ∧ Chg no w e_w) := by
 rw [spec_l2next.f] at M
 refine enter (l := [.slice A2 x1.length c3, .int .i64 x6]) 26 func83 rfl rfl rfl ?_
 have S0_ := S.st
 refine wQ (wR (lP 1 (wN (tN (wQ (wR (lP 1 (wN (tN (wQ (wp_block ?_)))))))))))
 refine wp_loop_g (fun k14 a15 w7 => ∃ (f8 : Nat → Value) (x9 : Int) (x10 : Int), a15 = mk 26 (upd (upd (upd f8 0 (.slice A2 x1.length c3)) 1 (.int .i64 x9)) 5 (.int .i64 x10)) ∧ St (anyOf []) H w [] H w7 ∧ spec_l2next.l0 k14 x1 x9 x10 = some r) k ⟨_, x6, 1, (hdw (hdc (hdc (hdc rfl kr) kr) kr)), S0_, M⟩ ?_
 clear M
 rintro k14 a15 w7 ⟨f8, x9, x10, rfl, S11, M⟩
 rcases k14 with _ | k16
 ·rw [spec_l2next.l0] at M
  cases M
 rw [spec_l2next.l0] at M
 refine wQ (wQ (wR (lP 2 (wN (tN ?_)))))
 obtain ⟨q17, M⟩ | ⟨q17, M⟩ := ifd M
 ·refine cF (bF q17) (wp_exit (tE (tE (inb_hit (tN (wQ (wR (lP 2 (wN (tN (wT ?_)))))))))))
  obtain rfl := sj M
  exact ret1 rfl rfl  kr ⟨rfl, S11.chg⟩
 refine cT (bT q17) (wK (tN (wp_block (wQ (wQ (wR (lP 2 ?_)))))))
 obtain ⟨q18, M⟩ := chk M
 obtain ⟨q19, M⟩ := chk M
 obtain ⟨b20, o21, e22⟩ := Rd.addr h4 (show (x9).toNat < x1.length by omega)
 obtain ⟨y23, r24, k25⟩ := Rd.at h4 e22 (getD_some z70 (show (x9).toNat < x1.length by omega))
 obtain ⟨A26, c27, rfl, l28, h29⟩ := st70_open r24
 refine lV 10 (eJ underlying43 e22 q18 q19) (lP 1 (lV 12 (eK underlying3 (hpx (S11.inv.cell (k25 0 _ rfl)))) (lP 1 (wN (tN ?_)))))
 obtain ⟨q30, M⟩ | ⟨q30, M⟩ := ifd M
 ·refine cF (bF q30) (wK (tN (wQ (wR (lP 3 (wN (tN (wR (lP 3 (wN (inb_n (tN ?_))))))))))))
  exact ⟨k16, (by omega), _, (i64.wrap (x9 + 1)), (i64.wrap (x10 - 1)), (hdw (hdc (hdc (hdc rfl kr) kr) kr)), S11, M⟩
 refine cT (bT q30) (wR (lP 3 ?_))
 obtain ⟨b31, o32, e33⟩ := Rd.addr h4 (show (x9).toNat < x1.length by omega)
 obtain ⟨y34, r35, k36⟩ := Rd.at h4 e33 (getD_some z70 (show (x9).toNat < x1.length by omega))
 obtain ⟨A37, c38, rfl, l39, h40⟩ := st70_open r35
 refine lV 17 (eJ underlying43 e33 q18 q19) (lP 1 (lV 19 (eK underlying3 (hpx (S11.inv.cell (k36 1 _ rfl)))) (lP 2 (wN (tN (wQ (wR (lP 3 (wN (tN (wR (lP 3 (wN (inb_n (tN ?_)))))))))))))))
 exact ⟨k16, (by omega), _, (i64.wrap (x9 + 1)), (i64.wrap ((i64.wrap (x10 + ((x1.getD ((x9).toNat) z70).n))) - 1)), (hdw (hdc (hdc (hdc rfl kr) kr) kr)), S11, M⟩
def spec_l2items.l0 : Nat → (List Cell) → (List (List Cell)) → Option ((List (List Cell)) × (List Cell))
 | 0, _, _ => none
 | k23 + 1, x8, x13 => ((spec_l2is.f x8 ([46] : List UInt8) 2).bind fun t25 => (if t25 = true then ((spec_l2next.f k23 x8 1).bind fun t32 => (if 1 ≤ t32 then (if t32 ≤ (x8.length : Int) then (if x13.length + 1 ≤ 5864062014805 then (if 0 ≤ t32 then (spec_l2items.l0 k23 (x8.drop ((t32 : Int).toNat)) (x13 ++ [((x8.drop ((1 : Int).toNat)).take ((t32 : Int).toNat - (1 : Int).toNat))])) else none) else none) else none) else none)) else some (x13, x8)))
def spec_l2items.f (k : Nat) (x1 : List Cell) : Option ((List (List Cell)) × (List Cell)) := (spec_l2items.l0 k x1 [])
theorem spec_l2items.calls {k : Nat} {w : World} {H : Hp} {x1 : List Cell} {A2 : Option Addr} {c3 : Nat} (h4 : Rd st70 H A2 x1) (l5 : x1.length ≤ c3) (S : Own [] H w) {r : (List (List Cell)) × (List Cell)} (M : spec_l2items.f k x1 = some r) :
  Calls Tryz.prog 79 #[.slice A2 x1.length c3] w (fun e e_w => ∃ (A_1 : Option Addr) (c_1 : Nat) (F_1 : Foot) (A_2 : Option Addr) (c_2 : Nat) (H_ : Hp), e = .returned (.tuple #[.slice A_1 r.1.length c_1, .slice A_2 r.2.length c_2]) ∧ Row (ro sl70) 43 H_ (hp e_w) F_1 A_1 c_1 r.1 ∧ Rd st70 H_ A_2 r.2 ∧ r.2.length ≤ c_2 ∧ St (anyOf []) H w [F_1] H_ e_w) := by
 rw [spec_l2items.f] at M
 refine enter (l := [.slice A2 x1.length c3]) 21 func79 rfl rfl rfl ?_
 have S0_ := S.st
 refine wQ (wR (lP 2 (wN (tN (wQ (wR (lP 1 (wN (tN (wQ (wp_block ?_)))))))))))
 have S24 := S0_.unit
 refine wp_loop_g (fun k21 a22 w6 => ∃ (f7 : Nat → Value) (x8 : List Cell) (A9 : Option Addr) (c10 : Nat) (x13 : List (List Cell)) (A14 : Option Addr) (c15 : Nat) (F16 : Foot), a22 = mk 21 (upd (upd f7 0 (.slice A9 x8.length c10)) 4 (.slice A14 x13.length c15)) ∧ Row (ro sl70) 43 H (hp w6) F16 A14 c15 x13 ∧ Rd st70 H A9 x8 ∧ x8.length ≤ c10 ∧ St (anyOf []) H w [F16] H w6 ∧ spec_l2items.l0 k21 x8 x13 = some r) k ⟨_, x1, A2, c3, [], none, 0, no, (hdw (hdc (hdc rfl kr) kr)), (Row.nil _ _ _ _ _), h4, l5, S24, M⟩ ?_
 clear M
 rintro k21 a22 w6 ⟨f7, x8, A9, c10, x13, A14, c15, F16, rfl, h17, h11, l12, S18, M⟩
 rcases k21 with _ | k23
 ·rw [spec_l2items.l0] at M
  cases M
 rw [spec_l2items.l0] at M
 refine wQ (wQ (wR (lP 1 ?_)))
 obtain ⟨t25, u26, M⟩ := bnd M
 refine lC 7 (eE func78) (spec_l2is.calls h11 l12 S18.own0 u26) ?_
 rintro _ w27 ⟨rfl, C28⟩
 refine ⟨_, rfl, ?_⟩
 obtain ⟨S29, K30⟩ := S18.still C28
 replace h17 := h17.move (K30.a 0)
 refine wN (tN ?_)
 obtain ⟨q31, M⟩ | ⟨q31, M⟩ := ifd M
 ·refine cF (bvf q31 kr) (wp_exit (tE (tE (inb_hit (tN (wQ (wR (lP 4 (wN (tN (wT ?_)))))))))))
  obtain rfl := sj M
  exact ret2 rfl rfl rfl kr kr ⟨A14, c15, F16, A9, c10, H, rfl, h17, h11, l12, S29⟩
 refine cT (bvt q31 kr) (wK (tN (wp_block (wQ (wR (lP 1 ?_))))))
 obtain ⟨t32, u33, M⟩ := bnd M
 refine lC 9 (eE func83) (spec_l2next.calls h11 l12 S29.own0 u33) ?_
 rintro _ w34 ⟨rfl, C35⟩
 refine ⟨_, rfl, ?_⟩
 obtain ⟨S36, K37⟩ := S29.still C35
 replace h17 := h17.move (K37.a 0)
 refine lP 1 (wN (tN (wQ (wR (lP 3 ?_)))))
 obtain ⟨q38, M⟩ := chk M
 obtain ⟨q39, M⟩ := chk M
 obtain ⟨A40, h43, l42, h41⟩ := Rd.sub2 (d := st70) (n := x8.length) (m := 3) (cap := c10) (a := 1) (b := t32) rfl h11 (by decide) q38 q39 rfl l12
 refine lV 13 (e_slice_lh (n := x8.length) (m := 3) (cap := c10) (A := A9) (a := 1) (b := t32) (k := .i64) (k2 := .i64) underlying43 kr kr rfl kr (by decide) q38 q39 l12 h43) ?_
 refine lW 14 (new_blk (v := fun g_ => .slice (some ⟨g_, 0, none⟩) 1 1) (cs := #[.slice A40 ((x8.drop ((1 : Int).toNat)).take ((t32 : Int).toNat - (1 : Int).toNat)).length (c10 - ((1 : Int).toNat))]) (t := 43) S36 kr) ?_
 rintro _ w44 ⟨g45, rfl, b46, S47, K48⟩
 replace h17 := h17.move (K48.a 0)
 obtain ⟨q49, M⟩ := chk M
 have S50 := S47.pulls [F16, (is g45)] [1] rfl
 have S51 := S50.unit
 have S52 := S51.pulls [F16, no, (is g45)] [1] rfl
 refine lW 15 (e_append (d := (ro sl70)) (n := x13.length) (xs := x13) (cap := c15) (A := A14) (ys := [((x8.drop ((1 : Int).toNat)).take ((t32 : Int).toNat - (1 : Int).toNat))]) (A2 := (some ⟨g45, 0, none⟩)) (c2 := 1) (z := .slice none 0 0) (bytes := 24) S52 underlying71 kr rfl (by decide) kr rfl kr h17 (elsO_one1 ⟨A40, (c10 - ((1 : Int).toNat)), rfl, l42, h41⟩) (.inr (blk_news b46 rfl)) (show (x13.length + [((x8.drop ((1 : Int).toNat)).take ((t32 : Int).toNat - (1 : Int).toNat))].length) * 24 ≤ _ by first | omega | (simp only [List.length_cons, List.length_nil]; omega)) (by decide)) ?_
 rintro _ w53 ⟨A54, c55, F56, rfl, h57, S58, K59⟩
 refine lP 1 (wN (tN (wR (lP 2 ?_))))
 obtain ⟨q60, M⟩ := chk M
 obtain ⟨A61, h64, l63, h62⟩ := Rd.sub1 (d := st70) (n := x8.length) (m := 3) (cap := c10) (a := t32) rfl h11 q60 q39 rfl l12
 refine lV 18 (e_slice_l (n := x8.length) (m := 3) (cap := c10) (A := A9) (a := t32) (k := .i64) underlying43 kr kr kr q60 q39 l12 h64) (lP 1 (wN (inb_n (tN ?_))))
 have S65 := St.first (Fa := [F56]) (Fr := [(is g45)]) S58
 exact ⟨k23, (by omega), _, (x8.drop ((t32 : Int).toNat)), A61, (c10 - ((t32 : Int).toNat)), (x13 ++ [((x8.drop ((1 : Int).toNat)).take ((t32 : Int).toNat - (1 : Int).toNat))]), A54, c55, F56, (hdw (hdc (hdc rfl kr) kr)), h57, h62, l63, S65, M⟩
def spec_l2args.l0 : Nat → (List Cell) → (List (List Cell)) → Int → Int → Option (List (List Cell))
 | 0, _, _, _, _ => none
 | k35 + 1, x1, x23, x28, x29 => (if x29 < ((x1.getD 0 z70).n) then ((spec_l2next.f k35 x1 x28).bind fun t48 => (if 0 ≤ x28 then (if x28 ≤ t48 then (if t48 ≤ (x1.length : Int) then (if x23.length + 1 ≤ 5864062014805 then (spec_l2args.l0 k35 x1 (x23 ++ [((x1.drop ((x28 : Int).toNat)).take ((t48 : Int).toNat - (x28 : Int).toNat))]) t48 (i64.wrap (x29 + 1))) else none) else none) else none) else none)) else some x23)
def spec_l2args.f (k : Nat) (x1 : List Cell) : Option (List (List Cell)) := (if (x1.length : Int) = 0 then some [] else (if 0 < (x1.length : Int) then (if ((x1.getD 0 z70).kind) ≠ 3 then some [] else (spec_l2args.l0 k x1 [] 1 0)) else none))
theorem spec_l2args.calls {k : Nat} {w : World} {H : Hp} {x1 : List Cell} {A2 : Option Addr} {c3 : Nat} (h4 : Rd st70 H A2 x1) (l5 : x1.length ≤ c3) (S : Own [] H w) {r : List (List Cell)} (M : spec_l2args.f k x1 = some r) :
  Calls Tryz.prog 84 #[.slice A2 x1.length c3] w (fun e e_w => ∃ (A_1 : Option Addr) (c_1 : Nat) (F_1 : Foot) (H_ : Hp), e = .returned (.slice A_1 r.length c_1) ∧ Row (ro sl70) 43 H_ (hp e_w) F_1 A_1 c_1 r ∧ St (anyOf []) H w [F_1] H_ e_w) := by
 rw [spec_l2args.f] at M
 refine enter (l := [.slice A2 x1.length c3]) 38 func84 rfl rfl rfl ?_
 have S0_ := S.st
 refine wQ (wR (lP 1 (wN (tN (wQ (wR (lP 1 (wN (tN (wQ (wQ (wR (lP 4 ?_)))))))))))))
 obtain ⟨q6, M⟩ | ⟨q6, M⟩ := ifc M
 ·refine lP1 6 10 (bT q6) (wN (tN (cond_t rfl kr (wQ (wR (lP 2 (wN (tN (wT (tR ?_))))))))))
  obtain rfl := sj M
  have S7 := S0_.unit
  exact ret1 rfl rfl  kr ⟨none, 0, no, H, rfl, (Row.nil _ _ _ _ no), S7⟩
 refine lP1 1 10 (bF q6) ?_
 obtain ⟨q8, M⟩ := chk M
 obtain ⟨b9, o10, e11⟩ := Rd.addr h4 (show 0 < x1.length by omega)
 obtain ⟨y12, r13, k14⟩ := Rd.at h4 e11 (getD_some z70 (show 0 < x1.length by omega))
 obtain ⟨A15, c16, rfl, l17, h18⟩ := st70_open r13
 refine lG 12 10 (bF q6) (e_indexAddr (b := b9) (off := o10) (n := x1.length) (c := c3) (sz := 3) (i := 0) (k := .i64) underlying43 e11 kr kr rfl (by omega) q8) (lP1 1 10 (bF q6) (lG 14 10 (bF q6) (eK underlying3 (hpx (S0_.inv.cell (k14 0 _ rfl)))) (lG 15 10 (bF q6) (eNe .i64 (x1.getD 0 z70).kind 3) (lP1 1 10 (bF q6) (wN (tN ?_))))))
 obtain ⟨q19, M⟩ | ⟨q19, M⟩ := ifc M
 ·refine cT (bT q19) (wQ (wR (lP 2 (wN (tN (wT (tR ?_)))))))
  obtain rfl := sj M
  have S20 := S0_.unit
  exact ret1 rfl rfl  kr ⟨none, 0, no, H, rfl, (Row.nil _ _ _ _ no), S20⟩
 refine cF (bF q19) (wK (tN (wQ (wR (lP 1 (wN (tN (wQ (wQ (wR (lP 1 (wN (tN (wp_block ?_))))))))))))))
 have S36 := S0_.unit
 refine wp_loop_g (fun k33 a34 w21 => ∃ (f22 : Nat → Value) (x23 : List (List Cell)) (A24 : Option Addr) (c25 : Nat) (F26 : Foot) (x28 : Int) (x29 : Int), a34 = mk 38 (upd (upd (upd (upd f22 0 (.slice A2 x1.length c3)) 3 (.slice A24 x23.length c25)) 4 (.int .i64 x28)) 5 (.int .i64 x29)) ∧ Row (ro sl70) 43 H (hp w21) F26 A24 c25 x23 ∧ St (anyOf []) H w [F26] H w21 ∧ spec_l2args.l0 k33 x1 x23 x28 x29 = some r) k ⟨_, [], none, 0, no, 1, 0, (hdw (hdc (hdc (hdc (hdc rfl kr) kr) kr) kr)), (Row.nil _ _ _ _ _), S36, M⟩ ?_
 clear M
 rintro k33 a34 w21 ⟨f22, x23, A24, c25, F26, x28, x29, rfl, h27, S30, M⟩
 rcases k33 with _ | k35
 ·rw [spec_l2args.l0] at M
  cases M
 rw [spec_l2args.l0] at M
 refine wQ (wQ (wR (lP 2 ?_)))
 obtain ⟨b37, o38, e39⟩ := Rd.addr h4 (show 0 < x1.length by omega)
 obtain ⟨y40, r41, k42⟩ := Rd.at h4 e39 (getD_some z70 (show 0 < x1.length by omega))
 obtain ⟨A43, c44, rfl, l45, h46⟩ := st70_open r41
 refine lV 20 (e_indexAddr (b := b37) (off := o38) (n := x1.length) (c := c3) (sz := 3) (i := 0) (k := .i64) underlying43 e39 kr kr rfl (by omega) q8) (lP 1 (lV 22 (eK underlying3 (hpx (S30.inv.cell (k42 1 _ rfl)))) (lP 1 (wN (tN ?_)))))
 obtain ⟨q47, M⟩ | ⟨q47, M⟩ := ifd M
 ·refine cF (bF q47) (wp_exit (tE (tE (inb_hit (tN (wQ (wR (lP 2 (wN (tN (wT ?_)))))))))))
  obtain rfl := sj M
  exact ret1 rfl rfl  kr ⟨A24, c25, F26, H, rfl, h27, S30⟩
 refine cT (bT q47) (wK (tN (wQ (wp_block (wQ (wR (lP 2 ?_)))))))
 obtain ⟨t48, u49, M⟩ := bnd M
 refine lC 28 (eE func83) (spec_l2next.calls h4 l5 S30.own0 u49) ?_
 rintro _ w50 ⟨rfl, C51⟩
 refine ⟨_, rfl, ?_⟩
 obtain ⟨S52, K53⟩ := S30.still C51
 replace h27 := h27.move (K53.a 0)
 refine lP 1 (wN (tN (wQ (wR (lP 4 ?_)))))
 obtain ⟨q54, M⟩ := chk M
 obtain ⟨q55, M⟩ := chk M
 obtain ⟨q56, M⟩ := chk M
 obtain ⟨A57, h60, l59, h58⟩ := Rd.sub2 (d := st70) (n := x1.length) (m := 3) (cap := c3) (a := x28) (b := t48) rfl h4 q54 q55 q56 rfl l5
 refine lV 33 (e_slice_lh (n := x1.length) (m := 3) (cap := c3) (A := A2) (a := x28) (b := t48) (k := .i64) (k2 := .i64) underlying43 kr kr kr kr q54 q55 q56 l5 h60) ?_
 refine lW 34 (new_blk (v := fun g_ => .slice (some ⟨g_, 0, none⟩) 1 1) (cs := #[.slice A57 ((x1.drop ((x28 : Int).toNat)).take ((t48 : Int).toNat - (x28 : Int).toNat)).length (c3 - ((x28 : Int).toNat))]) (t := 43) S52 kr) ?_
 rintro _ w61 ⟨g62, rfl, b63, S64, K65⟩
 replace h27 := h27.move (K65.a 0)
 obtain ⟨q66, M⟩ := chk M
 have S67 := S64.pulls [F26, (is g62)] [1] rfl
 have S68 := S67.unit
 have S69 := S68.pulls [F26, no, (is g62)] [1] rfl
 refine lW 35 (e_append (d := (ro sl70)) (n := x23.length) (xs := x23) (cap := c25) (A := A24) (ys := [((x1.drop ((x28 : Int).toNat)).take ((t48 : Int).toNat - (x28 : Int).toNat))]) (A2 := (some ⟨g62, 0, none⟩)) (c2 := 1) (z := .slice none 0 0) (bytes := 24) S69 underlying71 kr rfl (by decide) kr rfl kr h27 (elsO_one1 ⟨A57, (c3 - ((x28 : Int).toNat)), rfl, l59, h58⟩) (.inr (blk_news b63 rfl)) (show (x23.length + [((x1.drop ((x28 : Int).toNat)).take ((t48 : Int).toNat - (x28 : Int).toNat))].length) * 24 ≤ _ by first | omega | (simp only [List.length_cons, List.length_nil]; omega)) (by decide)) ?_
 rintro _ w70 ⟨A71, c72, F73, rfl, h74, S75, K76⟩
 refine lP 1 (wN (tN (wR (lP 2 (wN (inb_n (tN (wR (lP 3 (wN (tN ?_)))))))))))
 have S77 := St.first (Fa := [F73]) (Fr := [(is g62)]) S75
 exact ⟨k35, (by omega), _, (x23 ++ [((x1.drop ((x28 : Int).toNat)).take ((t48 : Int).toNat - (x28 : Int).toNat))]), A71, c72, F73, t48, (i64.wrap (x29 + 1)), (hdw (hdc (hdc (hdc (hdc rfl kr) kr) kr) kr)), h74, S77, M⟩
def spec_l3find.l0 : Nat → (List Sy.Op) → (List UInt8) → Bool → Int → Option Int
 | 0, _, _, _, _ => none
 | k20 + 1, x1, x6, x11, x14 => (if x14 < (x1.length : Int) then (if 0 ≤ x14 then (if (x1.getD ((x14).toNat) z86).name = x6 then ((spec_l3prefix.f ((x1.getD ((x14).toNat) z86).typ)).bind fun t44 => (if t44 = x11 then some x14 else (spec_l3find.l0 k20 x1 x6 x11 (i64.wrap (x14 + 1))))) else (spec_l3find.l0 k20 x1 x6 x11 (i64.wrap (x14 + 1)))) else none) else some (-1))
def spec_l3find.f (k : Nat) (x1 : List Sy.Op) (x6 : List UInt8) (x11 : Bool) : Option Int := (spec_l3find.l0 k x1 x6 x11 0)
theorem spec_l3find.calls {k : Nat} {w : World} {H : Hp} {x1 : List Sy.Op} {A2 : Option Addr} {c3 : Nat} {x6 : List UInt8} {A7 : Option Addr} {c8 : Nat} {x11 : Bool} (h4 : Rd st86 H A2 x1) (l5 : x1.length ≤ c3) (h9 : Rd tByte H A7 x6) (l10 : x6.length ≤ c8) (S : Own [] H w) {r : Int} (M : spec_l3find.f k x1 x6 x11 = some r) :
  Calls Tryz.prog 99 #[.slice A2 x1.length c3, .slice A7 x6.length c8, .bool x11] w (fun e e_w => e = .returned (.int .i64 r) ∧ Chg no w e_w) := by
 rw [spec_l3find.f] at M
 refine enter (l := [.slice A2 x1.length c3, .slice A7 x6.length c8, .bool x11]) 34 func99 rfl rfl rfl ?_
 have S0_ := S.st
 refine wQ (wR (lP 1 (wN (tN (wQ (wQ (wR (lP 1 (wN (tN (wp_block ?_)))))))))))
 refine wp_loop_g (fun k18 a19 w12 => ∃ (f13 : Nat → Value) (x14 : Int), a19 = mk 34 (upd (upd (upd (upd f13 0 (.slice A2 x1.length c3)) 1 (.slice A7 x6.length c8)) 2 (.bool x11)) 7 (.int .i64 x14)) ∧ St (anyOf []) H w [] H w12 ∧ spec_l3find.l0 k18 x1 x6 x11 x14 = some r) k ⟨_, 0, (hdw (hdc (hdc (hdc (hdc rfl kr) kr) kr) kr)), S0_, M⟩ ?_
 clear M
 rintro k18 a19 w12 ⟨f13, x14, rfl, S15, M⟩
 rcases k18 with _ | k20
 ·rw [spec_l3find.l0] at M
  cases M
 rw [spec_l3find.l0] at M
 refine wQ (wQ (wR (lP 4 (wN (tN ?_)))))
 obtain ⟨q21, M⟩ | ⟨q21, M⟩ := ifd M
 ·refine cF (bF q21) (wp_exit (tE (tE (inb_hit (tN (wQ (wR (lP 1 (wN (tN (wT ?_)))))))))))
  obtain rfl := sj M
  exact ret1 rfl rfl  kr ⟨rfl, S15.chg⟩
 refine cT (bT q21) (wK (tN (wQ (wp_block (wQ ?_)))))
 refine region_quiet kr kr (qV 14 (fun wq_ hq_ => eM (.slice A2 x1.length c3)) (qV 15 (fun wq_ hq_ => eM (.int .i64 x14)) ?_))
 obtain ⟨q22, M⟩ := chk M
 obtain ⟨b23, o24, e25⟩ := Rd.addr h4 (show (x14).toNat < x1.length by omega)
 obtain ⟨y26, r27, k28⟩ := Rd.at h4 e25 (getD_some z86 (show (x14).toNat < x1.length by omega))
 obtain ⟨A29, c30, rfl, l31, h32⟩ := st86_open r27
 refine qV 16 (fun wq_ hq_ => eJ underlying48 e25 q22 q21) (qV 17 (fun wq_ hq_ => eD b23 (o24 + (x14 : Int).toNat * 3) 0 1 underlying86) (qV 18 (fun wq_ hq_ => eK underlying22 (hpx ((S15.still hq_).1.inv.cell (k28 0 _ rfl)))) (qV 19 (fun wq_ hq_ => e_conv_bs (A := A29) (n := ((x1.getD ((x14).toNat) z86).name).length) (c := c30) (xs := (x1.getD ((x14).toNat) z86).name) underlying22 underlying5 underlying9 kr rfl (Rd.bytesE (S15.still hq_).1.inv h32)) (qV 20 (fun wq_ hq_ => eM (.slice A7 x6.length c8)) (qV 21 (fun wq_ hq_ => e_conv_bs (A := A7) (n := x6.length) (c := c8) (xs := x6) underlying22 underlying5 underlying9 kr rfl (Rd.bytesE (S15.still hq_).1.inv h9)) (qV 22 (fun wq_ hq_ => e_seql (p := (x1.getD ((x14).toNat) z86).name) (q := x6) kr kr) (qV 23 (fun wq_ hq_ => eM (.bool (decide ((x1.getD ((x14).toNat) z86).name = x6)))) ?_)))))))
 obtain ⟨q33, M⟩ | ⟨q33, M⟩ := ifd M
 ·refine qP1 8 23 (bF q33) (qV 32 (fun wq_ hq_ => eF (.bool false) (bF q33)) ?_)
  refine wpQuiet_nil ?_
  intro w51 C54
  obtain ⟨S52, K53⟩ := S15.still C54
  refine tN (cond_f rfl kr (wK (inb_n (tN (wR (lP 3 (wN (tN ?_))))))))
  exact ⟨k20, (by omega), _, (i64.wrap (x14 + 1)), (hdw (hdc (hdc (hdc (hdc rfl kr) kr) kr) kr)), S52, M⟩
 refine qG 24 23 (bT q33) (fun wq_ hq_ => eM (.slice A2 x1.length c3)) (qG 25 23 (bT q33) (fun wq_ hq_ => eM (.int .i64 x14)) ?_)
 obtain ⟨b34, o35, e36⟩ := Rd.addr h4 (show (x14).toNat < x1.length by omega)
 obtain ⟨y37, r38, k39⟩ := Rd.at h4 e36 (getD_some z86 (show (x14).toNat < x1.length by omega))
 obtain ⟨A40, c41, rfl, l42, h43⟩ := st86_open r38
 refine qG 26 23 (bT q33) (fun wq_ hq_ => eJ underlying48 e36 q22 q21) (qG 27 23 (bT q33) (fun wq_ hq_ => eD b34 (o35 + (x14 : Int).toNat * 3) 2 1 underlying86) (qG 28 23 (bT q33) (fun wq_ hq_ => eK underlying3 (hpx ((S15.still hq_).1.inv.cell (k39 2 _ rfl)))) ?_))
 obtain ⟨t44, u45, M⟩ := bnd M
 refine qcallg (v := .bool t44) (d := 29) (t := 23) rfl kr rfl (bT q33) rfl kr (fun w_ => eE func75) (fun wq_ hq_ => (by obtain ⟨S_, K_⟩ := S15.still hq_; exact (spec_l3prefix.calls  S_.own0 u45))) (qG 30 23 (bT q33) (fun wq_ hq_ => eM (.bool x11)) (qG 31 23 (bT q33) (fun wq_ hq_ => e_beql (p := t44) (q := x11) underlying4 kr kr) (qV 32 (fun wq_ hq_ => eT (.bool (decide (t44 = x11))) (bT q33)) ?_)))
 refine wpQuiet_nil ?_
 intro w46 C49
 obtain ⟨S47, K48⟩ := S15.still C49
 refine tN ?_
 obtain ⟨q50, M⟩ | ⟨q50, M⟩ := ifc M
 ·refine cT (bT q50) (wQ (wR (lP 2 (wN (tN (wT ?_))))))
  refine inb_r (tR (tR (inb_r (tR ?_))))
  obtain rfl := sj M
  exact ret1 rfl rfl  kr ⟨rfl, S47.chg⟩
 refine cF (bF q50) (wK (inb_n (tN (wR (lP 3 (wN (tN ?_)))))))
 exact ⟨k20, (by omega), _, (i64.wrap (x14 + 1)), (hdw (hdc (hdc (hdc (hdc rfl kr) kr) kr) kr)), S47, M⟩
def spec_l3infix.f (x1 : Int) : Option Bool := some (decide (x1 ≤ 2))
theorem spec_l3infix.calls {w : World} {H : Hp} {x1 : Int} (S : Own [] H w) {r : Bool} (M : spec_l3infix.f x1 = some r) :
  Calls Tryz.prog 92 #[.int .i64 x1] w (fun e e_w => e = .returned (.bool r) ∧ Chg no w e_w) := by
 rw [spec_l3infix.f] at M
 refine enter (l := [.int .i64 x1]) 5 func92 rfl rfl rfl ?_
 have S0_ := S.st
 refine wQ (wR (lP 1 (wN (tN (wQ (wR (lP 3 (wN (tN (wT ?_))))))))))
 obtain rfl := sj M
 exact ret1 rfl rfl  kr ⟨rfl, S0_.chg⟩
def spec_l3out_top.f (k : Nat) (x1 : GL3out) (x12 : List Cell) : Option Int := (if 0 < (x12.length : Int) then (if ((x12.getD 0 z70).kind) ≠ 3 then some (-1) else ((spec_l2is.f x12 ([46] : List UInt8) 2).bind fun t29 => (if t29 = true then some (-1) else ((spec_l2is.f x12 ([123, 125] : List UInt8) 1).bind fun t36 => (if t36 = true then some (-1) else (if ((x12.getD 0 z70).n) > 2 then some (-1) else (if ((x12.getD 0 z70).n) = 2 then ((spec_l3find.f k x1.ops_ ((x12.getD 0 z70).text) false).bind fun t75 => (if t75 ≥ 0 then (if 0 ≤ t75 then (if t75 < (x1.ops_.length : Int) then ((spec_l3infix.f ((x1.ops_.getD ((t75).toNat) z86).typ)).bind fun t94 => (if ¬ (t94 = true) then some (-1) else some t75)) else none) else none) else some t75)) else ((spec_l3find.f k x1.ops_ ((x12.getD 0 z70).text) true).bind fun t111 => (if t111 < 0 then ((spec_l3find.f k x1.ops_ ((x12.getD 0 z70).text) false).bind fun t128 => (if t128 ≥ 0 then (if 0 ≤ t128 then (if t128 < (x1.ops_.length : Int) then ((spec_l3infix.f ((x1.ops_.getD ((t128).toNat) z86).typ)).bind fun t147 => (if t147 = true then some (-1) else some t128)) else none) else none) else some t128)) else some t111))))))))) else none)
theorem spec_l3out_top.calls {k : Nat} {w : World} {H : Hp} (x1 : GL3out) {g2 : Nat} {A4 : Option Addr} {c5 : Nat} {A8 : Option Addr} {c9 : Nat} {x12 : List Cell} {A13 : Option Addr} {c14 : Nat} (h6 : Rd st86 H A4 x1.ops_) (l7 : x1.ops_.length ≤ c5) (h10 : Rd sl5 H A8 x1.names_) (l11 : x1.names_.length ≤ c9) (b3 : H g2 = some (.cells #[.slice A4 x1.ops_.length c5, .slice A8 x1.names_.length c9, .bool x1.quoted_] 80 (0, 0))) (h15 : Rd st70 H A13 x12) (l16 : x12.length ≤ c14) (S : Own [] H w) {r : Int} (M : spec_l3out_top.f k x1 x12 = some r) :
  Calls Tryz.prog 85 #[.pointer (some ⟨g2, 0, none⟩), .slice A13 x12.length c14] w (fun e e_w => e = .returned (.int .i64 r) ∧ Chg no w e_w) := by
 rw [spec_l3out_top.f] at M
 refine enter (l := [.pointer (some ⟨g2, 0, none⟩), .slice A13 x12.length c14]) 90 func85 rfl rfl rfl ?_
 have S0_ := S.st
 refine wQ (wR (lP 1 (wN (tN (wQ (wQ (wR (lP 1 ?_))))))))
 obtain ⟨q17, M⟩ := chk M
 obtain ⟨b18, o19, e20⟩ := Rd.addr h15 (show 0 < x12.length by omega)
 obtain ⟨y21, r22, k23⟩ := Rd.at h15 e20 (getD_some z70 (show 0 < x12.length by omega))
 obtain ⟨A24, c25, rfl, l26, h27⟩ := st70_open r22
 refine lV 8 (e_indexAddr (b := b18) (off := o19) (n := x12.length) (c := c14) (sz := 3) (i := 0) (k := .i64) underlying43 e20 kr kr rfl (by omega) q17) (lP 1 (lV 10 (eK underlying3 (hpx (S0_.inv.cell (k23 0 _ rfl)))) (lV 11 (eNe .i64 (x12.getD 0 z70).kind 3) (lP 1 ?_))))
 obtain ⟨q28, M⟩ | ⟨q28, M⟩ := ifc M
 ·refine lP1 14 12 (bT q28) (wN (tN (cond_t rfl kr (wQ (wR (lP 1 (wN (tN (wT (tR ?_))))))))))
  obtain rfl := sj M
  exact ret1 rfl rfl  kr ⟨rfl, S0_.chg⟩
 refine lP1 1 12 (bF q28) ?_
 obtain ⟨t29, u30, M⟩ := bnd M
 refine lcallg (d := 14) (t := 12) rfl kr rfl (bF q28) rfl kr (eE func78) (spec_l2is.calls h15 l16 S0_.own0 u30) ?_
 rintro _ w31 ⟨rfl, C32⟩
 refine ⟨_, rfl, ?_⟩
 obtain ⟨S33, K34⟩ := S0_.still C32
 refine lP1 2 12 (bF q28) ?_
 obtain ⟨q35, M⟩ | ⟨q35, M⟩ := ifc M
 ·refine lP1 10 16 (bvt q35 kr) (wN (tN (cond_t rfl kr (wQ (wR (lP 1 (wN (tN (wT (tR ?_))))))))))
  obtain rfl := sj M
  exact ret1 rfl rfl  kr ⟨rfl, S33.chg⟩
 refine lP1 1 16 (bvf q35 kr) ?_
 obtain ⟨t36, u37, M⟩ := bnd M
 refine lcallg (d := 18) (t := 16) rfl kr rfl (bvf q35 kr) rfl kr (eE func78) (spec_l2is.calls h15 l16 S33.own0 u37) ?_
 rintro _ w38 ⟨rfl, C39⟩
 refine ⟨_, rfl, ?_⟩
 obtain ⟨S40, K41⟩ := S33.still C39
 refine lP1 2 16 (bvf q35 kr) ?_
 obtain ⟨q42, M⟩ | ⟨q42, M⟩ := ifc M
 ·refine lP1 6 20 (bvt q42 kr) (wN (tN (cond_t rfl kr (wQ (wR (lP 1 (wN (tN (wT (tR ?_))))))))))
  obtain rfl := sj M
  exact ret1 rfl rfl  kr ⟨rfl, S40.chg⟩
 refine lP1 1 20 (bvf q42 kr) ?_
 obtain ⟨b43, o44, e45⟩ := Rd.addr h15 (show 0 < x12.length by omega)
 obtain ⟨y46, r47, k48⟩ := Rd.at h15 e45 (getD_some z70 (show 0 < x12.length by omega))
 obtain ⟨A49, c50, rfl, l51, h52⟩ := st70_open r47
 refine lG 22 20 (bvf q42 kr) (e_indexAddr (b := b43) (off := o44) (n := x12.length) (c := c14) (sz := 3) (i := 0) (k := .i64) underlying43 e45 kr kr rfl (by omega) q17) (lP1 1 20 (bvf q42 kr) (lG 24 20 (bvf q42 kr) (eK underlying3 (hpx (S40.inv.cell (k48 1 _ rfl)))) (lP1 2 20 (bvf q42 kr) (wN (tN ?_)))))
 obtain ⟨q53, M⟩ | ⟨q53, M⟩ := ifc M
 ·refine cT (bT q53) (wQ (wR (lP 1 (wN (tN (wT (tR ?_)))))))
  obtain rfl := sj M
  exact ret1 rfl rfl  kr ⟨rfl, S40.chg⟩
 refine cF (bF q53) (wK (tN (wQ (wQ (wR (lP 1 ?_))))))
 obtain ⟨b54, o55, e56⟩ := Rd.addr h15 (show 0 < x12.length by omega)
 obtain ⟨y57, r58, k59⟩ := Rd.at h15 e56 (getD_some z70 (show 0 < x12.length by omega))
 obtain ⟨A60, c61, rfl, l62, h63⟩ := st70_open r58
 refine lV 28 (e_indexAddr (b := b54) (off := o55) (n := x12.length) (c := c14) (sz := 3) (i := 0) (k := .i64) underlying43 e56 kr kr rfl (by omega) q17) (lP 1 (lV 30 (eK underlying3 (hpx (S40.inv.cell (k59 1 _ rfl)))) (lP 1 (wN (tN ?_)))))
 obtain ⟨q64, M⟩ | ⟨q64, M⟩ := ifc M
 ·refine cT (bT q64) (wQ ?_)
  refine region_quiet kr kr (qV 32 (fun wq_ hq_ => eM (.pointer (some ⟨g2, 0, none⟩))) (qV 33 (fun wq_ hq_ => eN ⟨g2, 0, none⟩) (qV 34 (fun wq_ hq_ => eD g2 0 0 1 underlying80) (qV 35 (fun wq_ hq_ => eB 0 ((S40.still hq_).1.inv _ _ b3)) (qV 36 (fun wq_ hq_ => eM (.slice A13 x12.length c14)) ?_)))))
  obtain ⟨b65, o66, e67⟩ := Rd.addr h15 (show 0 < x12.length by omega)
  obtain ⟨y68, r69, k70⟩ := Rd.at h15 e67 (getD_some z70 (show 0 < x12.length by omega))
  obtain ⟨A71, c72, rfl, l73, h74⟩ := st70_open r69
  refine qV 37 (fun wq_ hq_ => e_indexAddr (b := b65) (off := o66) (n := x12.length) (c := c14) (sz := 3) (i := 0) (k := .i64) underlying43 e67 kr kr rfl (by omega) q17) (qV 38 (fun wq_ hq_ => eD b65 (o66 + (0 : Int).toNat * 3) 2 1 underlying70) (qV 39 (fun wq_ hq_ => eK underlying22 (hpx ((S40.still hq_).1.inv.cell (k70 2 _ rfl)))) ?_))
  obtain ⟨t75, u76, M⟩ := bnd M
  refine qcall (v := .int .i64 t75) (d := 40) rfl rfl kr (fun w_ => eE func99) (fun wq_ hq_ => (by obtain ⟨S_, K_⟩ := S40.still hq_; exact (spec_l3find.calls h6 l7 h74 l73 S_.own0 u76))) (qV 5 (fun wq_ hq_ => eA (.int .i64 t75)) ?_)
  refine wpQuiet_nil ?_
  intro w77 C80
  obtain ⟨S78, K79⟩ := S40.still C80
  refine tN (wQ (wQ (wR (lP 3 ?_))))
  obtain ⟨q81, M⟩ | ⟨q81, M⟩ := ifd M
  ·refine lP1 11 43 (bF q81) (wN (tN (cond_f rfl kr (wK (tN (wQ (wR (lP 2 (wN (tN (wT (tR ?_))))))))))))
   obtain rfl := sj M
   exact ret1 rfl rfl  kr ⟨rfl, S78.chg⟩
  refine lP1 3 43 (bT q81) (lG 47 43 (bT q81) (eB 0 (S78.inv _ _ b3)) (lP1 1 43 (bT q81) ?_))
  obtain ⟨q82, M⟩ := chk M
  obtain ⟨q83, M⟩ := chk M
  obtain ⟨b84, o85, e86⟩ := Rd.addr h6 (show (t75).toNat < x1.ops_.length by omega)
  obtain ⟨y87, r88, k89⟩ := Rd.at h6 e86 (getD_some z86 (show (t75).toNat < x1.ops_.length by omega))
  obtain ⟨A90, c91, rfl, l92, h93⟩ := st86_open r88
  refine lG 49 43 (bT q81) (eJ underlying48 e86 q82 q83) (lP1 1 43 (bT q81) (lG 51 43 (bT q81) (eK underlying3 (hpx (S78.inv.cell (k89 2 _ rfl)))) ?_))
  obtain ⟨t94, u95, M⟩ := bnd M
  refine lcallg (d := 52) (t := 43) rfl kr rfl (bT q81) rfl kr (eE func92) (spec_l3infix.calls  S78.own0 u95) ?_
  rintro _ w96 ⟨rfl, C97⟩
  refine ⟨_, rfl, ?_⟩
  obtain ⟨S98, K99⟩ := S78.still C97
  refine lG 53 43 (bT q81) (e_notv (c := t94) kr) (lP1 1 43 (bT q81) (wN (tN ?_)))
  obtain ⟨q100, M⟩ | ⟨q100, M⟩ := ifc M
  ·refine cT (bT q100) (wQ (wR (lP 1 (wN (tN (wT (tR (tR ?_))))))))
   obtain rfl := sj M
   exact ret1 rfl rfl  kr ⟨rfl, S98.chg⟩
  refine cF (bF q100) (wK (tN (wQ (wR (lP 2 (wN (tN (wT (tR ?_)))))))))
  obtain rfl := sj M
  exact ret1 rfl rfl  kr ⟨rfl, S98.chg⟩
 refine cF (bF q64) (wK (tN (wQ ?_)))
 refine region_quiet kr kr (qV 56 (fun wq_ hq_ => eM (.pointer (some ⟨g2, 0, none⟩))) (qV 57 (fun wq_ hq_ => eN ⟨g2, 0, none⟩) (qV 58 (fun wq_ hq_ => eD g2 0 0 1 underlying80) (qV 59 (fun wq_ hq_ => eB 0 ((S40.still hq_).1.inv _ _ b3)) (qV 60 (fun wq_ hq_ => eM (.slice A13 x12.length c14)) ?_)))))
 obtain ⟨b101, o102, e103⟩ := Rd.addr h15 (show 0 < x12.length by omega)
 obtain ⟨y104, r105, k106⟩ := Rd.at h15 e103 (getD_some z70 (show 0 < x12.length by omega))
 obtain ⟨A107, c108, rfl, l109, h110⟩ := st70_open r105
 refine qV 61 (fun wq_ hq_ => e_indexAddr (b := b101) (off := o102) (n := x12.length) (c := c14) (sz := 3) (i := 0) (k := .i64) underlying43 e103 kr kr rfl (by omega) q17) (qV 62 (fun wq_ hq_ => eD b101 (o102 + (0 : Int).toNat * 3) 2 1 underlying70) (qV 63 (fun wq_ hq_ => eK underlying22 (hpx ((S40.still hq_).1.inv.cell (k106 2 _ rfl)))) ?_))
 obtain ⟨t111, u112, M⟩ := bnd M
 refine qcall (v := .int .i64 t111) (d := 64) rfl rfl kr (fun w_ => eE func99) (fun wq_ hq_ => (by obtain ⟨S_, K_⟩ := S40.still hq_; exact (spec_l3find.calls h6 l7 h110 l109 S_.own0 u112))) (qV 6 (fun wq_ hq_ => eA (.int .i64 t111)) ?_)
 refine wpQuiet_nil ?_
 intro w113 C116
 obtain ⟨S114, K115⟩ := S40.still C116
 refine tN (wQ (wQ (wR (lP 2 (wN (tN ?_))))))
 obtain ⟨q117, M⟩ | ⟨q117, M⟩ := ifd M
 ·refine cF (bF q117) (wK (tN (wQ (wR (lP 2 (wN (tN (wT ?_))))))))
  obtain rfl := sj M
  exact ret1 rfl rfl  kr ⟨rfl, S114.chg⟩
 refine cT (bT q117) (wQ ?_)
 refine region_quiet kr kr (qV 67 (fun wq_ hq_ => eM (.pointer (some ⟨g2, 0, none⟩))) (qV 68 (fun wq_ hq_ => eN ⟨g2, 0, none⟩) (qV 69 (fun wq_ hq_ => eD g2 0 0 1 underlying80) (qV 70 (fun wq_ hq_ => eB 0 ((S114.still hq_).1.inv _ _ b3)) (qV 71 (fun wq_ hq_ => eM (.slice A13 x12.length c14)) ?_)))))
 obtain ⟨b118, o119, e120⟩ := Rd.addr h15 (show 0 < x12.length by omega)
 obtain ⟨y121, r122, k123⟩ := Rd.at h15 e120 (getD_some z70 (show 0 < x12.length by omega))
 obtain ⟨A124, c125, rfl, l126, h127⟩ := st70_open r122
 refine qV 72 (fun wq_ hq_ => e_indexAddr (b := b118) (off := o119) (n := x12.length) (c := c14) (sz := 3) (i := 0) (k := .i64) underlying43 e120 kr kr rfl (by omega) q17) (qV 73 (fun wq_ hq_ => eD b118 (o119 + (0 : Int).toNat * 3) 2 1 underlying70) (qV 74 (fun wq_ hq_ => eK underlying22 (hpx ((S114.still hq_).1.inv.cell (k123 2 _ rfl)))) ?_))
 obtain ⟨t128, u129, M⟩ := bnd M
 refine qcall (v := .int .i64 t128) (d := 75) rfl rfl kr (fun w_ => eE func99) (fun wq_ hq_ => (by obtain ⟨S_, K_⟩ := S114.still hq_; exact (spec_l3find.calls h6 l7 h127 l126 S_.own0 u129))) (qV 6 (fun wq_ hq_ => eA (.int .i64 t128)) ?_)
 refine wpQuiet_nil ?_
 intro w130 C133
 obtain ⟨S131, K132⟩ := S114.still C133
 refine tN (wQ (wR (lP 3 ?_)))
 obtain ⟨q134, M⟩ | ⟨q134, M⟩ := ifd M
 ·refine lP1 10 78 (bF q134) (wN (tN (cond_f rfl kr (wK (tN (wQ (wR (lP 2 (wN (tN (wT ?_)))))))))))
  obtain rfl := sj M
  exact ret1 rfl rfl  kr ⟨rfl, S131.chg⟩
 refine lP1 3 78 (bT q134) (lG 82 78 (bT q134) (eB 0 (S131.inv _ _ b3)) (lP1 1 78 (bT q134) ?_))
 obtain ⟨q135, M⟩ := chk M
 obtain ⟨q136, M⟩ := chk M
 obtain ⟨b137, o138, e139⟩ := Rd.addr h6 (show (t128).toNat < x1.ops_.length by omega)
 obtain ⟨y140, r141, k142⟩ := Rd.at h6 e139 (getD_some z86 (show (t128).toNat < x1.ops_.length by omega))
 obtain ⟨A143, c144, rfl, l145, h146⟩ := st86_open r141
 refine lG 84 78 (bT q134) (eJ underlying48 e139 q135 q136) (lP1 1 78 (bT q134) (lG 86 78 (bT q134) (eK underlying3 (hpx (S131.inv.cell (k142 2 _ rfl)))) ?_))
 obtain ⟨t147, u148, M⟩ := bnd M
 refine lcallg (d := 87) (t := 78) rfl kr rfl (bT q134) rfl kr (eE func92) (spec_l3infix.calls  S131.own0 u148) ?_
 rintro _ w149 ⟨rfl, C150⟩
 refine ⟨_, rfl, ?_⟩
 obtain ⟨S151, K152⟩ := S131.still C150
 refine lP1 1 78 (bT q134) (wN (tN ?_))
 obtain ⟨q153, M⟩ | ⟨q153, M⟩ := ifc M
 ·refine cT (bvt q153 kr) (wQ (wR (lP 1 (wN (tN (wT (tR ?_)))))))
  obtain rfl := sj M
  exact ret1 rfl rfl  kr ⟨rfl, S151.chg⟩
 refine cF (bvf q153 kr) (wK (tN (wQ (wR (lP 2 (wN (tN (wT ?_))))))))
 obtain rfl := sj M
 exact ret1 rfl rfl  kr ⟨rfl, S151.chg⟩
def spec_l3right.f (x1 : Sy.Op) : Option Int := (if x1.typ = 1 then some x1.pri else (if x1.typ = 3 then some x1.pri else some (i64.wrap (x1.pri - 1))))
theorem spec_l3right.calls {w : World} {H : Hp} (x1 : Sy.Op) {A2 : Option Addr} {c3 : Nat} (h4 : Rd tByte H A2 x1.name) (l5 : x1.name.length ≤ c3) (S : Own [] H w) {r : Int} (M : spec_l3right.f x1 = some r) :
  Calls Tryz.prog 88 #[.agg #[.slice A2 x1.name.length c3, .int .i64 x1.pri, .int .i64 x1.typ]] w (fun e e_w => e = .returned (.int .i64 r) ∧ Chg no w e_w) := by
 rw [spec_l3right.f] at M
 refine enter (l := [.agg #[.slice A2 x1.name.length c3, .int .i64 x1.pri, .int .i64 x1.typ]]) 16 func88 rfl rfl rfl ?_
 have S0_ := S.st
 refine wQ (wR ?_)
 refine lW 1 (nB #[.slice A2 x1.name.length c3, .int .i64 x1.pri, .int .i64 x1.typ] 86 S0_) ?_
 rintro _ w6 ⟨g7, rfl, b9, S10, K11⟩
 refine lP 1 (wN (tN (wQ (wQ (wR (lP 1 (lV 4 (eB 2 b9) (lP 2 ?_))))))))
 obtain ⟨q12, M⟩ | ⟨q12, M⟩ := ifc M
 ·refine lP1 4 6 (bT q12) (wN (tN (cond_t rfl kr (wQ (wR (lP 1 (lV 12 (eB 1 b9) (lP 1 (wN (tN (wT (tR ?_))))))))))))
  obtain rfl := sj M
  exact ret1 rfl rfl  kr ⟨rfl, S10.chg⟩
 refine lP1 1 6 (bF q12) (lG 8 6 (bF q12) (eB 2 b9) (lP1 2 6 (bF q12) (wN (tN ?_))))
 obtain ⟨q13, M⟩ | ⟨q13, M⟩ := ifc M
 ·refine cT (bT q13) (wQ (wR (lP 1 (lV 12 (eB 1 b9) (lP 1 (wN (tN (wT (tR ?_)))))))))
  obtain rfl := sj M
  exact ret1 rfl rfl  kr ⟨rfl, S10.chg⟩
 refine cF (bF q13) (wK (tN (wQ (wR (lP 1 (lV 14 (eB 1 b9) (lP 2 (wN (tN (wT ?_))))))))))
 obtain rfl := sj M
 exact ret1 rfl rfl  kr ⟨rfl, S10.chg⟩
def spec_l3gap.f (k : Nat) (x1 : List UInt8) (x2 : List UInt8) : Option (List UInt8) := (if x1 = ([] : List UInt8) then some ([] : List UInt8) else (if x2 = ([] : List UInt8) then some ([] : List UInt8) else (if 0 ≤ (i64.wrap ((x1.length : Int) - 1)) then (if (i64.wrap ((x1.length : Int) - 1)) < (x1.length : Int) then (if 0 < (x2.length : Int) then ((spec_l1alnum.f (x1.getD ((i64.wrap ((x1.length : Int) - 1)) : Int).toNat (0 : UInt8))).bind fun t8 => (if t8 = true then ((spec_l1alnum.f (x2.getD (0 : Int).toNat (0 : UInt8))).bind fun t15 => (if t15 = true then some ([32] : List UInt8) else ((spec_l1symbol.f k (x1.getD ((i64.wrap ((x1.length : Int) - 1)) : Int).toNat (0 : UInt8))).bind fun t22 => (if t22 = true then ((spec_l1symbol.f k (x2.getD (0 : Int).toNat (0 : UInt8))).bind fun t29 => (if t29 = true then some ([32] : List UInt8) else some ([] : List UInt8))) else some ([] : List UInt8))))) else ((spec_l1symbol.f k (x1.getD ((i64.wrap ((x1.length : Int) - 1)) : Int).toNat (0 : UInt8))).bind fun t36 => (if t36 = true then ((spec_l1symbol.f k (x2.getD (0 : Int).toNat (0 : UInt8))).bind fun t43 => (if t43 = true then some ([32] : List UInt8) else some ([] : List UInt8))) else some ([] : List UInt8))))) else none) else none) else none)))
theorem spec_l3gap.calls {k : Nat} {w : World} {H : Hp} {x1 : List UInt8} {x2 : List UInt8} (S : Own [] H w) {r : List UInt8} (M : spec_l3gap.f k x1 x2 = some r) :
  Calls Tryz.prog 89 #[str x1, str x2] w (fun e e_w => e = .returned (str r) ∧ Chg no w e_w) := by
 rw [spec_l3gap.f] at M
 refine enter (l := [str x1, str x2]) 34 func89 rfl rfl rfl ?_
 have S0_ := S.st
 refine wQ (wR (lP 1 (wN (tN (wQ (wQ (wR (lP 1 (lV 8 (e_seql (p := x1) (q := ([] : List UInt8)) kr rfl) (lP 1 ?_))))))))))
 obtain ⟨q3, M⟩ | ⟨q3, M⟩ := ifc M
 ·refine lP1 3 9 (bT q3) (wN (tN (cond_t rfl kr (wQ (wR (lP 1 (wN (tN (wT (tR ?_))))))))))
  obtain rfl := sj M
  exact ret1 rfl rfl  kr ⟨rfl, S0_.chg⟩
 refine lP1 1 9 (bF q3) (lG 11 9 (bF q3) (e_seql (p := x2) (q := ([] : List UInt8)) kr rfl) (lP1 1 9 (bF q3) (wN (tN ?_))))
 obtain ⟨q4, M⟩ | ⟨q4, M⟩ := ifc M
 ·refine cT (bT q4) (wQ (wR (lP 1 (wN (tN (wT (tR ?_)))))))
  obtain rfl := sj M
  exact ret1 rfl rfl  kr ⟨rfl, S0_.chg⟩
 refine cF (bF q4) (wK (tN (wQ (wR (lP 2 (lV 15 (e_slen (p := x1) underlying9 kr) (lP 1 ?_)))))))
 obtain ⟨q5, M⟩ := chk M
 obtain ⟨q6, M⟩ := chk M
 refine lV 17 (e_sindex (p := x1) (i := (i64.wrap ((x1.length : Int) - 1))) (k := .i64) underlying9 kr kr q5 q6) (lP 1 (wN (tN (wQ (wR (lP 1 ?_))))))
 obtain ⟨q7, M⟩ := chk M
 refine lV 19 (e_sindex (p := x2) (i := 0) (k := .i64) underlying9 kr rfl (by decide) q7) (lP 1 (wN (tN (wQ (wQ (wR (lP 1 ?_)))))))
 obtain ⟨t8, u9, M⟩ := bnd M
 refine lC 21 (eE func30) (spec_l1alnum.calls  S0_.own0 u9) ?_
 rintro _ w10 ⟨rfl, C11⟩
 refine ⟨_, rfl, ?_⟩
 obtain ⟨S12, K13⟩ := S0_.still C11
 refine lP 1 ?_
 obtain ⟨q14, M⟩ | ⟨q14, M⟩ := ifd M
 ·refine lP1 5 22 (bvf q14 kr) ?_
  obtain ⟨t36, u37, M⟩ := bnd M
  refine lcallg (d := 28) (t := 26) rfl kr rfl kr rfl kr (eE func33) (spec_l1symbol.calls  S12.own0 u37) ?_
  rintro _ w38 ⟨rfl, C39⟩
  refine ⟨_, rfl, ?_⟩
  obtain ⟨S40, K41⟩ := S12.still C39
  refine lP 1 ?_
  obtain ⟨q42, M⟩ | ⟨q42, M⟩ := ifd M
  ·refine lP1 4 29 (bvf q42 kr) (wN (tN (cond_f rfl kr (wK (tN (wQ (wR (lP 1 (wN (tN (wT ?_)))))))))))
   obtain rfl := sj M
   exact ret1 rfl rfl  kr ⟨rfl, S40.chg⟩
  refine lP1 1 29 (bvt q42 kr) ?_
  obtain ⟨t43, u44, M⟩ := bnd M
  refine lcallg (d := 31) (t := 29) rfl kr rfl (bvt q42 kr) rfl kr (eE func33) (spec_l1symbol.calls  S40.own0 u44) ?_
  rintro _ w45 ⟨rfl, C46⟩
  refine ⟨_, rfl, ?_⟩
  obtain ⟨S47, K48⟩ := S40.still C46
  refine lP1 2 29 (bvt q42 kr) (wN (tN ?_))
  obtain ⟨q49, M⟩ | ⟨q49, M⟩ := ifc M
  ·refine cT (bvt q49 kr) (wQ (wR (lP 1 (wN (tN (wT (tR ?_)))))))
   obtain rfl := sj M
   exact ret1 rfl rfl  kr ⟨rfl, S47.chg⟩
  refine cF (bvf q49 kr) (wK (tN (wQ (wR (lP 1 (wN (tN (wT ?_))))))))
  obtain rfl := sj M
  exact ret1 rfl rfl  kr ⟨rfl, S47.chg⟩
 refine lP1 1 22 (bvt q14 kr) ?_
 obtain ⟨t15, u16, M⟩ := bnd M
 refine lcallg (d := 24) (t := 22) rfl kr rfl (bvt q14 kr) rfl kr (eE func30) (spec_l1alnum.calls  S12.own0 u16) ?_
 rintro _ w17 ⟨rfl, C18⟩
 refine ⟨_, rfl, ?_⟩
 obtain ⟨S19, K20⟩ := S12.still C18
 refine lP1 2 22 (bvt q14 kr) ?_
 obtain ⟨q21, M⟩ | ⟨q21, M⟩ := ifc M
 ·refine lP1 7 26 (bvt q21 kr) (wN (tN (cond_t rfl kr (wQ (wR (lP 1 (wN (tN (wT (tR ?_))))))))))
  obtain rfl := sj M
  exact ret1 rfl rfl  kr ⟨rfl, S19.chg⟩
 refine lP1 1 26 (bvf q21 kr) ?_
 obtain ⟨t22, u23, M⟩ := bnd M
 refine lcallg (d := 28) (t := 26) rfl kr rfl (bvf q21 kr) rfl kr (eE func33) (spec_l1symbol.calls  S19.own0 u23) ?_
 rintro _ w24 ⟨rfl, C25⟩
 refine ⟨_, rfl, ?_⟩
 obtain ⟨S26, K27⟩ := S19.still C25
 refine lP1 1 26 (bvf q21 kr) ?_
 obtain ⟨q28, M⟩ | ⟨q28, M⟩ := ifd M
 ·refine lP2 4 29 (bvf q28 kr) 26 (bvf q21 kr) (wN (tN (cond_f rfl kr (wK (tN (wQ (wR (lP 1 (wN (tN (wT ?_)))))))))))
  obtain rfl := sj M
  exact ret1 rfl rfl  kr ⟨rfl, S26.chg⟩
 refine lP1 1 29 (bvt q28 kr) ?_
 obtain ⟨t29, u30, M⟩ := bnd M
 refine lcallg (d := 31) (t := 29) rfl kr rfl (bvt q28 kr) rfl kr (eE func33) (spec_l1symbol.calls  S26.own0 u30) ?_
 rintro _ w31 ⟨rfl, C32⟩
 refine ⟨_, rfl, ?_⟩
 obtain ⟨S33, K34⟩ := S26.still C32
 refine lP2 2 26 (bvf q21 kr) 29 (bvt q28 kr) (wN (tN ?_))
 obtain ⟨q35, M⟩ | ⟨q35, M⟩ := ifc M
 ·refine cT (bvt q35 kr) (wQ (wR (lP 1 (wN (tN (wT (tR ?_)))))))
  obtain rfl := sj M
  exact ret1 rfl rfl  kr ⟨rfl, S33.chg⟩
 refine cF (bvf q35 kr) (wK (tN (wQ (wR (lP 1 (wN (tN (wT ?_))))))))
 obtain rfl := sj M
 exact ret1 rfl rfl  kr ⟨rfl, S33.chg⟩
def spec_l3spaced.f (k : Nat) (x1 : List UInt8) : Option Bool := ((spec_l1run.f k x1 0 true).bind fun t6 => (if t6 ≠ (x1.length : Int) then (if x1 ≠ ([44] : List UInt8) then (if x1 ≠ ([59] : List UInt8) then some (decide (x1 ≠ ([33] : List UInt8))) else some false) else some false) else ((spec_IsPlain.f k x1).bind fun t15 => (if ¬ (t15 = true) then (if x1 ≠ ([44] : List UInt8) then (if x1 ≠ ([59] : List UInt8) then some (decide (x1 ≠ ([33] : List UInt8))) else some false) else some false) else some false))))
theorem spec_l3spaced.calls {k : Nat} {w : World} {H : Hp} {x1 : List UInt8} {A2 : Option Addr} {c3 : Nat} (h4 : Rd tByte H A2 x1) (l5 : x1.length ≤ c3) (S : Own [] H w) {r : Bool} (M : spec_l3spaced.f k x1 = some r) :
  Calls Tryz.prog 90 #[.slice A2 x1.length c3] w (fun e e_w => e = .returned (.bool r) ∧ Chg no w e_w) := by
 rw [spec_l3spaced.f] at M
 refine enter (l := [.slice A2 x1.length c3]) 28 func90 rfl rfl rfl ?_
 have S0_ := S.st
 refine wQ (wR (lP 1 (wN (tN (wQ (wR (lP 1 (lV 5 (e_conv_bs (A := A2) (n := x1.length) (c := c3) (xs := x1) underlying22 underlying5 underlying9 kr rfl (Rd.bytesE S0_.inv h4)) (lP 1 (wN (tN (wQ (wR (lP 1 ?_))))))))))))))
 obtain ⟨t6, u7, M⟩ := bnd M
 refine lC 7 (eE func31) (spec_l1run.calls h4 l5 S0_.own0 u7) ?_
 rintro _ w8 ⟨rfl, C9⟩
 refine ⟨_, rfl, ?_⟩
 obtain ⟨S10, K11⟩ := S0_.still C9
 refine lP 2 (lV 10 (eNe .i64 t6 (x1.length : Int)) (lP 1 ?_))
 obtain ⟨q12, M⟩ | ⟨q12, M⟩ := ifc M
 ·refine lP1 6 11 (bT q12) (lH 18 16 (e_sneq (p := x1) (q := ([44] : List UInt8)) kr rfl) (lP 2 ?_))
  obtain ⟨q13, M⟩ | ⟨q13, M⟩ := ifd M
  ·refine lP1 8 20 (bF q13) (wN (tN (wT ?_)))
   obtain rfl := sj M
   exact ret1 rfl rfl  kr ⟨rfl, S10.chg⟩
  refine lP1 1 20 (bT q13) (lG 22 20 (bT q13) (e_sneq (p := x1) (q := ([59] : List UInt8)) kr rfl) (lP1 2 20 (bT q13) ?_))
  obtain ⟨q14, M⟩ | ⟨q14, M⟩ := ifd M
  ·refine lP1 4 24 (bF q14) (wN (tN (wT ?_)))
   obtain rfl := sj M
   exact ret1 rfl rfl  kr ⟨rfl, S10.chg⟩
  refine lP1 1 24 (bT q14) (lG 26 24 (bT q14) (e_sneq (p := x1) (q := ([33] : List UInt8)) kr rfl) (lP1 2 24 (bT q14) (wN (tN (wT ?_)))))
  obtain rfl := sj M
  exact ret1 rfl rfl  kr ⟨rfl, S10.chg⟩
 refine lP1 1 11 (bF q12) ?_
 obtain ⟨t15, u16, M⟩ := bnd M
 refine lcallg (d := 13) (t := 11) rfl kr rfl (bF q12) rfl kr (eE func97) (spec_IsPlain.calls h4 l5 S10.own0 u16) ?_
 rintro _ w17 ⟨rfl, C18⟩
 refine ⟨_, rfl, ?_⟩
 obtain ⟨S19, K20⟩ := S10.still C18
 refine lG 14 11 (bF q12) (e_notv (c := t15) kr) (lP1 2 11 (bF q12) ?_)
 obtain ⟨q21, M⟩ | ⟨q21, M⟩ := ifd M
 ·refine lP1 12 16 (bF q21) (wN (tN (wT ?_)))
  obtain rfl := sj M
  exact ret1 rfl rfl  kr ⟨rfl, S19.chg⟩
 refine lP1 1 16 (bT q21) (lG 18 16 (bT q21) (e_sneq (p := x1) (q := ([44] : List UInt8)) kr rfl) (lP1 2 16 (bT q21) ?_))
 obtain ⟨q22, M⟩ | ⟨q22, M⟩ := ifd M
 ·refine lP1 8 20 (bF q22) (wN (tN (wT ?_)))
  obtain rfl := sj M
  exact ret1 rfl rfl  kr ⟨rfl, S19.chg⟩
 refine lP1 1 20 (bT q22) (lG 22 20 (bT q22) (e_sneq (p := x1) (q := ([59] : List UInt8)) kr rfl) (lP1 2 20 (bT q22) ?_))
 obtain ⟨q23, M⟩ | ⟨q23, M⟩ := ifd M
 ·refine lP1 4 24 (bF q23) (wN (tN (wT ?_)))
  obtain rfl := sj M
  exact ret1 rfl rfl  kr ⟨rfl, S19.chg⟩
 refine lP1 1 24 (bT q23) (lG 26 24 (bT q23) (e_sneq (p := x1) (q := ([33] : List UInt8)) kr rfl) (lP1 2 24 (bT q23) (wN (tN (wT ?_)))))
 obtain rfl := sj M
 exact ret1 rfl rfl  kr ⟨rfl, S19.chg⟩
def spec_l3left.f (x1 : Sy.Op) : Option Int := (if x1.typ = 2 then some x1.pri else (if x1.typ = 6 then some x1.pri else some (i64.wrap (x1.pri - 1))))
theorem spec_l3left.calls {w : World} {H : Hp} (x1 : Sy.Op) {A2 : Option Addr} {c3 : Nat} (h4 : Rd tByte H A2 x1.name) (l5 : x1.name.length ≤ c3) (S : Own [] H w) {r : Int} (M : spec_l3left.f x1 = some r) :
  Calls Tryz.prog 91 #[.agg #[.slice A2 x1.name.length c3, .int .i64 x1.pri, .int .i64 x1.typ]] w (fun e e_w => e = .returned (.int .i64 r) ∧ Chg no w e_w) := by
 rw [spec_l3left.f] at M
 refine enter (l := [.agg #[.slice A2 x1.name.length c3, .int .i64 x1.pri, .int .i64 x1.typ]]) 16 func91 rfl rfl rfl ?_
 have S0_ := S.st
 refine wQ (wR ?_)
 refine lW 1 (nB #[.slice A2 x1.name.length c3, .int .i64 x1.pri, .int .i64 x1.typ] 86 S0_) ?_
 rintro _ w6 ⟨g7, rfl, b9, S10, K11⟩
 refine lP 1 (wN (tN (wQ (wQ (wR (lP 1 (lV 4 (eB 2 b9) (lP 2 ?_))))))))
 obtain ⟨q12, M⟩ | ⟨q12, M⟩ := ifc M
 ·refine lP1 4 6 (bT q12) (wN (tN (cond_t rfl kr (wQ (wR (lP 1 (lV 12 (eB 1 b9) (lP 1 (wN (tN (wT (tR ?_))))))))))))
  obtain rfl := sj M
  exact ret1 rfl rfl  kr ⟨rfl, S10.chg⟩
 refine lP1 1 6 (bF q12) (lG 8 6 (bF q12) (eB 2 b9) (lP1 2 6 (bF q12) (wN (tN ?_))))
 obtain ⟨q13, M⟩ | ⟨q13, M⟩ := ifc M
 ·refine cT (bT q13) (wQ (wR (lP 1 (lV 12 (eB 1 b9) (lP 1 (wN (tN (wT (tR ?_)))))))))
  obtain rfl := sj M
  exact ret1 rfl rfl  kr ⟨rfl, S10.chg⟩
 refine cF (bF q13) (wK (tN (wQ (wR (lP 1 (lV 14 (eB 1 b9) (lP 2 (wN (tN (wT ?_))))))))))
 obtain rfl := sj M
 exact ret1 rfl rfl  kr ⟨rfl, S10.chg⟩
end Go.Proofs.YtdkbfcmekppnmaaGreatDoor
