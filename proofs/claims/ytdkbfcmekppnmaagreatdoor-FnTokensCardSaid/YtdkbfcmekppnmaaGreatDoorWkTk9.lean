import Derived.Test.YtdkbfcmekppnmaaGreatDoorWkTk8
namespace Go.Proofs.YtdkbfcmekppnmaaGreatDoor
open Go.Sx Go.Sy IntKind Tryz
attribute [local irreducible] Go.wpList Go.wpStill Go.wpQuiet Go.Code.wp
set_option maxRecDepth 100000
set_option maxHeartbeats 1000000
set_option linter.unusedVariables false
set_option linter.unusedSimpArgs false
def impl_lexer_token.f (k : Nat) (x1 : GLexer) : Option GLexer := (if 0 ≤ x1.at_ then (if x1.at_ < (x1.s_.length : Int) then ((impl_isSmall.f (x1.s_.getD (x1.at_ : Int).toNat (0 : UInt8))).bind fun t13 => (if t13 = true then ((impl_lexer_run.f k x1 1).bind fun t22 => some t22) else ((impl_isLetter.f (x1.s_.getD (x1.at_ : Int).toNat (0 : UInt8))).bind fun t35 => (if t35 = true then ((impl_lexer_run.f k x1 2).bind fun t44 => some t44) else ((impl_isDigit.f (x1.s_.getD (x1.at_ : Int).toNat (0 : UInt8))).bind fun t57 => (if t57 = true then ((impl_lexer_number.f k x1).bind fun t66 => some t66) else (if ((x1.s_.getD (x1.at_ : Int).toNat (0 : UInt8)).toNat : Int) = 46 then (if (i64.wrap (x1.at_ + 1)) ≥ (x1.s_.length : Int) then ((impl_lexer_put.f x1 7 (i64.wrap (x1.at_ + 1)) ([] : List UInt8) 0).bind fun t87 => some t87) else (if 0 ≤ (i64.wrap (x1.at_ + 1)) then (if (i64.wrap (x1.at_ + 1)) < (x1.s_.length : Int) then ((impl_isBlank.f (x1.s_.getD ((i64.wrap (x1.at_ + 1)) : Int).toNat (0 : UInt8))).bind fun t102 => (if t102 = true then ((impl_lexer_put.f x1 7 (i64.wrap (x1.at_ + 1)) ([] : List UInt8) 0).bind fun t111 => some t111) else (if ((x1.s_.getD ((i64.wrap (x1.at_ + 1)) : Int).toNat (0 : UInt8)).toNat : Int) = 37 then ((impl_lexer_put.f x1 7 (i64.wrap (x1.at_ + 1)) ([] : List UInt8) 0).bind fun t131 => some t131) else ((impl_isSymbol.f (x1.s_.getD (x1.at_ : Int).toNat (0 : UInt8))).bind fun t144 => (if t144 = true then ((impl_lexer_run_2.f k x1 1).bind fun t153 => some t153) else (if ((x1.s_.getD (x1.at_ : Int).toNat (0 : UInt8)).toNat : Int) = 33 then ((impl_lexer_put.f x1 1 (i64.wrap (x1.at_ + 1)) (runeS (IntKind.i32.wrap (((x1.s_.getD (x1.at_ : Int).toNat (0 : UInt8)).toNat : Int)))) 0).bind fun t169 => some t169) else (if ((x1.s_.getD (x1.at_ : Int).toNat (0 : UInt8)).toNat : Int) = 59 then ((impl_lexer_put.f x1 1 (i64.wrap (x1.at_ + 1)) (runeS (IntKind.i32.wrap (((x1.s_.getD (x1.at_ : Int).toNat (0 : UInt8)).toNat : Int)))) 0).bind fun t185 => some t185) else (if ((x1.s_.getD (x1.at_ : Int).toNat (0 : UInt8)).toNat : Int) = 39 then ((impl_lexer_quote.f k x1 (x1.s_.getD (x1.at_ : Int).toNat (0 : UInt8))).bind fun t201 => some t201) else (if ((x1.s_.getD (x1.at_ : Int).toNat (0 : UInt8)).toNat : Int) = 34 then ((impl_lexer_quote.f k x1 (x1.s_.getD (x1.at_ : Int).toNat (0 : UInt8))).bind fun t217 => some t217) else (if ((x1.s_.getD (x1.at_ : Int).toNat (0 : UInt8)).toNat : Int) = 40 then (if (x1.tokens_.length : Int) > 0 then (if 0 ≤ (i64.wrap ((x1.tokens_.length : Int) - 1)) then (if (i64.wrap ((x1.tokens_.length : Int) - 1)) < (x1.tokens_.length : Int) then (if ((x1.tokens_.getD (((i64.wrap ((x1.tokens_.length : Int) - 1))).toNat) z28).kind) = 1 then (if (i64.wrap (((x1.tokens_.getD (((i64.wrap ((x1.tokens_.length : Int) - 1))).toNat) z28).place) + ((x1.tokens_.getD (((i64.wrap ((x1.tokens_.length : Int) - 1))).toNat) z28).size))) = x1.at_ then ((impl_lexer_put.f x1 6 (i64.wrap (x1.at_ + 1)) ([40] : List UInt8) 0).bind fun t250 => some t250) else ((impl_lexer_put.f x1 5 (i64.wrap (x1.at_ + 1)) ([40] : List UInt8) 0).bind fun t265 => some t265)) else ((impl_lexer_put.f x1 5 (i64.wrap (x1.at_ + 1)) ([40] : List UInt8) 0).bind fun t280 => some t280)) else none) else none) else ((impl_lexer_put.f x1 5 (i64.wrap (x1.at_ + 1)) ([40] : List UInt8) 0).bind fun t295 => some t295)) else (if ((x1.s_.getD (x1.at_ : Int).toNat (0 : UInt8)).toNat : Int) = 41 then ((impl_lexer_put.f x1 5 (i64.wrap (x1.at_ + 1)) (runeS (IntKind.i32.wrap (((x1.s_.getD (x1.at_ : Int).toNat (0 : UInt8)).toNat : Int)))) 0).bind fun t311 => some t311) else (if ((x1.s_.getD (x1.at_ : Int).toNat (0 : UInt8)).toNat : Int) = 91 then ((impl_lexer_put.f x1 5 (i64.wrap (x1.at_ + 1)) (runeS (IntKind.i32.wrap (((x1.s_.getD (x1.at_ : Int).toNat (0 : UInt8)).toNat : Int)))) 0).bind fun t327 => some t327) else (if ((x1.s_.getD (x1.at_ : Int).toNat (0 : UInt8)).toNat : Int) = 93 then ((impl_lexer_put.f x1 5 (i64.wrap (x1.at_ + 1)) (runeS (IntKind.i32.wrap (((x1.s_.getD (x1.at_ : Int).toNat (0 : UInt8)).toNat : Int)))) 0).bind fun t343 => some t343) else (if ((x1.s_.getD (x1.at_ : Int).toNat (0 : UInt8)).toNat : Int) = 123 then ((impl_lexer_put.f x1 5 (i64.wrap (x1.at_ + 1)) (runeS (IntKind.i32.wrap (((x1.s_.getD (x1.at_ : Int).toNat (0 : UInt8)).toNat : Int)))) 0).bind fun t359 => some t359) else (if ((x1.s_.getD (x1.at_ : Int).toNat (0 : UInt8)).toNat : Int) = 125 then ((impl_lexer_put.f x1 5 (i64.wrap (x1.at_ + 1)) (runeS (IntKind.i32.wrap (((x1.s_.getD (x1.at_ : Int).toNat (0 : UInt8)).toNat : Int)))) 0).bind fun t375 => some t375) else (if ((x1.s_.getD (x1.at_ : Int).toNat (0 : UInt8)).toNat : Int) = 44 then ((impl_lexer_put.f x1 5 (i64.wrap (x1.at_ + 1)) (runeS (IntKind.i32.wrap (((x1.s_.getD (x1.at_ : Int).toNat (0 : UInt8)).toNat : Int)))) 0).bind fun t391 => some t391) else (if ((x1.s_.getD (x1.at_ : Int).toNat (0 : UInt8)).toNat : Int) = 124 then ((impl_lexer_put.f x1 5 (i64.wrap (x1.at_ + 1)) (runeS (IntKind.i32.wrap (((x1.s_.getD (x1.at_ : Int).toNat (0 : UInt8)).toNat : Int)))) 0).bind fun t407 => some t407) else ((impl_lexer_fault.f x1 2 x1.at_).bind fun t422 => some t422)))))))))))))))))) else none) else none)) else ((impl_isSymbol.f (x1.s_.getD (x1.at_ : Int).toNat (0 : UInt8))).bind fun t439 => (if t439 = true then ((impl_lexer_run_2.f k x1 1).bind fun t448 => some t448) else (if ((x1.s_.getD (x1.at_ : Int).toNat (0 : UInt8)).toNat : Int) = 33 then ((impl_lexer_put.f x1 1 (i64.wrap (x1.at_ + 1)) (runeS (IntKind.i32.wrap (((x1.s_.getD (x1.at_ : Int).toNat (0 : UInt8)).toNat : Int)))) 0).bind fun t464 => some t464) else (if ((x1.s_.getD (x1.at_ : Int).toNat (0 : UInt8)).toNat : Int) = 59 then ((impl_lexer_put.f x1 1 (i64.wrap (x1.at_ + 1)) (runeS (IntKind.i32.wrap (((x1.s_.getD (x1.at_ : Int).toNat (0 : UInt8)).toNat : Int)))) 0).bind fun t480 => some t480) else (if ((x1.s_.getD (x1.at_ : Int).toNat (0 : UInt8)).toNat : Int) = 39 then ((impl_lexer_quote.f k x1 (x1.s_.getD (x1.at_ : Int).toNat (0 : UInt8))).bind fun t496 => some t496) else (if ((x1.s_.getD (x1.at_ : Int).toNat (0 : UInt8)).toNat : Int) = 34 then ((impl_lexer_quote.f k x1 (x1.s_.getD (x1.at_ : Int).toNat (0 : UInt8))).bind fun t512 => some t512) else (if ((x1.s_.getD (x1.at_ : Int).toNat (0 : UInt8)).toNat : Int) = 40 then (if (x1.tokens_.length : Int) > 0 then (if 0 ≤ (i64.wrap ((x1.tokens_.length : Int) - 1)) then (if (i64.wrap ((x1.tokens_.length : Int) - 1)) < (x1.tokens_.length : Int) then (if ((x1.tokens_.getD (((i64.wrap ((x1.tokens_.length : Int) - 1))).toNat) z28).kind) = 1 then (if (i64.wrap (((x1.tokens_.getD (((i64.wrap ((x1.tokens_.length : Int) - 1))).toNat) z28).place) + ((x1.tokens_.getD (((i64.wrap ((x1.tokens_.length : Int) - 1))).toNat) z28).size))) = x1.at_ then ((impl_lexer_put.f x1 6 (i64.wrap (x1.at_ + 1)) ([40] : List UInt8) 0).bind fun t545 => some t545) else ((impl_lexer_put.f x1 5 (i64.wrap (x1.at_ + 1)) ([40] : List UInt8) 0).bind fun t560 => some t560)) else ((impl_lexer_put.f x1 5 (i64.wrap (x1.at_ + 1)) ([40] : List UInt8) 0).bind fun t575 => some t575)) else none) else none) else ((impl_lexer_put.f x1 5 (i64.wrap (x1.at_ + 1)) ([40] : List UInt8) 0).bind fun t590 => some t590)) else (if ((x1.s_.getD (x1.at_ : Int).toNat (0 : UInt8)).toNat : Int) = 41 then ((impl_lexer_put.f x1 5 (i64.wrap (x1.at_ + 1)) (runeS (IntKind.i32.wrap (((x1.s_.getD (x1.at_ : Int).toNat (0 : UInt8)).toNat : Int)))) 0).bind fun t606 => some t606) else (if ((x1.s_.getD (x1.at_ : Int).toNat (0 : UInt8)).toNat : Int) = 91 then ((impl_lexer_put.f x1 5 (i64.wrap (x1.at_ + 1)) (runeS (IntKind.i32.wrap (((x1.s_.getD (x1.at_ : Int).toNat (0 : UInt8)).toNat : Int)))) 0).bind fun t622 => some t622) else (if ((x1.s_.getD (x1.at_ : Int).toNat (0 : UInt8)).toNat : Int) = 93 then ((impl_lexer_put.f x1 5 (i64.wrap (x1.at_ + 1)) (runeS (IntKind.i32.wrap (((x1.s_.getD (x1.at_ : Int).toNat (0 : UInt8)).toNat : Int)))) 0).bind fun t638 => some t638) else (if ((x1.s_.getD (x1.at_ : Int).toNat (0 : UInt8)).toNat : Int) = 123 then ((impl_lexer_put.f x1 5 (i64.wrap (x1.at_ + 1)) (runeS (IntKind.i32.wrap (((x1.s_.getD (x1.at_ : Int).toNat (0 : UInt8)).toNat : Int)))) 0).bind fun t654 => some t654) else (if ((x1.s_.getD (x1.at_ : Int).toNat (0 : UInt8)).toNat : Int) = 125 then ((impl_lexer_put.f x1 5 (i64.wrap (x1.at_ + 1)) (runeS (IntKind.i32.wrap (((x1.s_.getD (x1.at_ : Int).toNat (0 : UInt8)).toNat : Int)))) 0).bind fun t670 => some t670) else (if ((x1.s_.getD (x1.at_ : Int).toNat (0 : UInt8)).toNat : Int) = 44 then ((impl_lexer_put.f x1 5 (i64.wrap (x1.at_ + 1)) (runeS (IntKind.i32.wrap (((x1.s_.getD (x1.at_ : Int).toNat (0 : UInt8)).toNat : Int)))) 0).bind fun t686 => some t686) else (if ((x1.s_.getD (x1.at_ : Int).toNat (0 : UInt8)).toNat : Int) = 124 then ((impl_lexer_put.f x1 5 (i64.wrap (x1.at_ + 1)) (runeS (IntKind.i32.wrap (((x1.s_.getD (x1.at_ : Int).toNat (0 : UInt8)).toNat : Int)))) 0).bind fun t702 => some t702) else ((impl_lexer_fault.f x1 2 x1.at_).bind fun t717 => some t717)))))))))))))))))))))) else none) else none)
theorem impl_lexer_token.calls {k : Nat} {w : World} {H : Hp} (x1 : GLexer) {g2 : Nat} {A4 : Option Addr} {c5 : Nat} {F7 : Foot} (h6 : Row st28 28 H (hp w) F7 A4 c5 x1.tokens_) (b3 : w.heap[g2]? = some (.cells #[str x1.s_, .int .i64 x1.at_, .slice A4 x1.tokens_.length c5, .int .i64 x1.code_, .int .i64 x1.place_] 39 (0, 0))) (S : Own [F7, (is g2)] H w) {r : GLexer} (M : impl_lexer_token.f k x1 = some r) :
  Calls Tryz.prog 15 #[.pointer (some ⟨g2, 0, none⟩)] w (fun e e_w => ∃ (A_1 : Option Addr) (c_1 : Nat) (F_1 : Foot) (H_ : Hp), e = .returned (.tuple #[]) ∧ Row st28 28 H_ (hp e_w) F_1 A_1 c_1 r.tokens_ ∧ e_w.heap[g2]? = some (.cells #[str r.s_, .int .i64 r.at_, .slice A_1 r.tokens_.length c_1, .int .i64 r.code_, .int .i64 r.place_] 39 (0, 0)) ∧ St (anyOf [F7, (is g2)]) H w [(is g2), F_1] H_ e_w) := by
 rw [impl_lexer_token.f] at M
 refine enter (l := [.pointer (some ⟨g2, 0, none⟩)]) 209 func15 rfl rfl rfl ?_
 have S0_ := S.st
 refine wQ ?_
 refine region_still kr kr S0_ ?_
 intro w8 S9 K10
 replace h6 := h6.move (K10.a 0)
 replace b3 := K10.b 1 b3
 refine sP 3 (sV 8 (eB 0 b3) (sP 3 (sV 12 (eB 1 b3) ?_)))
 obtain ⟨q11, M⟩ := chk M
 obtain ⟨q12, M⟩ := chk M
 refine sV 13 (e_sindex (p := x1.s_) (i := x1.at_) (k := .i64) underlying9 kr kr q11 q12) (sP 1 (wpStill_nil (tN (wp_block (wQ (wR (lP 1 ?_)))))))
 obtain ⟨t13, u14, M⟩ := bnd M
 refine lC 22 (eE func39) (impl_isSmall.calls  S9.own0 u14) ?_
 rintro _ w15 ⟨rfl, C16⟩
 refine ⟨_, rfl, ?_⟩
 obtain ⟨S17, K18⟩ := S9.still C16
 replace h6 := h6.move (K18.a 0)
 replace b3 := K18.b 1 b3
 refine lP 1 (wN (tN ?_))
 obtain ⟨q19, M⟩ | ⟨q19, M⟩ := ifc M
 ·refine cT (bvt q19 kr) (wR (lP 1 ?_))
  have S21 := S17.pulls [F7, (is g2)] [1, 1] rfl
  obtain ⟨t22, u23, M⟩ := bnd M
  refine lC 24 (eE func40) (impl_lexer_run.calls x1 h6 b3 (St.own' (Fa := [F7, (is g2)]) (Fr := []) S21) u23) ?_
  rintro _ w24 ⟨A27, c28, F30, H25, rfl, h29, b31, T26⟩
  refine ⟨_, rfl, ?_⟩
  obtain ⟨S32, K33⟩ := St.call (Fa := [F7, (is g2)]) (Fr := []) S21 T26
  have E34 := T26.ext
  refine wN (inb_n ?_)
  obtain rfl := sj M
  exact end0 rfl ⟨A27, c28, F30, H25, rfl, h29, b31, S32⟩
 refine cF (bvf q19 kr) (wQ (wR (lP 1 ?_)))
 obtain ⟨t35, u36, M⟩ := bnd M
 refine lC 27 (eE func42) (impl_isLetter.calls  S17.own0 u36) ?_
 rintro _ w37 ⟨rfl, C38⟩
 refine ⟨_, rfl, ?_⟩
 obtain ⟨S39, K40⟩ := S17.still C38
 replace h6 := h6.move (K40.a 0)
 replace b3 := K40.b 1 b3
 refine lP 1 (wN (tN ?_))
 obtain ⟨q41, M⟩ | ⟨q41, M⟩ := ifc M
 ·refine cT (bvt q41 kr) (wR (lP 1 ?_))
  have S43 := S39.pulls [F7, (is g2)] [1, 1] rfl
  obtain ⟨t44, u45, M⟩ := bnd M
  refine lC 29 (eE func40) (impl_lexer_run.calls x1 h6 b3 (St.own' (Fa := [F7, (is g2)]) (Fr := []) S43) u45) ?_
  rintro _ w46 ⟨A49, c50, F52, H47, rfl, h51, b53, T48⟩
  refine ⟨_, rfl, ?_⟩
  obtain ⟨S54, K55⟩ := St.call (Fa := [F7, (is g2)]) (Fr := []) S43 T48
  have E56 := T48.ext
  refine wN (inb_n ?_)
  obtain rfl := sj M
  exact end0 rfl ⟨A49, c50, F52, H47, rfl, h51, b53, S54⟩
 refine cF (bvf q41 kr) (wQ (wR (lP 1 ?_)))
 obtain ⟨t57, u58, M⟩ := bnd M
 refine lC 32 (eE func43) (impl_isDigit.calls  S39.own0 u58) ?_
 rintro _ w59 ⟨rfl, C60⟩
 refine ⟨_, rfl, ?_⟩
 obtain ⟨S61, K62⟩ := S39.still C60
 replace h6 := h6.move (K62.a 0)
 replace b3 := K62.b 1 b3
 refine lP 1 (wN (tN ?_))
 obtain ⟨q63, M⟩ | ⟨q63, M⟩ := ifc M
 ·refine cT (bvt q63 kr) (wR (lP 1 ?_))
  have S65 := S61.pulls [F7, (is g2)] [1, 1] rfl
  obtain ⟨t66, u67, M⟩ := bnd M
  refine lC 34 (eE func44) (impl_lexer_number.calls x1 h6 b3 (St.own' (Fa := [F7, (is g2)]) (Fr := []) S65) u67) ?_
  rintro _ w68 ⟨A71, c72, F74, H69, rfl, h73, b75, T70⟩
  refine ⟨_, rfl, ?_⟩
  obtain ⟨S76, K77⟩ := St.call (Fa := [F7, (is g2)]) (Fr := []) S65 T70
  have E78 := T70.ext
  refine wN (inb_n ?_)
  obtain rfl := sj M
  exact end0 rfl ⟨A71, c72, F74, H69, rfl, h73, b75, S76⟩
 refine cF (bvf q63 kr) (wQ ?_)
 refine region_quiet kr kr (qV 36 (fun wq_ hq_ => eM (.int .u8 ((x1.s_.getD (x1.at_ : Int).toNat (0 : UInt8)).toNat : Int))) (qV 37 (fun wq_ hq_ => eEq .u8 ((x1.s_.getD (x1.at_ : Int).toNat (0 : UInt8)).toNat : Int) 46) (qV 38 (fun wq_ hq_ => eM (.bool (decide (((x1.s_.getD (x1.at_ : Int).toNat (0 : UInt8)).toNat : Int) = 46)))) ?_)))
 obtain ⟨q79, M⟩ | ⟨q79, M⟩ := ifd M
 ·refine qP1 12 38 (bF q79) ?_
  refine qP 1 ?_
  refine qP 1 ?_
  refine qP 1 ?_
  refine qP 1 ?_
  refine qP 1 ?_
  refine qP 1 ?_
  refine qP 1 ?_
  refine qP 1 ?_
  refine qP 1 ?_
  refine qP 1 ?_
  refine qP1 3 38 (bF q79) ?_
  refine qP 1 ?_
  refine qP 1 ?_
  refine qP 1 ?_
  refine qP 1 ?_
  refine qP 1 ?_
  refine qP 1 ?_
  refine qP 1 ?_
  refine qP 1 ?_
  refine qP 1 ?_
  refine qP 1 ?_
  refine qP1 2 38 (bF q79) (qV 76 (fun wq_ hq_ => eF (.bool false) (bF q79)) (qV 35 (fun wq_ hq_ => eA (.bool false)) ?_))
  refine wpQuiet_nil ?_
  intro w435 C438
  obtain ⟨S436, K437⟩ := S61.still C438
  replace h6 := h6.move (K437.a 0)
  replace b3 := K437.b 1 b3
  refine tN (cond_f rfl kr (wQ (wR (lP 1 ?_))))
  obtain ⟨t439, u440, M⟩ := bnd M
  refine lC 86 (eE func46) (impl_isSymbol.calls  S436.own0 u440) ?_
  rintro _ w441 ⟨rfl, C442⟩
  refine ⟨_, rfl, ?_⟩
  obtain ⟨S443, K444⟩ := S436.still C442
  replace h6 := h6.move (K444.a 0)
  replace b3 := K444.b 1 b3
  refine lP 1 (wN (tN ?_))
  obtain ⟨q445, M⟩ | ⟨q445, M⟩ := ifc M
  ·refine cT (bvt q445 kr) (wR (lP 1 ?_))
   have S447 := S443.pulls [F7, (is g2)] [1, 1] rfl
   obtain ⟨t448, u449, M⟩ := bnd M
   refine lC 88 (eE func40) (impl_lexer_run_2.calls x1 h6 b3 (St.own' (Fa := [F7, (is g2)]) (Fr := []) S447) u449) ?_
   rintro _ w450 ⟨A453, c454, F456, H451, rfl, h455, b457, T452⟩
   refine ⟨_, rfl, ?_⟩
   obtain ⟨S458, K459⟩ := St.call (Fa := [F7, (is g2)]) (Fr := []) S447 T452
   have E460 := T452.ext
   refine wN (inb_n ?_)
   obtain rfl := sj M
   exact end0 rfl ⟨A453, c454, F456, H451, rfl, h455, b457, S458⟩
  refine cF (bvf q445 kr) (wQ (wR (lP 3 ?_)))
  obtain ⟨q461, M⟩ | ⟨q461, M⟩ := ifc M
  ·refine lP1 4 92 (bT q461) (wN (tN (cond_t rfl kr (wR (lP 4 (lV 100 (eB 1 b3) (lP 3 (lV 104 (e_conv_rs (k := .i32) (a := (IntKind.i32.wrap (((x1.s_.getD (x1.at_ : Int).toNat (0 : UInt8)).toNat : Int)))) underlying21 underlying9 kr) ?_))))))))
   have S463 := S443.pulls [F7, (is g2)] [1, 1] rfl
   obtain ⟨t464, u465, M⟩ := bnd M
   refine lC 105 (eE func45) (impl_lexer_put.calls x1 h6 b3 (St.own' (Fa := [F7, (is g2)]) (Fr := []) S463) u465) ?_
   rintro _ w466 ⟨A469, c470, F472, H467, rfl, h471, b473, T468⟩
   refine ⟨_, rfl, ?_⟩
   obtain ⟨S474, K475⟩ := St.call (Fa := [F7, (is g2)]) (Fr := []) S463 T468
   have E476 := T468.ext
   refine wN (inb_n ?_)
   obtain rfl := sj M
   exact end0 rfl ⟨A469, c470, F472, H467, rfl, h471, b473, S474⟩
  refine lP1 4 92 (bF q461) (wN (tN ?_))
  obtain ⟨q477, M⟩ | ⟨q477, M⟩ := ifc M
  ·refine cT (bT q477) (wR (lP 4 (lV 100 (eB 1 b3) (lP 3 (lV 104 (e_conv_rs (k := .i32) (a := (IntKind.i32.wrap (((x1.s_.getD (x1.at_ : Int).toNat (0 : UInt8)).toNat : Int)))) underlying21 underlying9 kr) ?_)))))
   have S479 := S443.pulls [F7, (is g2)] [1, 1] rfl
   obtain ⟨t480, u481, M⟩ := bnd M
   refine lC 105 (eE func45) (impl_lexer_put.calls x1 h6 b3 (St.own' (Fa := [F7, (is g2)]) (Fr := []) S479) u481) ?_
   rintro _ w482 ⟨A485, c486, F488, H483, rfl, h487, b489, T484⟩
   refine ⟨_, rfl, ?_⟩
   obtain ⟨S490, K491⟩ := St.call (Fa := [F7, (is g2)]) (Fr := []) S479 T484
   have E492 := T484.ext
   refine wN (inb_n ?_)
   obtain rfl := sj M
   exact end0 rfl ⟨A485, c486, F488, H483, rfl, h487, b489, S490⟩
  refine cF (bF q477) (wQ (wR (lP 3 ?_)))
  obtain ⟨q493, M⟩ | ⟨q493, M⟩ := ifc M
  ·refine lP1 4 109 (bT q493) (wN (tN (cond_t rfl kr (wR (lP 2 ?_)))))
   have S495 := S443.pulls [F7, (is g2)] [1, 1] rfl
   obtain ⟨t496, u497, M⟩ := bnd M
   refine lC 115 (eE func47) (impl_lexer_quote.calls x1 h6 b3 (St.own' (Fa := [F7, (is g2)]) (Fr := []) S495) u497) ?_
   rintro _ w498 ⟨A501, c502, F504, H499, rfl, h503, b505, T500⟩
   refine ⟨_, rfl, ?_⟩
   obtain ⟨S506, K507⟩ := St.call (Fa := [F7, (is g2)]) (Fr := []) S495 T500
   have E508 := T500.ext
   refine wN (inb_n ?_)
   obtain rfl := sj M
   exact end0 rfl ⟨A501, c502, F504, H499, rfl, h503, b505, S506⟩
  refine lP1 4 109 (bF q493) (wN (tN ?_))
  obtain ⟨q509, M⟩ | ⟨q509, M⟩ := ifc M
  ·refine cT (bT q509) (wR (lP 2 ?_))
   have S511 := S443.pulls [F7, (is g2)] [1, 1] rfl
   obtain ⟨t512, u513, M⟩ := bnd M
   refine lC 115 (eE func47) (impl_lexer_quote.calls x1 h6 b3 (St.own' (Fa := [F7, (is g2)]) (Fr := []) S511) u513) ?_
   rintro _ w514 ⟨A517, c518, F520, H515, rfl, h519, b521, T516⟩
   refine ⟨_, rfl, ?_⟩
   obtain ⟨S522, K523⟩ := St.call (Fa := [F7, (is g2)]) (Fr := []) S511 T516
   have E524 := T516.ext
   refine wN (inb_n ?_)
   obtain rfl := sj M
   exact end0 rfl ⟨A517, c518, F520, H515, rfl, h519, b521, S522⟩
  refine cF (bF q509) (wQ (wR (lP 3 (wN (tN ?_)))))
  obtain ⟨q525, M⟩ | ⟨q525, M⟩ := ifc M
  ·refine cT (bT q525) (wQ (wR (lP 1 (wN (tN (wQ (wQ (wR (lP 3 (lV 122 (eB 2 b3) (lP 2 (wN (tN (wQ ?_))))))))))))))
   refine region_still kr kr S443 ?_
   intro w526 S527 K528
   replace h6 := h6.move (K528.a 0)
   replace b3 := K528.b 1 b3
   refine sP 3 ?_
   obtain ⟨q529, M⟩ | ⟨q529, M⟩ := ifd M
   ·refine sP1 37 126 (bF q529) (wpStill_nil (tN (cond_f rfl kr (wK (tN (wR (lP 5 (lV 169 (eB 1 b3) (lP 1 ?_)))))))))
    have S589 := S527.pulls [F7, (is g2)] [1, 1] rfl
    obtain ⟨t590, u591, M⟩ := bnd M
    refine lC 171 (eE func45) (impl_lexer_put.calls x1 h6 b3 (St.own' (Fa := [F7, (is g2)]) (Fr := []) S589) u591) ?_
    rintro _ w592 ⟨A595, c596, F598, H593, rfl, h597, b599, T594⟩
    refine ⟨_, rfl, ?_⟩
    obtain ⟨S600, K601⟩ := St.call (Fa := [F7, (is g2)]) (Fr := []) S589 T594
    have E602 := T594.ext
    refine wN (inb_n ?_)
    obtain rfl := sj M
    exact end0 rfl ⟨A595, c596, F598, H593, rfl, h597, b599, S600⟩
   refine sP1 3 126 (bT q529) (sG 130 126 (bT q529) (eB 2 b3) (sP1 2 126 (bT q529) ?_))
   obtain ⟨q530, M⟩ := chk M
   obtain ⟨q531, M⟩ := chk M
   obtain ⟨b532, e534⟩ := Row.addr h6 (show ((i64.wrap ((x1.tokens_.length : Int) - 1))).toNat < x1.tokens_.length by omega)
   refine sG 133 126 (bT q529) (eJ underlying24 e534 q530 q531) (sP1 1 126 (bT q529) (sG 135 126 (bT q529) (eK underlying3 (hpx (Row.pick (j := 0) (u := .int .i64 ((x1.tokens_.getD (((i64.wrap ((x1.tokens_.length : Int) - 1))).toNat) z28).kind)) h6 e534 (getD_some z28 (show ((i64.wrap ((x1.tokens_.length : Int) - 1))).toNat < x1.tokens_.length by omega)) (fun _ _ o_ => st28_c0 o_)))) (sP1 3 126 (bT q529) ?_)))
   obtain ⟨q535, M⟩ | ⟨q535, M⟩ := ifd M
   ·refine sP1 25 138 (bF q535) (wpStill_nil (tN (cond_f rfl kr (wK (tN (wR (lP 5 (lV 169 (eB 1 b3) (lP 1 ?_)))))))))
    have S574 := S527.pulls [F7, (is g2)] [1, 1] rfl
    obtain ⟨t575, u576, M⟩ := bnd M
    refine lC 171 (eE func45) (impl_lexer_put.calls x1 h6 b3 (St.own' (Fa := [F7, (is g2)]) (Fr := []) S574) u576) ?_
    rintro _ w577 ⟨A580, c581, F583, H578, rfl, h582, b584, T579⟩
    refine ⟨_, rfl, ?_⟩
    obtain ⟨S585, K586⟩ := St.call (Fa := [F7, (is g2)]) (Fr := []) S574 T579
    have E587 := T579.ext
    refine wN (inb_n ?_)
    obtain rfl := sj M
    exact end0 rfl ⟨A580, c581, F583, H578, rfl, h582, b584, S585⟩
   refine sP1 3 138 (bT q535) (sG 142 138 (bT q535) (eB 2 b3) (sP1 2 138 (bT q535) ?_))
   obtain ⟨b536, e538⟩ := Row.addr h6 (show ((i64.wrap ((x1.tokens_.length : Int) - 1))).toNat < x1.tokens_.length by omega)
   refine sG 145 138 (bT q535) (eJ underlying24 e538 q530 q531) (sP1 1 138 (bT q535) (sG 147 138 (bT q535) (eK underlying3 (hpx (Row.pick (j := 1) (u := .int .i64 ((x1.tokens_.getD (((i64.wrap ((x1.tokens_.length : Int) - 1))).toNat) z28).place)) h6 e538 (getD_some z28 (show ((i64.wrap ((x1.tokens_.length : Int) - 1))).toNat < x1.tokens_.length by omega)) (fun _ _ o_ => st28_c1 o_)))) (sP1 3 138 (bT q535) (sG 151 138 (bT q535) (eB 2 b3) (sP1 2 138 (bT q535) ?_)))))
   obtain ⟨b539, e541⟩ := Row.addr h6 (show ((i64.wrap ((x1.tokens_.length : Int) - 1))).toNat < x1.tokens_.length by omega)
   refine sG 154 138 (bT q535) (eJ underlying24 e541 q530 q531) (sP1 1 138 (bT q535) (sG 156 138 (bT q535) (eK underlying3 (hpx (Row.pick (j := 2) (u := .int .i64 ((x1.tokens_.getD (((i64.wrap ((x1.tokens_.length : Int) - 1))).toNat) z28).size)) h6 e541 (getD_some z28 (show ((i64.wrap ((x1.tokens_.length : Int) - 1))).toNat < x1.tokens_.length by omega)) (fun _ _ o_ => st28_c2 o_)))) (sP1 4 138 (bT q535) (sG 161 138 (bT q535) (eB 1 b3) (sP1 2 138 (bT q535) (wpStill_nil (tN ?_)))))))
   obtain ⟨q542, M⟩ | ⟨q542, M⟩ := ifd M
   ·refine cF (bF q542) (wK (tN (wR (lP 5 (lV 169 (eB 1 b3) (lP 1 ?_))))))
    have S559 := S527.pulls [F7, (is g2)] [1, 1] rfl
    obtain ⟨t560, u561, M⟩ := bnd M
    refine lC 171 (eE func45) (impl_lexer_put.calls x1 h6 b3 (St.own' (Fa := [F7, (is g2)]) (Fr := []) S559) u561) ?_
    rintro _ w562 ⟨A565, c566, F568, H563, rfl, h567, b569, T564⟩
    refine ⟨_, rfl, ?_⟩
    obtain ⟨S570, K571⟩ := St.call (Fa := [F7, (is g2)]) (Fr := []) S559 T564
    have E572 := T564.ext
    refine wN (inb_n ?_)
    obtain rfl := sj M
    exact end0 rfl ⟨A565, c566, F568, H563, rfl, h567, b569, S570⟩
   refine cT (bT q542) (wR (lP 1 (wN (tN (wR (lP 5 (lV 169 (eB 1 b3) (lP 1 ?_))))))))
   have S544 := S527.pulls [F7, (is g2)] [1, 1] rfl
   obtain ⟨t545, u546, M⟩ := bnd M
   refine lC 171 (eE func45) (impl_lexer_put.calls x1 h6 b3 (St.own' (Fa := [F7, (is g2)]) (Fr := []) S544) u546) ?_
   rintro _ w547 ⟨A550, c551, F553, H548, rfl, h552, b554, T549⟩
   refine ⟨_, rfl, ?_⟩
   obtain ⟨S555, K556⟩ := St.call (Fa := [F7, (is g2)]) (Fr := []) S544 T549
   have E557 := T549.ext
   refine wN (inb_n ?_)
   obtain rfl := sj M
   exact end0 rfl ⟨A550, c551, F553, H548, rfl, h552, b554, S555⟩
  refine cF (bF q525) (wQ (wR (lP 3 ?_)))
  obtain ⟨q603, M⟩ | ⟨q603, M⟩ := ifc M
  ·refine lP1 24 175 (bT q603) (wN (tN (cond_t rfl kr (wR (lP 4 (lV 203 (eB 1 b3) (lP 3 (lV 207 (e_conv_rs (k := .i32) (a := (IntKind.i32.wrap (((x1.s_.getD (x1.at_ : Int).toNat (0 : UInt8)).toNat : Int)))) underlying21 underlying9 kr) ?_))))))))
   have S605 := S443.pulls [F7, (is g2)] [1, 1] rfl
   obtain ⟨t606, u607, M⟩ := bnd M
   refine lC 208 (eE func45) (impl_lexer_put.calls x1 h6 b3 (St.own' (Fa := [F7, (is g2)]) (Fr := []) S605) u607) ?_
   rintro _ w608 ⟨A611, c612, F614, H609, rfl, h613, b615, T610⟩
   refine ⟨_, rfl, ?_⟩
   obtain ⟨S616, K617⟩ := St.call (Fa := [F7, (is g2)]) (Fr := []) S605 T610
   have E618 := T610.ext
   refine wN (inb_n ?_)
   obtain rfl := sj M
   exact end0 rfl ⟨A611, c612, F614, H609, rfl, h613, b615, S616⟩
  refine lP1 4 175 (bF q603) ?_
  obtain ⟨q619, M⟩ | ⟨q619, M⟩ := ifc M
  ·refine lP1 20 179 (bT q619) (wN (tN (cond_t rfl kr (wR (lP 4 (lV 203 (eB 1 b3) (lP 3 (lV 207 (e_conv_rs (k := .i32) (a := (IntKind.i32.wrap (((x1.s_.getD (x1.at_ : Int).toNat (0 : UInt8)).toNat : Int)))) underlying21 underlying9 kr) ?_))))))))
   have S621 := S443.pulls [F7, (is g2)] [1, 1] rfl
   obtain ⟨t622, u623, M⟩ := bnd M
   refine lC 208 (eE func45) (impl_lexer_put.calls x1 h6 b3 (St.own' (Fa := [F7, (is g2)]) (Fr := []) S621) u623) ?_
   rintro _ w624 ⟨A627, c628, F630, H625, rfl, h629, b631, T626⟩
   refine ⟨_, rfl, ?_⟩
   obtain ⟨S632, K633⟩ := St.call (Fa := [F7, (is g2)]) (Fr := []) S621 T626
   have E634 := T626.ext
   refine wN (inb_n ?_)
   obtain rfl := sj M
   exact end0 rfl ⟨A627, c628, F630, H625, rfl, h629, b631, S632⟩
  refine lP1 4 179 (bF q619) ?_
  obtain ⟨q635, M⟩ | ⟨q635, M⟩ := ifc M
  ·refine lP1 16 183 (bT q635) (wN (tN (cond_t rfl kr (wR (lP 4 (lV 203 (eB 1 b3) (lP 3 (lV 207 (e_conv_rs (k := .i32) (a := (IntKind.i32.wrap (((x1.s_.getD (x1.at_ : Int).toNat (0 : UInt8)).toNat : Int)))) underlying21 underlying9 kr) ?_))))))))
   have S637 := S443.pulls [F7, (is g2)] [1, 1] rfl
   obtain ⟨t638, u639, M⟩ := bnd M
   refine lC 208 (eE func45) (impl_lexer_put.calls x1 h6 b3 (St.own' (Fa := [F7, (is g2)]) (Fr := []) S637) u639) ?_
   rintro _ w640 ⟨A643, c644, F646, H641, rfl, h645, b647, T642⟩
   refine ⟨_, rfl, ?_⟩
   obtain ⟨S648, K649⟩ := St.call (Fa := [F7, (is g2)]) (Fr := []) S637 T642
   have E650 := T642.ext
   refine wN (inb_n ?_)
   obtain rfl := sj M
   exact end0 rfl ⟨A643, c644, F646, H641, rfl, h645, b647, S648⟩
  refine lP1 4 183 (bF q635) ?_
  obtain ⟨q651, M⟩ | ⟨q651, M⟩ := ifc M
  ·refine lP1 12 187 (bT q651) (wN (tN (cond_t rfl kr (wR (lP 4 (lV 203 (eB 1 b3) (lP 3 (lV 207 (e_conv_rs (k := .i32) (a := (IntKind.i32.wrap (((x1.s_.getD (x1.at_ : Int).toNat (0 : UInt8)).toNat : Int)))) underlying21 underlying9 kr) ?_))))))))
   have S653 := S443.pulls [F7, (is g2)] [1, 1] rfl
   obtain ⟨t654, u655, M⟩ := bnd M
   refine lC 208 (eE func45) (impl_lexer_put.calls x1 h6 b3 (St.own' (Fa := [F7, (is g2)]) (Fr := []) S653) u655) ?_
   rintro _ w656 ⟨A659, c660, F662, H657, rfl, h661, b663, T658⟩
   refine ⟨_, rfl, ?_⟩
   obtain ⟨S664, K665⟩ := St.call (Fa := [F7, (is g2)]) (Fr := []) S653 T658
   have E666 := T658.ext
   refine wN (inb_n ?_)
   obtain rfl := sj M
   exact end0 rfl ⟨A659, c660, F662, H657, rfl, h661, b663, S664⟩
  refine lP1 4 187 (bF q651) ?_
  obtain ⟨q667, M⟩ | ⟨q667, M⟩ := ifc M
  ·refine lP1 8 191 (bT q667) (wN (tN (cond_t rfl kr (wR (lP 4 (lV 203 (eB 1 b3) (lP 3 (lV 207 (e_conv_rs (k := .i32) (a := (IntKind.i32.wrap (((x1.s_.getD (x1.at_ : Int).toNat (0 : UInt8)).toNat : Int)))) underlying21 underlying9 kr) ?_))))))))
   have S669 := S443.pulls [F7, (is g2)] [1, 1] rfl
   obtain ⟨t670, u671, M⟩ := bnd M
   refine lC 208 (eE func45) (impl_lexer_put.calls x1 h6 b3 (St.own' (Fa := [F7, (is g2)]) (Fr := []) S669) u671) ?_
   rintro _ w672 ⟨A675, c676, F678, H673, rfl, h677, b679, T674⟩
   refine ⟨_, rfl, ?_⟩
   obtain ⟨S680, K681⟩ := St.call (Fa := [F7, (is g2)]) (Fr := []) S669 T674
   have E682 := T674.ext
   refine wN (inb_n ?_)
   obtain rfl := sj M
   exact end0 rfl ⟨A675, c676, F678, H673, rfl, h677, b679, S680⟩
  refine lP1 4 191 (bF q667) ?_
  obtain ⟨q683, M⟩ | ⟨q683, M⟩ := ifc M
  ·refine lP1 4 195 (bT q683) (wN (tN (cond_t rfl kr (wR (lP 4 (lV 203 (eB 1 b3) (lP 3 (lV 207 (e_conv_rs (k := .i32) (a := (IntKind.i32.wrap (((x1.s_.getD (x1.at_ : Int).toNat (0 : UInt8)).toNat : Int)))) underlying21 underlying9 kr) ?_))))))))
   have S685 := S443.pulls [F7, (is g2)] [1, 1] rfl
   obtain ⟨t686, u687, M⟩ := bnd M
   refine lC 208 (eE func45) (impl_lexer_put.calls x1 h6 b3 (St.own' (Fa := [F7, (is g2)]) (Fr := []) S685) u687) ?_
   rintro _ w688 ⟨A691, c692, F694, H689, rfl, h693, b695, T690⟩
   refine ⟨_, rfl, ?_⟩
   obtain ⟨S696, K697⟩ := St.call (Fa := [F7, (is g2)]) (Fr := []) S685 T690
   have E698 := T690.ext
   refine wN (inb_n ?_)
   obtain rfl := sj M
   exact end0 rfl ⟨A691, c692, F694, H689, rfl, h693, b695, S696⟩
  refine lP1 4 195 (bF q683) (wN (tN ?_))
  obtain ⟨q699, M⟩ | ⟨q699, M⟩ := ifd M
  ·refine cF (bF q699) (wR (lP 4 (lV 18 (eB 1 b3) ?_)))
   have S716 := S443.pulls [F7, (is g2)] [1, 1] rfl
   obtain ⟨t717, u718, M⟩ := bnd M
   refine lC 19 (eE func38) (impl_lexer_fault.calls x1 h6 b3 (St.own' (Fa := [F7, (is g2)]) (Fr := []) S716) u718) ?_
   rintro _ w719 ⟨A722, c723, F725, H720, rfl, h724, b726, T721⟩
   refine ⟨_, rfl, ?_⟩
   obtain ⟨S727, K728⟩ := St.call (Fa := [F7, (is g2)]) (Fr := []) S716 T721
   have E729 := T721.ext
   refine wN (inb_n ?_)
   obtain rfl := sj M
   exact end0 rfl ⟨A722, c723, F725, H720, rfl, h724, b726, S727⟩
  refine cT (bT q699) (wR (lP 4 (lV 203 (eB 1 b3) (lP 3 (lV 207 (e_conv_rs (k := .i32) (a := (IntKind.i32.wrap (((x1.s_.getD (x1.at_ : Int).toNat (0 : UInt8)).toNat : Int)))) underlying21 underlying9 kr) ?_)))))
  have S701 := S443.pulls [F7, (is g2)] [1, 1] rfl
  obtain ⟨t702, u703, M⟩ := bnd M
  refine lC 208 (eE func45) (impl_lexer_put.calls x1 h6 b3 (St.own' (Fa := [F7, (is g2)]) (Fr := []) S701) u703) ?_
  rintro _ w704 ⟨A707, c708, F710, H705, rfl, h709, b711, T706⟩
  refine ⟨_, rfl, ?_⟩
  obtain ⟨S712, K713⟩ := St.call (Fa := [F7, (is g2)]) (Fr := []) S701 T706
  have E714 := T706.ext
  refine wN (inb_n ?_)
  obtain rfl := sj M
  exact end0 rfl ⟨A707, c708, F710, H705, rfl, h709, b711, S712⟩
 refine qG 39 38 (bT q79) (fun wq_ hq_ => eM (.pointer (some ⟨g2, 0, none⟩))) (qG 40 38 (bT q79) (fun wq_ hq_ => eN ⟨g2, 0, none⟩) (qG 41 38 (bT q79) (fun wq_ hq_ => eD g2 0 1 1 underlying39) (qG 42 38 (bT q79) (fun wq_ hq_ => eB 1 ((S61.still hq_).2.blk 1 rfl b3)) (qG 43 38 (bT q79) (fun wq_ hq_ => eAdd .i64 x1.at_ 1) (qG 44 38 (bT q79) (fun wq_ hq_ => eM (.pointer (some ⟨g2, 0, none⟩))) (qG 45 38 (bT q79) (fun wq_ hq_ => eN ⟨g2, 0, none⟩) (qG 46 38 (bT q79) (fun wq_ hq_ => eD g2 0 0 1 underlying39) (qG 47 38 (bT q79) (fun wq_ hq_ => eB 0 ((S61.still hq_).2.blk 1 rfl b3)) (qG 48 38 (bT q79) (fun wq_ hq_ => e_slen (p := x1.s_) underlying9 kr) (qG 49 38 (bT q79) (fun wq_ hq_ => e_geq (k := .i64) (a := (i64.wrap (x1.at_ + 1))) (b := (x1.s_.length : Int)) kr kr) (qG 50 38 (bT q79) (fun wq_ hq_ => eM (.bool (decide ((i64.wrap (x1.at_ + 1)) ≥ (x1.s_.length : Int))))) ?_)))))))))))
 obtain ⟨q80, M⟩ | ⟨q80, M⟩ := ifc M
 ·refine qP1 11 50 (bT q80) (qG 62 38 (bT q79) (fun wq_ hq_ => eT (.bool true) (bT q80)) (qG 63 38 (bT q79) (fun wq_ hq_ => eM (.bool true)) (qP 11 (qG 75 38 (bT q79) (fun wq_ hq_ => eT (.bool true) kr) (qV 76 (fun wq_ hq_ => eT (.bool true) (bT q79)) (qV 35 (fun wq_ hq_ => eA (.bool true)) ?_))))))
  refine wpQuiet_nil ?_
  intro w81 C84
  obtain ⟨S82, K83⟩ := S61.still C84
  replace h6 := h6.move (K83.a 0)
  replace b3 := K83.b 1 b3
  refine tN (cond_t rfl kr (wR (lP 4 (lV 81 (eB 1 b3) (lP 1 ?_)))))
  have S86 := S82.pulls [F7, (is g2)] [1, 1] rfl
  obtain ⟨t87, u88, M⟩ := bnd M
  refine lC 83 (eE func45) (impl_lexer_put.calls x1 h6 b3 (St.own' (Fa := [F7, (is g2)]) (Fr := []) S86) u88) ?_
  rintro _ w89 ⟨A92, c93, F95, H90, rfl, h94, b96, T91⟩
  refine ⟨_, rfl, ?_⟩
  obtain ⟨S97, K98⟩ := St.call (Fa := [F7, (is g2)]) (Fr := []) S86 T91
  have E99 := T91.ext
  refine wN (inb_n ?_)
  obtain rfl := sj M
  exact end0 rfl ⟨A92, c93, F95, H90, rfl, h94, b96, S97⟩
 refine qG 51 50 (bF q80) (fun wq_ hq_ => eM (.pointer (some ⟨g2, 0, none⟩))) (qG 52 50 (bF q80) (fun wq_ hq_ => eN ⟨g2, 0, none⟩) (qG 53 50 (bF q80) (fun wq_ hq_ => eD g2 0 0 1 underlying39) (qG 54 50 (bF q80) (fun wq_ hq_ => eB 0 ((S61.still hq_).2.blk 1 rfl b3)) (qG 55 50 (bF q80) (fun wq_ hq_ => eM (.pointer (some ⟨g2, 0, none⟩))) (qG 56 50 (bF q80) (fun wq_ hq_ => eN ⟨g2, 0, none⟩) (qG 57 50 (bF q80) (fun wq_ hq_ => eD g2 0 1 1 underlying39) (qG 58 50 (bF q80) (fun wq_ hq_ => eB 1 ((S61.still hq_).2.blk 1 rfl b3)) (qG 59 50 (bF q80) (fun wq_ hq_ => eAdd .i64 x1.at_ 1) ?_))))))))
 obtain ⟨q100, M⟩ := chk M
 obtain ⟨q101, M⟩ := chk M
 refine qG 60 50 (bF q80) (fun wq_ hq_ => e_sindex (p := x1.s_) (i := (i64.wrap (x1.at_ + 1))) (k := .i64) underlying9 kr kr q100 q101) ?_
 obtain ⟨t102, u103, M⟩ := bnd M
 refine qcallg (v := .bool t102) (d := 61) (t := 50) rfl kr rfl (bF q80) rfl kr (fun w_ => eE func36) (fun wq_ hq_ => (by obtain ⟨S_, K_⟩ := S61.still hq_; replace h6 := h6.move (K_.a 0); replace b3 := K_.b 1 b3; exact (impl_isBlank.calls  S_.own0 u103))) (qG 62 38 (bT q79) (fun wq_ hq_ => eF (.bool t102) (bF q80)) (qG 63 38 (bT q79) (fun wq_ hq_ => eM (.bool t102)) ?_))
 obtain ⟨q104, M⟩ | ⟨q104, M⟩ := ifc M
 ·refine qP1 11 63 (bvt q104 kr) (qG 75 38 (bT q79) (fun wq_ hq_ => eT (.bool true) (bvt q104 kr)) (qV 76 (fun wq_ hq_ => eT (.bool true) (bT q79)) (qV 35 (fun wq_ hq_ => eA (.bool true)) ?_)))
  refine wpQuiet_nil ?_
  intro w105 C108
  obtain ⟨S106, K107⟩ := S61.still C108
  replace h6 := h6.move (K107.a 0)
  replace b3 := K107.b 1 b3
  refine tN (cond_t rfl kr (wR (lP 4 (lV 81 (eB 1 b3) (lP 1 ?_)))))
  have S110 := S106.pulls [F7, (is g2)] [1, 1] rfl
  obtain ⟨t111, u112, M⟩ := bnd M
  refine lC 83 (eE func45) (impl_lexer_put.calls x1 h6 b3 (St.own' (Fa := [F7, (is g2)]) (Fr := []) S110) u112) ?_
  rintro _ w113 ⟨A116, c117, F119, H114, rfl, h118, b120, T115⟩
  refine ⟨_, rfl, ?_⟩
  obtain ⟨S121, K122⟩ := St.call (Fa := [F7, (is g2)]) (Fr := []) S110 T115
  have E123 := T115.ext
  refine wN (inb_n ?_)
  obtain rfl := sj M
  exact end0 rfl ⟨A116, c117, F119, H114, rfl, h118, b120, S121⟩
 refine qG 64 63 (bvf q104 kr) (fun wq_ hq_ => eM (.pointer (some ⟨g2, 0, none⟩))) (qG 65 63 (bvf q104 kr) (fun wq_ hq_ => eN ⟨g2, 0, none⟩) (qG 66 63 (bvf q104 kr) (fun wq_ hq_ => eD g2 0 0 1 underlying39) (qG 67 63 (bvf q104 kr) (fun wq_ hq_ => eB 0 ((S61.still hq_).2.blk 1 rfl b3)) (qG 68 63 (bvf q104 kr) (fun wq_ hq_ => eM (.pointer (some ⟨g2, 0, none⟩))) (qG 69 63 (bvf q104 kr) (fun wq_ hq_ => eN ⟨g2, 0, none⟩) (qG 70 63 (bvf q104 kr) (fun wq_ hq_ => eD g2 0 1 1 underlying39) (qG 71 63 (bvf q104 kr) (fun wq_ hq_ => eB 1 ((S61.still hq_).2.blk 1 rfl b3)) (qG 72 63 (bvf q104 kr) (fun wq_ hq_ => eAdd .i64 x1.at_ 1) (qG 73 63 (bvf q104 kr) (fun wq_ hq_ => e_sindex (p := x1.s_) (i := (i64.wrap (x1.at_ + 1))) (k := .i64) underlying9 kr kr q100 q101) (qG 74 63 (bvf q104 kr) (fun wq_ hq_ => eEq .u8 ((x1.s_.getD ((i64.wrap (x1.at_ + 1)) : Int).toNat (0 : UInt8)).toNat : Int) 37) (qG 75 38 (bT q79) (fun wq_ hq_ => eF (.bool (decide (((x1.s_.getD ((i64.wrap (x1.at_ + 1)) : Int).toNat (0 : UInt8)).toNat : Int) = 37))) (bvf q104 kr)) (qV 76 (fun wq_ hq_ => eT (.bool (decide (((x1.s_.getD ((i64.wrap (x1.at_ + 1)) : Int).toNat (0 : UInt8)).toNat : Int) = 37))) (bT q79)) (qV 35 (fun wq_ hq_ => eA (.bool (decide (((x1.s_.getD ((i64.wrap (x1.at_ + 1)) : Int).toNat (0 : UInt8)).toNat : Int) = 37)))) ?_)))))))))))))
 refine wpQuiet_nil ?_
 intro w124 C127
 obtain ⟨S125, K126⟩ := S61.still C127
 replace h6 := h6.move (K126.a 0)
 replace b3 := K126.b 1 b3
 refine tN ?_
 obtain ⟨q128, M⟩ | ⟨q128, M⟩ := ifc M
 ·refine cT (bT q128) (wR (lP 4 (lV 81 (eB 1 b3) (lP 1 ?_))))
  have S130 := S125.pulls [F7, (is g2)] [1, 1] rfl
  obtain ⟨t131, u132, M⟩ := bnd M
  refine lC 83 (eE func45) (impl_lexer_put.calls x1 h6 b3 (St.own' (Fa := [F7, (is g2)]) (Fr := []) S130) u132) ?_
  rintro _ w133 ⟨A136, c137, F139, H134, rfl, h138, b140, T135⟩
  refine ⟨_, rfl, ?_⟩
  obtain ⟨S141, K142⟩ := St.call (Fa := [F7, (is g2)]) (Fr := []) S130 T135
  have E143 := T135.ext
  refine wN (inb_n ?_)
  obtain rfl := sj M
  exact end0 rfl ⟨A136, c137, F139, H134, rfl, h138, b140, S141⟩
 refine cF (bF q128) (wQ (wR (lP 1 ?_)))
 obtain ⟨t144, u145, M⟩ := bnd M
 refine lC 86 (eE func46) (impl_isSymbol.calls  S125.own0 u145) ?_
 rintro _ w146 ⟨rfl, C147⟩
 refine ⟨_, rfl, ?_⟩
 obtain ⟨S148, K149⟩ := S125.still C147
 replace h6 := h6.move (K149.a 0)
 replace b3 := K149.b 1 b3
 refine lP 1 (wN (tN ?_))
 obtain ⟨q150, M⟩ | ⟨q150, M⟩ := ifc M
 ·refine cT (bvt q150 kr) (wR (lP 1 ?_))
  have S152 := S148.pulls [F7, (is g2)] [1, 1] rfl
  obtain ⟨t153, u154, M⟩ := bnd M
  refine lC 88 (eE func40) (impl_lexer_run_2.calls x1 h6 b3 (St.own' (Fa := [F7, (is g2)]) (Fr := []) S152) u154) ?_
  rintro _ w155 ⟨A158, c159, F161, H156, rfl, h160, b162, T157⟩
  refine ⟨_, rfl, ?_⟩
  obtain ⟨S163, K164⟩ := St.call (Fa := [F7, (is g2)]) (Fr := []) S152 T157
  have E165 := T157.ext
  refine wN (inb_n ?_)
  obtain rfl := sj M
  exact end0 rfl ⟨A158, c159, F161, H156, rfl, h160, b162, S163⟩
 refine cF (bvf q150 kr) (wQ (wR (lP 3 ?_)))
 obtain ⟨q166, M⟩ | ⟨q166, M⟩ := ifc M
 ·refine lP1 4 92 (bT q166) (wN (tN (cond_t rfl kr (wR (lP 4 (lV 100 (eB 1 b3) (lP 3 (lV 104 (e_conv_rs (k := .i32) (a := (IntKind.i32.wrap (((x1.s_.getD (x1.at_ : Int).toNat (0 : UInt8)).toNat : Int)))) underlying21 underlying9 kr) ?_))))))))
  have S168 := S148.pulls [F7, (is g2)] [1, 1] rfl
  obtain ⟨t169, u170, M⟩ := bnd M
  refine lC 105 (eE func45) (impl_lexer_put.calls x1 h6 b3 (St.own' (Fa := [F7, (is g2)]) (Fr := []) S168) u170) ?_
  rintro _ w171 ⟨A174, c175, F177, H172, rfl, h176, b178, T173⟩
  refine ⟨_, rfl, ?_⟩
  obtain ⟨S179, K180⟩ := St.call (Fa := [F7, (is g2)]) (Fr := []) S168 T173
  have E181 := T173.ext
  refine wN (inb_n ?_)
  obtain rfl := sj M
  exact end0 rfl ⟨A174, c175, F177, H172, rfl, h176, b178, S179⟩
 refine lP1 4 92 (bF q166) (wN (tN ?_))
 obtain ⟨q182, M⟩ | ⟨q182, M⟩ := ifc M
 ·refine cT (bT q182) (wR (lP 4 (lV 100 (eB 1 b3) (lP 3 (lV 104 (e_conv_rs (k := .i32) (a := (IntKind.i32.wrap (((x1.s_.getD (x1.at_ : Int).toNat (0 : UInt8)).toNat : Int)))) underlying21 underlying9 kr) ?_)))))
  have S184 := S148.pulls [F7, (is g2)] [1, 1] rfl
  obtain ⟨t185, u186, M⟩ := bnd M
  refine lC 105 (eE func45) (impl_lexer_put.calls x1 h6 b3 (St.own' (Fa := [F7, (is g2)]) (Fr := []) S184) u186) ?_
  rintro _ w187 ⟨A190, c191, F193, H188, rfl, h192, b194, T189⟩
  refine ⟨_, rfl, ?_⟩
  obtain ⟨S195, K196⟩ := St.call (Fa := [F7, (is g2)]) (Fr := []) S184 T189
  have E197 := T189.ext
  refine wN (inb_n ?_)
  obtain rfl := sj M
  exact end0 rfl ⟨A190, c191, F193, H188, rfl, h192, b194, S195⟩
 refine cF (bF q182) (wQ (wR (lP 3 ?_)))
 obtain ⟨q198, M⟩ | ⟨q198, M⟩ := ifc M
 ·refine lP1 4 109 (bT q198) (wN (tN (cond_t rfl kr (wR (lP 2 ?_)))))
  have S200 := S148.pulls [F7, (is g2)] [1, 1] rfl
  obtain ⟨t201, u202, M⟩ := bnd M
  refine lC 115 (eE func47) (impl_lexer_quote.calls x1 h6 b3 (St.own' (Fa := [F7, (is g2)]) (Fr := []) S200) u202) ?_
  rintro _ w203 ⟨A206, c207, F209, H204, rfl, h208, b210, T205⟩
  refine ⟨_, rfl, ?_⟩
  obtain ⟨S211, K212⟩ := St.call (Fa := [F7, (is g2)]) (Fr := []) S200 T205
  have E213 := T205.ext
  refine wN (inb_n ?_)
  obtain rfl := sj M
  exact end0 rfl ⟨A206, c207, F209, H204, rfl, h208, b210, S211⟩
 refine lP1 4 109 (bF q198) (wN (tN ?_))
 obtain ⟨q214, M⟩ | ⟨q214, M⟩ := ifc M
 ·refine cT (bT q214) (wR (lP 2 ?_))
  have S216 := S148.pulls [F7, (is g2)] [1, 1] rfl
  obtain ⟨t217, u218, M⟩ := bnd M
  refine lC 115 (eE func47) (impl_lexer_quote.calls x1 h6 b3 (St.own' (Fa := [F7, (is g2)]) (Fr := []) S216) u218) ?_
  rintro _ w219 ⟨A222, c223, F225, H220, rfl, h224, b226, T221⟩
  refine ⟨_, rfl, ?_⟩
  obtain ⟨S227, K228⟩ := St.call (Fa := [F7, (is g2)]) (Fr := []) S216 T221
  have E229 := T221.ext
  refine wN (inb_n ?_)
  obtain rfl := sj M
  exact end0 rfl ⟨A222, c223, F225, H220, rfl, h224, b226, S227⟩
 refine cF (bF q214) (wQ (wR (lP 3 (wN (tN ?_)))))
 obtain ⟨q230, M⟩ | ⟨q230, M⟩ := ifc M
 ·refine cT (bT q230) (wQ (wR (lP 1 (wN (tN (wQ (wQ (wR (lP 3 (lV 122 (eB 2 b3) (lP 2 (wN (tN (wQ ?_))))))))))))))
  refine region_still kr kr S148 ?_
  intro w231 S232 K233
  replace h6 := h6.move (K233.a 0)
  replace b3 := K233.b 1 b3
  refine sP 3 ?_
  obtain ⟨q234, M⟩ | ⟨q234, M⟩ := ifd M
  ·refine sP1 37 126 (bF q234) (wpStill_nil (tN (cond_f rfl kr (wK (tN (wR (lP 5 (lV 169 (eB 1 b3) (lP 1 ?_)))))))))
   have S294 := S232.pulls [F7, (is g2)] [1, 1] rfl
   obtain ⟨t295, u296, M⟩ := bnd M
   refine lC 171 (eE func45) (impl_lexer_put.calls x1 h6 b3 (St.own' (Fa := [F7, (is g2)]) (Fr := []) S294) u296) ?_
   rintro _ w297 ⟨A300, c301, F303, H298, rfl, h302, b304, T299⟩
   refine ⟨_, rfl, ?_⟩
   obtain ⟨S305, K306⟩ := St.call (Fa := [F7, (is g2)]) (Fr := []) S294 T299
   have E307 := T299.ext
   refine wN (inb_n ?_)
   obtain rfl := sj M
   exact end0 rfl ⟨A300, c301, F303, H298, rfl, h302, b304, S305⟩
  refine sP1 3 126 (bT q234) (sG 130 126 (bT q234) (eB 2 b3) (sP1 2 126 (bT q234) ?_))
  obtain ⟨q235, M⟩ := chk M
  obtain ⟨q236, M⟩ := chk M
  obtain ⟨b237, e239⟩ := Row.addr h6 (show ((i64.wrap ((x1.tokens_.length : Int) - 1))).toNat < x1.tokens_.length by omega)
  refine sG 133 126 (bT q234) (eJ underlying24 e239 q235 q236) (sP1 1 126 (bT q234) (sG 135 126 (bT q234) (eK underlying3 (hpx (Row.pick (j := 0) (u := .int .i64 ((x1.tokens_.getD (((i64.wrap ((x1.tokens_.length : Int) - 1))).toNat) z28).kind)) h6 e239 (getD_some z28 (show ((i64.wrap ((x1.tokens_.length : Int) - 1))).toNat < x1.tokens_.length by omega)) (fun _ _ o_ => st28_c0 o_)))) (sP1 3 126 (bT q234) ?_)))
  obtain ⟨q240, M⟩ | ⟨q240, M⟩ := ifd M
  ·refine sP1 25 138 (bF q240) (wpStill_nil (tN (cond_f rfl kr (wK (tN (wR (lP 5 (lV 169 (eB 1 b3) (lP 1 ?_)))))))))
   have S279 := S232.pulls [F7, (is g2)] [1, 1] rfl
   obtain ⟨t280, u281, M⟩ := bnd M
   refine lC 171 (eE func45) (impl_lexer_put.calls x1 h6 b3 (St.own' (Fa := [F7, (is g2)]) (Fr := []) S279) u281) ?_
   rintro _ w282 ⟨A285, c286, F288, H283, rfl, h287, b289, T284⟩
   refine ⟨_, rfl, ?_⟩
   obtain ⟨S290, K291⟩ := St.call (Fa := [F7, (is g2)]) (Fr := []) S279 T284
   have E292 := T284.ext
   refine wN (inb_n ?_)
   obtain rfl := sj M
   exact end0 rfl ⟨A285, c286, F288, H283, rfl, h287, b289, S290⟩
  refine sP1 3 138 (bT q240) (sG 142 138 (bT q240) (eB 2 b3) (sP1 2 138 (bT q240) ?_))
  obtain ⟨b241, e243⟩ := Row.addr h6 (show ((i64.wrap ((x1.tokens_.length : Int) - 1))).toNat < x1.tokens_.length by omega)
  refine sG 145 138 (bT q240) (eJ underlying24 e243 q235 q236) (sP1 1 138 (bT q240) (sG 147 138 (bT q240) (eK underlying3 (hpx (Row.pick (j := 1) (u := .int .i64 ((x1.tokens_.getD (((i64.wrap ((x1.tokens_.length : Int) - 1))).toNat) z28).place)) h6 e243 (getD_some z28 (show ((i64.wrap ((x1.tokens_.length : Int) - 1))).toNat < x1.tokens_.length by omega)) (fun _ _ o_ => st28_c1 o_)))) (sP1 3 138 (bT q240) (sG 151 138 (bT q240) (eB 2 b3) (sP1 2 138 (bT q240) ?_)))))
  obtain ⟨b244, e246⟩ := Row.addr h6 (show ((i64.wrap ((x1.tokens_.length : Int) - 1))).toNat < x1.tokens_.length by omega)
  refine sG 154 138 (bT q240) (eJ underlying24 e246 q235 q236) (sP1 1 138 (bT q240) (sG 156 138 (bT q240) (eK underlying3 (hpx (Row.pick (j := 2) (u := .int .i64 ((x1.tokens_.getD (((i64.wrap ((x1.tokens_.length : Int) - 1))).toNat) z28).size)) h6 e246 (getD_some z28 (show ((i64.wrap ((x1.tokens_.length : Int) - 1))).toNat < x1.tokens_.length by omega)) (fun _ _ o_ => st28_c2 o_)))) (sP1 4 138 (bT q240) (sG 161 138 (bT q240) (eB 1 b3) (sP1 2 138 (bT q240) (wpStill_nil (tN ?_)))))))
  obtain ⟨q247, M⟩ | ⟨q247, M⟩ := ifd M
  ·refine cF (bF q247) (wK (tN (wR (lP 5 (lV 169 (eB 1 b3) (lP 1 ?_))))))
   have S264 := S232.pulls [F7, (is g2)] [1, 1] rfl
   obtain ⟨t265, u266, M⟩ := bnd M
   refine lC 171 (eE func45) (impl_lexer_put.calls x1 h6 b3 (St.own' (Fa := [F7, (is g2)]) (Fr := []) S264) u266) ?_
   rintro _ w267 ⟨A270, c271, F273, H268, rfl, h272, b274, T269⟩
   refine ⟨_, rfl, ?_⟩
   obtain ⟨S275, K276⟩ := St.call (Fa := [F7, (is g2)]) (Fr := []) S264 T269
   have E277 := T269.ext
   refine wN (inb_n ?_)
   obtain rfl := sj M
   exact end0 rfl ⟨A270, c271, F273, H268, rfl, h272, b274, S275⟩
  refine cT (bT q247) (wR (lP 1 (wN (tN (wR (lP 5 (lV 169 (eB 1 b3) (lP 1 ?_))))))))
  have S249 := S232.pulls [F7, (is g2)] [1, 1] rfl
  obtain ⟨t250, u251, M⟩ := bnd M
  refine lC 171 (eE func45) (impl_lexer_put.calls x1 h6 b3 (St.own' (Fa := [F7, (is g2)]) (Fr := []) S249) u251) ?_
  rintro _ w252 ⟨A255, c256, F258, H253, rfl, h257, b259, T254⟩
  refine ⟨_, rfl, ?_⟩
  obtain ⟨S260, K261⟩ := St.call (Fa := [F7, (is g2)]) (Fr := []) S249 T254
  have E262 := T254.ext
  refine wN (inb_n ?_)
  obtain rfl := sj M
  exact end0 rfl ⟨A255, c256, F258, H253, rfl, h257, b259, S260⟩
 refine cF (bF q230) (wQ (wR (lP 3 ?_)))
 obtain ⟨q308, M⟩ | ⟨q308, M⟩ := ifc M
 ·refine lP1 24 175 (bT q308) (wN (tN (cond_t rfl kr (wR (lP 4 (lV 203 (eB 1 b3) (lP 3 (lV 207 (e_conv_rs (k := .i32) (a := (IntKind.i32.wrap (((x1.s_.getD (x1.at_ : Int).toNat (0 : UInt8)).toNat : Int)))) underlying21 underlying9 kr) ?_))))))))
  have S310 := S148.pulls [F7, (is g2)] [1, 1] rfl
  obtain ⟨t311, u312, M⟩ := bnd M
  refine lC 208 (eE func45) (impl_lexer_put.calls x1 h6 b3 (St.own' (Fa := [F7, (is g2)]) (Fr := []) S310) u312) ?_
  rintro _ w313 ⟨A316, c317, F319, H314, rfl, h318, b320, T315⟩
  refine ⟨_, rfl, ?_⟩
  obtain ⟨S321, K322⟩ := St.call (Fa := [F7, (is g2)]) (Fr := []) S310 T315
  have E323 := T315.ext
  refine wN (inb_n ?_)
  obtain rfl := sj M
  exact end0 rfl ⟨A316, c317, F319, H314, rfl, h318, b320, S321⟩
 refine lP1 4 175 (bF q308) ?_
 obtain ⟨q324, M⟩ | ⟨q324, M⟩ := ifc M
 ·refine lP1 20 179 (bT q324) (wN (tN (cond_t rfl kr (wR (lP 4 (lV 203 (eB 1 b3) (lP 3 (lV 207 (e_conv_rs (k := .i32) (a := (IntKind.i32.wrap (((x1.s_.getD (x1.at_ : Int).toNat (0 : UInt8)).toNat : Int)))) underlying21 underlying9 kr) ?_))))))))
  have S326 := S148.pulls [F7, (is g2)] [1, 1] rfl
  obtain ⟨t327, u328, M⟩ := bnd M
  refine lC 208 (eE func45) (impl_lexer_put.calls x1 h6 b3 (St.own' (Fa := [F7, (is g2)]) (Fr := []) S326) u328) ?_
  rintro _ w329 ⟨A332, c333, F335, H330, rfl, h334, b336, T331⟩
  refine ⟨_, rfl, ?_⟩
  obtain ⟨S337, K338⟩ := St.call (Fa := [F7, (is g2)]) (Fr := []) S326 T331
  have E339 := T331.ext
  refine wN (inb_n ?_)
  obtain rfl := sj M
  exact end0 rfl ⟨A332, c333, F335, H330, rfl, h334, b336, S337⟩
 refine lP1 4 179 (bF q324) ?_
 obtain ⟨q340, M⟩ | ⟨q340, M⟩ := ifc M
 ·refine lP1 16 183 (bT q340) (wN (tN (cond_t rfl kr (wR (lP 4 (lV 203 (eB 1 b3) (lP 3 (lV 207 (e_conv_rs (k := .i32) (a := (IntKind.i32.wrap (((x1.s_.getD (x1.at_ : Int).toNat (0 : UInt8)).toNat : Int)))) underlying21 underlying9 kr) ?_))))))))
  have S342 := S148.pulls [F7, (is g2)] [1, 1] rfl
  obtain ⟨t343, u344, M⟩ := bnd M
  refine lC 208 (eE func45) (impl_lexer_put.calls x1 h6 b3 (St.own' (Fa := [F7, (is g2)]) (Fr := []) S342) u344) ?_
  rintro _ w345 ⟨A348, c349, F351, H346, rfl, h350, b352, T347⟩
  refine ⟨_, rfl, ?_⟩
  obtain ⟨S353, K354⟩ := St.call (Fa := [F7, (is g2)]) (Fr := []) S342 T347
  have E355 := T347.ext
  refine wN (inb_n ?_)
  obtain rfl := sj M
  exact end0 rfl ⟨A348, c349, F351, H346, rfl, h350, b352, S353⟩
 refine lP1 4 183 (bF q340) ?_
 obtain ⟨q356, M⟩ | ⟨q356, M⟩ := ifc M
 ·refine lP1 12 187 (bT q356) (wN (tN (cond_t rfl kr (wR (lP 4 (lV 203 (eB 1 b3) (lP 3 (lV 207 (e_conv_rs (k := .i32) (a := (IntKind.i32.wrap (((x1.s_.getD (x1.at_ : Int).toNat (0 : UInt8)).toNat : Int)))) underlying21 underlying9 kr) ?_))))))))
  have S358 := S148.pulls [F7, (is g2)] [1, 1] rfl
  obtain ⟨t359, u360, M⟩ := bnd M
  refine lC 208 (eE func45) (impl_lexer_put.calls x1 h6 b3 (St.own' (Fa := [F7, (is g2)]) (Fr := []) S358) u360) ?_
  rintro _ w361 ⟨A364, c365, F367, H362, rfl, h366, b368, T363⟩
  refine ⟨_, rfl, ?_⟩
  obtain ⟨S369, K370⟩ := St.call (Fa := [F7, (is g2)]) (Fr := []) S358 T363
  have E371 := T363.ext
  refine wN (inb_n ?_)
  obtain rfl := sj M
  exact end0 rfl ⟨A364, c365, F367, H362, rfl, h366, b368, S369⟩
 refine lP1 4 187 (bF q356) ?_
 obtain ⟨q372, M⟩ | ⟨q372, M⟩ := ifc M
 ·refine lP1 8 191 (bT q372) (wN (tN (cond_t rfl kr (wR (lP 4 (lV 203 (eB 1 b3) (lP 3 (lV 207 (e_conv_rs (k := .i32) (a := (IntKind.i32.wrap (((x1.s_.getD (x1.at_ : Int).toNat (0 : UInt8)).toNat : Int)))) underlying21 underlying9 kr) ?_))))))))
  have S374 := S148.pulls [F7, (is g2)] [1, 1] rfl
  obtain ⟨t375, u376, M⟩ := bnd M
  refine lC 208 (eE func45) (impl_lexer_put.calls x1 h6 b3 (St.own' (Fa := [F7, (is g2)]) (Fr := []) S374) u376) ?_
  rintro _ w377 ⟨A380, c381, F383, H378, rfl, h382, b384, T379⟩
  refine ⟨_, rfl, ?_⟩
  obtain ⟨S385, K386⟩ := St.call (Fa := [F7, (is g2)]) (Fr := []) S374 T379
  have E387 := T379.ext
  refine wN (inb_n ?_)
  obtain rfl := sj M
  exact end0 rfl ⟨A380, c381, F383, H378, rfl, h382, b384, S385⟩
 refine lP1 4 191 (bF q372) ?_
 obtain ⟨q388, M⟩ | ⟨q388, M⟩ := ifc M
 ·refine lP1 4 195 (bT q388) (wN (tN (cond_t rfl kr (wR (lP 4 (lV 203 (eB 1 b3) (lP 3 (lV 207 (e_conv_rs (k := .i32) (a := (IntKind.i32.wrap (((x1.s_.getD (x1.at_ : Int).toNat (0 : UInt8)).toNat : Int)))) underlying21 underlying9 kr) ?_))))))))
  have S390 := S148.pulls [F7, (is g2)] [1, 1] rfl
  obtain ⟨t391, u392, M⟩ := bnd M
  refine lC 208 (eE func45) (impl_lexer_put.calls x1 h6 b3 (St.own' (Fa := [F7, (is g2)]) (Fr := []) S390) u392) ?_
  rintro _ w393 ⟨A396, c397, F399, H394, rfl, h398, b400, T395⟩
  refine ⟨_, rfl, ?_⟩
  obtain ⟨S401, K402⟩ := St.call (Fa := [F7, (is g2)]) (Fr := []) S390 T395
  have E403 := T395.ext
  refine wN (inb_n ?_)
  obtain rfl := sj M
  exact end0 rfl ⟨A396, c397, F399, H394, rfl, h398, b400, S401⟩
 refine lP1 4 195 (bF q388) (wN (tN ?_))
 obtain ⟨q404, M⟩ | ⟨q404, M⟩ := ifd M
 ·refine cF (bF q404) (wR (lP 4 (lV 18 (eB 1 b3) ?_)))
  have S421 := S148.pulls [F7, (is g2)] [1, 1] rfl
  obtain ⟨t422, u423, M⟩ := bnd M
  refine lC 19 (eE func38) (impl_lexer_fault.calls x1 h6 b3 (St.own' (Fa := [F7, (is g2)]) (Fr := []) S421) u423) ?_
  rintro _ w424 ⟨A427, c428, F430, H425, rfl, h429, b431, T426⟩
  refine ⟨_, rfl, ?_⟩
  obtain ⟨S432, K433⟩ := St.call (Fa := [F7, (is g2)]) (Fr := []) S421 T426
  have E434 := T426.ext
  refine wN (inb_n ?_)
  obtain rfl := sj M
  exact end0 rfl ⟨A427, c428, F430, H425, rfl, h429, b431, S432⟩
 refine cT (bT q404) (wR (lP 4 (lV 203 (eB 1 b3) (lP 3 (lV 207 (e_conv_rs (k := .i32) (a := (IntKind.i32.wrap (((x1.s_.getD (x1.at_ : Int).toNat (0 : UInt8)).toNat : Int)))) underlying21 underlying9 kr) ?_)))))
 have S406 := S148.pulls [F7, (is g2)] [1, 1] rfl
 obtain ⟨t407, u408, M⟩ := bnd M
 refine lC 208 (eE func45) (impl_lexer_put.calls x1 h6 b3 (St.own' (Fa := [F7, (is g2)]) (Fr := []) S406) u408) ?_
 rintro _ w409 ⟨A412, c413, F415, H410, rfl, h414, b416, T411⟩
 refine ⟨_, rfl, ?_⟩
 obtain ⟨S417, K418⟩ := St.call (Fa := [F7, (is g2)]) (Fr := []) S406 T411
 have E419 := T411.ext
 refine wN (inb_n ?_)
 obtain rfl := sj M
 exact end0 rfl ⟨A412, c413, F415, H410, rfl, h414, b416, S417⟩
def impl_Lex.l0 : Nat → (List UInt8) → Int → (List Token) → Int → Int → Option ((List Token) × Int × Int)
 | 0, _, _, _, _, _ => none
 | k30 + 1, _, _, x19, x24, x25 => (if x24 ≠ 0 then some ([], x24, x25) else some (x19, 0, 0))
def impl_Lex.l1 : Nat → (List UInt8) → Int → (List Token) → Int → Int → Option ((List Token) × Int × Int)
 | 0, _, _, _, _, _ => none
 | k50 + 1, x36, x37, x38, x43, x44 => ((impl_lexer_blanks.f k50 (⟨x36, x37, x38, x43, x44⟩ : GLexer)).bind fun t54 => (if t54.code_ ≠ 0 then (impl_Lex.l0 k50 t54.s_ t54.at_ t54.tokens_ t54.code_ t54.place_) else (if t54.at_ ≥ (t54.s_.length : Int) then (impl_Lex.l0 k50 t54.s_ t54.at_ t54.tokens_ t54.code_ t54.place_) else ((impl_lexer_token.f k50 t54).bind fun t73 => (if t73.code_ ≠ 0 then (impl_Lex.l0 k50 t73.s_ t73.at_ t73.tokens_ t73.code_ t73.place_) else (impl_Lex.l1 k50 t73.s_ t73.at_ t73.tokens_ t73.code_ t73.place_))))))
def impl_Lex.f (k : Nat) (x1 : List UInt8) : Option ((List Token) × Int × Int) := (if (x1.length : Int) > 10000 then some ([], 3, 10000) else (impl_Lex.l1 k x1 0 [] 0 0))
theorem impl_Lex.calls {k : Nat} {w : World} {H : Hp} {x1 : List UInt8} {A2 : Option Addr} {c3 : Nat} (h4 : Rd tByte H A2 x1) (l5 : x1.length ≤ c3) (S : Own [] H w) {r : (List Token) × Int × Int} (M : impl_Lex.f k x1 = some r) :
  Calls Tryz.prog 6 #[.slice A2 x1.length c3] w (fun e e_w => ∃ (A_1 : Option Addr) (c_1 : Nat) (F_1 : Foot) (H_ : Hp), e = .returned (.tuple #[.slice A_1 r.1.length c_1, .int .i64 r.2.1, .int .i64 r.2.2]) ∧ Row st28 28 H_ (hp e_w) F_1 A_1 c_1 r.1 ∧ St (anyOf []) H w [F_1] H_ e_w) := by
 rw [impl_Lex.f] at M
 refine enter (l := [.slice A2 x1.length c3]) 56 func6 rfl rfl rfl ?_
 have S0_ := S.st
 refine wQ (wR (lP 3 (wN (tN (wQ (wQ (wR (lP 3 (wN (tN ?_))))))))))
 obtain ⟨q6, M⟩ | ⟨q6, M⟩ := ifc M
 ·refine cT (bT q6) (wQ (wR (lP 3 (wN (tN (wT (tR ?_)))))))
  obtain rfl := sj M
  have S7 := S0_.unit
  exact ret3 rfl rfl rfl rfl kr kr kr ⟨none, 0, no, H, rfl, (Row.nil _ _ _ _ no), S7⟩
 refine cF (bF q6) (wK (tN (wQ (wR (lP 1 (lV 10 (e_conv_bs (A := A2) (n := x1.length) (c := c3) (xs := x1) underlying22 underlying5 underlying9 kr rfl (Rd.bytesE S0_.inv h4)) (lP 1 ?_)))))))
 refine lW 12 (nB #[str x1, .int .i64 0, .slice none 0 0, .int .i64 0, .int .i64 0] 39 S0_) ?_
 rintro _ w8 ⟨g9, rfl, b10, S11, K12⟩
 refine lP 1 (wN (tN ?_))
 refine wp_seq_cut (fun a29 w13 => ∃ (k31 : Nat), ∃ (f14 : Nat → Value) (H15 : Hp) (x17 : List UInt8) (x18 : Int) (x19 : List Token) (A20 : Option Addr) (c21 : Nat) (F22 : Foot) (x24 : Int) (x25 : Int), a29 = mk 56 (upd f14 5 (.pointer (some ⟨g9, 0, none⟩))) ∧ w13.heap[g9]? = some (.cells #[str x17, .int .i64 x18, .slice A20 x19.length c21, .int .i64 x24, .int .i64 x25] 39 (0, 0)) ∧ Row st28 28 H15 (hp w13) F22 A20 c21 x19 ∧ Ext H H15 ∧ St (anyOf []) H w [(is g9), F22] H15 w13 ∧ impl_Lex.l0 k31 x17 x18 x19 x24 x25 = some r) ?_ ?_
 ·refine wp_block ?_
  have S51 := S11.unit
  have S52 := S51.pulls [(is g9), no] [1] rfl
  refine wp_loop_g (fun k48 a49 w32 => ∃ (f33 : Nat → Value) (H34 : Hp) (x36 : List UInt8) (x37 : Int) (x38 : List Token) (A39 : Option Addr) (c40 : Nat) (F41 : Foot) (x43 : Int) (x44 : Int), a49 = mk 56 (upd f33 5 (.pointer (some ⟨g9, 0, none⟩))) ∧ w32.heap[g9]? = some (.cells #[str x36, .int .i64 x37, .slice A39 x38.length c40, .int .i64 x43, .int .i64 x44] 39 (0, 0)) ∧ Row st28 28 H34 (hp w32) F41 A39 c40 x38 ∧ Ext H H34 ∧ St (anyOf []) H w [(is g9), F41] H34 w32 ∧ impl_Lex.l1 k48 x36 x37 x38 x43 x44 = some r) k ⟨_, H, x1, 0, [], none, 0, no, 0, 0, (hdw (hdc rfl kr)), b10, (Row.nil _ _ _ _ _), (Ext.refl _), S52, M⟩ ?_
  clear M
  rintro k48 a49 w32 ⟨f33, H34, x36, x37, x38, A39, c40, F41, x43, x44, rfl, b10, h42, Y35, S45, M⟩
  rcases k48 with _ | k50
  ·rw [impl_Lex.l1] at M
   cases M
  rw [impl_Lex.l1] at M
  refine wp_block (wQ (wR (lP 1 ?_)))
  have S53 := S45.pulls [F41, (is g9)] [1] rfl
  obtain ⟨t54, u55, M⟩ := bnd M
  refine lC 14 (eE func14) (impl_lexer_blanks.calls (⟨x36, x37, x38, x43, x44⟩ : GLexer) h42 b10 (St.own' (Fa := [F41, (is g9)]) (Fr := []) S53) u55) ?_
  rintro _ w56 ⟨A59, c60, F62, H57, rfl, h61, b63, T58⟩
  refine ⟨_, rfl, ?_⟩
  obtain ⟨S64, K65⟩ := St.call (Fa := [F41, (is g9)]) (Fr := []) S53 T58
  have E66 := T58.ext
  refine wN (tN (wQ (wQ ?_)))
  refine region_still kr kr S64 ?_
  intro w67 S68 K69
  replace b63 := K69.b 0 b63
  replace h61 := h61.move (K69.a 1)
  refine sP 3 (sV 18 (eB 3 b63) (sV 19 (eNe .i64 t54.code_ 0) (sP 1 ?_)))
  obtain ⟨q70, M⟩ | ⟨q70, M⟩ := ifc M
  ·refine sP1 11 20 (bT q70) (wpStill_nil (tN (cond_t rfl kr (wp_exit (tE (inb_miss rfl (tE ?_)))))))
   refine inb_hit (tN ?_)
   exact ⟨k50, _, H57, t54.s_, t54.at_, t54.tokens_, A59, c60, F62, t54.code_, t54.place_, (hdw (hdc rfl kr)), b63, h61, (Y35.trans E66), S68, M⟩
  refine sP1 3 20 (bF q70) (sG 24 20 (bF q70) (eB 1 b63) (sP1 3 20 (bF q70) (sG 28 20 (bF q70) (eB 0 b63) (sG 29 20 (bF q70) (e_slen (p := t54.s_) underlying9 kr) (sP1 2 20 (bF q70) (wpStill_nil (tN ?_)))))))
  obtain ⟨q71, M⟩ | ⟨q71, M⟩ := ifc M
  ·refine cT (bT q71) (wp_exit (tE (inb_miss rfl (tE (inb_hit (tN ?_))))))
   exact ⟨k50, _, H57, t54.s_, t54.at_, t54.tokens_, A59, c60, F62, t54.code_, t54.place_, (hdw (hdc rfl kr)), b63, h61, (Y35.trans E66), S68, M⟩
  refine cF (bF q71) (wK (tN (wQ (wR (lP 1 ?_)))))
  have S72 := S68.pulls [F62, (is g9)] [1] rfl
  obtain ⟨t73, u74, M⟩ := bnd M
  refine lC 33 (eE func15) (impl_lexer_token.calls t54 h61 b63 (St.own' (Fa := [F62, (is g9)]) (Fr := []) S72) u74) ?_
  rintro _ w75 ⟨A78, c79, F81, H76, rfl, h80, b82, T77⟩
  refine ⟨_, rfl, ?_⟩
  obtain ⟨S83, K84⟩ := St.call (Fa := [F62, (is g9)]) (Fr := []) S72 T77
  have E85 := T77.ext
  refine wN (tN (wQ (wR (lP 3 (lV 37 (eB 3 b82) (lV 38 (eNe .i64 t73.code_ 0) (wN (tN ?_))))))))
  obtain ⟨q86, M⟩ | ⟨q86, M⟩ := ifd M
  ·refine cF (bF q86) (wK (inb_n (tN ?_)))
   exact ⟨k50, (by omega), _, H76, t73.s_, t73.at_, t73.tokens_, A78, c79, F81, t73.code_, t73.place_, (hdw (hdc rfl kr)), b82, h80, ((Y35.trans E66).trans E85), S83, M⟩
  refine cT (bT q86) (wp_exit (inb_miss rfl (tE (inb_hit (tN ?_)))))
  exact ⟨k50, _, H76, t73.s_, t73.at_, t73.tokens_, A78, c79, F81, t73.code_, t73.place_, (hdw (hdc rfl kr)), b82, h80, ((Y35.trans E66).trans E85), S83, M⟩
 clear M
 rintro a29 w13 ⟨k31, f14, H15, x17, x18, x19, A20, c21, F22, x24, x25, rfl, b10, h23, Y16, S26, M⟩
 rcases k31 with _ | k30
 ·rw [impl_Lex.l0] at M
  cases M
 rw [impl_Lex.l0] at M
 refine wQ (wQ (wR (lP 3 (lV 42 (eB 3 b10) (lV 43 (eNe .i64 x24 0) (wN (tN ?_)))))))
 obtain ⟨q87, M⟩ | ⟨q87, M⟩ := ifd M
 ·refine cF (bF q87) (wK (tN (wQ (wR (lP 3 (lV 55 (eB 2 b10) (lP 3 (wN (tN (wT ?_))))))))))
  obtain rfl := sj M
  have S93 := S26.pulls [F22, (is g9)] [1] rfl
  have S94 := St.first (Fa := [F22]) (Fr := [(is g9)]) S93
  exact ret3 rfl rfl rfl rfl kr kr kr ⟨A20, c21, F22, H15, rfl, h23, S94⟩
 refine cT (bT q87) (wQ ?_)
 refine region_still kr kr S26 ?_
 intro w88 S89 K90
 replace b10 := K90.b 0 b10
 refine sP 3 (sV 47 (eB 3 b10) (sP 3 (sV 51 (eB 4 b10) (sP 3 (wpStill_nil (tN (wT (tR ?_))))))))
 obtain rfl := sj M
 have S91 := S89.unit
 have S92 := St.first (Fa := [no]) (Fr := [(is g9), F22]) S91
 exact ret3 rfl rfl rfl rfl kr kr kr ⟨none, 0, no, H15, rfl, (Row.nil _ _ _ _ no), S92⟩
def laws_sameB.l0 : Nat → (List UInt8) → (List UInt8) → Int → Option Bool
 | 0, _, _, _ => none
 | k20 + 1, x1, x6, x14 => (if x14 < (x1.length : Int) then (if 0 ≤ x14 then (if x14 < (x6.length : Int) then (if ((x1.getD ((x14).toNat) (0 : UInt8)).toNat : Int) ≠ ((x6.getD ((x14).toNat) (0 : UInt8)).toNat : Int) then some false else (laws_sameB.l0 k20 x1 x6 (i64.wrap (x14 + 1)))) else none) else none) else some true)
def laws_sameB.f (k : Nat) (x1 : List UInt8) (x6 : List UInt8) : Option Bool := (if (x1.length : Int) ≠ (x6.length : Int) then some false else (laws_sameB.l0 k x1 x6 0))
theorem laws_sameB.calls {k : Nat} {w : World} {H : Hp} {x1 : List UInt8} {A2 : Option Addr} {c3 : Nat} {x6 : List UInt8} {A7 : Option Addr} {c8 : Nat} (h4 : Rd tByte H A2 x1) (l5 : x1.length ≤ c3) (h9 : Rd tByte H A7 x6) (l10 : x6.length ≤ c8) (S : Own [] H w) {r : Bool} (M : laws_sameB.f k x1 x6 = some r) :
  Calls Tryz.prog 7 #[.slice A2 x1.length c3, .slice A7 x6.length c8] w (fun e e_w => e = .returned (.bool r) ∧ Chg no w e_w) := by
 rw [laws_sameB.f] at M
 refine enter (l := [.slice A2 x1.length c3, .slice A7 x6.length c8]) 26 func7 rfl rfl rfl ?_
 have S0_ := S.st
 refine wQ (wR (lP 1 (wN (tN (wQ (wQ (wR (lP 4 (lV 10 (eNe .i64 (x1.length : Int) (x6.length : Int)) (wN (tN ?_)))))))))))
 obtain ⟨q11, M⟩ | ⟨q11, M⟩ := ifc M
 ·refine cT (bT q11) (wQ (wR (lP 1 (wN (tN (wT (tR ?_)))))))
  obtain rfl := sj M
  exact ret1 rfl rfl  kr ⟨rfl, S0_.chg⟩
 refine cF (bF q11) (wK (tN (wQ (wQ (wR (lP 1 (wN (tN (wp_block ?_)))))))))
 refine wp_loop_g (fun k18 a19 w12 => ∃ (f13 : Nat → Value) (x14 : Int), a19 = mk 26 (upd (upd (upd f13 0 (.slice A2 x1.length c3)) 1 (.slice A7 x6.length c8)) 5 (.int .i64 x14)) ∧ St (anyOf []) H w [] H w12 ∧ laws_sameB.l0 k18 x1 x6 x14 = some r) k ⟨_, 0, (hdw (hdc (hdc (hdc rfl kr) kr) kr)), S0_, M⟩ ?_
 clear M
 rintro k18 a19 w12 ⟨f13, x14, rfl, S15, M⟩
 rcases k18 with _ | k20
 ·rw [laws_sameB.l0] at M
  cases M
 rw [laws_sameB.l0] at M
 refine wQ (wQ (wR (lP 4 (wN (tN ?_)))))
 obtain ⟨q21, M⟩ | ⟨q21, M⟩ := ifd M
 ·refine cF (bF q21) (wp_exit (tE (tE (inb_hit (tN (wQ (wR (lP 1 (wN (tN (wT ?_)))))))))))
  obtain rfl := sj M
  exact ret1 rfl rfl  kr ⟨rfl, S15.chg⟩
 refine cT (bT q21) (wK (tN (wQ (wp_block (wQ ?_)))))
 refine region_still kr kr S15 ?_
 intro w22 S23 K24
 refine sP 2 ?_
 obtain ⟨q25, M⟩ := chk M
 obtain ⟨b26, o27, e28⟩ := Rd.addr h4 (show (x14).toNat < x1.length by omega)
 obtain ⟨y29, r30, k31⟩ := Rd.at h4 e28 (getD_some (0 : UInt8) (show (x14).toNat < x1.length by omega))
 obtain rfl := r30
 refine sV 19 (eJ underlying22 e28 q25 q21) (sV 20 (eK underlying5 (hpx (S23.inv.cell (k31 0 _ rfl)))) (sP 2 ?_))
 obtain ⟨q32, M⟩ := chk M
 obtain ⟨b33, o34, e35⟩ := Rd.addr h9 (show (x14).toNat < x6.length by omega)
 obtain ⟨y36, r37, k38⟩ := Rd.at h9 e35 (getD_some (0 : UInt8) (show (x14).toNat < x6.length by omega))
 obtain rfl := r37
 refine sV 23 (eJ underlying22 e35 q25 q32) (sV 24 (eK underlying5 (hpx (S23.inv.cell (k38 0 _ rfl)))) (sV 25 (eNe .u8 ((x1.getD ((x14).toNat) (0 : UInt8)).toNat : Int) ((x6.getD ((x14).toNat) (0 : UInt8)).toNat : Int)) (wpStill_nil (tN ?_))))
 obtain ⟨q39, M⟩ | ⟨q39, M⟩ := ifc M
 ·refine cT (bT q39) (wQ (wR (lP 1 (wN (tN (wT (inb_r (tR (tR (inb_r (tR ?_)))))))))))
  obtain rfl := sj M
  exact ret1 rfl rfl  kr ⟨rfl, S23.chg⟩
 refine cF (bF q39) (wK (inb_n (tN (wR (lP 3 (wN (tN ?_)))))))
 exact ⟨k20, (by omega), _, (i64.wrap (x14 + 1)), (hdw (hdc (hdc (hdc rfl kr) kr) kr)), S23, M⟩
def spec_DrawIsPlain.f (k : Nat) (x1 : List UInt8) : Option (List UInt8) := ((spec_l4open.f x1).bind fun t6 => ((spec_l4rd_next_2.f t6).bind fun t20 => ((spec_l4name.f t20.2).bind fun t33 => (if (Int.tmod t20.1 4) = 0 then ((spec_l4name.f t33.2).bind fun t51 => (if t33.1.length + t51.1.length ≤ 140737488355328 then some (t33.1 ++ t51.1) else none)) else (if t20.1 = 5 then ((spec_l4rd_next_2.f t33.2).bind fun t84 => ((spec_l4fill.f k (97 : UInt8) (i64.wrap (99 + (Int.tmod t84.1 3)))).bind fun t97 => some t97)) else (if (Int.tmod t20.1 16) = 1 then ((spec_l4rd_next_2.f t33.2).bind fun t111 => (if t33.1.length + 1 ≤ 140737488355328 then some (t33.1 ++ [(b8 (t111.1))]) else none)) else some t33.1))))))
theorem spec_DrawIsPlain.calls {k : Nat} {w : World} {H : Hp} {x1 : List UInt8} {A2 : Option Addr} {c3 : Nat} (h4 : Rd tByte H A2 x1) (l5 : x1.length ≤ c3) (S : Own [] H w) {r : List UInt8} (M : spec_DrawIsPlain.f k x1 = some r) :
  Calls Tryz.prog 16 #[.slice A2 x1.length c3] w (fun e e_w => ∃ (A_1 : Option Addr) (c_1 : Nat) (F_1 : Foot) (H_ : Hp), e = .returned (.slice A_1 r.length c_1) ∧ Row tByte 5 H_ (hp e_w) F_1 A_1 c_1 r ∧ St (anyOf []) H w [F_1] H_ e_w) := by
 rw [spec_DrawIsPlain.f] at M
 refine enter (l := [.slice A2 x1.length c3]) 36 func16 rfl rfl rfl ?_
 have S0_ := S.st
 refine wQ (wR (lP 1 (wN (tN (wQ (wR (lP 1 ?_)))))))
 obtain ⟨t6, u7, M⟩ := bnd M
 refine lC 7 (eE func11) (spec_l4open.calls h4 l5 (St.own' (Fa := []) (Fr := []) S0_) u7) ?_
 rintro _ w8 ⟨g11, A13, c14, H9, rfl, h15, l16, b12, T10⟩
 refine ⟨_, rfl, ?_⟩
 obtain ⟨S17, K18⟩ := St.call (Fa := []) (Fr := []) S0_ T10
 have E19 := T10.ext
 refine lP 1 (wN (tN (wQ (wR (lP 1 ?_)))))
 obtain ⟨t20, u21, M⟩ := bnd M
 refine lC 9 (eE func18) (spec_l4rd_next_2.calls t6 h15 l16 b12 (St.own' (Fa := [(is g11)]) (Fr := []) S17) u21) ?_
 rintro _ w22 ⟨A25, c26, H23, rfl, h27, l28, b29, T24⟩
 refine ⟨_, rfl, ?_⟩
 obtain ⟨S30, K31⟩ := St.call (Fa := [(is g11)]) (Fr := []) S17 T24
 have E32 := T24.ext
 refine lP 1 (wN (tN (wQ (wR (lP 1 ?_)))))
 obtain ⟨t33, u34, M⟩ := bnd M
 refine lC 11 (eE func48) (spec_l4name.calls t20.2 h27 l28 b29 (St.own' (Fa := [(is g11)]) (Fr := []) S30) u34) ?_
 rintro _ w35 ⟨A38, c39, A43, c44, F46, H36, rfl, h40, l41, b42, h45, T37⟩
 refine ⟨_, rfl, ?_⟩
 obtain ⟨S47, K48⟩ := St.call (Fa := [(is g11)]) (Fr := []) S30 T37
 have E49 := T37.ext
 refine lP 1 (wN (tN (wQ (wQ (wR (lP 3 (wN (tN ?_))))))))
 obtain ⟨q50, M⟩ | ⟨q50, M⟩ := ifc M
 ·refine cT (bT q50) (wQ (wR (lP 2 ?_)))
  obtain ⟨t51, u52, M⟩ := bnd M
  refine lC 17 (eE func48) (spec_l4name.calls t33.2 h40 l41 b42 (St.own' (Fa := [(is g11)]) (Fr := [F46]) S47) u52) ?_
  rintro _ w53 ⟨A56, c57, A61, c62, F64, H54, rfl, h58, l59, b60, h63, T55⟩
  refine ⟨_, rfl, ?_⟩
  obtain ⟨S65, K66⟩ := St.call (Fa := [(is g11)]) (Fr := [F46]) S47 T55
  replace h45 := h45.move (K66.a 0)
  have E67 := T55.ext
  replace h45 := h45.ext E67
  obtain ⟨y68, h69, h70⟩ := Row.news0 (d := tByte) (oo_scal _ _) h63
  obtain ⟨q71, M⟩ := chk M
  have S72 := S65.pulls [F46, (is g11), F64] [2] rfl
  have S73 := S72.unit
  have S74 := S73.pulls [F46, no, (is g11), F64] [1] rfl
  refine lW 18 (e_append (d := tByte) (n := t33.1.length) (xs := t33.1) (cap := c44) (A := A43) (ys := t51.1) (A2 := A61) (c2 := c62) (z := .int .u8 0) (bytes := 1) S74 underlying22 kr rfl (by decide) kr rfl kr h45 h69 h70 (show (t33.1.length + t51.1.length) * 1 ≤ _ by first | omega | (simp only [List.length_cons, List.length_nil]; omega)) (by decide)) ?_
  rintro _ w75 ⟨A76, c77, F78, rfl, h79, S80, K81⟩
  refine lP 1 (wN (tN (wT (tR ?_))))
  obtain rfl := sj M
  have S82 := St.first (Fa := [F78]) (Fr := [(is g11), F64]) S80
  exact ret1 rfl rfl  kr ⟨A76, c77, F78, H54, rfl, h79, S82⟩
 refine cF (bF q50) (wK (tN (wQ (wQ (wR (lP 2 (wN (tN ?_))))))))
 obtain ⟨q83, M⟩ | ⟨q83, M⟩ := ifc M
 ·refine cT (bT q83) (wQ (wR (lP 1 ?_)))
  obtain ⟨t84, u85, M⟩ := bnd M
  refine lC 22 (eE func18) (spec_l4rd_next_2.calls t33.2 h40 l41 b42 (St.own' (Fa := [(is g11)]) (Fr := [F46]) S47) u85) ?_
  rintro _ w86 ⟨A89, c90, H87, rfl, h91, l92, b93, T88⟩
  refine ⟨_, rfl, ?_⟩
  obtain ⟨S94, K95⟩ := St.call (Fa := [(is g11)]) (Fr := [F46]) S47 T88
  have E96 := T88.ext
  refine lP 2 ?_
  obtain ⟨t97, u98, M⟩ := bnd M
  refine lC 25 (eE func21) (spec_l4fill.calls  (St.own' (Fa := []) (Fr := [(is g11), F46]) S94) u98) ?_
  rintro _ w99 ⟨A102, c103, F105, H100, rfl, h104, T101⟩
  refine ⟨_, rfl, ?_⟩
  obtain ⟨S106, K107⟩ := St.call (Fa := []) (Fr := [(is g11), F46]) S94 T101
  have E108 := T101.ext
  refine lP 1 (wN (tN (wT (tR ?_))))
  obtain rfl := sj M
  have S109 := St.first (Fa := [F105]) (Fr := [(is g11), F46]) S106
  exact ret1 rfl rfl  kr ⟨A102, c103, F105, H100, rfl, h104, S109⟩
 refine cF (bF q83) (wK (tN (wQ (wQ (wR (lP 3 (wN (tN ?_))))))))
 obtain ⟨q110, M⟩ | ⟨q110, M⟩ := ifd M
 ·refine cF (bF q110) (wK (tN (wQ (wR (lP 2 (wN (tN (wT ?_))))))))
  obtain rfl := sj M
  have S141 := S47.pulls [F46, (is g11)] [1] rfl
  have S142 := St.first (Fa := [F46]) (Fr := [(is g11)]) S141
  exact ret1 rfl rfl  kr ⟨A43, c44, F46, H36, rfl, h45, S142⟩
 refine cT (bT q110) (wQ (wR (lP 2 ?_)))
 obtain ⟨t111, u112, M⟩ := bnd M
 refine lC 31 (eE func18) (spec_l4rd_next_2.calls t33.2 h40 l41 b42 (St.own' (Fa := [(is g11)]) (Fr := [F46]) S47) u112) ?_
 rintro _ w113 ⟨A116, c117, H114, rfl, h118, l119, b120, T115⟩
 refine ⟨_, rfl, ?_⟩
 obtain ⟨S121, K122⟩ := St.call (Fa := [(is g11)]) (Fr := [F46]) S47 T115
 replace h45 := h45.move (K122.a 0)
 have E123 := T115.ext
 replace h45 := h45.ext E123
 refine lV 32 (e_conv_i8 (k := .i64) (a := t111.1) kr underlying5 kr) ?_
 refine lW 33 (new_blk (v := fun g_ => .slice (some ⟨g_, 0, none⟩) 1 1) (cs := #[.int .u8 ((b8 (t111.1)).toNat : Int)]) (t := 5) S121 kr) ?_
 rintro _ w124 ⟨g125, rfl, b126, S127, K128⟩
 replace h45 := h45.move (K128.a 1)
 obtain ⟨q129, M⟩ := chk M
 have S130 := S127.pulls [F46, (is g125), (is g11)] [2] rfl
 have S131 := S130.unit
 have S132 := S131.pulls [F46, no, (is g125), (is g11)] [1] rfl
 refine lW 34 (e_append (d := tByte) (n := t33.1.length) (xs := t33.1) (cap := c44) (A := A43) (ys := [(b8 (t111.1))]) (A2 := (some ⟨g125, 0, none⟩)) (c2 := 1) (z := .int .u8 0) (bytes := 1) S132 underlying22 kr rfl (by decide) kr rfl kr h45 (elsO_one1 rfl) (.inr (blk_news b126 rfl)) (show (t33.1.length + [(b8 (t111.1))].length) * 1 ≤ _ by first | omega | (simp only [List.length_cons, List.length_nil]; omega)) (by decide)) ?_
 rintro _ w133 ⟨A134, c135, F136, rfl, h137, S138, K139⟩
 refine lP 1 (wN (tN (wT (tR ?_))))
 obtain rfl := sj M
 have S140 := St.first (Fa := [F136]) (Fr := [(is g125), (is g11)]) S138
 exact ret1 rfl rfl  kr ⟨A134, c135, F136, H114, rfl, h137, S140⟩
def spec_DrawQuoteAtom.f (k : Nat) (x1 : List UInt8) : Option (List UInt8) := ((spec_DrawIsPlain.f k x1).bind fun t6 => some t6)
theorem spec_DrawQuoteAtom.calls {k : Nat} {w : World} {H : Hp} {x1 : List UInt8} {A2 : Option Addr} {c3 : Nat} (h4 : Rd tByte H A2 x1) (l5 : x1.length ≤ c3) (S : Own [] H w) {r : List UInt8} (M : spec_DrawQuoteAtom.f k x1 = some r) :
  Calls Tryz.prog 8 #[.slice A2 x1.length c3] w (fun e e_w => ∃ (A_1 : Option Addr) (c_1 : Nat) (F_1 : Foot) (H_ : Hp), e = .returned (.slice A_1 r.length c_1) ∧ Row tByte 5 H_ (hp e_w) F_1 A_1 c_1 r ∧ St (anyOf []) H w [F_1] H_ e_w) := by
 rw [spec_DrawQuoteAtom.f] at M
 refine enter (l := [.slice A2 x1.length c3]) 5 func8 rfl rfl rfl ?_
 have S0_ := S.st
 refine wQ (wR (lP 1 (wN (tN (wQ (wR (lP 1 ?_)))))))
 obtain ⟨t6, u7, M⟩ := bnd M
 refine lC 4 (eE func16) (spec_DrawIsPlain.calls h4 l5 (St.own' (Fa := []) (Fr := []) S0_) u7) ?_
 rintro _ w8 ⟨A11, c12, F14, H9, rfl, h13, T10⟩
 refine ⟨_, rfl, ?_⟩
 obtain ⟨S15, K16⟩ := St.call (Fa := []) (Fr := []) S0_ T10
 have E17 := T10.ext
 refine lP 1 (wN (tN (wT ?_)))
 obtain rfl := sj M
 exact ret1 rfl rfl  kr ⟨A11, c12, F14, H9, rfl, h13, S15⟩
def impl_plain.l2 : Nat → (List UInt8) → Int → Option Bool
 | 0, _, _ => none
 | k34 + 1, x1, x28 => (if x28 < (x1.length : Int) then (if 0 < (x1.length : Int) then ((impl_isSmall.f (x1.getD (0 : Int).toNat (0 : UInt8))).bind fun t37 => (if t37 = true then (if 0 ≤ x28 then ((impl_isAlnum.f (x1.getD (x28 : Int).toNat (0 : UInt8))).bind fun t45 => (if ¬ (t45 = true) then some false else ((impl_isSmall.f (x1.getD (0 : Int).toNat (0 : UInt8))).bind fun t52 => (if ¬ (t52 = true) then ((impl_isSymbol.f (x1.getD (x28 : Int).toNat (0 : UInt8))).bind fun t59 => (if ¬ (t59 = true) then some false else (impl_plain.l2 k34 x1 (i64.wrap (x28 + 1))))) else (impl_plain.l2 k34 x1 (i64.wrap (x28 + 1))))))) else none) else ((impl_isSmall.f (x1.getD (0 : Int).toNat (0 : UInt8))).bind fun t66 => (if ¬ (t66 = true) then (if 0 ≤ x28 then ((impl_isSymbol.f (x1.getD (x28 : Int).toNat (0 : UInt8))).bind fun t74 => (if ¬ (t74 = true) then some false else (impl_plain.l2 k34 x1 (i64.wrap (x28 + 1))))) else none) else (impl_plain.l2 k34 x1 (i64.wrap (x28 + 1))))))) else none) else some true)
def impl_plain.l3 : Nat → (List UInt8) → Int → Option Bool
 | 0, _, _ => none
 | k89 + 1, x1, x83 => (if x83 < (x1.length : Int) then (if 0 < (x1.length : Int) then ((impl_isSmall.f (x1.getD (0 : Int).toNat (0 : UInt8))).bind fun t92 => (if t92 = true then (if 0 ≤ x83 then ((impl_isAlnum.f (x1.getD (x83 : Int).toNat (0 : UInt8))).bind fun t100 => (if ¬ (t100 = true) then some false else ((impl_isSmall.f (x1.getD (0 : Int).toNat (0 : UInt8))).bind fun t107 => (if ¬ (t107 = true) then ((impl_isSymbol.f (x1.getD (x83 : Int).toNat (0 : UInt8))).bind fun t114 => (if ¬ (t114 = true) then some false else (impl_plain.l3 k89 x1 (i64.wrap (x83 + 1))))) else (impl_plain.l3 k89 x1 (i64.wrap (x83 + 1))))))) else none) else ((impl_isSmall.f (x1.getD (0 : Int).toNat (0 : UInt8))).bind fun t121 => (if ¬ (t121 = true) then (if 0 ≤ x83 then ((impl_isSymbol.f (x1.getD (x83 : Int).toNat (0 : UInt8))).bind fun t129 => (if ¬ (t129 = true) then some false else (impl_plain.l3 k89 x1 (i64.wrap (x83 + 1))))) else none) else (impl_plain.l3 k89 x1 (i64.wrap (x83 + 1))))))) else none) else some true)
def impl_plain.l1 (k : Nat) (x1 : List UInt8) (x15 : Bool) : Option Bool := (if x15 = true then some false else (if (x1.length : Int) > 100 then some false else (if (x1.length : Int) > 1 then (if 2 ≤ (x1.length : Int) then (if (x1.take (2 : Int).toNat) = ([47, 42] : List UInt8) then some false else (impl_plain.l2 k x1 0)) else none) else (impl_plain.l3 k x1 0))))
def impl_plain.l0 (k : Nat) (x1 : List UInt8) (x4 : Bool) : Option Bool := (if x4 = true then some true else (if x1 = ([] : List UInt8) then (impl_plain.l1 k x1 (decide (x1 = ([] : List UInt8)))) else (impl_plain.l1 k x1 (decide (x1 = ([46] : List UInt8))))))
def impl_plain.f (k : Nat) (x1 : List UInt8) : Option Bool := (if x1 = ([33] : List UInt8) then (impl_plain.l0 k x1 (decide (x1 = ([33] : List UInt8)))) else (if x1 = ([59] : List UInt8) then (impl_plain.l0 k x1 (decide (x1 = ([59] : List UInt8)))) else (if x1 = ([91, 93] : List UInt8) then (impl_plain.l0 k x1 (decide (x1 = ([91, 93] : List UInt8)))) else (impl_plain.l0 k x1 (decide (x1 = ([123, 125] : List UInt8)))))))
theorem impl_plain.calls {k : Nat} {w : World} {H : Hp} {x1 : List UInt8} (S : Own [] H w) {r : Bool} (M : impl_plain.f k x1 = some r) :
  Calls Tryz.prog 49 #[str x1] w (fun e e_w => e = .returned (.bool r) ∧ Chg no w e_w) := by
 rw [impl_plain.f] at M
 refine enter (l := [str x1]) 55 func49 rfl rfl rfl ?_
 have S0_ := S.st
 refine wQ (wR (lP 1 (wN (tN (wQ (wQ (wR (lP 1 (wN (tN (wp_block ?_)))))))))))
 refine wp_seq_cut (fun a8 w2 => ∃ (f3 : Nat → Value) (x4 : Bool), a8 = mk 55 (upd (upd (upd f3 0 (str x1)) 4 (str x1)) 5 (.bool x4)) ∧ St (anyOf []) H w [] H w2 ∧ impl_plain.l0 k x1 x4 = some r) ?_ ?_
 ·refine wQ (wR (lV 6 (e_seql (p := x1) (q := ([33] : List UInt8)) kr rfl) (lP 1 (wN (tN ?_)))))
  obtain ⟨q9, M⟩ | ⟨q9, M⟩ := ifc M
  ·refine cT (bT q9) (wK (tN ?_))
   exact ⟨_, (decide (x1 = ([33] : List UInt8))), (hdw (hdc (hdc (hdc rfl kr) kr) kr)), S0_, M⟩
  refine cF (bF q9) (wQ (wR (lV 7 (e_seql (p := x1) (q := ([59] : List UInt8)) kr rfl) (lP 1 (wN (tN ?_))))))
  obtain ⟨q10, M⟩ | ⟨q10, M⟩ := ifc M
  ·refine cT (bT q10) (wK (tN ?_))
   exact ⟨_, (decide (x1 = ([59] : List UInt8))), (hdw (hdc (hdc (hdc rfl kr) kr) kr)), S0_, M⟩
  refine cF (bF q10) (wQ (wR (lV 8 (e_seql (p := x1) (q := ([91, 93] : List UInt8)) kr rfl) (lP 1 (wN (tN ?_))))))
  obtain ⟨q11, M⟩ | ⟨q11, M⟩ := ifc M
  ·refine cT (bT q11) (wK (tN ?_))
   exact ⟨_, (decide (x1 = ([91, 93] : List UInt8))), (hdw (hdc (hdc (hdc rfl kr) kr) kr)), S0_, M⟩
  refine cF (bF q11) (wR (lV 9 (e_seql (p := x1) (q := ([123, 125] : List UInt8)) kr rfl) (lP 1 (wN (tN ?_)))))
  exact ⟨_, (decide (x1 = ([123, 125] : List UInt8))), (hdw (hdc (hdc (hdc rfl kr) kr) kr)), S0_, M⟩
 clear M
 rintro a8 w2 ⟨f3, x4, rfl, S5, M⟩
 rw [impl_plain.l0] at M
 obtain ⟨q12, M⟩ | ⟨q12, M⟩ := ifc M
 ·refine cT (bvt q12 kr) (wQ (wR (lP 1 (wN (tN (wT (inb_r (tR ?_))))))))
  obtain rfl := sj M
  exact ret1 rfl rfl  kr ⟨rfl, S5.chg⟩
 refine cF (bvf q12 kr) ?_
 refine wp_seq_cut (fun a19 w13 => ∃ (f14 : Nat → Value) (x15 : Bool), a19 = mk 55 (upd (upd f14 0 (str x1)) 10 (.bool x15)) ∧ St (anyOf []) H w [] H w13 ∧ impl_plain.l1 k x1 x15 = some r) ?_ ?_
 ·refine wQ (wR (lV 11 (e_seql (p := x1) (q := ([] : List UInt8)) kr rfl) (lP 1 (wN (tN ?_)))))
  obtain ⟨q20, M⟩ | ⟨q20, M⟩ := ifc M
  ·refine cT (bT q20) (wK (tN ?_))
   exact ⟨_, (decide (x1 = ([] : List UInt8))), (hdw (hdc (hdc rfl kr) kr)), S5, M⟩
  refine cF (bF q20) (wR (lV 12 (e_seql (p := x1) (q := ([46] : List UInt8)) kr rfl) (lP 1 (wN (tN ?_)))))
  exact ⟨_, (decide (x1 = ([46] : List UInt8))), (hdw (hdc (hdc rfl kr) kr)), S5, M⟩
 clear M
 rintro a19 w13 ⟨f14, x15, rfl, S16, M⟩
 rw [impl_plain.l1] at M
 obtain ⟨q21, M⟩ | ⟨q21, M⟩ := ifc M
 ·refine cT (bvt q21 kr) (wQ (wR (lP 1 (wN (tN (wT (inb_r (tR ?_))))))))
  obtain rfl := sj M
  exact ret1 rfl rfl  kr ⟨rfl, S16.chg⟩
 refine cF (bvf q21 kr) (wK (inb_n (tN (wQ (wQ (wR (lP 1 (lV 14 (e_slen (p := x1) underlying9 kr) (lP 2 ?_)))))))))
 obtain ⟨q22, M⟩ | ⟨q22, M⟩ := ifc M
 ·refine lP1 9 16 (bT q22) (wN (tN (cond_t rfl kr (wQ (wR (lP 1 (wN (tN (wT (tR ?_))))))))))
  obtain rfl := sj M
  exact ret1 rfl rfl  kr ⟨rfl, S16.chg⟩
 refine lP1 1 16 (bF q22) (lG 18 16 (bF q22) (e_slen (p := x1) underlying9 kr) (lP1 2 16 (bF q22) ?_))
 obtain ⟨q23, M⟩ | ⟨q23, M⟩ := ifd M
 ·refine lP2 5 20 (bF q23) 16 (bF q22) (wN (tN (cond_f rfl kr (wK (tN (wQ (wQ (wR (lP 1 (wN (tN (wp_block ?_))))))))))))
  refine wp_loop_g (fun k87 a88 w81 => ∃ (f82 : Nat → Value) (x83 : Int), a88 = mk 55 (upd (upd f82 0 (str x1)) 3 (.int .i64 x83)) ∧ St (anyOf []) H w [] H w81 ∧ impl_plain.l3 k87 x1 x83 = some r) k ⟨_, 0, (hdw (hdc (hdc rfl kr) kr)), S16, M⟩ ?_
  clear M
  rintro k87 a88 w81 ⟨f82, x83, rfl, S84, M⟩
  rcases k87 with _ | k89
  ·rw [impl_plain.l3] at M
   cases M
  rw [impl_plain.l3] at M
  refine wQ (wQ (wR (lP 2 (lV 28 (e_slen (p := x1) underlying9 kr) (lP 1 (wN (tN ?_)))))))
  obtain ⟨q90, M⟩ | ⟨q90, M⟩ := ifd M
  ·refine cF (bF q90) (wp_exit (tE (tE (inb_hit (tN (wQ (wR (lP 1 (wN (tN (wT ?_)))))))))))
   obtain rfl := sj M
   exact ret1 rfl rfl  kr ⟨rfl, S84.chg⟩
  refine cT (bT q90) (wK (tN (wQ (wp_block (wQ (wR (lP 1 ?_)))))))
  obtain ⟨q91, M⟩ := chk M
  refine lV 33 (e_sindex (p := x1) (i := 0) (k := .i64) underlying9 kr rfl (by decide) q91) ?_
  obtain ⟨t92, u93, M⟩ := bnd M
  refine lC 34 (eE func39) (impl_isSmall.calls  S84.own0 u93) ?_
  rintro _ w94 ⟨rfl, C95⟩
  refine ⟨_, rfl, ?_⟩
  obtain ⟨S96, K97⟩ := S84.still C95
  refine lP 1 ?_
  obtain ⟨q98, M⟩ | ⟨q98, M⟩ := ifd M
  ·refine lP1 8 35 (bvf q98 kr) (lH 44 42 (e_sindex (p := x1) (i := 0) (k := .i64) underlying9 kr rfl (by decide) q91) ?_)
   obtain ⟨t121, u122, M⟩ := bnd M
   refine lcallg (d := 45) (t := 42) rfl kr rfl kr rfl kr (eE func39) (impl_isSmall.calls  S96.own0 u122) ?_
   rintro _ w123 ⟨rfl, C124⟩
   refine ⟨_, rfl, ?_⟩
   obtain ⟨S125, K126⟩ := S96.still C124
   refine lH 46 42 (e_notv (c := t121) kr) (lP 1 ?_)
   obtain ⟨q127, M⟩ | ⟨q127, M⟩ := ifd M
   ·refine lP1 7 47 (bF q127) (wN (tN (cond_f rfl kr (wK (inb_n (tN (wR (lP 3 (wN (tN ?_))))))))))
    exact ⟨k89, (by omega), _, (i64.wrap (x83 + 1)), (hdw (hdc (hdc rfl kr) kr)), S125, M⟩
   refine lP1 2 47 (bT q127) ?_
   obtain ⟨q128, M⟩ := chk M
   refine lG 50 47 (bT q127) (e_sindex (p := x1) (i := x83) (k := .i64) underlying9 kr kr q128 q90) ?_
   obtain ⟨t129, u130, M⟩ := bnd M
   refine lcallg (d := 51) (t := 47) rfl kr rfl (bT q127) rfl kr (eE func46) (impl_isSymbol.calls  S125.own0 u130) ?_
   rintro _ w131 ⟨rfl, C132⟩
   refine ⟨_, rfl, ?_⟩
   obtain ⟨S133, K134⟩ := S125.still C132
   refine lG 52 47 (bT q127) (e_notv (c := t129) kr) (lP1 2 47 (bT q127) (wN (tN ?_)))
   obtain ⟨q135, M⟩ | ⟨q135, M⟩ := ifc M
   ·refine cT (bT q135) (wQ (wR (lP 1 (wN (tN (wT (inb_r (tR (tR (inb_r (tR ?_)))))))))))
    obtain rfl := sj M
    exact ret1 rfl rfl  kr ⟨rfl, S133.chg⟩
   refine cF (bF q135) (wK (inb_n (tN (wR (lP 3 (wN (tN ?_)))))))
   exact ⟨k89, (by omega), _, (i64.wrap (x83 + 1)), (hdw (hdc (hdc rfl kr) kr)), S133, M⟩
  refine lP1 2 35 (bvt q98 kr) ?_
  obtain ⟨q99, M⟩ := chk M
  refine lG 38 35 (bvt q98 kr) (e_sindex (p := x1) (i := x83) (k := .i64) underlying9 kr kr q99 q90) ?_
  obtain ⟨t100, u101, M⟩ := bnd M
  refine lcallg (d := 39) (t := 35) rfl kr rfl (bvt q98 kr) rfl kr (eE func41) (impl_isAlnum.calls  S96.own0 u101) ?_
  rintro _ w102 ⟨rfl, C103⟩
  refine ⟨_, rfl, ?_⟩
  obtain ⟨S104, K105⟩ := S96.still C103
  refine lG 40 35 (bvt q98 kr) (e_notv (c := t100) kr) (lP1 2 35 (bvt q98 kr) ?_)
  obtain ⟨q106, M⟩ | ⟨q106, M⟩ := ifc M
  ·refine lP1 12 42 (bT q106) (wN (tN (cond_t rfl kr (wQ (wR (lP 1 (wN (tN (wT (inb_r (tR (tR (inb_r (tR ?_))))))))))))))
   obtain rfl := sj M
   exact ret1 rfl rfl  kr ⟨rfl, S104.chg⟩
  refine lP1 1 42 (bF q106) (lG 44 42 (bF q106) (e_sindex (p := x1) (i := 0) (k := .i64) underlying9 kr rfl (by decide) q91) ?_)
  obtain ⟨t107, u108, M⟩ := bnd M
  refine lcallg (d := 45) (t := 42) rfl kr rfl (bF q106) rfl kr (eE func39) (impl_isSmall.calls  S104.own0 u108) ?_
  rintro _ w109 ⟨rfl, C110⟩
  refine ⟨_, rfl, ?_⟩
  obtain ⟨S111, K112⟩ := S104.still C110
  refine lG 46 42 (bF q106) (e_notv (c := t107) kr) (lP1 1 42 (bF q106) ?_)
  obtain ⟨q113, M⟩ | ⟨q113, M⟩ := ifd M
  ·refine lP2 7 47 (bF q113) 42 (bF q106) (wN (tN (cond_f rfl kr (wK (inb_n (tN (wR (lP 3 (wN (tN ?_))))))))))
   exact ⟨k89, (by omega), _, (i64.wrap (x83 + 1)), (hdw (hdc (hdc rfl kr) kr)), S111, M⟩
  refine lP1 2 47 (bT q113) (lG 50 47 (bT q113) (e_sindex (p := x1) (i := x83) (k := .i64) underlying9 kr kr q99 q90) ?_)
  obtain ⟨t114, u115, M⟩ := bnd M
  refine lcallg (d := 51) (t := 47) rfl kr rfl (bT q113) rfl kr (eE func46) (impl_isSymbol.calls  S111.own0 u115) ?_
  rintro _ w116 ⟨rfl, C117⟩
  refine ⟨_, rfl, ?_⟩
  obtain ⟨S118, K119⟩ := S111.still C117
  refine lG 52 47 (bT q113) (e_notv (c := t114) kr) (lP2 2 42 (bF q106) 47 (bT q113) (wN (tN ?_)))
  obtain ⟨q120, M⟩ | ⟨q120, M⟩ := ifc M
  ·refine cT (bT q120) (wQ (wR (lP 1 (wN (tN (wT (inb_r (tR (tR (inb_r (tR ?_)))))))))))
   obtain rfl := sj M
   exact ret1 rfl rfl  kr ⟨rfl, S118.chg⟩
  refine cF (bF q120) (wK (inb_n (tN (wR (lP 3 (wN (tN ?_)))))))
  exact ⟨k89, (by omega), _, (i64.wrap (x83 + 1)), (hdw (hdc (hdc rfl kr) kr)), S118, M⟩
 refine lP1 1 20 (bT q23) ?_
 obtain ⟨q24, M⟩ := chk M
 refine lG 22 20 (bT q23) (e_sslice_h (p := x1) (b := 2) (k2 := .i64) underlying9 kr rfl (by decide) q24) (lG 23 20 (bT q23) (e_seql (p := (x1.take (2 : Int).toNat)) (q := ([47, 42] : List UInt8)) kr rfl) (lP2 2 16 (bF q22) 20 (bT q23) (wN (tN ?_))))
 obtain ⟨q25, M⟩ | ⟨q25, M⟩ := ifc M
 ·refine cT (bT q25) (wQ (wR (lP 1 (wN (tN (wT (tR ?_)))))))
  obtain rfl := sj M
  exact ret1 rfl rfl  kr ⟨rfl, S16.chg⟩
 refine cF (bF q25) (wK (tN (wQ (wQ (wR (lP 1 (wN (tN (wp_block ?_)))))))))
 refine wp_loop_g (fun k32 a33 w26 => ∃ (f27 : Nat → Value) (x28 : Int), a33 = mk 55 (upd (upd f27 0 (str x1)) 3 (.int .i64 x28)) ∧ St (anyOf []) H w [] H w26 ∧ impl_plain.l2 k32 x1 x28 = some r) k ⟨_, 0, (hdw (hdc (hdc rfl kr) kr)), S16, M⟩ ?_
 clear M
 rintro k32 a33 w26 ⟨f27, x28, rfl, S29, M⟩
 rcases k32 with _ | k34
 ·rw [impl_plain.l2] at M
  cases M
 rw [impl_plain.l2] at M
 refine wQ (wQ (wR (lP 2 (lV 28 (e_slen (p := x1) underlying9 kr) (lP 1 (wN (tN ?_)))))))
 obtain ⟨q35, M⟩ | ⟨q35, M⟩ := ifd M
 ·refine cF (bF q35) (wp_exit (tE (tE (inb_hit (tN (wQ (wR (lP 1 (wN (tN (wT ?_)))))))))))
  obtain rfl := sj M
  exact ret1 rfl rfl  kr ⟨rfl, S29.chg⟩
 refine cT (bT q35) (wK (tN (wQ (wp_block (wQ (wR (lP 1 ?_)))))))
 obtain ⟨q36, M⟩ := chk M
 refine lV 33 (e_sindex (p := x1) (i := 0) (k := .i64) underlying9 kr rfl (by decide) q36) ?_
 obtain ⟨t37, u38, M⟩ := bnd M
 refine lC 34 (eE func39) (impl_isSmall.calls  S29.own0 u38) ?_
 rintro _ w39 ⟨rfl, C40⟩
 refine ⟨_, rfl, ?_⟩
 obtain ⟨S41, K42⟩ := S29.still C40
 refine lP 1 ?_
 obtain ⟨q43, M⟩ | ⟨q43, M⟩ := ifd M
 ·refine lP1 8 35 (bvf q43 kr) (lH 44 42 (e_sindex (p := x1) (i := 0) (k := .i64) underlying9 kr rfl (by decide) q36) ?_)
  obtain ⟨t66, u67, M⟩ := bnd M
  refine lcallg (d := 45) (t := 42) rfl kr rfl kr rfl kr (eE func39) (impl_isSmall.calls  S41.own0 u67) ?_
  rintro _ w68 ⟨rfl, C69⟩
  refine ⟨_, rfl, ?_⟩
  obtain ⟨S70, K71⟩ := S41.still C69
  refine lH 46 42 (e_notv (c := t66) kr) (lP 1 ?_)
  obtain ⟨q72, M⟩ | ⟨q72, M⟩ := ifd M
  ·refine lP1 7 47 (bF q72) (wN (tN (cond_f rfl kr (wK (inb_n (tN (wR (lP 3 (wN (tN ?_))))))))))
   exact ⟨k34, (by omega), _, (i64.wrap (x28 + 1)), (hdw (hdc (hdc rfl kr) kr)), S70, M⟩
  refine lP1 2 47 (bT q72) ?_
  obtain ⟨q73, M⟩ := chk M
  refine lG 50 47 (bT q72) (e_sindex (p := x1) (i := x28) (k := .i64) underlying9 kr kr q73 q35) ?_
  obtain ⟨t74, u75, M⟩ := bnd M
  refine lcallg (d := 51) (t := 47) rfl kr rfl (bT q72) rfl kr (eE func46) (impl_isSymbol.calls  S70.own0 u75) ?_
  rintro _ w76 ⟨rfl, C77⟩
  refine ⟨_, rfl, ?_⟩
  obtain ⟨S78, K79⟩ := S70.still C77
  refine lG 52 47 (bT q72) (e_notv (c := t74) kr) (lP1 2 47 (bT q72) (wN (tN ?_)))
  obtain ⟨q80, M⟩ | ⟨q80, M⟩ := ifc M
  ·refine cT (bT q80) (wQ (wR (lP 1 (wN (tN (wT (inb_r (tR (tR (inb_r (tR ?_)))))))))))
   obtain rfl := sj M
   exact ret1 rfl rfl  kr ⟨rfl, S78.chg⟩
  refine cF (bF q80) (wK (inb_n (tN (wR (lP 3 (wN (tN ?_)))))))
  exact ⟨k34, (by omega), _, (i64.wrap (x28 + 1)), (hdw (hdc (hdc rfl kr) kr)), S78, M⟩
 refine lP1 2 35 (bvt q43 kr) ?_
 obtain ⟨q44, M⟩ := chk M
 refine lG 38 35 (bvt q43 kr) (e_sindex (p := x1) (i := x28) (k := .i64) underlying9 kr kr q44 q35) ?_
 obtain ⟨t45, u46, M⟩ := bnd M
 refine lcallg (d := 39) (t := 35) rfl kr rfl (bvt q43 kr) rfl kr (eE func41) (impl_isAlnum.calls  S41.own0 u46) ?_
 rintro _ w47 ⟨rfl, C48⟩
 refine ⟨_, rfl, ?_⟩
 obtain ⟨S49, K50⟩ := S41.still C48
 refine lG 40 35 (bvt q43 kr) (e_notv (c := t45) kr) (lP1 2 35 (bvt q43 kr) ?_)
 obtain ⟨q51, M⟩ | ⟨q51, M⟩ := ifc M
 ·refine lP1 12 42 (bT q51) (wN (tN (cond_t rfl kr (wQ (wR (lP 1 (wN (tN (wT (inb_r (tR (tR (inb_r (tR ?_))))))))))))))
  obtain rfl := sj M
  exact ret1 rfl rfl  kr ⟨rfl, S49.chg⟩
 refine lP1 1 42 (bF q51) (lG 44 42 (bF q51) (e_sindex (p := x1) (i := 0) (k := .i64) underlying9 kr rfl (by decide) q36) ?_)
 obtain ⟨t52, u53, M⟩ := bnd M
 refine lcallg (d := 45) (t := 42) rfl kr rfl (bF q51) rfl kr (eE func39) (impl_isSmall.calls  S49.own0 u53) ?_
 rintro _ w54 ⟨rfl, C55⟩
 refine ⟨_, rfl, ?_⟩
 obtain ⟨S56, K57⟩ := S49.still C55
 refine lG 46 42 (bF q51) (e_notv (c := t52) kr) (lP1 1 42 (bF q51) ?_)
 obtain ⟨q58, M⟩ | ⟨q58, M⟩ := ifd M
 ·refine lP2 7 47 (bF q58) 42 (bF q51) (wN (tN (cond_f rfl kr (wK (inb_n (tN (wR (lP 3 (wN (tN ?_))))))))))
  exact ⟨k34, (by omega), _, (i64.wrap (x28 + 1)), (hdw (hdc (hdc rfl kr) kr)), S56, M⟩
 refine lP1 2 47 (bT q58) (lG 50 47 (bT q58) (e_sindex (p := x1) (i := x28) (k := .i64) underlying9 kr kr q44 q35) ?_)
 obtain ⟨t59, u60, M⟩ := bnd M
 refine lcallg (d := 51) (t := 47) rfl kr rfl (bT q58) rfl kr (eE func46) (impl_isSymbol.calls  S56.own0 u60) ?_
 rintro _ w61 ⟨rfl, C62⟩
 refine ⟨_, rfl, ?_⟩
 obtain ⟨S63, K64⟩ := S56.still C62
 refine lG 52 47 (bT q58) (e_notv (c := t59) kr) (lP2 2 42 (bF q51) 47 (bT q58) (wN (tN ?_)))
 obtain ⟨q65, M⟩ | ⟨q65, M⟩ := ifc M
 ·refine cT (bT q65) (wQ (wR (lP 1 (wN (tN (wT (inb_r (tR (tR (inb_r (tR ?_)))))))))))
  obtain rfl := sj M
  exact ret1 rfl rfl  kr ⟨rfl, S63.chg⟩
 refine cF (bF q65) (wK (inb_n (tN (wR (lP 3 (wN (tN ?_)))))))
 exact ⟨k34, (by omega), _, (i64.wrap (x28 + 1)), (hdw (hdc (hdc rfl kr) kr)), S63, M⟩
def impl_hex2.f (x1 : UInt8) : Option (List UInt8) := ((strconv_FormatInt.f ((b8 (Int.fdiv (x1.toNat : Int) (2 ^ 4))).toNat : Int) 16).bind fun t2 => ((strconv_FormatInt.f ((b8 (bits .and .u8 (x1.toNat : Int) 15)).toNat : Int) 16).bind fun t8 => (if t2.length + t8.length ≤ 9223372036854775807 then some (t2 ++ t8) else none)))
theorem impl_hex2.calls {w : World} {H : Hp} {x1 : UInt8} (hL_ : Laid H) (S : Own [] H w) {r : List UInt8} (M : impl_hex2.f x1 = some r) :
  Calls Tryz.prog 50 #[.int .u8 (x1.toNat : Int)] w (fun e e_w => e = .returned (str r) ∧ Chg no w e_w) := by
 rw [impl_hex2.f] at M
 refine enter (l := [.int .u8 (x1.toNat : Int)]) 12 func50 rfl rfl rfl ?_
 have S0_ := S.st
 refine wQ (wR (lP 1 (wN (tN (wQ (wR (lP 1 (lV 4 (e_shr8 (k2 := .u64) (b := 4) (x8 := x1) kr rfl (by decide)) (lV 5 (e_conv_8i (a := (b8 (Int.fdiv (x1.toNat : Int) (2 ^ 4)))) kr underlying2 kr) ?_)))))))))
 obtain ⟨t2, u3, M⟩ := bnd M
 refine lC 6 (eE func72) (strconv_FormatInt.calls w H ((b8 (Int.fdiv (x1.toNat : Int) (2 ^ 4))).toNat : Int) 16 hL_ S0_.own0 t2 u3) ?_
 rintro _ w4 ⟨rfl, C5⟩
 refine ⟨_, rfl, ?_⟩
 obtain ⟨S6, K7⟩ := S0_.still C5
 refine lP 1 (lV 8 (e_and8 (a := (x1.toNat : Int)) (b := 15) kr rfl) (lV 9 (e_conv_8i (a := (b8 (bits .and .u8 (x1.toNat : Int) 15))) kr underlying2 kr) ?_))
 obtain ⟨t8, u9, M⟩ := bnd M
 refine lC 10 (eE func72) (strconv_FormatInt.calls w4 H ((b8 (bits .and .u8 (x1.toNat : Int) 15)).toNat : Int) 16 hL_ S6.own0 t8 u9) ?_
 rintro _ w10 ⟨rfl, C11⟩
 refine ⟨_, rfl, ?_⟩
 obtain ⟨S12, K13⟩ := S6.still C11
 obtain ⟨q14, M⟩ := chk M
 refine lV 11 (e_sadd (p := t2) (q := t8) kr kr q14) (lP 1 (wN (tN (wT ?_))))
 obtain rfl := sj M
 exact ret1 rfl rfl  kr ⟨rfl, S12.chg⟩
end Go.Proofs.YtdkbfcmekppnmaaGreatDoor
