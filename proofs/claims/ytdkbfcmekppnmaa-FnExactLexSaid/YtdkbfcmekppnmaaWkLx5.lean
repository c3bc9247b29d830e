import Derived.Test.YtdkbfcmekppnmaaWkLx4
namespace Go.Proofs.Ytdkbfcmekppnmaa
open Go.Sx Go.Sy
attribute [local irreducible] Go.wpList Go.wpStill Go.wpQuiet Go.Code.wp
set_option maxRecDepth 100000
set_option maxHeartbeats 1000000
set_option linter.unusedVariables false
set_option linter.unusedSimpArgs false

/-! impl_lexer_token -/
def impl_lexer_token.f (k : Nat) (x1 : GLexer) : Option GLexer := (if 0 ≤ x1.at_ then (if x1.at_ < (x1.s_.length : Int) then ((impl_isSmall.f (x1.s_.getD (x1.at_ : Int).toNat (0 : UInt8))).bind fun t13 => (if t13 = true then ((impl_lexer_run.f k x1 1).bind fun t22 => some t22) else ((impl_isLetter.f (x1.s_.getD (x1.at_ : Int).toNat (0 : UInt8))).bind fun t35 => (if t35 = true then ((impl_lexer_run.f k x1 2).bind fun t44 => some t44) else ((impl_isDigit.f (x1.s_.getD (x1.at_ : Int).toNat (0 : UInt8))).bind fun t57 => (if t57 = true then ((impl_lexer_number.f k x1).bind fun t66 => some t66) else (if ((x1.s_.getD (x1.at_ : Int).toNat (0 : UInt8)).toNat : Int) = 46 then (if (IntKind.i64.wrap (x1.at_ + 1)) ≥ (x1.s_.length : Int) then ((impl_lexer_put.f x1 7 (IntKind.i64.wrap (x1.at_ + 1)) ([] : List UInt8) 0).bind fun t87 => some t87) else (if 0 ≤ (IntKind.i64.wrap (x1.at_ + 1)) then (if (IntKind.i64.wrap (x1.at_ + 1)) < (x1.s_.length : Int) then ((impl_isBlank.f (x1.s_.getD ((IntKind.i64.wrap (x1.at_ + 1)) : Int).toNat (0 : UInt8))).bind fun t102 => (if t102 = true then ((impl_lexer_put.f x1 7 (IntKind.i64.wrap (x1.at_ + 1)) ([] : List UInt8) 0).bind fun t111 => some t111) else (if ((x1.s_.getD ((IntKind.i64.wrap (x1.at_ + 1)) : Int).toNat (0 : UInt8)).toNat : Int) = 37 then ((impl_lexer_put.f x1 7 (IntKind.i64.wrap (x1.at_ + 1)) ([] : List UInt8) 0).bind fun t131 => some t131) else ((impl_isSymbol.f (x1.s_.getD (x1.at_ : Int).toNat (0 : UInt8))).bind fun t144 => (if t144 = true then ((impl_lexer_run_2.f k x1 1).bind fun t153 => some t153) else (if ((x1.s_.getD (x1.at_ : Int).toNat (0 : UInt8)).toNat : Int) = 33 then ((impl_lexer_put.f x1 1 (IntKind.i64.wrap (x1.at_ + 1)) (runeS (IntKind.i32.wrap (((x1.s_.getD (x1.at_ : Int).toNat (0 : UInt8)).toNat : Int)))) 0).bind fun t169 => some t169) else (if ((x1.s_.getD (x1.at_ : Int).toNat (0 : UInt8)).toNat : Int) = 59 then ((impl_lexer_put.f x1 1 (IntKind.i64.wrap (x1.at_ + 1)) (runeS (IntKind.i32.wrap (((x1.s_.getD (x1.at_ : Int).toNat (0 : UInt8)).toNat : Int)))) 0).bind fun t185 => some t185) else (if ((x1.s_.getD (x1.at_ : Int).toNat (0 : UInt8)).toNat : Int) = 39 then ((impl_lexer_quote.f k x1 (x1.s_.getD (x1.at_ : Int).toNat (0 : UInt8))).bind fun t201 => some t201) else (if ((x1.s_.getD (x1.at_ : Int).toNat (0 : UInt8)).toNat : Int) = 34 then ((impl_lexer_quote.f k x1 (x1.s_.getD (x1.at_ : Int).toNat (0 : UInt8))).bind fun t217 => some t217) else (if ((x1.s_.getD (x1.at_ : Int).toNat (0 : UInt8)).toNat : Int) = 40 then (if (x1.tokens_.length : Int) > 0 then (if 0 ≤ (IntKind.i64.wrap ((x1.tokens_.length : Int) - 1)) then (if (IntKind.i64.wrap ((x1.tokens_.length : Int) - 1)) < (x1.tokens_.length : Int) then (if ((x1.tokens_.getD (((IntKind.i64.wrap ((x1.tokens_.length : Int) - 1))).toNat) z37).kind) = 1 then (if (IntKind.i64.wrap (((x1.tokens_.getD (((IntKind.i64.wrap ((x1.tokens_.length : Int) - 1))).toNat) z37).place) + ((x1.tokens_.getD (((IntKind.i64.wrap ((x1.tokens_.length : Int) - 1))).toNat) z37).size))) = x1.at_ then ((impl_lexer_put.f x1 6 (IntKind.i64.wrap (x1.at_ + 1)) ([40] : List UInt8) 0).bind fun t250 => some t250) else ((impl_lexer_put.f x1 5 (IntKind.i64.wrap (x1.at_ + 1)) ([40] : List UInt8) 0).bind fun t265 => some t265)) else ((impl_lexer_put.f x1 5 (IntKind.i64.wrap (x1.at_ + 1)) ([40] : List UInt8) 0).bind fun t280 => some t280)) else none) else none) else ((impl_lexer_put.f x1 5 (IntKind.i64.wrap (x1.at_ + 1)) ([40] : List UInt8) 0).bind fun t295 => some t295)) else (if ((x1.s_.getD (x1.at_ : Int).toNat (0 : UInt8)).toNat : Int) = 41 then ((impl_lexer_put.f x1 5 (IntKind.i64.wrap (x1.at_ + 1)) (runeS (IntKind.i32.wrap (((x1.s_.getD (x1.at_ : Int).toNat (0 : UInt8)).toNat : Int)))) 0).bind fun t311 => some t311) else (if ((x1.s_.getD (x1.at_ : Int).toNat (0 : UInt8)).toNat : Int) = 91 then ((impl_lexer_put.f x1 5 (IntKind.i64.wrap (x1.at_ + 1)) (runeS (IntKind.i32.wrap (((x1.s_.getD (x1.at_ : Int).toNat (0 : UInt8)).toNat : Int)))) 0).bind fun t327 => some t327) else (if ((x1.s_.getD (x1.at_ : Int).toNat (0 : UInt8)).toNat : Int) = 93 then ((impl_lexer_put.f x1 5 (IntKind.i64.wrap (x1.at_ + 1)) (runeS (IntKind.i32.wrap (((x1.s_.getD (x1.at_ : Int).toNat (0 : UInt8)).toNat : Int)))) 0).bind fun t343 => some t343) else (if ((x1.s_.getD (x1.at_ : Int).toNat (0 : UInt8)).toNat : Int) = 123 then ((impl_lexer_put.f x1 5 (IntKind.i64.wrap (x1.at_ + 1)) (runeS (IntKind.i32.wrap (((x1.s_.getD (x1.at_ : Int).toNat (0 : UInt8)).toNat : Int)))) 0).bind fun t359 => some t359) else (if ((x1.s_.getD (x1.at_ : Int).toNat (0 : UInt8)).toNat : Int) = 125 then ((impl_lexer_put.f x1 5 (IntKind.i64.wrap (x1.at_ + 1)) (runeS (IntKind.i32.wrap (((x1.s_.getD (x1.at_ : Int).toNat (0 : UInt8)).toNat : Int)))) 0).bind fun t375 => some t375) else (if ((x1.s_.getD (x1.at_ : Int).toNat (0 : UInt8)).toNat : Int) = 44 then ((impl_lexer_put.f x1 5 (IntKind.i64.wrap (x1.at_ + 1)) (runeS (IntKind.i32.wrap (((x1.s_.getD (x1.at_ : Int).toNat (0 : UInt8)).toNat : Int)))) 0).bind fun t391 => some t391) else (if ((x1.s_.getD (x1.at_ : Int).toNat (0 : UInt8)).toNat : Int) = 124 then ((impl_lexer_put.f x1 5 (IntKind.i64.wrap (x1.at_ + 1)) (runeS (IntKind.i32.wrap (((x1.s_.getD (x1.at_ : Int).toNat (0 : UInt8)).toNat : Int)))) 0).bind fun t407 => some t407) else ((impl_lexer_fault.f x1 2 x1.at_).bind fun t422 => some t422)))))))))))))))))) else none) else none)) else ((impl_isSymbol.f (x1.s_.getD (x1.at_ : Int).toNat (0 : UInt8))).bind fun t439 => (if t439 = true then ((impl_lexer_run_2.f k x1 1).bind fun t448 => some t448) else (if ((x1.s_.getD (x1.at_ : Int).toNat (0 : UInt8)).toNat : Int) = 33 then ((impl_lexer_put.f x1 1 (IntKind.i64.wrap (x1.at_ + 1)) (runeS (IntKind.i32.wrap (((x1.s_.getD (x1.at_ : Int).toNat (0 : UInt8)).toNat : Int)))) 0).bind fun t464 => some t464) else (if ((x1.s_.getD (x1.at_ : Int).toNat (0 : UInt8)).toNat : Int) = 59 then ((impl_lexer_put.f x1 1 (IntKind.i64.wrap (x1.at_ + 1)) (runeS (IntKind.i32.wrap (((x1.s_.getD (x1.at_ : Int).toNat (0 : UInt8)).toNat : Int)))) 0).bind fun t480 => some t480) else (if ((x1.s_.getD (x1.at_ : Int).toNat (0 : UInt8)).toNat : Int) = 39 then ((impl_lexer_quote.f k x1 (x1.s_.getD (x1.at_ : Int).toNat (0 : UInt8))).bind fun t496 => some t496) else (if ((x1.s_.getD (x1.at_ : Int).toNat (0 : UInt8)).toNat : Int) = 34 then ((impl_lexer_quote.f k x1 (x1.s_.getD (x1.at_ : Int).toNat (0 : UInt8))).bind fun t512 => some t512) else (if ((x1.s_.getD (x1.at_ : Int).toNat (0 : UInt8)).toNat : Int) = 40 then (if (x1.tokens_.length : Int) > 0 then (if 0 ≤ (IntKind.i64.wrap ((x1.tokens_.length : Int) - 1)) then (if (IntKind.i64.wrap ((x1.tokens_.length : Int) - 1)) < (x1.tokens_.length : Int) then (if ((x1.tokens_.getD (((IntKind.i64.wrap ((x1.tokens_.length : Int) - 1))).toNat) z37).kind) = 1 then (if (IntKind.i64.wrap (((x1.tokens_.getD (((IntKind.i64.wrap ((x1.tokens_.length : Int) - 1))).toNat) z37).place) + ((x1.tokens_.getD (((IntKind.i64.wrap ((x1.tokens_.length : Int) - 1))).toNat) z37).size))) = x1.at_ then ((impl_lexer_put.f x1 6 (IntKind.i64.wrap (x1.at_ + 1)) ([40] : List UInt8) 0).bind fun t545 => some t545) else ((impl_lexer_put.f x1 5 (IntKind.i64.wrap (x1.at_ + 1)) ([40] : List UInt8) 0).bind fun t560 => some t560)) else ((impl_lexer_put.f x1 5 (IntKind.i64.wrap (x1.at_ + 1)) ([40] : List UInt8) 0).bind fun t575 => some t575)) else none) else none) else ((impl_lexer_put.f x1 5 (IntKind.i64.wrap (x1.at_ + 1)) ([40] : List UInt8) 0).bind fun t590 => some t590)) else (if ((x1.s_.getD (x1.at_ : Int).toNat (0 : UInt8)).toNat : Int) = 41 then ((impl_lexer_put.f x1 5 (IntKind.i64.wrap (x1.at_ + 1)) (runeS (IntKind.i32.wrap (((x1.s_.getD (x1.at_ : Int).toNat (0 : UInt8)).toNat : Int)))) 0).bind fun t606 => some t606) else (if ((x1.s_.getD (x1.at_ : Int).toNat (0 : UInt8)).toNat : Int) = 91 then ((impl_lexer_put.f x1 5 (IntKind.i64.wrap (x1.at_ + 1)) (runeS (IntKind.i32.wrap (((x1.s_.getD (x1.at_ : Int).toNat (0 : UInt8)).toNat : Int)))) 0).bind fun t622 => some t622) else (if ((x1.s_.getD (x1.at_ : Int).toNat (0 : UInt8)).toNat : Int) = 93 then ((impl_lexer_put.f x1 5 (IntKind.i64.wrap (x1.at_ + 1)) (runeS (IntKind.i32.wrap (((x1.s_.getD (x1.at_ : Int).toNat (0 : UInt8)).toNat : Int)))) 0).bind fun t638 => some t638) else (if ((x1.s_.getD (x1.at_ : Int).toNat (0 : UInt8)).toNat : Int) = 123 then ((impl_lexer_put.f x1 5 (IntKind.i64.wrap (x1.at_ + 1)) (runeS (IntKind.i32.wrap (((x1.s_.getD (x1.at_ : Int).toNat (0 : UInt8)).toNat : Int)))) 0).bind fun t654 => some t654) else (if ((x1.s_.getD (x1.at_ : Int).toNat (0 : UInt8)).toNat : Int) = 125 then ((impl_lexer_put.f x1 5 (IntKind.i64.wrap (x1.at_ + 1)) (runeS (IntKind.i32.wrap (((x1.s_.getD (x1.at_ : Int).toNat (0 : UInt8)).toNat : Int)))) 0).bind fun t670 => some t670) else (if ((x1.s_.getD (x1.at_ : Int).toNat (0 : UInt8)).toNat : Int) = 44 then ((impl_lexer_put.f x1 5 (IntKind.i64.wrap (x1.at_ + 1)) (runeS (IntKind.i32.wrap (((x1.s_.getD (x1.at_ : Int).toNat (0 : UInt8)).toNat : Int)))) 0).bind fun t686 => some t686) else (if ((x1.s_.getD (x1.at_ : Int).toNat (0 : UInt8)).toNat : Int) = 124 then ((impl_lexer_put.f x1 5 (IntKind.i64.wrap (x1.at_ + 1)) (runeS (IntKind.i32.wrap (((x1.s_.getD (x1.at_ : Int).toNat (0 : UInt8)).toNat : Int)))) 0).bind fun t702 => some t702) else ((impl_lexer_fault.f x1 2 x1.at_).bind fun t717 => some t717)))))))))))))))))))))) else none) else none)
theorem impl_lexer_token.calls (k : Nat) (w : World) (H : Hp) (x1 : GLexer) (g2 : Nat) (A4 : Option Addr) (c5 : Nat) (F7 : Foot) (h6 : Row st37 37 H (hp w) F7 A4 c5 x1.tokens_) (b3 : w.heap[g2]? = some (.cells #[str x1.s_, .int .i64 x1.at_, .slice A4 x1.tokens_.length c5, .int .i64 x1.code_, .int .i64 x1.place_] 42 (0, 0))) (S : Own [F7, (is g2)] H w) (r : GLexer) (M : impl_lexer_token.f k x1 = some r) :
    Calls Try.prog 22 #[.pointer (some ⟨g2, 0, none⟩)] w (fun e e_w => ∃ (A_1 : Option Addr) (c_1 : Nat) (F_1 : Foot) (H_ : Hp), e = .returned (.tuple #[]) ∧ Row st37 37 H_ (hp e_w) F_1 A_1 c_1 r.tokens_ ∧ e_w.heap[g2]? = some (.cells #[str r.s_, .int .i64 r.at_, .slice A_1 r.tokens_.length c_1, .int .i64 r.code_, .int .i64 r.place_] 42 (0, 0)) ∧ St (anyOf [F7, (is g2)]) H w [(is g2), F_1] H_ e_w) := by
  rw [impl_lexer_token.f] at M
  refine enter (l := [.pointer (some ⟨g2, 0, none⟩)]) 209 Try.func22 rfl rfl rfl ?_
  have S0_ := S.st
  refine wp_seq ?_
  refine region_still (by kernel_rfl) (by kernel_rfl) S0_ ?_
  intro w8 S9 K10
  replace h6 := h6.move (K10.at 0 rfl)
  replace b3 := K10.blk 1 rfl b3
  refine sV 5 (eM (.pointer (some ⟨g2, 0, none⟩))) (sV 6 (eN ⟨g2, 0, none⟩) (sV 7 (eD g2 0 0 1 Try.underlying42) (sV 8 (eL ⟨g2, 0 + 0, none⟩ (str x1.s_) Try.underlying9 (blk_cell b3 rfl)) (sV 9 (eM (.pointer (some ⟨g2, 0, none⟩))) (sV 10 (eN ⟨g2, 0, none⟩) (sV 11 (eD g2 0 1 1 Try.underlying42) (sV 12 (eL ⟨g2, 0 + 1, none⟩ (.int .i64 x1.at_) Try.underlying3 (blk_cell b3 rfl)) ?_)))))))
  obtain ⟨q11, M⟩ := chk M
  obtain ⟨q12, M⟩ := chk M
  refine sV 13 (e_sindex (p := x1.s_) (i := x1.at_) (k := .i64) Try.underlying9 (by kernel_rfl) (by kernel_rfl) q11 q12) (sV 2 (eA (.int .u8 ((x1.s_.getD (x1.at_ : Int).toNat (0 : UInt8)).toNat : Int))) (wpStill_nil (then_n (wp_block (wp_seq (wp_region_lit (lV 21 (eM (.int .u8 ((x1.s_.getD (x1.at_ : Int).toNat (0 : UInt8)).toNat : Int))) ?_)))))))
  obtain ⟨t13, u14, M⟩ := bnd M
  refine lC 22 (eC [.tmp 21] [.int .u8 ((x1.s_.getD (x1.at_ : Int).toNat (0 : UInt8)).toNat : Int)] Try.func27) (impl_isSmall.calls w8 H (x1.s_.getD (x1.at_ : Int).toNat (0 : UInt8))  S9.own0 t13 u14) ?_
  rintro _ w15 ⟨rfl, C16⟩
  refine ⟨_, rfl, ?_⟩
  obtain ⟨S17, K18⟩ := S9.still C16
  replace h6 := h6.move (K18.at 0 rfl)
  replace b3 := K18.blk 1 rfl b3
  refine lV 20 (eA (.bool t13)) (wpList_nil (then_n ?_))
  by_cases q19 : t13 = true
  · replace M := ifp q19 M
    refine cT (bvt q19 (by kernel_rfl)) (wp_region_lit (lV 23 (eM (.pointer (some ⟨g2, 0, none⟩))) ?_))
    have S20 := S17.pull (F := (is g2)) (Fr := [F7]) 1 rfl rfl
    have S21 := S20.pull (F := F7) (Fr := [(is g2)]) 1 rfl rfl
    obtain ⟨t22, u23, M⟩ := bnd M
    refine lC 24 (eC [.tmp 23, .const (.int .i64 1), .func 28] [.pointer (some ⟨g2, 0, none⟩), .int .i64 1, .func (.func 28) #[] #[]] Try.func38) (impl_lexer_run.calls k w15 H x1 g2 A4 c5 F7 1 h6 b3 (St.own' (Fa := [F7, (is g2)]) (Fr := []) S21) t22 u23) ?_
    rintro _ w24 ⟨A27, c28, F30, H25, rfl, h29, b31, T26⟩
    refine ⟨_, rfl, ?_⟩
    obtain ⟨S32, K33⟩ := St.call (Fa := [F7, (is g2)]) (Fr := []) S21 T26
    have E34 := T26.ext
    refine wpList_nil (inb_n ?_)
    obtain rfl := Option.some.inj M
    exact end0 rfl ⟨A27, c28, F30, H25, rfl, h29, b31, S32⟩
  replace M := ifn q19 M
  refine cF (bvf q19 (by kernel_rfl)) (wp_seq (wp_region_lit (lV 26 (eM (.int .u8 ((x1.s_.getD (x1.at_ : Int).toNat (0 : UInt8)).toNat : Int))) ?_)))
  obtain ⟨t35, u36, M⟩ := bnd M
  refine lC 27 (eC [.tmp 26] [.int .u8 ((x1.s_.getD (x1.at_ : Int).toNat (0 : UInt8)).toNat : Int)] Try.func39) (impl_isLetter.calls w15 H (x1.s_.getD (x1.at_ : Int).toNat (0 : UInt8))  S17.own0 t35 u36) ?_
  rintro _ w37 ⟨rfl, C38⟩
  refine ⟨_, rfl, ?_⟩
  obtain ⟨S39, K40⟩ := S17.still C38
  replace h6 := h6.move (K40.at 0 rfl)
  replace b3 := K40.blk 1 rfl b3
  refine lV 25 (eA (.bool t35)) (wpList_nil (then_n ?_))
  by_cases q41 : t35 = true
  · replace M := ifp q41 M
    refine cT (bvt q41 (by kernel_rfl)) (wp_region_lit (lV 28 (eM (.pointer (some ⟨g2, 0, none⟩))) ?_))
    have S42 := S39.pull (F := (is g2)) (Fr := [F7]) 1 rfl rfl
    have S43 := S42.pull (F := F7) (Fr := [(is g2)]) 1 rfl rfl
    obtain ⟨t44, u45, M⟩ := bnd M
    refine lC 29 (eC [.tmp 28, .const (.int .i64 2), .func 28] [.pointer (some ⟨g2, 0, none⟩), .int .i64 2, .func (.func 28) #[] #[]] Try.func38) (impl_lexer_run.calls k w37 H x1 g2 A4 c5 F7 2 h6 b3 (St.own' (Fa := [F7, (is g2)]) (Fr := []) S43) t44 u45) ?_
    rintro _ w46 ⟨A49, c50, F52, H47, rfl, h51, b53, T48⟩
    refine ⟨_, rfl, ?_⟩
    obtain ⟨S54, K55⟩ := St.call (Fa := [F7, (is g2)]) (Fr := []) S43 T48
    have E56 := T48.ext
    refine wpList_nil (inb_n ?_)
    obtain rfl := Option.some.inj M
    exact end0 rfl ⟨A49, c50, F52, H47, rfl, h51, b53, S54⟩
  replace M := ifn q41 M
  refine cF (bvf q41 (by kernel_rfl)) (wp_seq (wp_region_lit (lV 31 (eM (.int .u8 ((x1.s_.getD (x1.at_ : Int).toNat (0 : UInt8)).toNat : Int))) ?_)))
  obtain ⟨t57, u58, M⟩ := bnd M
  refine lC 32 (eC [.tmp 31] [.int .u8 ((x1.s_.getD (x1.at_ : Int).toNat (0 : UInt8)).toNat : Int)] Try.func40) (impl_isDigit.calls w37 H (x1.s_.getD (x1.at_ : Int).toNat (0 : UInt8))  S39.own0 t57 u58) ?_
  rintro _ w59 ⟨rfl, C60⟩
  refine ⟨_, rfl, ?_⟩
  obtain ⟨S61, K62⟩ := S39.still C60
  replace h6 := h6.move (K62.at 0 rfl)
  replace b3 := K62.blk 1 rfl b3
  refine lV 30 (eA (.bool t57)) (wpList_nil (then_n ?_))
  by_cases q63 : t57 = true
  · replace M := ifp q63 M
    refine cT (bvt q63 (by kernel_rfl)) (wp_region_lit (lV 33 (eM (.pointer (some ⟨g2, 0, none⟩))) ?_))
    have S64 := S61.pull (F := (is g2)) (Fr := [F7]) 1 rfl rfl
    have S65 := S64.pull (F := F7) (Fr := [(is g2)]) 1 rfl rfl
    obtain ⟨t66, u67, M⟩ := bnd M
    refine lC 34 (eC [.tmp 33] [.pointer (some ⟨g2, 0, none⟩)] Try.func41) (impl_lexer_number.calls k w59 H x1 g2 A4 c5 F7 h6 b3 (St.own' (Fa := [F7, (is g2)]) (Fr := []) S65) t66 u67) ?_
    rintro _ w68 ⟨A71, c72, F74, H69, rfl, h73, b75, T70⟩
    refine ⟨_, rfl, ?_⟩
    obtain ⟨S76, K77⟩ := St.call (Fa := [F7, (is g2)]) (Fr := []) S65 T70
    have E78 := T70.ext
    refine wpList_nil (inb_n ?_)
    obtain rfl := Option.some.inj M
    exact end0 rfl ⟨A71, c72, F74, H69, rfl, h73, b75, S76⟩
  replace M := ifn q63 M
  refine cF (bvf q63 (by kernel_rfl)) (wp_seq ?_)
  refine region_quiet (by kernel_rfl) (by kernel_rfl) ?_
  refine qV 36 (fun wq_ hq_ => eM (.int .u8 ((x1.s_.getD (x1.at_ : Int).toNat (0 : UInt8)).toNat : Int))) ?_
  refine qV 37 (fun wq_ hq_ => eEq .u8 ((x1.s_.getD (x1.at_ : Int).toNat (0 : UInt8)).toNat : Int) 46) ?_
  refine qV 38 (fun wq_ hq_ => eM (.bool (decide (((x1.s_.getD (x1.at_ : Int).toNat (0 : UInt8)).toNat : Int) = 46)))) ?_
  by_cases q79 : ((x1.s_.getD (x1.at_ : Int).toNat (0 : UInt8)).toNat : Int) = 46
  · replace M := ifp q79 M
    refine qG 39 38 (bT q79) (fun wq_ hq_ => eM (.pointer (some ⟨g2, 0, none⟩))) ?_
    refine qG 40 38 (bT q79) (fun wq_ hq_ => eN ⟨g2, 0, none⟩) ?_
    refine qG 41 38 (bT q79) (fun wq_ hq_ => eD g2 0 1 1 Try.underlying42) ?_
    refine qG 42 38 (bT q79) (fun wq_ hq_ => eL ⟨g2, 0 + 1, none⟩ (.int .i64 x1.at_) Try.underlying3 (blk_cell ((S61.still hq_).2.blk 1 rfl b3) rfl)) ?_
    refine qG 43 38 (bT q79) (fun wq_ hq_ => eAdd .i64 x1.at_ 1) ?_
    refine qG 44 38 (bT q79) (fun wq_ hq_ => eM (.pointer (some ⟨g2, 0, none⟩))) ?_
    refine qG 45 38 (bT q79) (fun wq_ hq_ => eN ⟨g2, 0, none⟩) ?_
    refine qG 46 38 (bT q79) (fun wq_ hq_ => eD g2 0 0 1 Try.underlying42) ?_
    refine qG 47 38 (bT q79) (fun wq_ hq_ => eL ⟨g2, 0 + 0, none⟩ (str x1.s_) Try.underlying9 (blk_cell ((S61.still hq_).2.blk 1 rfl b3) rfl)) ?_
    refine qG 48 38 (bT q79) (fun wq_ hq_ => e_slen (p := x1.s_) Try.underlying9 (by kernel_rfl)) ?_
    refine qG 49 38 (bT q79) (fun wq_ hq_ => e_geq (k := .i64) (a := (IntKind.i64.wrap (x1.at_ + 1))) (b := (x1.s_.length : Int)) (by kernel_rfl) (by kernel_rfl)) ?_
    refine qG 50 38 (bT q79) (fun wq_ hq_ => eM (.bool (decide ((IntKind.i64.wrap (x1.at_ + 1)) ≥ (x1.s_.length : Int))))) ?_
    by_cases q80 : (IntKind.i64.wrap (x1.at_ + 1)) ≥ (x1.s_.length : Int)
    · replace M := ifp q80 M
      refine qK 50 true (bT q80) ?_
      refine qK 50 true (bT q80) ?_
      refine qK 50 true (bT q80) ?_
      refine qK 50 true (bT q80) ?_
      refine qK 50 true (bT q80) ?_
      refine qK 50 true (bT q80) ?_
      refine qK 50 true (bT q80) ?_
      refine qK 50 true (bT q80) ?_
      refine qK 50 true (bT q80) ?_
      refine qK 50 true (bT q80) ?_
      refine qK 50 true (bT q80) ?_
      refine qG 62 38 (bT q79) (fun wq_ hq_ => eT (.bool true) (bT q80)) ?_
      refine qG 63 38 (bT q79) (fun wq_ hq_ => eM (.bool true)) ?_
      refine qK 63 true (by kernel_rfl) ?_
      refine qK 63 true (by kernel_rfl) ?_
      refine qK 63 true (by kernel_rfl) ?_
      refine qK 63 true (by kernel_rfl) ?_
      refine qK 63 true (by kernel_rfl) ?_
      refine qK 63 true (by kernel_rfl) ?_
      refine qK 63 true (by kernel_rfl) ?_
      refine qK 63 true (by kernel_rfl) ?_
      refine qK 63 true (by kernel_rfl) ?_
      refine qK 63 true (by kernel_rfl) ?_
      refine qK 63 true (by kernel_rfl) ?_
      refine qG 75 38 (bT q79) (fun wq_ hq_ => eT (.bool true)) ?_
      refine qV 76 (fun wq_ hq_ => eT (.bool true) (bT q79)) ?_
      refine qV 35 (fun wq_ hq_ => eA (.bool true)) ?_
      refine wpQuiet_nil ?_
      intro w81 C84
      obtain ⟨S82, K83⟩ := S61.still C84
      replace h6 := h6.move (K83.at 0 rfl)
      replace b3 := K83.blk 1 rfl b3
      refine then_n (cond_t rfl (by kernel_rfl) (wp_region_lit (lV 77 (eM (.pointer (some ⟨g2, 0, none⟩))) (lV 78 (eM (.pointer (some ⟨g2, 0, none⟩))) (lV 79 (eN ⟨g2, 0, none⟩) (lV 80 (eD g2 0 1 1 Try.underlying42) (lV 81 (eL ⟨g2, 0 + 1, none⟩ (.int .i64 x1.at_) Try.underlying3 (blk_cell b3 rfl)) ?_)))))))
      refine lV 82 (eAdd .i64 x1.at_ 1) ?_
      have S85 := S82.pull (F := (is g2)) (Fr := [F7]) 1 rfl rfl
      have S86 := S85.pull (F := F7) (Fr := [(is g2)]) 1 rfl rfl
      obtain ⟨t87, u88, M⟩ := bnd M
      refine lC 83 (eC [.tmp 77, .const (.int .i64 7), .tmp 82, .const (str ([] : List UInt8)), .const (.int .i64 0)] [.pointer (some ⟨g2, 0, none⟩), .int .i64 7, .int .i64 (IntKind.i64.wrap (x1.at_ + 1)), str ([] : List UInt8), .int .i64 0] Try.func42) (impl_lexer_put.calls w81 H x1 g2 A4 c5 F7 7 (IntKind.i64.wrap (x1.at_ + 1)) ([] : List UInt8) 0 h6 b3 (St.own' (Fa := [F7, (is g2)]) (Fr := []) S86) t87 u88) ?_
      rintro _ w89 ⟨A92, c93, F95, H90, rfl, h94, b96, T91⟩
      refine ⟨_, rfl, ?_⟩
      obtain ⟨S97, K98⟩ := St.call (Fa := [F7, (is g2)]) (Fr := []) S86 T91
      have E99 := T91.ext
      refine wpList_nil (inb_n ?_)
      obtain rfl := Option.some.inj M
      exact end0 rfl ⟨A92, c93, F95, H90, rfl, h94, b96, S97⟩
    replace M := ifn q80 M
    refine qG 51 50 (bF q80) (fun wq_ hq_ => eM (.pointer (some ⟨g2, 0, none⟩))) ?_
    refine qG 52 50 (bF q80) (fun wq_ hq_ => eN ⟨g2, 0, none⟩) ?_
    refine qG 53 50 (bF q80) (fun wq_ hq_ => eD g2 0 0 1 Try.underlying42) ?_
    refine qG 54 50 (bF q80) (fun wq_ hq_ => eL ⟨g2, 0 + 0, none⟩ (str x1.s_) Try.underlying9 (blk_cell ((S61.still hq_).2.blk 1 rfl b3) rfl)) ?_
    refine qG 55 50 (bF q80) (fun wq_ hq_ => eM (.pointer (some ⟨g2, 0, none⟩))) ?_
    refine qG 56 50 (bF q80) (fun wq_ hq_ => eN ⟨g2, 0, none⟩) ?_
    refine qG 57 50 (bF q80) (fun wq_ hq_ => eD g2 0 1 1 Try.underlying42) ?_
    refine qG 58 50 (bF q80) (fun wq_ hq_ => eL ⟨g2, 0 + 1, none⟩ (.int .i64 x1.at_) Try.underlying3 (blk_cell ((S61.still hq_).2.blk 1 rfl b3) rfl)) ?_
    refine qG 59 50 (bF q80) (fun wq_ hq_ => eAdd .i64 x1.at_ 1) ?_
    obtain ⟨q100, M⟩ := chk M
    obtain ⟨q101, M⟩ := chk M
    refine qG 60 50 (bF q80) (fun wq_ hq_ => e_sindex (p := x1.s_) (i := (IntKind.i64.wrap (x1.at_ + 1))) (k := .i64) Try.underlying9 (by kernel_rfl) (by kernel_rfl) q100 q101) ?_
    obtain ⟨t102, u103, M⟩ := bnd M
    refine qcallg (v := .bool t102) (d := 61) (t := 50) rfl (by kernel_rfl) rfl (bF q80) rfl (by kernel_rfl) (fun w_ => eC [.tmp 60] [.int .u8 ((x1.s_.getD ((IntKind.i64.wrap (x1.at_ + 1)) : Int).toNat (0 : UInt8)).toNat : Int)] Try.func35) (fun wq_ hq_ => (by obtain ⟨S_, K_⟩ := S61.still hq_; replace h6 := h6.move (K_.at 0 rfl); replace b3 := K_.blk 1 rfl b3; exact (impl_isBlank.calls wq_ H (x1.s_.getD ((IntKind.i64.wrap (x1.at_ + 1)) : Int).toNat (0 : UInt8))  S_.own0 t102 u103))) ?_
    refine qG 62 38 (bT q79) (fun wq_ hq_ => eF (.bool t102) (bF q80)) ?_
    refine qG 63 38 (bT q79) (fun wq_ hq_ => eM (.bool t102)) ?_
    by_cases q104 : t102 = true
    · replace M := ifp q104 M
      refine qK 63 true (bvt q104 (by kernel_rfl)) ?_
      refine qK 63 true (bvt q104 (by kernel_rfl)) ?_
      refine qK 63 true (bvt q104 (by kernel_rfl)) ?_
      refine qK 63 true (bvt q104 (by kernel_rfl)) ?_
      refine qK 63 true (bvt q104 (by kernel_rfl)) ?_
      refine qK 63 true (bvt q104 (by kernel_rfl)) ?_
      refine qK 63 true (bvt q104 (by kernel_rfl)) ?_
      refine qK 63 true (bvt q104 (by kernel_rfl)) ?_
      refine qK 63 true (bvt q104 (by kernel_rfl)) ?_
      refine qK 63 true (bvt q104 (by kernel_rfl)) ?_
      refine qK 63 true (bvt q104 (by kernel_rfl)) ?_
      refine qG 75 38 (bT q79) (fun wq_ hq_ => eT (.bool true) (bvt q104 (by kernel_rfl))) ?_
      refine qV 76 (fun wq_ hq_ => eT (.bool true) (bT q79)) ?_
      refine qV 35 (fun wq_ hq_ => eA (.bool true)) ?_
      refine wpQuiet_nil ?_
      intro w105 C108
      obtain ⟨S106, K107⟩ := S61.still C108
      replace h6 := h6.move (K107.at 0 rfl)
      replace b3 := K107.blk 1 rfl b3
      refine then_n (cond_t rfl (by kernel_rfl) (wp_region_lit (lV 77 (eM (.pointer (some ⟨g2, 0, none⟩))) (lV 78 (eM (.pointer (some ⟨g2, 0, none⟩))) (lV 79 (eN ⟨g2, 0, none⟩) (lV 80 (eD g2 0 1 1 Try.underlying42) (lV 81 (eL ⟨g2, 0 + 1, none⟩ (.int .i64 x1.at_) Try.underlying3 (blk_cell b3 rfl)) ?_)))))))
      refine lV 82 (eAdd .i64 x1.at_ 1) ?_
      have S109 := S106.pull (F := (is g2)) (Fr := [F7]) 1 rfl rfl
      have S110 := S109.pull (F := F7) (Fr := [(is g2)]) 1 rfl rfl
      obtain ⟨t111, u112, M⟩ := bnd M
      refine lC 83 (eC [.tmp 77, .const (.int .i64 7), .tmp 82, .const (str ([] : List UInt8)), .const (.int .i64 0)] [.pointer (some ⟨g2, 0, none⟩), .int .i64 7, .int .i64 (IntKind.i64.wrap (x1.at_ + 1)), str ([] : List UInt8), .int .i64 0] Try.func42) (impl_lexer_put.calls w105 H x1 g2 A4 c5 F7 7 (IntKind.i64.wrap (x1.at_ + 1)) ([] : List UInt8) 0 h6 b3 (St.own' (Fa := [F7, (is g2)]) (Fr := []) S110) t111 u112) ?_
      rintro _ w113 ⟨A116, c117, F119, H114, rfl, h118, b120, T115⟩
      refine ⟨_, rfl, ?_⟩
      obtain ⟨S121, K122⟩ := St.call (Fa := [F7, (is g2)]) (Fr := []) S110 T115
      have E123 := T115.ext
      refine wpList_nil (inb_n ?_)
      obtain rfl := Option.some.inj M
      exact end0 rfl ⟨A116, c117, F119, H114, rfl, h118, b120, S121⟩
    replace M := ifn q104 M
    refine qG 64 63 (bvf q104 (by kernel_rfl)) (fun wq_ hq_ => eM (.pointer (some ⟨g2, 0, none⟩))) ?_
    refine qG 65 63 (bvf q104 (by kernel_rfl)) (fun wq_ hq_ => eN ⟨g2, 0, none⟩) ?_
    refine qG 66 63 (bvf q104 (by kernel_rfl)) (fun wq_ hq_ => eD g2 0 0 1 Try.underlying42) ?_
    refine qG 67 63 (bvf q104 (by kernel_rfl)) (fun wq_ hq_ => eL ⟨g2, 0 + 0, none⟩ (str x1.s_) Try.underlying9 (blk_cell ((S61.still hq_).2.blk 1 rfl b3) rfl)) ?_
    refine qG 68 63 (bvf q104 (by kernel_rfl)) (fun wq_ hq_ => eM (.pointer (some ⟨g2, 0, none⟩))) ?_
    refine qG 69 63 (bvf q104 (by kernel_rfl)) (fun wq_ hq_ => eN ⟨g2, 0, none⟩) ?_
    refine qG 70 63 (bvf q104 (by kernel_rfl)) (fun wq_ hq_ => eD g2 0 1 1 Try.underlying42) ?_
    refine qG 71 63 (bvf q104 (by kernel_rfl)) (fun wq_ hq_ => eL ⟨g2, 0 + 1, none⟩ (.int .i64 x1.at_) Try.underlying3 (blk_cell ((S61.still hq_).2.blk 1 rfl b3) rfl)) ?_
    refine qG 72 63 (bvf q104 (by kernel_rfl)) (fun wq_ hq_ => eAdd .i64 x1.at_ 1) ?_
    refine qG 73 63 (bvf q104 (by kernel_rfl)) (fun wq_ hq_ => e_sindex (p := x1.s_) (i := (IntKind.i64.wrap (x1.at_ + 1))) (k := .i64) Try.underlying9 (by kernel_rfl) (by kernel_rfl) q100 q101) ?_
    refine qG 74 63 (bvf q104 (by kernel_rfl)) (fun wq_ hq_ => eEq .u8 ((x1.s_.getD ((IntKind.i64.wrap (x1.at_ + 1)) : Int).toNat (0 : UInt8)).toNat : Int) 37) ?_
    refine qG 75 38 (bT q79) (fun wq_ hq_ => eF (.bool (decide (((x1.s_.getD ((IntKind.i64.wrap (x1.at_ + 1)) : Int).toNat (0 : UInt8)).toNat : Int) = 37))) (bvf q104 (by kernel_rfl))) ?_
    refine qV 76 (fun wq_ hq_ => eT (.bool (decide (((x1.s_.getD ((IntKind.i64.wrap (x1.at_ + 1)) : Int).toNat (0 : UInt8)).toNat : Int) = 37))) (bT q79)) ?_
    refine qV 35 (fun wq_ hq_ => eA (.bool (decide (((x1.s_.getD ((IntKind.i64.wrap (x1.at_ + 1)) : Int).toNat (0 : UInt8)).toNat : Int) = 37)))) ?_
    refine wpQuiet_nil ?_
    intro w124 C127
    obtain ⟨S125, K126⟩ := S61.still C127
    replace h6 := h6.move (K126.at 0 rfl)
    replace b3 := K126.blk 1 rfl b3
    refine then_n ?_
    by_cases q128 : ((x1.s_.getD ((IntKind.i64.wrap (x1.at_ + 1)) : Int).toNat (0 : UInt8)).toNat : Int) = 37
    · replace M := ifp q128 M
      refine cT (bT q128) (wp_region_lit (lV 77 (eM (.pointer (some ⟨g2, 0, none⟩))) (lV 78 (eM (.pointer (some ⟨g2, 0, none⟩))) (lV 79 (eN ⟨g2, 0, none⟩) (lV 80 (eD g2 0 1 1 Try.underlying42) (lV 81 (eL ⟨g2, 0 + 1, none⟩ (.int .i64 x1.at_) Try.underlying3 (blk_cell b3 rfl)) (lV 82 (eAdd .i64 x1.at_ 1) ?_)))))))
      have S129 := S125.pull (F := (is g2)) (Fr := [F7]) 1 rfl rfl
      have S130 := S129.pull (F := F7) (Fr := [(is g2)]) 1 rfl rfl
      obtain ⟨t131, u132, M⟩ := bnd M
      refine lC 83 (eC [.tmp 77, .const (.int .i64 7), .tmp 82, .const (str ([] : List UInt8)), .const (.int .i64 0)] [.pointer (some ⟨g2, 0, none⟩), .int .i64 7, .int .i64 (IntKind.i64.wrap (x1.at_ + 1)), str ([] : List UInt8), .int .i64 0] Try.func42) (impl_lexer_put.calls w124 H x1 g2 A4 c5 F7 7 (IntKind.i64.wrap (x1.at_ + 1)) ([] : List UInt8) 0 h6 b3 (St.own' (Fa := [F7, (is g2)]) (Fr := []) S130) t131 u132) ?_
      rintro _ w133 ⟨A136, c137, F139, H134, rfl, h138, b140, T135⟩
      refine ⟨_, rfl, ?_⟩
      obtain ⟨S141, K142⟩ := St.call (Fa := [F7, (is g2)]) (Fr := []) S130 T135
      have E143 := T135.ext
      refine wpList_nil (inb_n ?_)
      obtain rfl := Option.some.inj M
      exact end0 rfl ⟨A136, c137, F139, H134, rfl, h138, b140, S141⟩
    replace M := ifn q128 M
    refine cF (bF q128) (wp_seq (wp_region_lit (lV 85 (eM (.int .u8 ((x1.s_.getD (x1.at_ : Int).toNat (0 : UInt8)).toNat : Int))) ?_)))
    obtain ⟨t144, u145, M⟩ := bnd M
    refine lC 86 (eC [.tmp 85] [.int .u8 ((x1.s_.getD (x1.at_ : Int).toNat (0 : UInt8)).toNat : Int)] Try.func29) (impl_isSymbol.calls w124 H (x1.s_.getD (x1.at_ : Int).toNat (0 : UInt8))  S125.own0 t144 u145) ?_
    rintro _ w146 ⟨rfl, C147⟩
    refine ⟨_, rfl, ?_⟩
    obtain ⟨S148, K149⟩ := S125.still C147
    replace h6 := h6.move (K149.at 0 rfl)
    replace b3 := K149.blk 1 rfl b3
    refine lV 84 (eA (.bool t144)) (wpList_nil (then_n ?_))
    by_cases q150 : t144 = true
    · replace M := ifp q150 M
      refine cT (bvt q150 (by kernel_rfl)) (wp_region_lit (lV 87 (eM (.pointer (some ⟨g2, 0, none⟩))) ?_))
      have S151 := S148.pull (F := (is g2)) (Fr := [F7]) 1 rfl rfl
      have S152 := S151.pull (F := F7) (Fr := [(is g2)]) 1 rfl rfl
      obtain ⟨t153, u154, M⟩ := bnd M
      refine lC 88 (eC [.tmp 87, .const (.int .i64 1), .func 29] [.pointer (some ⟨g2, 0, none⟩), .int .i64 1, .func (.func 29) #[] #[]] Try.func38) (impl_lexer_run_2.calls k w146 H x1 g2 A4 c5 F7 1 h6 b3 (St.own' (Fa := [F7, (is g2)]) (Fr := []) S152) t153 u154) ?_
      rintro _ w155 ⟨A158, c159, F161, H156, rfl, h160, b162, T157⟩
      refine ⟨_, rfl, ?_⟩
      obtain ⟨S163, K164⟩ := St.call (Fa := [F7, (is g2)]) (Fr := []) S152 T157
      have E165 := T157.ext
      refine wpList_nil (inb_n ?_)
      obtain rfl := Option.some.inj M
      exact end0 rfl ⟨A158, c159, F161, H156, rfl, h160, b162, S163⟩
    replace M := ifn q150 M
    refine cF (bvf q150 (by kernel_rfl)) (wp_seq (wp_region_lit (lV 90 (eM (.int .u8 ((x1.s_.getD (x1.at_ : Int).toNat (0 : UInt8)).toNat : Int))) (lV 91 (eEq .u8 ((x1.s_.getD (x1.at_ : Int).toNat (0 : UInt8)).toNat : Int) 33) (lV 92 (eM (.bool (decide (((x1.s_.getD (x1.at_ : Int).toNat (0 : UInt8)).toNat : Int) = 33)))) ?_)))))
    by_cases q166 : ((x1.s_.getD (x1.at_ : Int).toNat (0 : UInt8)).toNat : Int) = 33
    · replace M := ifp q166 M
      refine lK 92 true (bT q166) ?_
      refine lK 92 true (bT q166) ?_
      refine lV 95 (eT (.bool true) (bT q166)) (lV 89 (eA (.bool true)) (wpList_nil (then_n (cond_t rfl (by kernel_rfl) (wp_region_lit (lV 96 (eM (.pointer (some ⟨g2, 0, none⟩))) (lV 97 (eM (.pointer (some ⟨g2, 0, none⟩))) ?_)))))))
      refine lV 98 (eN ⟨g2, 0, none⟩) (lV 99 (eD g2 0 1 1 Try.underlying42) (lV 100 (eL ⟨g2, 0 + 1, none⟩ (.int .i64 x1.at_) Try.underlying3 (blk_cell b3 rfl)) (lV 101 (eAdd .i64 x1.at_ 1) (lV 102 (eM (.int .u8 ((x1.s_.getD (x1.at_ : Int).toNat (0 : UInt8)).toNat : Int))) (lV 103 (e_conv_int (k := .u8) (a := ((x1.s_.getD (x1.at_ : Int).toNat (0 : UInt8)).toNat : Int)) (by kernel_rfl) Try.underlying21 (by kernel_rfl)) (lV 104 (e_conv_rs (k := .i32) (a := (IntKind.i32.wrap (((x1.s_.getD (x1.at_ : Int).toNat (0 : UInt8)).toNat : Int)))) Try.underlying21 Try.underlying9 (by kernel_rfl)) ?_))))))
      have S167 := S148.pull (F := (is g2)) (Fr := [F7]) 1 rfl rfl
      have S168 := S167.pull (F := F7) (Fr := [(is g2)]) 1 rfl rfl
      obtain ⟨t169, u170, M⟩ := bnd M
      refine lC 105 (eC [.tmp 96, .const (.int .i64 1), .tmp 101, .tmp 104, .const (.int .i64 0)] [.pointer (some ⟨g2, 0, none⟩), .int .i64 1, .int .i64 (IntKind.i64.wrap (x1.at_ + 1)), str (runeS (IntKind.i32.wrap (((x1.s_.getD (x1.at_ : Int).toNat (0 : UInt8)).toNat : Int)))), .int .i64 0] Try.func42) (impl_lexer_put.calls w146 H x1 g2 A4 c5 F7 1 (IntKind.i64.wrap (x1.at_ + 1)) (runeS (IntKind.i32.wrap (((x1.s_.getD (x1.at_ : Int).toNat (0 : UInt8)).toNat : Int)))) 0 h6 b3 (St.own' (Fa := [F7, (is g2)]) (Fr := []) S168) t169 u170) ?_
      rintro _ w171 ⟨A174, c175, F177, H172, rfl, h176, b178, T173⟩
      refine ⟨_, rfl, ?_⟩
      obtain ⟨S179, K180⟩ := St.call (Fa := [F7, (is g2)]) (Fr := []) S168 T173
      have E181 := T173.ext
      refine wpList_nil (inb_n ?_)
      obtain rfl := Option.some.inj M
      exact end0 rfl ⟨A174, c175, F177, H172, rfl, h176, b178, S179⟩
    replace M := ifn q166 M
    refine lG 93 92 (bF q166) (eM (.int .u8 ((x1.s_.getD (x1.at_ : Int).toNat (0 : UInt8)).toNat : Int))) (lG 94 92 (bF q166) (eEq .u8 ((x1.s_.getD (x1.at_ : Int).toNat (0 : UInt8)).toNat : Int) 59) (lV 95 (eF (.bool (decide (((x1.s_.getD (x1.at_ : Int).toNat (0 : UInt8)).toNat : Int) = 59))) (bF q166)) (lV 89 (eA (.bool (decide (((x1.s_.getD (x1.at_ : Int).toNat (0 : UInt8)).toNat : Int) = 59)))) (wpList_nil (then_n ?_)))))
    by_cases q182 : ((x1.s_.getD (x1.at_ : Int).toNat (0 : UInt8)).toNat : Int) = 59
    · replace M := ifp q182 M
      refine cT (bT q182) (wp_region_lit (lV 96 (eM (.pointer (some ⟨g2, 0, none⟩))) (lV 97 (eM (.pointer (some ⟨g2, 0, none⟩))) (lV 98 (eN ⟨g2, 0, none⟩) (lV 99 (eD g2 0 1 1 Try.underlying42) (lV 100 (eL ⟨g2, 0 + 1, none⟩ (.int .i64 x1.at_) Try.underlying3 (blk_cell b3 rfl)) (lV 101 (eAdd .i64 x1.at_ 1) ?_)))))))
      refine lV 102 (eM (.int .u8 ((x1.s_.getD (x1.at_ : Int).toNat (0 : UInt8)).toNat : Int))) (lV 103 (e_conv_int (k := .u8) (a := ((x1.s_.getD (x1.at_ : Int).toNat (0 : UInt8)).toNat : Int)) (by kernel_rfl) Try.underlying21 (by kernel_rfl)) (lV 104 (e_conv_rs (k := .i32) (a := (IntKind.i32.wrap (((x1.s_.getD (x1.at_ : Int).toNat (0 : UInt8)).toNat : Int)))) Try.underlying21 Try.underlying9 (by kernel_rfl)) ?_))
      have S183 := S148.pull (F := (is g2)) (Fr := [F7]) 1 rfl rfl
      have S184 := S183.pull (F := F7) (Fr := [(is g2)]) 1 rfl rfl
      obtain ⟨t185, u186, M⟩ := bnd M
      refine lC 105 (eC [.tmp 96, .const (.int .i64 1), .tmp 101, .tmp 104, .const (.int .i64 0)] [.pointer (some ⟨g2, 0, none⟩), .int .i64 1, .int .i64 (IntKind.i64.wrap (x1.at_ + 1)), str (runeS (IntKind.i32.wrap (((x1.s_.getD (x1.at_ : Int).toNat (0 : UInt8)).toNat : Int)))), .int .i64 0] Try.func42) (impl_lexer_put.calls w146 H x1 g2 A4 c5 F7 1 (IntKind.i64.wrap (x1.at_ + 1)) (runeS (IntKind.i32.wrap (((x1.s_.getD (x1.at_ : Int).toNat (0 : UInt8)).toNat : Int)))) 0 h6 b3 (St.own' (Fa := [F7, (is g2)]) (Fr := []) S184) t185 u186) ?_
      rintro _ w187 ⟨A190, c191, F193, H188, rfl, h192, b194, T189⟩
      refine ⟨_, rfl, ?_⟩
      obtain ⟨S195, K196⟩ := St.call (Fa := [F7, (is g2)]) (Fr := []) S184 T189
      have E197 := T189.ext
      refine wpList_nil (inb_n ?_)
      obtain rfl := Option.some.inj M
      exact end0 rfl ⟨A190, c191, F193, H188, rfl, h192, b194, S195⟩
    replace M := ifn q182 M
    refine cF (bF q182) (wp_seq (wp_region_lit (lV 107 (eM (.int .u8 ((x1.s_.getD (x1.at_ : Int).toNat (0 : UInt8)).toNat : Int))) (lV 108 (eEq .u8 ((x1.s_.getD (x1.at_ : Int).toNat (0 : UInt8)).toNat : Int) 39) (lV 109 (eM (.bool (decide (((x1.s_.getD (x1.at_ : Int).toNat (0 : UInt8)).toNat : Int) = 39)))) ?_)))))
    by_cases q198 : ((x1.s_.getD (x1.at_ : Int).toNat (0 : UInt8)).toNat : Int) = 39
    · replace M := ifp q198 M
      refine lK 109 true (bT q198) ?_
      refine lK 109 true (bT q198) ?_
      refine lV 112 (eT (.bool true) (bT q198)) (lV 106 (eA (.bool true)) (wpList_nil (then_n (cond_t rfl (by kernel_rfl) (wp_region_lit (lV 113 (eM (.pointer (some ⟨g2, 0, none⟩))) (lV 114 (eM (.int .u8 ((x1.s_.getD (x1.at_ : Int).toNat (0 : UInt8)).toNat : Int))) ?_)))))))
      have S199 := S148.pull (F := (is g2)) (Fr := [F7]) 1 rfl rfl
      have S200 := S199.pull (F := F7) (Fr := [(is g2)]) 1 rfl rfl
      obtain ⟨t201, u202, M⟩ := bnd M
      refine lC 115 (eC [.tmp 113, .tmp 114] [.pointer (some ⟨g2, 0, none⟩), .int .u8 ((x1.s_.getD (x1.at_ : Int).toNat (0 : UInt8)).toNat : Int)] Try.func43) (impl_lexer_quote.calls k w146 H x1 g2 A4 c5 F7 (x1.s_.getD (x1.at_ : Int).toNat (0 : UInt8)) h6 b3 (St.own' (Fa := [F7, (is g2)]) (Fr := []) S200) t201 u202) ?_
      rintro _ w203 ⟨A206, c207, F209, H204, rfl, h208, b210, T205⟩
      refine ⟨_, rfl, ?_⟩
      obtain ⟨S211, K212⟩ := St.call (Fa := [F7, (is g2)]) (Fr := []) S200 T205
      have E213 := T205.ext
      refine wpList_nil (inb_n ?_)
      obtain rfl := Option.some.inj M
      exact end0 rfl ⟨A206, c207, F209, H204, rfl, h208, b210, S211⟩
    replace M := ifn q198 M
    refine lG 110 109 (bF q198) (eM (.int .u8 ((x1.s_.getD (x1.at_ : Int).toNat (0 : UInt8)).toNat : Int))) (lG 111 109 (bF q198) (eEq .u8 ((x1.s_.getD (x1.at_ : Int).toNat (0 : UInt8)).toNat : Int) 34) (lV 112 (eF (.bool (decide (((x1.s_.getD (x1.at_ : Int).toNat (0 : UInt8)).toNat : Int) = 34))) (bF q198)) (lV 106 (eA (.bool (decide (((x1.s_.getD (x1.at_ : Int).toNat (0 : UInt8)).toNat : Int) = 34)))) (wpList_nil (then_n ?_)))))
    by_cases q214 : ((x1.s_.getD (x1.at_ : Int).toNat (0 : UInt8)).toNat : Int) = 34
    · replace M := ifp q214 M
      refine cT (bT q214) (wp_region_lit (lV 113 (eM (.pointer (some ⟨g2, 0, none⟩))) (lV 114 (eM (.int .u8 ((x1.s_.getD (x1.at_ : Int).toNat (0 : UInt8)).toNat : Int))) ?_)))
      have S215 := S148.pull (F := (is g2)) (Fr := [F7]) 1 rfl rfl
      have S216 := S215.pull (F := F7) (Fr := [(is g2)]) 1 rfl rfl
      obtain ⟨t217, u218, M⟩ := bnd M
      refine lC 115 (eC [.tmp 113, .tmp 114] [.pointer (some ⟨g2, 0, none⟩), .int .u8 ((x1.s_.getD (x1.at_ : Int).toNat (0 : UInt8)).toNat : Int)] Try.func43) (impl_lexer_quote.calls k w146 H x1 g2 A4 c5 F7 (x1.s_.getD (x1.at_ : Int).toNat (0 : UInt8)) h6 b3 (St.own' (Fa := [F7, (is g2)]) (Fr := []) S216) t217 u218) ?_
      rintro _ w219 ⟨A222, c223, F225, H220, rfl, h224, b226, T221⟩
      refine ⟨_, rfl, ?_⟩
      obtain ⟨S227, K228⟩ := St.call (Fa := [F7, (is g2)]) (Fr := []) S216 T221
      have E229 := T221.ext
      refine wpList_nil (inb_n ?_)
      obtain rfl := Option.some.inj M
      exact end0 rfl ⟨A222, c223, F225, H220, rfl, h224, b226, S227⟩
    replace M := ifn q214 M
    refine cF (bF q214) (wp_seq (wp_region_lit (lV 117 (eM (.int .u8 ((x1.s_.getD (x1.at_ : Int).toNat (0 : UInt8)).toNat : Int))) (lV 118 (eEq .u8 ((x1.s_.getD (x1.at_ : Int).toNat (0 : UInt8)).toNat : Int) 40) (lV 116 (eA (.bool (decide (((x1.s_.getD (x1.at_ : Int).toNat (0 : UInt8)).toNat : Int) = 40)))) (wpList_nil (then_n ?_)))))))
    by_cases q230 : ((x1.s_.getD (x1.at_ : Int).toNat (0 : UInt8)).toNat : Int) = 40
    · replace M := ifp q230 M
      refine cT (bT q230) (wp_seq (wp_region_lit (lV 3 (eA (.int .i64 5)) (wpList_nil (then_n (wp_seq (wp_seq ?_)))))))
      refine wp_region_lit (lV 119 (eM (.pointer (some ⟨g2, 0, none⟩))) (lV 120 (eN ⟨g2, 0, none⟩) (lV 121 (eD g2 0 2 1 Try.underlying42) (lV 122 (eL ⟨g2, 0 + 2, none⟩ (.slice A4 x1.tokens_.length c5) Try.underlying27 (blk_cell b3 rfl)) (lV 123 (e_len (A := A4) (n := x1.tokens_.length) (c := c5) Try.underlying27 (by kernel_rfl)) (lV 4 (eA (.int .i64 (x1.tokens_.length : Int))) (wpList_nil ?_)))))))
      refine then_n (wp_seq ?_)
      refine region_still (by kernel_rfl) (by kernel_rfl) S148 ?_
      intro w231 S232 K233
      replace h6 := h6.move (K233.at 0 rfl)
      replace b3 := K233.blk 1 rfl b3
      refine sV 124 (eM (.int .i64 (x1.tokens_.length : Int))) (sV 125 (e_gtr (k := .i64) (a := (x1.tokens_.length : Int)) (b := 0) (by kernel_rfl) rfl) (sV 126 (eM (.bool (decide ((x1.tokens_.length : Int) > 0)))) ?_))
      by_cases q234 : (x1.tokens_.length : Int) > 0
      · replace M := ifp q234 M
        refine sG 127 126 (bT q234) (eM (.pointer (some ⟨g2, 0, none⟩))) (sG 128 126 (bT q234) (eN ⟨g2, 0, none⟩) (sG 129 126 (bT q234) (eD g2 0 2 1 Try.underlying42) (sG 130 126 (bT q234) (eL ⟨g2, 0 + 2, none⟩ (.slice A4 x1.tokens_.length c5) Try.underlying27 (blk_cell b3 rfl)) (sG 131 126 (bT q234) (eM (.int .i64 (x1.tokens_.length : Int))) (sG 132 126 (bT q234) (e_sub (k := .i64) (a := (x1.tokens_.length : Int)) (b := 1) (by kernel_rfl) rfl) ?_)))))
        obtain ⟨q235, M⟩ := chk M
        obtain ⟨q236, M⟩ := chk M
        obtain ⟨b237, e239⟩ := Row.addr h6 (show ((IntKind.i64.wrap ((x1.tokens_.length : Int) - 1))).toNat < x1.tokens_.length by omega)
        refine sG 133 126 (bT q234) (eI b237 0 x1.tokens_.length c5 5 (IntKind.i64.wrap ((x1.tokens_.length : Int) - 1)) .i64 Try.underlying27 e239 q235 q236) (sG 134 126 (bT q234) (eD b237 (0 + ((IntKind.i64.wrap ((x1.tokens_.length : Int) - 1)) : Int).toNat * 5) 0 1 Try.underlying37) (sG 135 126 (bT q234) (eL ⟨b237, 0 + ((IntKind.i64.wrap ((x1.tokens_.length : Int) - 1)) : Int).toNat * 5 + 0, none⟩ (.int .i64 ((x1.tokens_.getD (((IntKind.i64.wrap ((x1.tokens_.length : Int) - 1))).toNat) z37).kind)) Try.underlying3 (hpx (Row.pick (j := 0) (u := .int .i64 ((x1.tokens_.getD (((IntKind.i64.wrap ((x1.tokens_.length : Int) - 1))).toNat) z37).kind)) h6 e239 (getD_some z37 (show ((IntKind.i64.wrap ((x1.tokens_.length : Int) - 1))).toNat < x1.tokens_.length by omega)) (fun _ _ o_ => st37_c0 o_)))) (sG 136 126 (bT q234) (eEq .i64 (x1.tokens_.getD (((IntKind.i64.wrap ((x1.tokens_.length : Int) - 1))).toNat) z37).kind 1) (sV 137 (eT (.bool (decide (((x1.tokens_.getD (((IntKind.i64.wrap ((x1.tokens_.length : Int) - 1))).toNat) z37).kind) = 1))) (bT q234)) (sV 138 (eM (.bool (decide (((x1.tokens_.getD (((IntKind.i64.wrap ((x1.tokens_.length : Int) - 1))).toNat) z37).kind) = 1)))) ?_)))))
        by_cases q240 : ((x1.tokens_.getD (((IntKind.i64.wrap ((x1.tokens_.length : Int) - 1))).toNat) z37).kind) = 1
        · replace M := ifp q240 M
          refine sG 139 138 (bT q240) (eM (.pointer (some ⟨g2, 0, none⟩))) (sG 140 138 (bT q240) (eN ⟨g2, 0, none⟩) (sG 141 138 (bT q240) (eD g2 0 2 1 Try.underlying42) (sG 142 138 (bT q240) (eL ⟨g2, 0 + 2, none⟩ (.slice A4 x1.tokens_.length c5) Try.underlying27 (blk_cell b3 rfl)) (sG 143 138 (bT q240) (eM (.int .i64 (x1.tokens_.length : Int))) (sG 144 138 (bT q240) (e_sub (k := .i64) (a := (x1.tokens_.length : Int)) (b := 1) (by kernel_rfl) rfl) ?_)))))
          obtain ⟨b241, e243⟩ := Row.addr h6 (show ((IntKind.i64.wrap ((x1.tokens_.length : Int) - 1))).toNat < x1.tokens_.length by omega)
          refine sG 145 138 (bT q240) (eI b241 0 x1.tokens_.length c5 5 (IntKind.i64.wrap ((x1.tokens_.length : Int) - 1)) .i64 Try.underlying27 e243 q235 q236) (sG 146 138 (bT q240) (eD b241 (0 + ((IntKind.i64.wrap ((x1.tokens_.length : Int) - 1)) : Int).toNat * 5) 1 1 Try.underlying37) (sG 147 138 (bT q240) (eL ⟨b241, 0 + ((IntKind.i64.wrap ((x1.tokens_.length : Int) - 1)) : Int).toNat * 5 + 1, none⟩ (.int .i64 ((x1.tokens_.getD (((IntKind.i64.wrap ((x1.tokens_.length : Int) - 1))).toNat) z37).place)) Try.underlying3 (hpx (Row.pick (j := 1) (u := .int .i64 ((x1.tokens_.getD (((IntKind.i64.wrap ((x1.tokens_.length : Int) - 1))).toNat) z37).place)) h6 e243 (getD_some z37 (show ((IntKind.i64.wrap ((x1.tokens_.length : Int) - 1))).toNat < x1.tokens_.length by omega)) (fun _ _ o_ => st37_c1 o_)))) (sG 148 138 (bT q240) (eM (.pointer (some ⟨g2, 0, none⟩))) (sG 149 138 (bT q240) (eN ⟨g2, 0, none⟩) (sG 150 138 (bT q240) (eD g2 0 2 1 Try.underlying42) (sG 151 138 (bT q240) (eL ⟨g2, 0 + 2, none⟩ (.slice A4 x1.tokens_.length c5) Try.underlying27 (blk_cell b3 rfl)) (sG 152 138 (bT q240) (eM (.int .i64 (x1.tokens_.length : Int))) ?_)))))))
          refine sG 153 138 (bT q240) (e_sub (k := .i64) (a := (x1.tokens_.length : Int)) (b := 1) (by kernel_rfl) rfl) ?_
          obtain ⟨b244, e246⟩ := Row.addr h6 (show ((IntKind.i64.wrap ((x1.tokens_.length : Int) - 1))).toNat < x1.tokens_.length by omega)
          refine sG 154 138 (bT q240) (eI b244 0 x1.tokens_.length c5 5 (IntKind.i64.wrap ((x1.tokens_.length : Int) - 1)) .i64 Try.underlying27 e246 q235 q236) (sG 155 138 (bT q240) (eD b244 (0 + ((IntKind.i64.wrap ((x1.tokens_.length : Int) - 1)) : Int).toNat * 5) 2 1 Try.underlying37) (sG 156 138 (bT q240) (eL ⟨b244, 0 + ((IntKind.i64.wrap ((x1.tokens_.length : Int) - 1)) : Int).toNat * 5 + 2, none⟩ (.int .i64 ((x1.tokens_.getD (((IntKind.i64.wrap ((x1.tokens_.length : Int) - 1))).toNat) z37).size)) Try.underlying3 (hpx (Row.pick (j := 2) (u := .int .i64 ((x1.tokens_.getD (((IntKind.i64.wrap ((x1.tokens_.length : Int) - 1))).toNat) z37).size)) h6 e246 (getD_some z37 (show ((IntKind.i64.wrap ((x1.tokens_.length : Int) - 1))).toNat < x1.tokens_.length by omega)) (fun _ _ o_ => st37_c2 o_)))) (sG 157 138 (bT q240) (eAdd .i64 (x1.tokens_.getD (((IntKind.i64.wrap ((x1.tokens_.length : Int) - 1))).toNat) z37).place (x1.tokens_.getD (((IntKind.i64.wrap ((x1.tokens_.length : Int) - 1))).toNat) z37).size) (sG 158 138 (bT q240) (eM (.pointer (some ⟨g2, 0, none⟩))) (sG 159 138 (bT q240) (eN ⟨g2, 0, none⟩) (sG 160 138 (bT q240) (eD g2 0 1 1 Try.underlying42) (sG 161 138 (bT q240) (eL ⟨g2, 0 + 1, none⟩ (.int .i64 x1.at_) Try.underlying3 (blk_cell b3 rfl)) ?_)))))))
          refine sG 162 138 (bT q240) (eEq .i64 (IntKind.i64.wrap (((x1.tokens_.getD (((IntKind.i64.wrap ((x1.tokens_.length : Int) - 1))).toNat) z37).place) + ((x1.tokens_.getD (((IntKind.i64.wrap ((x1.tokens_.length : Int) - 1))).toNat) z37).size))) x1.at_) (sV 163 (eT (.bool (decide ((IntKind.i64.wrap (((x1.tokens_.getD (((IntKind.i64.wrap ((x1.tokens_.length : Int) - 1))).toNat) z37).place) + ((x1.tokens_.getD (((IntKind.i64.wrap ((x1.tokens_.length : Int) - 1))).toNat) z37).size))) = x1.at_))) (bT q240)) (wpStill_nil (then_n ?_)))
          by_cases q247 : (IntKind.i64.wrap (((x1.tokens_.getD (((IntKind.i64.wrap ((x1.tokens_.length : Int) - 1))).toNat) z37).place) + ((x1.tokens_.getD (((IntKind.i64.wrap ((x1.tokens_.length : Int) - 1))).toNat) z37).size))) = x1.at_
          · replace M := ifp q247 M
            refine cT (bT q247) (wp_region_lit (lV 3 (eA (.int .i64 6)) (wpList_nil (then_n (wp_region_lit (lV 164 (eM (.pointer (some ⟨g2, 0, none⟩))) (lV 165 (eM (.int .i64 6)) ?_)))))))
            refine lV 166 (eM (.pointer (some ⟨g2, 0, none⟩))) (lV 167 (eN ⟨g2, 0, none⟩) (lV 168 (eD g2 0 1 1 Try.underlying42) (lV 169 (eL ⟨g2, 0 + 1, none⟩ (.int .i64 x1.at_) Try.underlying3 (blk_cell b3 rfl)) (lV 170 (eAdd .i64 x1.at_ 1) ?_))))
            have S248 := S232.pull (F := (is g2)) (Fr := [F7]) 1 rfl rfl
            have S249 := S248.pull (F := F7) (Fr := [(is g2)]) 1 rfl rfl
            obtain ⟨t250, u251, M⟩ := bnd M
            refine lC 171 (eC [.tmp 164, .tmp 165, .tmp 170, .const (str ([40] : List UInt8)), .const (.int .i64 0)] [.pointer (some ⟨g2, 0, none⟩), .int .i64 6, .int .i64 (IntKind.i64.wrap (x1.at_ + 1)), str ([40] : List UInt8), .int .i64 0] Try.func42) (impl_lexer_put.calls w231 H x1 g2 A4 c5 F7 6 (IntKind.i64.wrap (x1.at_ + 1)) ([40] : List UInt8) 0 h6 b3 (St.own' (Fa := [F7, (is g2)]) (Fr := []) S249) t250 u251) ?_
            rintro _ w252 ⟨A255, c256, F258, H253, rfl, h257, b259, T254⟩
            refine ⟨_, rfl, ?_⟩
            obtain ⟨S260, K261⟩ := St.call (Fa := [F7, (is g2)]) (Fr := []) S249 T254
            have E262 := T254.ext
            refine wpList_nil (inb_n ?_)
            obtain rfl := Option.some.inj M
            exact end0 rfl ⟨A255, c256, F258, H253, rfl, h257, b259, S260⟩
          replace M := ifn q247 M
          refine cF (bF q247) (wp_skip (then_n (wp_region_lit (lV 164 (eM (.pointer (some ⟨g2, 0, none⟩))) (lV 165 (eM (.int .i64 5)) (lV 166 (eM (.pointer (some ⟨g2, 0, none⟩))) (lV 167 (eN ⟨g2, 0, none⟩) ?_)))))))
          refine lV 168 (eD g2 0 1 1 Try.underlying42) (lV 169 (eL ⟨g2, 0 + 1, none⟩ (.int .i64 x1.at_) Try.underlying3 (blk_cell b3 rfl)) (lV 170 (eAdd .i64 x1.at_ 1) ?_))
          have S263 := S232.pull (F := (is g2)) (Fr := [F7]) 1 rfl rfl
          have S264 := S263.pull (F := F7) (Fr := [(is g2)]) 1 rfl rfl
          obtain ⟨t265, u266, M⟩ := bnd M
          refine lC 171 (eC [.tmp 164, .tmp 165, .tmp 170, .const (str ([40] : List UInt8)), .const (.int .i64 0)] [.pointer (some ⟨g2, 0, none⟩), .int .i64 5, .int .i64 (IntKind.i64.wrap (x1.at_ + 1)), str ([40] : List UInt8), .int .i64 0] Try.func42) (impl_lexer_put.calls w231 H x1 g2 A4 c5 F7 5 (IntKind.i64.wrap (x1.at_ + 1)) ([40] : List UInt8) 0 h6 b3 (St.own' (Fa := [F7, (is g2)]) (Fr := []) S264) t265 u266) ?_
          rintro _ w267 ⟨A270, c271, F273, H268, rfl, h272, b274, T269⟩
          refine ⟨_, rfl, ?_⟩
          obtain ⟨S275, K276⟩ := St.call (Fa := [F7, (is g2)]) (Fr := []) S264 T269
          have E277 := T269.ext
          refine wpList_nil (inb_n ?_)
          obtain rfl := Option.some.inj M
          exact end0 rfl ⟨A270, c271, F273, H268, rfl, h272, b274, S275⟩
        replace M := ifn q240 M
        refine sK 138 false (bF q240) ?_
        refine sK 138 false (bF q240) ?_
        refine sK 138 false (bF q240) ?_
        refine sK 138 false (bF q240) ?_
        refine sK 138 false (bF q240) ?_
        refine sK 138 false (bF q240) ?_
        refine sK 138 false (bF q240) ?_
        refine sK 138 false (bF q240) ?_
        refine sK 138 false (bF q240) ?_
        refine sK 138 false (bF q240) ?_
        refine sK 138 false (bF q240) ?_
        refine sK 138 false (bF q240) ?_
        refine sK 138 false (bF q240) ?_
        refine sK 138 false (bF q240) ?_
        refine sK 138 false (bF q240) ?_
        refine sK 138 false (bF q240) ?_
        refine sK 138 false (bF q240) ?_
        refine sK 138 false (bF q240) ?_
        refine sK 138 false (bF q240) ?_
        refine sK 138 false (bF q240) ?_
        refine sK 138 false (bF q240) ?_
        refine sK 138 false (bF q240) ?_
        refine sK 138 false (bF q240) ?_
        refine sK 138 false (bF q240) ?_
        refine sV 163 (eF (.bool false) (bF q240)) (wpStill_nil (then_n (cond_f rfl (by kernel_rfl) (wp_skip (then_n (wp_region_lit (lV 164 (eM (.pointer (some ⟨g2, 0, none⟩))) ?_)))))))
        refine lV 165 (eM (.int .i64 5)) (lV 166 (eM (.pointer (some ⟨g2, 0, none⟩))) (lV 167 (eN ⟨g2, 0, none⟩) (lV 168 (eD g2 0 1 1 Try.underlying42) (lV 169 (eL ⟨g2, 0 + 1, none⟩ (.int .i64 x1.at_) Try.underlying3 (blk_cell b3 rfl)) (lV 170 (eAdd .i64 x1.at_ 1) ?_)))))
        have S278 := S232.pull (F := (is g2)) (Fr := [F7]) 1 rfl rfl
        have S279 := S278.pull (F := F7) (Fr := [(is g2)]) 1 rfl rfl
        obtain ⟨t280, u281, M⟩ := bnd M
        refine lC 171 (eC [.tmp 164, .tmp 165, .tmp 170, .const (str ([40] : List UInt8)), .const (.int .i64 0)] [.pointer (some ⟨g2, 0, none⟩), .int .i64 5, .int .i64 (IntKind.i64.wrap (x1.at_ + 1)), str ([40] : List UInt8), .int .i64 0] Try.func42) (impl_lexer_put.calls w231 H x1 g2 A4 c5 F7 5 (IntKind.i64.wrap (x1.at_ + 1)) ([40] : List UInt8) 0 h6 b3 (St.own' (Fa := [F7, (is g2)]) (Fr := []) S279) t280 u281) ?_
        rintro _ w282 ⟨A285, c286, F288, H283, rfl, h287, b289, T284⟩
        refine ⟨_, rfl, ?_⟩
        obtain ⟨S290, K291⟩ := St.call (Fa := [F7, (is g2)]) (Fr := []) S279 T284
        have E292 := T284.ext
        refine wpList_nil (inb_n ?_)
        obtain rfl := Option.some.inj M
        exact end0 rfl ⟨A285, c286, F288, H283, rfl, h287, b289, S290⟩
      replace M := ifn q234 M
      refine sK 126 false (bF q234) ?_
      refine sK 126 false (bF q234) ?_
      refine sK 126 false (bF q234) ?_
      refine sK 126 false (bF q234) ?_
      refine sK 126 false (bF q234) ?_
      refine sK 126 false (bF q234) ?_
      refine sK 126 false (bF q234) ?_
      refine sK 126 false (bF q234) ?_
      refine sK 126 false (bF q234) ?_
      refine sK 126 false (bF q234) ?_
      refine sV 137 (eF (.bool false) (bF q234)) (sV 138 (eM (.bool false)) ?_)
      refine sK 138 false (by kernel_rfl) ?_
      refine sK 138 false (by kernel_rfl) ?_
      refine sK 138 false (by kernel_rfl) ?_
      refine sK 138 false (by kernel_rfl) ?_
      refine sK 138 false (by kernel_rfl) ?_
      refine sK 138 false (by kernel_rfl) ?_
      refine sK 138 false (by kernel_rfl) ?_
      refine sK 138 false (by kernel_rfl) ?_
      refine sK 138 false (by kernel_rfl) ?_
      refine sK 138 false (by kernel_rfl) ?_
      refine sK 138 false (by kernel_rfl) ?_
      refine sK 138 false (by kernel_rfl) ?_
      refine sK 138 false (by kernel_rfl) ?_
      refine sK 138 false (by kernel_rfl) ?_
      refine sK 138 false (by kernel_rfl) ?_
      refine sK 138 false (by kernel_rfl) ?_
      refine sK 138 false (by kernel_rfl) ?_
      refine sK 138 false (by kernel_rfl) ?_
      refine sK 138 false (by kernel_rfl) ?_
      refine sK 138 false (by kernel_rfl) ?_
      refine sK 138 false (by kernel_rfl) ?_
      refine sK 138 false (by kernel_rfl) ?_
      refine sK 138 false (by kernel_rfl) ?_
      refine sK 138 false (by kernel_rfl) ?_
      refine sV 163 (eF (.bool false)) (wpStill_nil (then_n (cond_f rfl (by kernel_rfl) (wp_skip (then_n (wp_region_lit (lV 164 (eM (.pointer (some ⟨g2, 0, none⟩))) ?_)))))))
      refine lV 165 (eM (.int .i64 5)) (lV 166 (eM (.pointer (some ⟨g2, 0, none⟩))) (lV 167 (eN ⟨g2, 0, none⟩) (lV 168 (eD g2 0 1 1 Try.underlying42) (lV 169 (eL ⟨g2, 0 + 1, none⟩ (.int .i64 x1.at_) Try.underlying3 (blk_cell b3 rfl)) (lV 170 (eAdd .i64 x1.at_ 1) ?_)))))
      have S293 := S232.pull (F := (is g2)) (Fr := [F7]) 1 rfl rfl
      have S294 := S293.pull (F := F7) (Fr := [(is g2)]) 1 rfl rfl
      obtain ⟨t295, u296, M⟩ := bnd M
      refine lC 171 (eC [.tmp 164, .tmp 165, .tmp 170, .const (str ([40] : List UInt8)), .const (.int .i64 0)] [.pointer (some ⟨g2, 0, none⟩), .int .i64 5, .int .i64 (IntKind.i64.wrap (x1.at_ + 1)), str ([40] : List UInt8), .int .i64 0] Try.func42) (impl_lexer_put.calls w231 H x1 g2 A4 c5 F7 5 (IntKind.i64.wrap (x1.at_ + 1)) ([40] : List UInt8) 0 h6 b3 (St.own' (Fa := [F7, (is g2)]) (Fr := []) S294) t295 u296) ?_
      rintro _ w297 ⟨A300, c301, F303, H298, rfl, h302, b304, T299⟩
      refine ⟨_, rfl, ?_⟩
      obtain ⟨S305, K306⟩ := St.call (Fa := [F7, (is g2)]) (Fr := []) S294 T299
      have E307 := T299.ext
      refine wpList_nil (inb_n ?_)
      obtain rfl := Option.some.inj M
      exact end0 rfl ⟨A300, c301, F303, H298, rfl, h302, b304, S305⟩
    replace M := ifn q230 M
    refine cF (bF q230) (wp_seq (wp_region_lit (lV 173 (eM (.int .u8 ((x1.s_.getD (x1.at_ : Int).toNat (0 : UInt8)).toNat : Int))) (lV 174 (eEq .u8 ((x1.s_.getD (x1.at_ : Int).toNat (0 : UInt8)).toNat : Int) 41) (lV 175 (eM (.bool (decide (((x1.s_.getD (x1.at_ : Int).toNat (0 : UInt8)).toNat : Int) = 41)))) ?_)))))
    by_cases q308 : ((x1.s_.getD (x1.at_ : Int).toNat (0 : UInt8)).toNat : Int) = 41
    · replace M := ifp q308 M
      refine lK 175 true (bT q308) ?_
      refine lK 175 true (bT q308) ?_
      refine lV 178 (eT (.bool true) (bT q308)) (lV 179 (eM (.bool true)) ?_)
      refine lJ 179 true ?_
      refine lJ 179 true ?_
      refine lV 182 (eT (.bool true)) (lV 183 (eM (.bool true)) ?_)
      refine lJ 183 true ?_
      refine lJ 183 true ?_
      refine lV 186 (eT (.bool true)) (lV 187 (eM (.bool true)) ?_)
      refine lJ 187 true ?_
      refine lJ 187 true ?_
      refine lV 190 (eT (.bool true)) (lV 191 (eM (.bool true)) ?_)
      refine lJ 191 true ?_
      refine lJ 191 true ?_
      refine lV 194 (eT (.bool true)) (lV 195 (eM (.bool true)) ?_)
      refine lJ 195 true ?_
      refine lJ 195 true ?_
      refine lV 198 (eT (.bool true)) (lV 172 (eA (.bool true)) (wpList_nil (then_n (cond_t rfl (by kernel_rfl) (wp_region_lit (lV 199 (eM (.pointer (some ⟨g2, 0, none⟩))) (lV 200 (eM (.pointer (some ⟨g2, 0, none⟩))) ?_)))))))
      refine lV 201 (eN ⟨g2, 0, none⟩) (lV 202 (eD g2 0 1 1 Try.underlying42) (lV 203 (eL ⟨g2, 0 + 1, none⟩ (.int .i64 x1.at_) Try.underlying3 (blk_cell b3 rfl)) (lV 204 (eAdd .i64 x1.at_ 1) (lV 205 (eM (.int .u8 ((x1.s_.getD (x1.at_ : Int).toNat (0 : UInt8)).toNat : Int))) (lV 206 (e_conv_int (k := .u8) (a := ((x1.s_.getD (x1.at_ : Int).toNat (0 : UInt8)).toNat : Int)) (by kernel_rfl) Try.underlying21 (by kernel_rfl)) (lV 207 (e_conv_rs (k := .i32) (a := (IntKind.i32.wrap (((x1.s_.getD (x1.at_ : Int).toNat (0 : UInt8)).toNat : Int)))) Try.underlying21 Try.underlying9 (by kernel_rfl)) ?_))))))
      have S309 := S148.pull (F := (is g2)) (Fr := [F7]) 1 rfl rfl
      have S310 := S309.pull (F := F7) (Fr := [(is g2)]) 1 rfl rfl
      obtain ⟨t311, u312, M⟩ := bnd M
      refine lC 208 (eC [.tmp 199, .const (.int .i64 5), .tmp 204, .tmp 207, .const (.int .i64 0)] [.pointer (some ⟨g2, 0, none⟩), .int .i64 5, .int .i64 (IntKind.i64.wrap (x1.at_ + 1)), str (runeS (IntKind.i32.wrap (((x1.s_.getD (x1.at_ : Int).toNat (0 : UInt8)).toNat : Int)))), .int .i64 0] Try.func42) (impl_lexer_put.calls w146 H x1 g2 A4 c5 F7 5 (IntKind.i64.wrap (x1.at_ + 1)) (runeS (IntKind.i32.wrap (((x1.s_.getD (x1.at_ : Int).toNat (0 : UInt8)).toNat : Int)))) 0 h6 b3 (St.own' (Fa := [F7, (is g2)]) (Fr := []) S310) t311 u312) ?_
      rintro _ w313 ⟨A316, c317, F319, H314, rfl, h318, b320, T315⟩
      refine ⟨_, rfl, ?_⟩
      obtain ⟨S321, K322⟩ := St.call (Fa := [F7, (is g2)]) (Fr := []) S310 T315
      have E323 := T315.ext
      refine wpList_nil (inb_n ?_)
      obtain rfl := Option.some.inj M
      exact end0 rfl ⟨A316, c317, F319, H314, rfl, h318, b320, S321⟩
    replace M := ifn q308 M
    refine lG 176 175 (bF q308) (eM (.int .u8 ((x1.s_.getD (x1.at_ : Int).toNat (0 : UInt8)).toNat : Int))) (lG 177 175 (bF q308) (eEq .u8 ((x1.s_.getD (x1.at_ : Int).toNat (0 : UInt8)).toNat : Int) 91) (lV 178 (eF (.bool (decide (((x1.s_.getD (x1.at_ : Int).toNat (0 : UInt8)).toNat : Int) = 91))) (bF q308)) (lV 179 (eM (.bool (decide (((x1.s_.getD (x1.at_ : Int).toNat (0 : UInt8)).toNat : Int) = 91)))) ?_)))
    by_cases q324 : ((x1.s_.getD (x1.at_ : Int).toNat (0 : UInt8)).toNat : Int) = 91
    · replace M := ifp q324 M
      refine lK 179 true (bT q324) ?_
      refine lK 179 true (bT q324) ?_
      refine lV 182 (eT (.bool true) (bT q324)) (lV 183 (eM (.bool true)) ?_)
      refine lJ 183 true ?_
      refine lJ 183 true ?_
      refine lV 186 (eT (.bool true)) (lV 187 (eM (.bool true)) ?_)
      refine lJ 187 true ?_
      refine lJ 187 true ?_
      refine lV 190 (eT (.bool true)) (lV 191 (eM (.bool true)) ?_)
      refine lJ 191 true ?_
      refine lJ 191 true ?_
      refine lV 194 (eT (.bool true)) (lV 195 (eM (.bool true)) ?_)
      refine lJ 195 true ?_
      refine lJ 195 true ?_
      refine lV 198 (eT (.bool true)) (lV 172 (eA (.bool true)) (wpList_nil (then_n (cond_t rfl (by kernel_rfl) (wp_region_lit (lV 199 (eM (.pointer (some ⟨g2, 0, none⟩))) (lV 200 (eM (.pointer (some ⟨g2, 0, none⟩))) ?_)))))))
      refine lV 201 (eN ⟨g2, 0, none⟩) (lV 202 (eD g2 0 1 1 Try.underlying42) (lV 203 (eL ⟨g2, 0 + 1, none⟩ (.int .i64 x1.at_) Try.underlying3 (blk_cell b3 rfl)) (lV 204 (eAdd .i64 x1.at_ 1) (lV 205 (eM (.int .u8 ((x1.s_.getD (x1.at_ : Int).toNat (0 : UInt8)).toNat : Int))) (lV 206 (e_conv_int (k := .u8) (a := ((x1.s_.getD (x1.at_ : Int).toNat (0 : UInt8)).toNat : Int)) (by kernel_rfl) Try.underlying21 (by kernel_rfl)) (lV 207 (e_conv_rs (k := .i32) (a := (IntKind.i32.wrap (((x1.s_.getD (x1.at_ : Int).toNat (0 : UInt8)).toNat : Int)))) Try.underlying21 Try.underlying9 (by kernel_rfl)) ?_))))))
      have S325 := S148.pull (F := (is g2)) (Fr := [F7]) 1 rfl rfl
      have S326 := S325.pull (F := F7) (Fr := [(is g2)]) 1 rfl rfl
      obtain ⟨t327, u328, M⟩ := bnd M
      refine lC 208 (eC [.tmp 199, .const (.int .i64 5), .tmp 204, .tmp 207, .const (.int .i64 0)] [.pointer (some ⟨g2, 0, none⟩), .int .i64 5, .int .i64 (IntKind.i64.wrap (x1.at_ + 1)), str (runeS (IntKind.i32.wrap (((x1.s_.getD (x1.at_ : Int).toNat (0 : UInt8)).toNat : Int)))), .int .i64 0] Try.func42) (impl_lexer_put.calls w146 H x1 g2 A4 c5 F7 5 (IntKind.i64.wrap (x1.at_ + 1)) (runeS (IntKind.i32.wrap (((x1.s_.getD (x1.at_ : Int).toNat (0 : UInt8)).toNat : Int)))) 0 h6 b3 (St.own' (Fa := [F7, (is g2)]) (Fr := []) S326) t327 u328) ?_
      rintro _ w329 ⟨A332, c333, F335, H330, rfl, h334, b336, T331⟩
      refine ⟨_, rfl, ?_⟩
      obtain ⟨S337, K338⟩ := St.call (Fa := [F7, (is g2)]) (Fr := []) S326 T331
      have E339 := T331.ext
      refine wpList_nil (inb_n ?_)
      obtain rfl := Option.some.inj M
      exact end0 rfl ⟨A332, c333, F335, H330, rfl, h334, b336, S337⟩
    replace M := ifn q324 M
    refine lG 180 179 (bF q324) (eM (.int .u8 ((x1.s_.getD (x1.at_ : Int).toNat (0 : UInt8)).toNat : Int))) (lG 181 179 (bF q324) (eEq .u8 ((x1.s_.getD (x1.at_ : Int).toNat (0 : UInt8)).toNat : Int) 93) (lV 182 (eF (.bool (decide (((x1.s_.getD (x1.at_ : Int).toNat (0 : UInt8)).toNat : Int) = 93))) (bF q324)) (lV 183 (eM (.bool (decide (((x1.s_.getD (x1.at_ : Int).toNat (0 : UInt8)).toNat : Int) = 93)))) ?_)))
    by_cases q340 : ((x1.s_.getD (x1.at_ : Int).toNat (0 : UInt8)).toNat : Int) = 93
    · replace M := ifp q340 M
      refine lK 183 true (bT q340) ?_
      refine lK 183 true (bT q340) ?_
      refine lV 186 (eT (.bool true) (bT q340)) (lV 187 (eM (.bool true)) ?_)
      refine lJ 187 true ?_
      refine lJ 187 true ?_
      refine lV 190 (eT (.bool true)) (lV 191 (eM (.bool true)) ?_)
      refine lJ 191 true ?_
      refine lJ 191 true ?_
      refine lV 194 (eT (.bool true)) (lV 195 (eM (.bool true)) ?_)
      refine lJ 195 true ?_
      refine lJ 195 true ?_
      refine lV 198 (eT (.bool true)) (lV 172 (eA (.bool true)) (wpList_nil (then_n (cond_t rfl (by kernel_rfl) (wp_region_lit (lV 199 (eM (.pointer (some ⟨g2, 0, none⟩))) (lV 200 (eM (.pointer (some ⟨g2, 0, none⟩))) ?_)))))))
      refine lV 201 (eN ⟨g2, 0, none⟩) (lV 202 (eD g2 0 1 1 Try.underlying42) (lV 203 (eL ⟨g2, 0 + 1, none⟩ (.int .i64 x1.at_) Try.underlying3 (blk_cell b3 rfl)) (lV 204 (eAdd .i64 x1.at_ 1) (lV 205 (eM (.int .u8 ((x1.s_.getD (x1.at_ : Int).toNat (0 : UInt8)).toNat : Int))) (lV 206 (e_conv_int (k := .u8) (a := ((x1.s_.getD (x1.at_ : Int).toNat (0 : UInt8)).toNat : Int)) (by kernel_rfl) Try.underlying21 (by kernel_rfl)) (lV 207 (e_conv_rs (k := .i32) (a := (IntKind.i32.wrap (((x1.s_.getD (x1.at_ : Int).toNat (0 : UInt8)).toNat : Int)))) Try.underlying21 Try.underlying9 (by kernel_rfl)) ?_))))))
      have S341 := S148.pull (F := (is g2)) (Fr := [F7]) 1 rfl rfl
      have S342 := S341.pull (F := F7) (Fr := [(is g2)]) 1 rfl rfl
      obtain ⟨t343, u344, M⟩ := bnd M
      refine lC 208 (eC [.tmp 199, .const (.int .i64 5), .tmp 204, .tmp 207, .const (.int .i64 0)] [.pointer (some ⟨g2, 0, none⟩), .int .i64 5, .int .i64 (IntKind.i64.wrap (x1.at_ + 1)), str (runeS (IntKind.i32.wrap (((x1.s_.getD (x1.at_ : Int).toNat (0 : UInt8)).toNat : Int)))), .int .i64 0] Try.func42) (impl_lexer_put.calls w146 H x1 g2 A4 c5 F7 5 (IntKind.i64.wrap (x1.at_ + 1)) (runeS (IntKind.i32.wrap (((x1.s_.getD (x1.at_ : Int).toNat (0 : UInt8)).toNat : Int)))) 0 h6 b3 (St.own' (Fa := [F7, (is g2)]) (Fr := []) S342) t343 u344) ?_
      rintro _ w345 ⟨A348, c349, F351, H346, rfl, h350, b352, T347⟩
      refine ⟨_, rfl, ?_⟩
      obtain ⟨S353, K354⟩ := St.call (Fa := [F7, (is g2)]) (Fr := []) S342 T347
      have E355 := T347.ext
      refine wpList_nil (inb_n ?_)
      obtain rfl := Option.some.inj M
      exact end0 rfl ⟨A348, c349, F351, H346, rfl, h350, b352, S353⟩
    replace M := ifn q340 M
    refine lG 184 183 (bF q340) (eM (.int .u8 ((x1.s_.getD (x1.at_ : Int).toNat (0 : UInt8)).toNat : Int))) (lG 185 183 (bF q340) (eEq .u8 ((x1.s_.getD (x1.at_ : Int).toNat (0 : UInt8)).toNat : Int) 123) (lV 186 (eF (.bool (decide (((x1.s_.getD (x1.at_ : Int).toNat (0 : UInt8)).toNat : Int) = 123))) (bF q340)) (lV 187 (eM (.bool (decide (((x1.s_.getD (x1.at_ : Int).toNat (0 : UInt8)).toNat : Int) = 123)))) ?_)))
    by_cases q356 : ((x1.s_.getD (x1.at_ : Int).toNat (0 : UInt8)).toNat : Int) = 123
    · replace M := ifp q356 M
      refine lK 187 true (bT q356) ?_
      refine lK 187 true (bT q356) ?_
      refine lV 190 (eT (.bool true) (bT q356)) (lV 191 (eM (.bool true)) ?_)
      refine lJ 191 true ?_
      refine lJ 191 true ?_
      refine lV 194 (eT (.bool true)) (lV 195 (eM (.bool true)) ?_)
      refine lJ 195 true ?_
      refine lJ 195 true ?_
      refine lV 198 (eT (.bool true)) (lV 172 (eA (.bool true)) (wpList_nil (then_n (cond_t rfl (by kernel_rfl) (wp_region_lit (lV 199 (eM (.pointer (some ⟨g2, 0, none⟩))) (lV 200 (eM (.pointer (some ⟨g2, 0, none⟩))) ?_)))))))
      refine lV 201 (eN ⟨g2, 0, none⟩) (lV 202 (eD g2 0 1 1 Try.underlying42) (lV 203 (eL ⟨g2, 0 + 1, none⟩ (.int .i64 x1.at_) Try.underlying3 (blk_cell b3 rfl)) (lV 204 (eAdd .i64 x1.at_ 1) (lV 205 (eM (.int .u8 ((x1.s_.getD (x1.at_ : Int).toNat (0 : UInt8)).toNat : Int))) (lV 206 (e_conv_int (k := .u8) (a := ((x1.s_.getD (x1.at_ : Int).toNat (0 : UInt8)).toNat : Int)) (by kernel_rfl) Try.underlying21 (by kernel_rfl)) (lV 207 (e_conv_rs (k := .i32) (a := (IntKind.i32.wrap (((x1.s_.getD (x1.at_ : Int).toNat (0 : UInt8)).toNat : Int)))) Try.underlying21 Try.underlying9 (by kernel_rfl)) ?_))))))
      have S357 := S148.pull (F := (is g2)) (Fr := [F7]) 1 rfl rfl
      have S358 := S357.pull (F := F7) (Fr := [(is g2)]) 1 rfl rfl
      obtain ⟨t359, u360, M⟩ := bnd M
      refine lC 208 (eC [.tmp 199, .const (.int .i64 5), .tmp 204, .tmp 207, .const (.int .i64 0)] [.pointer (some ⟨g2, 0, none⟩), .int .i64 5, .int .i64 (IntKind.i64.wrap (x1.at_ + 1)), str (runeS (IntKind.i32.wrap (((x1.s_.getD (x1.at_ : Int).toNat (0 : UInt8)).toNat : Int)))), .int .i64 0] Try.func42) (impl_lexer_put.calls w146 H x1 g2 A4 c5 F7 5 (IntKind.i64.wrap (x1.at_ + 1)) (runeS (IntKind.i32.wrap (((x1.s_.getD (x1.at_ : Int).toNat (0 : UInt8)).toNat : Int)))) 0 h6 b3 (St.own' (Fa := [F7, (is g2)]) (Fr := []) S358) t359 u360) ?_
      rintro _ w361 ⟨A364, c365, F367, H362, rfl, h366, b368, T363⟩
      refine ⟨_, rfl, ?_⟩
      obtain ⟨S369, K370⟩ := St.call (Fa := [F7, (is g2)]) (Fr := []) S358 T363
      have E371 := T363.ext
      refine wpList_nil (inb_n ?_)
      obtain rfl := Option.some.inj M
      exact end0 rfl ⟨A364, c365, F367, H362, rfl, h366, b368, S369⟩
    replace M := ifn q356 M
    refine lG 188 187 (bF q356) (eM (.int .u8 ((x1.s_.getD (x1.at_ : Int).toNat (0 : UInt8)).toNat : Int))) (lG 189 187 (bF q356) (eEq .u8 ((x1.s_.getD (x1.at_ : Int).toNat (0 : UInt8)).toNat : Int) 125) (lV 190 (eF (.bool (decide (((x1.s_.getD (x1.at_ : Int).toNat (0 : UInt8)).toNat : Int) = 125))) (bF q356)) (lV 191 (eM (.bool (decide (((x1.s_.getD (x1.at_ : Int).toNat (0 : UInt8)).toNat : Int) = 125)))) ?_)))
    by_cases q372 : ((x1.s_.getD (x1.at_ : Int).toNat (0 : UInt8)).toNat : Int) = 125
    · replace M := ifp q372 M
      refine lK 191 true (bT q372) ?_
      refine lK 191 true (bT q372) ?_
      refine lV 194 (eT (.bool true) (bT q372)) (lV 195 (eM (.bool true)) ?_)
      refine lJ 195 true ?_
      refine lJ 195 true ?_
      refine lV 198 (eT (.bool true)) (lV 172 (eA (.bool true)) (wpList_nil (then_n (cond_t rfl (by kernel_rfl) (wp_region_lit (lV 199 (eM (.pointer (some ⟨g2, 0, none⟩))) (lV 200 (eM (.pointer (some ⟨g2, 0, none⟩))) ?_)))))))
      refine lV 201 (eN ⟨g2, 0, none⟩) (lV 202 (eD g2 0 1 1 Try.underlying42) (lV 203 (eL ⟨g2, 0 + 1, none⟩ (.int .i64 x1.at_) Try.underlying3 (blk_cell b3 rfl)) (lV 204 (eAdd .i64 x1.at_ 1) (lV 205 (eM (.int .u8 ((x1.s_.getD (x1.at_ : Int).toNat (0 : UInt8)).toNat : Int))) (lV 206 (e_conv_int (k := .u8) (a := ((x1.s_.getD (x1.at_ : Int).toNat (0 : UInt8)).toNat : Int)) (by kernel_rfl) Try.underlying21 (by kernel_rfl)) (lV 207 (e_conv_rs (k := .i32) (a := (IntKind.i32.wrap (((x1.s_.getD (x1.at_ : Int).toNat (0 : UInt8)).toNat : Int)))) Try.underlying21 Try.underlying9 (by kernel_rfl)) ?_))))))
      have S373 := S148.pull (F := (is g2)) (Fr := [F7]) 1 rfl rfl
      have S374 := S373.pull (F := F7) (Fr := [(is g2)]) 1 rfl rfl
      obtain ⟨t375, u376, M⟩ := bnd M
      refine lC 208 (eC [.tmp 199, .const (.int .i64 5), .tmp 204, .tmp 207, .const (.int .i64 0)] [.pointer (some ⟨g2, 0, none⟩), .int .i64 5, .int .i64 (IntKind.i64.wrap (x1.at_ + 1)), str (runeS (IntKind.i32.wrap (((x1.s_.getD (x1.at_ : Int).toNat (0 : UInt8)).toNat : Int)))), .int .i64 0] Try.func42) (impl_lexer_put.calls w146 H x1 g2 A4 c5 F7 5 (IntKind.i64.wrap (x1.at_ + 1)) (runeS (IntKind.i32.wrap (((x1.s_.getD (x1.at_ : Int).toNat (0 : UInt8)).toNat : Int)))) 0 h6 b3 (St.own' (Fa := [F7, (is g2)]) (Fr := []) S374) t375 u376) ?_
      rintro _ w377 ⟨A380, c381, F383, H378, rfl, h382, b384, T379⟩
      refine ⟨_, rfl, ?_⟩
      obtain ⟨S385, K386⟩ := St.call (Fa := [F7, (is g2)]) (Fr := []) S374 T379
      have E387 := T379.ext
      refine wpList_nil (inb_n ?_)
      obtain rfl := Option.some.inj M
      exact end0 rfl ⟨A380, c381, F383, H378, rfl, h382, b384, S385⟩
    replace M := ifn q372 M
    refine lG 192 191 (bF q372) (eM (.int .u8 ((x1.s_.getD (x1.at_ : Int).toNat (0 : UInt8)).toNat : Int))) (lG 193 191 (bF q372) (eEq .u8 ((x1.s_.getD (x1.at_ : Int).toNat (0 : UInt8)).toNat : Int) 44) (lV 194 (eF (.bool (decide (((x1.s_.getD (x1.at_ : Int).toNat (0 : UInt8)).toNat : Int) = 44))) (bF q372)) (lV 195 (eM (.bool (decide (((x1.s_.getD (x1.at_ : Int).toNat (0 : UInt8)).toNat : Int) = 44)))) ?_)))
    by_cases q388 : ((x1.s_.getD (x1.at_ : Int).toNat (0 : UInt8)).toNat : Int) = 44
    · replace M := ifp q388 M
      refine lK 195 true (bT q388) ?_
      refine lK 195 true (bT q388) ?_
      refine lV 198 (eT (.bool true) (bT q388)) (lV 172 (eA (.bool true)) (wpList_nil (then_n (cond_t rfl (by kernel_rfl) (wp_region_lit (lV 199 (eM (.pointer (some ⟨g2, 0, none⟩))) (lV 200 (eM (.pointer (some ⟨g2, 0, none⟩))) ?_)))))))
      refine lV 201 (eN ⟨g2, 0, none⟩) (lV 202 (eD g2 0 1 1 Try.underlying42) (lV 203 (eL ⟨g2, 0 + 1, none⟩ (.int .i64 x1.at_) Try.underlying3 (blk_cell b3 rfl)) (lV 204 (eAdd .i64 x1.at_ 1) (lV 205 (eM (.int .u8 ((x1.s_.getD (x1.at_ : Int).toNat (0 : UInt8)).toNat : Int))) (lV 206 (e_conv_int (k := .u8) (a := ((x1.s_.getD (x1.at_ : Int).toNat (0 : UInt8)).toNat : Int)) (by kernel_rfl) Try.underlying21 (by kernel_rfl)) (lV 207 (e_conv_rs (k := .i32) (a := (IntKind.i32.wrap (((x1.s_.getD (x1.at_ : Int).toNat (0 : UInt8)).toNat : Int)))) Try.underlying21 Try.underlying9 (by kernel_rfl)) ?_))))))
      have S389 := S148.pull (F := (is g2)) (Fr := [F7]) 1 rfl rfl
      have S390 := S389.pull (F := F7) (Fr := [(is g2)]) 1 rfl rfl
      obtain ⟨t391, u392, M⟩ := bnd M
      refine lC 208 (eC [.tmp 199, .const (.int .i64 5), .tmp 204, .tmp 207, .const (.int .i64 0)] [.pointer (some ⟨g2, 0, none⟩), .int .i64 5, .int .i64 (IntKind.i64.wrap (x1.at_ + 1)), str (runeS (IntKind.i32.wrap (((x1.s_.getD (x1.at_ : Int).toNat (0 : UInt8)).toNat : Int)))), .int .i64 0] Try.func42) (impl_lexer_put.calls w146 H x1 g2 A4 c5 F7 5 (IntKind.i64.wrap (x1.at_ + 1)) (runeS (IntKind.i32.wrap (((x1.s_.getD (x1.at_ : Int).toNat (0 : UInt8)).toNat : Int)))) 0 h6 b3 (St.own' (Fa := [F7, (is g2)]) (Fr := []) S390) t391 u392) ?_
      rintro _ w393 ⟨A396, c397, F399, H394, rfl, h398, b400, T395⟩
      refine ⟨_, rfl, ?_⟩
      obtain ⟨S401, K402⟩ := St.call (Fa := [F7, (is g2)]) (Fr := []) S390 T395
      have E403 := T395.ext
      refine wpList_nil (inb_n ?_)
      obtain rfl := Option.some.inj M
      exact end0 rfl ⟨A396, c397, F399, H394, rfl, h398, b400, S401⟩
    replace M := ifn q388 M
    refine lG 196 195 (bF q388) (eM (.int .u8 ((x1.s_.getD (x1.at_ : Int).toNat (0 : UInt8)).toNat : Int))) (lG 197 195 (bF q388) (eEq .u8 ((x1.s_.getD (x1.at_ : Int).toNat (0 : UInt8)).toNat : Int) 124) (lV 198 (eF (.bool (decide (((x1.s_.getD (x1.at_ : Int).toNat (0 : UInt8)).toNat : Int) = 124))) (bF q388)) (lV 172 (eA (.bool (decide (((x1.s_.getD (x1.at_ : Int).toNat (0 : UInt8)).toNat : Int) = 124)))) (wpList_nil (then_n ?_)))))
    by_cases q404 : ((x1.s_.getD (x1.at_ : Int).toNat (0 : UInt8)).toNat : Int) = 124
    · replace M := ifp q404 M
      refine cT (bT q404) (wp_region_lit (lV 199 (eM (.pointer (some ⟨g2, 0, none⟩))) (lV 200 (eM (.pointer (some ⟨g2, 0, none⟩))) (lV 201 (eN ⟨g2, 0, none⟩) (lV 202 (eD g2 0 1 1 Try.underlying42) (lV 203 (eL ⟨g2, 0 + 1, none⟩ (.int .i64 x1.at_) Try.underlying3 (blk_cell b3 rfl)) (lV 204 (eAdd .i64 x1.at_ 1) ?_)))))))
      refine lV 205 (eM (.int .u8 ((x1.s_.getD (x1.at_ : Int).toNat (0 : UInt8)).toNat : Int))) (lV 206 (e_conv_int (k := .u8) (a := ((x1.s_.getD (x1.at_ : Int).toNat (0 : UInt8)).toNat : Int)) (by kernel_rfl) Try.underlying21 (by kernel_rfl)) (lV 207 (e_conv_rs (k := .i32) (a := (IntKind.i32.wrap (((x1.s_.getD (x1.at_ : Int).toNat (0 : UInt8)).toNat : Int)))) Try.underlying21 Try.underlying9 (by kernel_rfl)) ?_))
      have S405 := S148.pull (F := (is g2)) (Fr := [F7]) 1 rfl rfl
      have S406 := S405.pull (F := F7) (Fr := [(is g2)]) 1 rfl rfl
      obtain ⟨t407, u408, M⟩ := bnd M
      refine lC 208 (eC [.tmp 199, .const (.int .i64 5), .tmp 204, .tmp 207, .const (.int .i64 0)] [.pointer (some ⟨g2, 0, none⟩), .int .i64 5, .int .i64 (IntKind.i64.wrap (x1.at_ + 1)), str (runeS (IntKind.i32.wrap (((x1.s_.getD (x1.at_ : Int).toNat (0 : UInt8)).toNat : Int)))), .int .i64 0] Try.func42) (impl_lexer_put.calls w146 H x1 g2 A4 c5 F7 5 (IntKind.i64.wrap (x1.at_ + 1)) (runeS (IntKind.i32.wrap (((x1.s_.getD (x1.at_ : Int).toNat (0 : UInt8)).toNat : Int)))) 0 h6 b3 (St.own' (Fa := [F7, (is g2)]) (Fr := []) S406) t407 u408) ?_
      rintro _ w409 ⟨A412, c413, F415, H410, rfl, h414, b416, T411⟩
      refine ⟨_, rfl, ?_⟩
      obtain ⟨S417, K418⟩ := St.call (Fa := [F7, (is g2)]) (Fr := []) S406 T411
      have E419 := T411.ext
      refine wpList_nil (inb_n ?_)
      obtain rfl := Option.some.inj M
      exact end0 rfl ⟨A412, c413, F415, H410, rfl, h414, b416, S417⟩
    replace M := ifn q404 M
    refine cF (bF q404) (wp_region_lit (lV 14 (eM (.pointer (some ⟨g2, 0, none⟩))) (lV 15 (eM (.pointer (some ⟨g2, 0, none⟩))) (lV 16 (eN ⟨g2, 0, none⟩) (lV 17 (eD g2 0 1 1 Try.underlying42) (lV 18 (eL ⟨g2, 0 + 1, none⟩ (.int .i64 x1.at_) Try.underlying3 (blk_cell b3 rfl)) ?_))))))
    have S420 := S148.pull (F := (is g2)) (Fr := [F7]) 1 rfl rfl
    have S421 := S420.pull (F := F7) (Fr := [(is g2)]) 1 rfl rfl
    obtain ⟨t422, u423, M⟩ := bnd M
    refine lC 19 (eC [.tmp 14, .const (.int .i64 2), .tmp 18] [.pointer (some ⟨g2, 0, none⟩), .int .i64 2, .int .i64 x1.at_] Try.func37) (impl_lexer_fault.calls w146 H x1 g2 A4 c5 F7 2 x1.at_ h6 b3 (St.own' (Fa := [F7, (is g2)]) (Fr := []) S421) t422 u423) ?_
    rintro _ w424 ⟨A427, c428, F430, H425, rfl, h429, b431, T426⟩
    refine ⟨_, rfl, ?_⟩
    obtain ⟨S432, K433⟩ := St.call (Fa := [F7, (is g2)]) (Fr := []) S421 T426
    have E434 := T426.ext
    refine wpList_nil (inb_n ?_)
    obtain rfl := Option.some.inj M
    exact end0 rfl ⟨A427, c428, F430, H425, rfl, h429, b431, S432⟩
  replace M := ifn q79 M
  refine qK 38 false (bF q79) ?_
  refine qK 38 false (bF q79) ?_
  refine qK 38 false (bF q79) ?_
  refine qK 38 false (bF q79) ?_
  refine qK 38 false (bF q79) ?_
  refine qK 38 false (bF q79) ?_
  refine qK 38 false (bF q79) ?_
  refine qK 38 false (bF q79) ?_
  refine qK 38 false (bF q79) ?_
  refine qK 38 false (bF q79) ?_
  refine qK 38 false (bF q79) ?_
  refine qK 38 false (bF q79) ?_
  refine qskipu (t := 50) rfl (by kernel_rfl) rfl (by kernel_rfl) rfl ?_
  refine qskipu (t := 50) rfl (by kernel_rfl) rfl (by kernel_rfl) rfl ?_
  refine qskipu (t := 50) rfl (by kernel_rfl) rfl (by kernel_rfl) rfl ?_
  refine qskipu (t := 50) rfl (by kernel_rfl) rfl (by kernel_rfl) rfl ?_
  refine qskipu (t := 50) rfl (by kernel_rfl) rfl (by kernel_rfl) rfl ?_
  refine qskipu (t := 50) rfl (by kernel_rfl) rfl (by kernel_rfl) rfl ?_
  refine qskipu (t := 50) rfl (by kernel_rfl) rfl (by kernel_rfl) rfl ?_
  refine qskipu (t := 50) rfl (by kernel_rfl) rfl (by kernel_rfl) rfl ?_
  refine qskipu (t := 50) rfl (by kernel_rfl) rfl (by kernel_rfl) rfl ?_
  refine qskipu (t := 50) rfl (by kernel_rfl) rfl (by kernel_rfl) rfl ?_
  refine qskipu (t := 50) rfl (by kernel_rfl) rfl (by kernel_rfl) rfl ?_
  refine qK 38 false (bF q79) ?_
  refine qK 38 false (bF q79) ?_
  refine qskipu (t := 63) rfl (by kernel_rfl) rfl (by kernel_rfl) rfl ?_
  refine qskipu (t := 63) rfl (by kernel_rfl) rfl (by kernel_rfl) rfl ?_
  refine qskipu (t := 63) rfl (by kernel_rfl) rfl (by kernel_rfl) rfl ?_
  refine qskipu (t := 63) rfl (by kernel_rfl) rfl (by kernel_rfl) rfl ?_
  refine qskipu (t := 63) rfl (by kernel_rfl) rfl (by kernel_rfl) rfl ?_
  refine qskipu (t := 63) rfl (by kernel_rfl) rfl (by kernel_rfl) rfl ?_
  refine qskipu (t := 63) rfl (by kernel_rfl) rfl (by kernel_rfl) rfl ?_
  refine qskipu (t := 63) rfl (by kernel_rfl) rfl (by kernel_rfl) rfl ?_
  refine qskipu (t := 63) rfl (by kernel_rfl) rfl (by kernel_rfl) rfl ?_
  refine qskipu (t := 63) rfl (by kernel_rfl) rfl (by kernel_rfl) rfl ?_
  refine qskipu (t := 63) rfl (by kernel_rfl) rfl (by kernel_rfl) rfl ?_
  refine qK 38 false (bF q79) ?_
  refine qV 76 (fun wq_ hq_ => eF (.bool false) (bF q79)) ?_
  refine qV 35 (fun wq_ hq_ => eA (.bool false)) ?_
  refine wpQuiet_nil ?_
  intro w435 C438
  obtain ⟨S436, K437⟩ := S61.still C438
  replace h6 := h6.move (K437.at 0 rfl)
  replace b3 := K437.blk 1 rfl b3
  refine then_n (cond_f rfl (by kernel_rfl) (wp_seq (wp_region_lit (lV 85 (eM (.int .u8 ((x1.s_.getD (x1.at_ : Int).toNat (0 : UInt8)).toNat : Int))) ?_))))
  obtain ⟨t439, u440, M⟩ := bnd M
  refine lC 86 (eC [.tmp 85] [.int .u8 ((x1.s_.getD (x1.at_ : Int).toNat (0 : UInt8)).toNat : Int)] Try.func29) (impl_isSymbol.calls w435 H (x1.s_.getD (x1.at_ : Int).toNat (0 : UInt8))  S436.own0 t439 u440) ?_
  rintro _ w441 ⟨rfl, C442⟩
  refine ⟨_, rfl, ?_⟩
  obtain ⟨S443, K444⟩ := S436.still C442
  replace h6 := h6.move (K444.at 0 rfl)
  replace b3 := K444.blk 1 rfl b3
  refine lV 84 (eA (.bool t439)) (wpList_nil (then_n ?_))
  by_cases q445 : t439 = true
  · replace M := ifp q445 M
    refine cT (bvt q445 (by kernel_rfl)) (wp_region_lit (lV 87 (eM (.pointer (some ⟨g2, 0, none⟩))) ?_))
    have S446 := S443.pull (F := (is g2)) (Fr := [F7]) 1 rfl rfl
    have S447 := S446.pull (F := F7) (Fr := [(is g2)]) 1 rfl rfl
    obtain ⟨t448, u449, M⟩ := bnd M
    refine lC 88 (eC [.tmp 87, .const (.int .i64 1), .func 29] [.pointer (some ⟨g2, 0, none⟩), .int .i64 1, .func (.func 29) #[] #[]] Try.func38) (impl_lexer_run_2.calls k w441 H x1 g2 A4 c5 F7 1 h6 b3 (St.own' (Fa := [F7, (is g2)]) (Fr := []) S447) t448 u449) ?_
    rintro _ w450 ⟨A453, c454, F456, H451, rfl, h455, b457, T452⟩
    refine ⟨_, rfl, ?_⟩
    obtain ⟨S458, K459⟩ := St.call (Fa := [F7, (is g2)]) (Fr := []) S447 T452
    have E460 := T452.ext
    refine wpList_nil (inb_n ?_)
    obtain rfl := Option.some.inj M
    exact end0 rfl ⟨A453, c454, F456, H451, rfl, h455, b457, S458⟩
  replace M := ifn q445 M
  refine cF (bvf q445 (by kernel_rfl)) (wp_seq (wp_region_lit (lV 90 (eM (.int .u8 ((x1.s_.getD (x1.at_ : Int).toNat (0 : UInt8)).toNat : Int))) (lV 91 (eEq .u8 ((x1.s_.getD (x1.at_ : Int).toNat (0 : UInt8)).toNat : Int) 33) (lV 92 (eM (.bool (decide (((x1.s_.getD (x1.at_ : Int).toNat (0 : UInt8)).toNat : Int) = 33)))) ?_)))))
  by_cases q461 : ((x1.s_.getD (x1.at_ : Int).toNat (0 : UInt8)).toNat : Int) = 33
  · replace M := ifp q461 M
    refine lK 92 true (bT q461) ?_
    refine lK 92 true (bT q461) ?_
    refine lV 95 (eT (.bool true) (bT q461)) (lV 89 (eA (.bool true)) (wpList_nil (then_n (cond_t rfl (by kernel_rfl) (wp_region_lit (lV 96 (eM (.pointer (some ⟨g2, 0, none⟩))) (lV 97 (eM (.pointer (some ⟨g2, 0, none⟩))) ?_)))))))
    refine lV 98 (eN ⟨g2, 0, none⟩) (lV 99 (eD g2 0 1 1 Try.underlying42) (lV 100 (eL ⟨g2, 0 + 1, none⟩ (.int .i64 x1.at_) Try.underlying3 (blk_cell b3 rfl)) (lV 101 (eAdd .i64 x1.at_ 1) (lV 102 (eM (.int .u8 ((x1.s_.getD (x1.at_ : Int).toNat (0 : UInt8)).toNat : Int))) (lV 103 (e_conv_int (k := .u8) (a := ((x1.s_.getD (x1.at_ : Int).toNat (0 : UInt8)).toNat : Int)) (by kernel_rfl) Try.underlying21 (by kernel_rfl)) (lV 104 (e_conv_rs (k := .i32) (a := (IntKind.i32.wrap (((x1.s_.getD (x1.at_ : Int).toNat (0 : UInt8)).toNat : Int)))) Try.underlying21 Try.underlying9 (by kernel_rfl)) ?_))))))
    have S462 := S443.pull (F := (is g2)) (Fr := [F7]) 1 rfl rfl
    have S463 := S462.pull (F := F7) (Fr := [(is g2)]) 1 rfl rfl
    obtain ⟨t464, u465, M⟩ := bnd M
    refine lC 105 (eC [.tmp 96, .const (.int .i64 1), .tmp 101, .tmp 104, .const (.int .i64 0)] [.pointer (some ⟨g2, 0, none⟩), .int .i64 1, .int .i64 (IntKind.i64.wrap (x1.at_ + 1)), str (runeS (IntKind.i32.wrap (((x1.s_.getD (x1.at_ : Int).toNat (0 : UInt8)).toNat : Int)))), .int .i64 0] Try.func42) (impl_lexer_put.calls w441 H x1 g2 A4 c5 F7 1 (IntKind.i64.wrap (x1.at_ + 1)) (runeS (IntKind.i32.wrap (((x1.s_.getD (x1.at_ : Int).toNat (0 : UInt8)).toNat : Int)))) 0 h6 b3 (St.own' (Fa := [F7, (is g2)]) (Fr := []) S463) t464 u465) ?_
    rintro _ w466 ⟨A469, c470, F472, H467, rfl, h471, b473, T468⟩
    refine ⟨_, rfl, ?_⟩
    obtain ⟨S474, K475⟩ := St.call (Fa := [F7, (is g2)]) (Fr := []) S463 T468
    have E476 := T468.ext
    refine wpList_nil (inb_n ?_)
    obtain rfl := Option.some.inj M
    exact end0 rfl ⟨A469, c470, F472, H467, rfl, h471, b473, S474⟩
  replace M := ifn q461 M
  refine lG 93 92 (bF q461) (eM (.int .u8 ((x1.s_.getD (x1.at_ : Int).toNat (0 : UInt8)).toNat : Int))) (lG 94 92 (bF q461) (eEq .u8 ((x1.s_.getD (x1.at_ : Int).toNat (0 : UInt8)).toNat : Int) 59) (lV 95 (eF (.bool (decide (((x1.s_.getD (x1.at_ : Int).toNat (0 : UInt8)).toNat : Int) = 59))) (bF q461)) (lV 89 (eA (.bool (decide (((x1.s_.getD (x1.at_ : Int).toNat (0 : UInt8)).toNat : Int) = 59)))) (wpList_nil (then_n ?_)))))
  by_cases q477 : ((x1.s_.getD (x1.at_ : Int).toNat (0 : UInt8)).toNat : Int) = 59
  · replace M := ifp q477 M
    refine cT (bT q477) (wp_region_lit (lV 96 (eM (.pointer (some ⟨g2, 0, none⟩))) (lV 97 (eM (.pointer (some ⟨g2, 0, none⟩))) (lV 98 (eN ⟨g2, 0, none⟩) (lV 99 (eD g2 0 1 1 Try.underlying42) (lV 100 (eL ⟨g2, 0 + 1, none⟩ (.int .i64 x1.at_) Try.underlying3 (blk_cell b3 rfl)) (lV 101 (eAdd .i64 x1.at_ 1) ?_)))))))
    refine lV 102 (eM (.int .u8 ((x1.s_.getD (x1.at_ : Int).toNat (0 : UInt8)).toNat : Int))) (lV 103 (e_conv_int (k := .u8) (a := ((x1.s_.getD (x1.at_ : Int).toNat (0 : UInt8)).toNat : Int)) (by kernel_rfl) Try.underlying21 (by kernel_rfl)) (lV 104 (e_conv_rs (k := .i32) (a := (IntKind.i32.wrap (((x1.s_.getD (x1.at_ : Int).toNat (0 : UInt8)).toNat : Int)))) Try.underlying21 Try.underlying9 (by kernel_rfl)) ?_))
    have S478 := S443.pull (F := (is g2)) (Fr := [F7]) 1 rfl rfl
    have S479 := S478.pull (F := F7) (Fr := [(is g2)]) 1 rfl rfl
    obtain ⟨t480, u481, M⟩ := bnd M
    refine lC 105 (eC [.tmp 96, .const (.int .i64 1), .tmp 101, .tmp 104, .const (.int .i64 0)] [.pointer (some ⟨g2, 0, none⟩), .int .i64 1, .int .i64 (IntKind.i64.wrap (x1.at_ + 1)), str (runeS (IntKind.i32.wrap (((x1.s_.getD (x1.at_ : Int).toNat (0 : UInt8)).toNat : Int)))), .int .i64 0] Try.func42) (impl_lexer_put.calls w441 H x1 g2 A4 c5 F7 1 (IntKind.i64.wrap (x1.at_ + 1)) (runeS (IntKind.i32.wrap (((x1.s_.getD (x1.at_ : Int).toNat (0 : UInt8)).toNat : Int)))) 0 h6 b3 (St.own' (Fa := [F7, (is g2)]) (Fr := []) S479) t480 u481) ?_
    rintro _ w482 ⟨A485, c486, F488, H483, rfl, h487, b489, T484⟩
    refine ⟨_, rfl, ?_⟩
    obtain ⟨S490, K491⟩ := St.call (Fa := [F7, (is g2)]) (Fr := []) S479 T484
    have E492 := T484.ext
    refine wpList_nil (inb_n ?_)
    obtain rfl := Option.some.inj M
    exact end0 rfl ⟨A485, c486, F488, H483, rfl, h487, b489, S490⟩
  replace M := ifn q477 M
  refine cF (bF q477) (wp_seq (wp_region_lit (lV 107 (eM (.int .u8 ((x1.s_.getD (x1.at_ : Int).toNat (0 : UInt8)).toNat : Int))) (lV 108 (eEq .u8 ((x1.s_.getD (x1.at_ : Int).toNat (0 : UInt8)).toNat : Int) 39) (lV 109 (eM (.bool (decide (((x1.s_.getD (x1.at_ : Int).toNat (0 : UInt8)).toNat : Int) = 39)))) ?_)))))
  by_cases q493 : ((x1.s_.getD (x1.at_ : Int).toNat (0 : UInt8)).toNat : Int) = 39
  · replace M := ifp q493 M
    refine lK 109 true (bT q493) ?_
    refine lK 109 true (bT q493) ?_
    refine lV 112 (eT (.bool true) (bT q493)) (lV 106 (eA (.bool true)) (wpList_nil (then_n (cond_t rfl (by kernel_rfl) (wp_region_lit (lV 113 (eM (.pointer (some ⟨g2, 0, none⟩))) (lV 114 (eM (.int .u8 ((x1.s_.getD (x1.at_ : Int).toNat (0 : UInt8)).toNat : Int))) ?_)))))))
    have S494 := S443.pull (F := (is g2)) (Fr := [F7]) 1 rfl rfl
    have S495 := S494.pull (F := F7) (Fr := [(is g2)]) 1 rfl rfl
    obtain ⟨t496, u497, M⟩ := bnd M
    refine lC 115 (eC [.tmp 113, .tmp 114] [.pointer (some ⟨g2, 0, none⟩), .int .u8 ((x1.s_.getD (x1.at_ : Int).toNat (0 : UInt8)).toNat : Int)] Try.func43) (impl_lexer_quote.calls k w441 H x1 g2 A4 c5 F7 (x1.s_.getD (x1.at_ : Int).toNat (0 : UInt8)) h6 b3 (St.own' (Fa := [F7, (is g2)]) (Fr := []) S495) t496 u497) ?_
    rintro _ w498 ⟨A501, c502, F504, H499, rfl, h503, b505, T500⟩
    refine ⟨_, rfl, ?_⟩
    obtain ⟨S506, K507⟩ := St.call (Fa := [F7, (is g2)]) (Fr := []) S495 T500
    have E508 := T500.ext
    refine wpList_nil (inb_n ?_)
    obtain rfl := Option.some.inj M
    exact end0 rfl ⟨A501, c502, F504, H499, rfl, h503, b505, S506⟩
  replace M := ifn q493 M
  refine lG 110 109 (bF q493) (eM (.int .u8 ((x1.s_.getD (x1.at_ : Int).toNat (0 : UInt8)).toNat : Int))) (lG 111 109 (bF q493) (eEq .u8 ((x1.s_.getD (x1.at_ : Int).toNat (0 : UInt8)).toNat : Int) 34) (lV 112 (eF (.bool (decide (((x1.s_.getD (x1.at_ : Int).toNat (0 : UInt8)).toNat : Int) = 34))) (bF q493)) (lV 106 (eA (.bool (decide (((x1.s_.getD (x1.at_ : Int).toNat (0 : UInt8)).toNat : Int) = 34)))) (wpList_nil (then_n ?_)))))
  by_cases q509 : ((x1.s_.getD (x1.at_ : Int).toNat (0 : UInt8)).toNat : Int) = 34
  · replace M := ifp q509 M
    refine cT (bT q509) (wp_region_lit (lV 113 (eM (.pointer (some ⟨g2, 0, none⟩))) (lV 114 (eM (.int .u8 ((x1.s_.getD (x1.at_ : Int).toNat (0 : UInt8)).toNat : Int))) ?_)))
    have S510 := S443.pull (F := (is g2)) (Fr := [F7]) 1 rfl rfl
    have S511 := S510.pull (F := F7) (Fr := [(is g2)]) 1 rfl rfl
    obtain ⟨t512, u513, M⟩ := bnd M
    refine lC 115 (eC [.tmp 113, .tmp 114] [.pointer (some ⟨g2, 0, none⟩), .int .u8 ((x1.s_.getD (x1.at_ : Int).toNat (0 : UInt8)).toNat : Int)] Try.func43) (impl_lexer_quote.calls k w441 H x1 g2 A4 c5 F7 (x1.s_.getD (x1.at_ : Int).toNat (0 : UInt8)) h6 b3 (St.own' (Fa := [F7, (is g2)]) (Fr := []) S511) t512 u513) ?_
    rintro _ w514 ⟨A517, c518, F520, H515, rfl, h519, b521, T516⟩
    refine ⟨_, rfl, ?_⟩
    obtain ⟨S522, K523⟩ := St.call (Fa := [F7, (is g2)]) (Fr := []) S511 T516
    have E524 := T516.ext
    refine wpList_nil (inb_n ?_)
    obtain rfl := Option.some.inj M
    exact end0 rfl ⟨A517, c518, F520, H515, rfl, h519, b521, S522⟩
  replace M := ifn q509 M
  refine cF (bF q509) (wp_seq (wp_region_lit (lV 117 (eM (.int .u8 ((x1.s_.getD (x1.at_ : Int).toNat (0 : UInt8)).toNat : Int))) (lV 118 (eEq .u8 ((x1.s_.getD (x1.at_ : Int).toNat (0 : UInt8)).toNat : Int) 40) (lV 116 (eA (.bool (decide (((x1.s_.getD (x1.at_ : Int).toNat (0 : UInt8)).toNat : Int) = 40)))) (wpList_nil (then_n ?_)))))))
  by_cases q525 : ((x1.s_.getD (x1.at_ : Int).toNat (0 : UInt8)).toNat : Int) = 40
  · replace M := ifp q525 M
    refine cT (bT q525) (wp_seq (wp_region_lit (lV 3 (eA (.int .i64 5)) (wpList_nil (then_n (wp_seq (wp_seq ?_)))))))
    refine wp_region_lit (lV 119 (eM (.pointer (some ⟨g2, 0, none⟩))) (lV 120 (eN ⟨g2, 0, none⟩) (lV 121 (eD g2 0 2 1 Try.underlying42) (lV 122 (eL ⟨g2, 0 + 2, none⟩ (.slice A4 x1.tokens_.length c5) Try.underlying27 (blk_cell b3 rfl)) (lV 123 (e_len (A := A4) (n := x1.tokens_.length) (c := c5) Try.underlying27 (by kernel_rfl)) (lV 4 (eA (.int .i64 (x1.tokens_.length : Int))) (wpList_nil ?_)))))))
    refine then_n (wp_seq ?_)
    refine region_still (by kernel_rfl) (by kernel_rfl) S443 ?_
    intro w526 S527 K528
    replace h6 := h6.move (K528.at 0 rfl)
    replace b3 := K528.blk 1 rfl b3
    refine sV 124 (eM (.int .i64 (x1.tokens_.length : Int))) (sV 125 (e_gtr (k := .i64) (a := (x1.tokens_.length : Int)) (b := 0) (by kernel_rfl) rfl) (sV 126 (eM (.bool (decide ((x1.tokens_.length : Int) > 0)))) ?_))
    by_cases q529 : (x1.tokens_.length : Int) > 0
    · replace M := ifp q529 M
      refine sG 127 126 (bT q529) (eM (.pointer (some ⟨g2, 0, none⟩))) (sG 128 126 (bT q529) (eN ⟨g2, 0, none⟩) (sG 129 126 (bT q529) (eD g2 0 2 1 Try.underlying42) (sG 130 126 (bT q529) (eL ⟨g2, 0 + 2, none⟩ (.slice A4 x1.tokens_.length c5) Try.underlying27 (blk_cell b3 rfl)) (sG 131 126 (bT q529) (eM (.int .i64 (x1.tokens_.length : Int))) (sG 132 126 (bT q529) (e_sub (k := .i64) (a := (x1.tokens_.length : Int)) (b := 1) (by kernel_rfl) rfl) ?_)))))
      obtain ⟨q530, M⟩ := chk M
      obtain ⟨q531, M⟩ := chk M
      obtain ⟨b532, e534⟩ := Row.addr h6 (show ((IntKind.i64.wrap ((x1.tokens_.length : Int) - 1))).toNat < x1.tokens_.length by omega)
      refine sG 133 126 (bT q529) (eI b532 0 x1.tokens_.length c5 5 (IntKind.i64.wrap ((x1.tokens_.length : Int) - 1)) .i64 Try.underlying27 e534 q530 q531) (sG 134 126 (bT q529) (eD b532 (0 + ((IntKind.i64.wrap ((x1.tokens_.length : Int) - 1)) : Int).toNat * 5) 0 1 Try.underlying37) (sG 135 126 (bT q529) (eL ⟨b532, 0 + ((IntKind.i64.wrap ((x1.tokens_.length : Int) - 1)) : Int).toNat * 5 + 0, none⟩ (.int .i64 ((x1.tokens_.getD (((IntKind.i64.wrap ((x1.tokens_.length : Int) - 1))).toNat) z37).kind)) Try.underlying3 (hpx (Row.pick (j := 0) (u := .int .i64 ((x1.tokens_.getD (((IntKind.i64.wrap ((x1.tokens_.length : Int) - 1))).toNat) z37).kind)) h6 e534 (getD_some z37 (show ((IntKind.i64.wrap ((x1.tokens_.length : Int) - 1))).toNat < x1.tokens_.length by omega)) (fun _ _ o_ => st37_c0 o_)))) (sG 136 126 (bT q529) (eEq .i64 (x1.tokens_.getD (((IntKind.i64.wrap ((x1.tokens_.length : Int) - 1))).toNat) z37).kind 1) (sV 137 (eT (.bool (decide (((x1.tokens_.getD (((IntKind.i64.wrap ((x1.tokens_.length : Int) - 1))).toNat) z37).kind) = 1))) (bT q529)) (sV 138 (eM (.bool (decide (((x1.tokens_.getD (((IntKind.i64.wrap ((x1.tokens_.length : Int) - 1))).toNat) z37).kind) = 1)))) ?_)))))
      by_cases q535 : ((x1.tokens_.getD (((IntKind.i64.wrap ((x1.tokens_.length : Int) - 1))).toNat) z37).kind) = 1
      · replace M := ifp q535 M
        refine sG 139 138 (bT q535) (eM (.pointer (some ⟨g2, 0, none⟩))) (sG 140 138 (bT q535) (eN ⟨g2, 0, none⟩) (sG 141 138 (bT q535) (eD g2 0 2 1 Try.underlying42) (sG 142 138 (bT q535) (eL ⟨g2, 0 + 2, none⟩ (.slice A4 x1.tokens_.length c5) Try.underlying27 (blk_cell b3 rfl)) (sG 143 138 (bT q535) (eM (.int .i64 (x1.tokens_.length : Int))) (sG 144 138 (bT q535) (e_sub (k := .i64) (a := (x1.tokens_.length : Int)) (b := 1) (by kernel_rfl) rfl) ?_)))))
        obtain ⟨b536, e538⟩ := Row.addr h6 (show ((IntKind.i64.wrap ((x1.tokens_.length : Int) - 1))).toNat < x1.tokens_.length by omega)
        refine sG 145 138 (bT q535) (eI b536 0 x1.tokens_.length c5 5 (IntKind.i64.wrap ((x1.tokens_.length : Int) - 1)) .i64 Try.underlying27 e538 q530 q531) (sG 146 138 (bT q535) (eD b536 (0 + ((IntKind.i64.wrap ((x1.tokens_.length : Int) - 1)) : Int).toNat * 5) 1 1 Try.underlying37) (sG 147 138 (bT q535) (eL ⟨b536, 0 + ((IntKind.i64.wrap ((x1.tokens_.length : Int) - 1)) : Int).toNat * 5 + 1, none⟩ (.int .i64 ((x1.tokens_.getD (((IntKind.i64.wrap ((x1.tokens_.length : Int) - 1))).toNat) z37).place)) Try.underlying3 (hpx (Row.pick (j := 1) (u := .int .i64 ((x1.tokens_.getD (((IntKind.i64.wrap ((x1.tokens_.length : Int) - 1))).toNat) z37).place)) h6 e538 (getD_some z37 (show ((IntKind.i64.wrap ((x1.tokens_.length : Int) - 1))).toNat < x1.tokens_.length by omega)) (fun _ _ o_ => st37_c1 o_)))) (sG 148 138 (bT q535) (eM (.pointer (some ⟨g2, 0, none⟩))) (sG 149 138 (bT q535) (eN ⟨g2, 0, none⟩) (sG 150 138 (bT q535) (eD g2 0 2 1 Try.underlying42) (sG 151 138 (bT q535) (eL ⟨g2, 0 + 2, none⟩ (.slice A4 x1.tokens_.length c5) Try.underlying27 (blk_cell b3 rfl)) (sG 152 138 (bT q535) (eM (.int .i64 (x1.tokens_.length : Int))) ?_)))))))
        refine sG 153 138 (bT q535) (e_sub (k := .i64) (a := (x1.tokens_.length : Int)) (b := 1) (by kernel_rfl) rfl) ?_
        obtain ⟨b539, e541⟩ := Row.addr h6 (show ((IntKind.i64.wrap ((x1.tokens_.length : Int) - 1))).toNat < x1.tokens_.length by omega)
        refine sG 154 138 (bT q535) (eI b539 0 x1.tokens_.length c5 5 (IntKind.i64.wrap ((x1.tokens_.length : Int) - 1)) .i64 Try.underlying27 e541 q530 q531) (sG 155 138 (bT q535) (eD b539 (0 + ((IntKind.i64.wrap ((x1.tokens_.length : Int) - 1)) : Int).toNat * 5) 2 1 Try.underlying37) (sG 156 138 (bT q535) (eL ⟨b539, 0 + ((IntKind.i64.wrap ((x1.tokens_.length : Int) - 1)) : Int).toNat * 5 + 2, none⟩ (.int .i64 ((x1.tokens_.getD (((IntKind.i64.wrap ((x1.tokens_.length : Int) - 1))).toNat) z37).size)) Try.underlying3 (hpx (Row.pick (j := 2) (u := .int .i64 ((x1.tokens_.getD (((IntKind.i64.wrap ((x1.tokens_.length : Int) - 1))).toNat) z37).size)) h6 e541 (getD_some z37 (show ((IntKind.i64.wrap ((x1.tokens_.length : Int) - 1))).toNat < x1.tokens_.length by omega)) (fun _ _ o_ => st37_c2 o_)))) (sG 157 138 (bT q535) (eAdd .i64 (x1.tokens_.getD (((IntKind.i64.wrap ((x1.tokens_.length : Int) - 1))).toNat) z37).place (x1.tokens_.getD (((IntKind.i64.wrap ((x1.tokens_.length : Int) - 1))).toNat) z37).size) (sG 158 138 (bT q535) (eM (.pointer (some ⟨g2, 0, none⟩))) (sG 159 138 (bT q535) (eN ⟨g2, 0, none⟩) (sG 160 138 (bT q535) (eD g2 0 1 1 Try.underlying42) (sG 161 138 (bT q535) (eL ⟨g2, 0 + 1, none⟩ (.int .i64 x1.at_) Try.underlying3 (blk_cell b3 rfl)) ?_)))))))
        refine sG 162 138 (bT q535) (eEq .i64 (IntKind.i64.wrap (((x1.tokens_.getD (((IntKind.i64.wrap ((x1.tokens_.length : Int) - 1))).toNat) z37).place) + ((x1.tokens_.getD (((IntKind.i64.wrap ((x1.tokens_.length : Int) - 1))).toNat) z37).size))) x1.at_) (sV 163 (eT (.bool (decide ((IntKind.i64.wrap (((x1.tokens_.getD (((IntKind.i64.wrap ((x1.tokens_.length : Int) - 1))).toNat) z37).place) + ((x1.tokens_.getD (((IntKind.i64.wrap ((x1.tokens_.length : Int) - 1))).toNat) z37).size))) = x1.at_))) (bT q535)) (wpStill_nil (then_n ?_)))
        by_cases q542 : (IntKind.i64.wrap (((x1.tokens_.getD (((IntKind.i64.wrap ((x1.tokens_.length : Int) - 1))).toNat) z37).place) + ((x1.tokens_.getD (((IntKind.i64.wrap ((x1.tokens_.length : Int) - 1))).toNat) z37).size))) = x1.at_
        · replace M := ifp q542 M
          refine cT (bT q542) (wp_region_lit (lV 3 (eA (.int .i64 6)) (wpList_nil (then_n (wp_region_lit (lV 164 (eM (.pointer (some ⟨g2, 0, none⟩))) (lV 165 (eM (.int .i64 6)) ?_)))))))
          refine lV 166 (eM (.pointer (some ⟨g2, 0, none⟩))) (lV 167 (eN ⟨g2, 0, none⟩) (lV 168 (eD g2 0 1 1 Try.underlying42) (lV 169 (eL ⟨g2, 0 + 1, none⟩ (.int .i64 x1.at_) Try.underlying3 (blk_cell b3 rfl)) (lV 170 (eAdd .i64 x1.at_ 1) ?_))))
          have S543 := S527.pull (F := (is g2)) (Fr := [F7]) 1 rfl rfl
          have S544 := S543.pull (F := F7) (Fr := [(is g2)]) 1 rfl rfl
          obtain ⟨t545, u546, M⟩ := bnd M
          refine lC 171 (eC [.tmp 164, .tmp 165, .tmp 170, .const (str ([40] : List UInt8)), .const (.int .i64 0)] [.pointer (some ⟨g2, 0, none⟩), .int .i64 6, .int .i64 (IntKind.i64.wrap (x1.at_ + 1)), str ([40] : List UInt8), .int .i64 0] Try.func42) (impl_lexer_put.calls w526 H x1 g2 A4 c5 F7 6 (IntKind.i64.wrap (x1.at_ + 1)) ([40] : List UInt8) 0 h6 b3 (St.own' (Fa := [F7, (is g2)]) (Fr := []) S544) t545 u546) ?_
          rintro _ w547 ⟨A550, c551, F553, H548, rfl, h552, b554, T549⟩
          refine ⟨_, rfl, ?_⟩
          obtain ⟨S555, K556⟩ := St.call (Fa := [F7, (is g2)]) (Fr := []) S544 T549
          have E557 := T549.ext
          refine wpList_nil (inb_n ?_)
          obtain rfl := Option.some.inj M
          exact end0 rfl ⟨A550, c551, F553, H548, rfl, h552, b554, S555⟩
        replace M := ifn q542 M
        refine cF (bF q542) (wp_skip (then_n (wp_region_lit (lV 164 (eM (.pointer (some ⟨g2, 0, none⟩))) (lV 165 (eM (.int .i64 5)) (lV 166 (eM (.pointer (some ⟨g2, 0, none⟩))) (lV 167 (eN ⟨g2, 0, none⟩) ?_)))))))
        refine lV 168 (eD g2 0 1 1 Try.underlying42) (lV 169 (eL ⟨g2, 0 + 1, none⟩ (.int .i64 x1.at_) Try.underlying3 (blk_cell b3 rfl)) (lV 170 (eAdd .i64 x1.at_ 1) ?_))
        have S558 := S527.pull (F := (is g2)) (Fr := [F7]) 1 rfl rfl
        have S559 := S558.pull (F := F7) (Fr := [(is g2)]) 1 rfl rfl
        obtain ⟨t560, u561, M⟩ := bnd M
        refine lC 171 (eC [.tmp 164, .tmp 165, .tmp 170, .const (str ([40] : List UInt8)), .const (.int .i64 0)] [.pointer (some ⟨g2, 0, none⟩), .int .i64 5, .int .i64 (IntKind.i64.wrap (x1.at_ + 1)), str ([40] : List UInt8), .int .i64 0] Try.func42) (impl_lexer_put.calls w526 H x1 g2 A4 c5 F7 5 (IntKind.i64.wrap (x1.at_ + 1)) ([40] : List UInt8) 0 h6 b3 (St.own' (Fa := [F7, (is g2)]) (Fr := []) S559) t560 u561) ?_
        rintro _ w562 ⟨A565, c566, F568, H563, rfl, h567, b569, T564⟩
        refine ⟨_, rfl, ?_⟩
        obtain ⟨S570, K571⟩ := St.call (Fa := [F7, (is g2)]) (Fr := []) S559 T564
        have E572 := T564.ext
        refine wpList_nil (inb_n ?_)
        obtain rfl := Option.some.inj M
        exact end0 rfl ⟨A565, c566, F568, H563, rfl, h567, b569, S570⟩
      replace M := ifn q535 M
      refine sK 138 false (bF q535) ?_
      refine sK 138 false (bF q535) ?_
      refine sK 138 false (bF q535) ?_
      refine sK 138 false (bF q535) ?_
      refine sK 138 false (bF q535) ?_
      refine sK 138 false (bF q535) ?_
      refine sK 138 false (bF q535) ?_
      refine sK 138 false (bF q535) ?_
      refine sK 138 false (bF q535) ?_
      refine sK 138 false (bF q535) ?_
      refine sK 138 false (bF q535) ?_
      refine sK 138 false (bF q535) ?_
      refine sK 138 false (bF q535) ?_
      refine sK 138 false (bF q535) ?_
      refine sK 138 false (bF q535) ?_
      refine sK 138 false (bF q535) ?_
      refine sK 138 false (bF q535) ?_
      refine sK 138 false (bF q535) ?_
      refine sK 138 false (bF q535) ?_
      refine sK 138 false (bF q535) ?_
      refine sK 138 false (bF q535) ?_
      refine sK 138 false (bF q535) ?_
      refine sK 138 false (bF q535) ?_
      refine sK 138 false (bF q535) ?_
      refine sV 163 (eF (.bool false) (bF q535)) (wpStill_nil (then_n (cond_f rfl (by kernel_rfl) (wp_skip (then_n (wp_region_lit (lV 164 (eM (.pointer (some ⟨g2, 0, none⟩))) ?_)))))))
      refine lV 165 (eM (.int .i64 5)) (lV 166 (eM (.pointer (some ⟨g2, 0, none⟩))) (lV 167 (eN ⟨g2, 0, none⟩) (lV 168 (eD g2 0 1 1 Try.underlying42) (lV 169 (eL ⟨g2, 0 + 1, none⟩ (.int .i64 x1.at_) Try.underlying3 (blk_cell b3 rfl)) (lV 170 (eAdd .i64 x1.at_ 1) ?_)))))
      have S573 := S527.pull (F := (is g2)) (Fr := [F7]) 1 rfl rfl
      have S574 := S573.pull (F := F7) (Fr := [(is g2)]) 1 rfl rfl
      obtain ⟨t575, u576, M⟩ := bnd M
      refine lC 171 (eC [.tmp 164, .tmp 165, .tmp 170, .const (str ([40] : List UInt8)), .const (.int .i64 0)] [.pointer (some ⟨g2, 0, none⟩), .int .i64 5, .int .i64 (IntKind.i64.wrap (x1.at_ + 1)), str ([40] : List UInt8), .int .i64 0] Try.func42) (impl_lexer_put.calls w526 H x1 g2 A4 c5 F7 5 (IntKind.i64.wrap (x1.at_ + 1)) ([40] : List UInt8) 0 h6 b3 (St.own' (Fa := [F7, (is g2)]) (Fr := []) S574) t575 u576) ?_
      rintro _ w577 ⟨A580, c581, F583, H578, rfl, h582, b584, T579⟩
      refine ⟨_, rfl, ?_⟩
      obtain ⟨S585, K586⟩ := St.call (Fa := [F7, (is g2)]) (Fr := []) S574 T579
      have E587 := T579.ext
      refine wpList_nil (inb_n ?_)
      obtain rfl := Option.some.inj M
      exact end0 rfl ⟨A580, c581, F583, H578, rfl, h582, b584, S585⟩
    replace M := ifn q529 M
    refine sK 126 false (bF q529) ?_
    refine sK 126 false (bF q529) ?_
    refine sK 126 false (bF q529) ?_
    refine sK 126 false (bF q529) ?_
    refine sK 126 false (bF q529) ?_
    refine sK 126 false (bF q529) ?_
    refine sK 126 false (bF q529) ?_
    refine sK 126 false (bF q529) ?_
    refine sK 126 false (bF q529) ?_
    refine sK 126 false (bF q529) ?_
    refine sV 137 (eF (.bool false) (bF q529)) (sV 138 (eM (.bool false)) ?_)
    refine sK 138 false (by kernel_rfl) ?_
    refine sK 138 false (by kernel_rfl) ?_
    refine sK 138 false (by kernel_rfl) ?_
    refine sK 138 false (by kernel_rfl) ?_
    refine sK 138 false (by kernel_rfl) ?_
    refine sK 138 false (by kernel_rfl) ?_
    refine sK 138 false (by kernel_rfl) ?_
    refine sK 138 false (by kernel_rfl) ?_
    refine sK 138 false (by kernel_rfl) ?_
    refine sK 138 false (by kernel_rfl) ?_
    refine sK 138 false (by kernel_rfl) ?_
    refine sK 138 false (by kernel_rfl) ?_
    refine sK 138 false (by kernel_rfl) ?_
    refine sK 138 false (by kernel_rfl) ?_
    refine sK 138 false (by kernel_rfl) ?_
    refine sK 138 false (by kernel_rfl) ?_
    refine sK 138 false (by kernel_rfl) ?_
    refine sK 138 false (by kernel_rfl) ?_
    refine sK 138 false (by kernel_rfl) ?_
    refine sK 138 false (by kernel_rfl) ?_
    refine sK 138 false (by kernel_rfl) ?_
    refine sK 138 false (by kernel_rfl) ?_
    refine sK 138 false (by kernel_rfl) ?_
    refine sK 138 false (by kernel_rfl) ?_
    refine sV 163 (eF (.bool false)) (wpStill_nil (then_n (cond_f rfl (by kernel_rfl) (wp_skip (then_n (wp_region_lit (lV 164 (eM (.pointer (some ⟨g2, 0, none⟩))) ?_)))))))
    refine lV 165 (eM (.int .i64 5)) (lV 166 (eM (.pointer (some ⟨g2, 0, none⟩))) (lV 167 (eN ⟨g2, 0, none⟩) (lV 168 (eD g2 0 1 1 Try.underlying42) (lV 169 (eL ⟨g2, 0 + 1, none⟩ (.int .i64 x1.at_) Try.underlying3 (blk_cell b3 rfl)) (lV 170 (eAdd .i64 x1.at_ 1) ?_)))))
    have S588 := S527.pull (F := (is g2)) (Fr := [F7]) 1 rfl rfl
    have S589 := S588.pull (F := F7) (Fr := [(is g2)]) 1 rfl rfl
    obtain ⟨t590, u591, M⟩ := bnd M
    refine lC 171 (eC [.tmp 164, .tmp 165, .tmp 170, .const (str ([40] : List UInt8)), .const (.int .i64 0)] [.pointer (some ⟨g2, 0, none⟩), .int .i64 5, .int .i64 (IntKind.i64.wrap (x1.at_ + 1)), str ([40] : List UInt8), .int .i64 0] Try.func42) (impl_lexer_put.calls w526 H x1 g2 A4 c5 F7 5 (IntKind.i64.wrap (x1.at_ + 1)) ([40] : List UInt8) 0 h6 b3 (St.own' (Fa := [F7, (is g2)]) (Fr := []) S589) t590 u591) ?_
    rintro _ w592 ⟨A595, c596, F598, H593, rfl, h597, b599, T594⟩
    refine ⟨_, rfl, ?_⟩
    obtain ⟨S600, K601⟩ := St.call (Fa := [F7, (is g2)]) (Fr := []) S589 T594
    have E602 := T594.ext
    refine wpList_nil (inb_n ?_)
    obtain rfl := Option.some.inj M
    exact end0 rfl ⟨A595, c596, F598, H593, rfl, h597, b599, S600⟩
  replace M := ifn q525 M
  refine cF (bF q525) (wp_seq (wp_region_lit (lV 173 (eM (.int .u8 ((x1.s_.getD (x1.at_ : Int).toNat (0 : UInt8)).toNat : Int))) (lV 174 (eEq .u8 ((x1.s_.getD (x1.at_ : Int).toNat (0 : UInt8)).toNat : Int) 41) (lV 175 (eM (.bool (decide (((x1.s_.getD (x1.at_ : Int).toNat (0 : UInt8)).toNat : Int) = 41)))) ?_)))))
  by_cases q603 : ((x1.s_.getD (x1.at_ : Int).toNat (0 : UInt8)).toNat : Int) = 41
  · replace M := ifp q603 M
    refine lK 175 true (bT q603) ?_
    refine lK 175 true (bT q603) ?_
    refine lV 178 (eT (.bool true) (bT q603)) (lV 179 (eM (.bool true)) ?_)
    refine lJ 179 true ?_
    refine lJ 179 true ?_
    refine lV 182 (eT (.bool true)) (lV 183 (eM (.bool true)) ?_)
    refine lJ 183 true ?_
    refine lJ 183 true ?_
    refine lV 186 (eT (.bool true)) (lV 187 (eM (.bool true)) ?_)
    refine lJ 187 true ?_
    refine lJ 187 true ?_
    refine lV 190 (eT (.bool true)) (lV 191 (eM (.bool true)) ?_)
    refine lJ 191 true ?_
    refine lJ 191 true ?_
    refine lV 194 (eT (.bool true)) (lV 195 (eM (.bool true)) ?_)
    refine lJ 195 true ?_
    refine lJ 195 true ?_
    refine lV 198 (eT (.bool true)) (lV 172 (eA (.bool true)) (wpList_nil (then_n (cond_t rfl (by kernel_rfl) (wp_region_lit (lV 199 (eM (.pointer (some ⟨g2, 0, none⟩))) (lV 200 (eM (.pointer (some ⟨g2, 0, none⟩))) ?_)))))))
    refine lV 201 (eN ⟨g2, 0, none⟩) (lV 202 (eD g2 0 1 1 Try.underlying42) (lV 203 (eL ⟨g2, 0 + 1, none⟩ (.int .i64 x1.at_) Try.underlying3 (blk_cell b3 rfl)) (lV 204 (eAdd .i64 x1.at_ 1) (lV 205 (eM (.int .u8 ((x1.s_.getD (x1.at_ : Int).toNat (0 : UInt8)).toNat : Int))) (lV 206 (e_conv_int (k := .u8) (a := ((x1.s_.getD (x1.at_ : Int).toNat (0 : UInt8)).toNat : Int)) (by kernel_rfl) Try.underlying21 (by kernel_rfl)) (lV 207 (e_conv_rs (k := .i32) (a := (IntKind.i32.wrap (((x1.s_.getD (x1.at_ : Int).toNat (0 : UInt8)).toNat : Int)))) Try.underlying21 Try.underlying9 (by kernel_rfl)) ?_))))))
    have S604 := S443.pull (F := (is g2)) (Fr := [F7]) 1 rfl rfl
    have S605 := S604.pull (F := F7) (Fr := [(is g2)]) 1 rfl rfl
    obtain ⟨t606, u607, M⟩ := bnd M
    refine lC 208 (eC [.tmp 199, .const (.int .i64 5), .tmp 204, .tmp 207, .const (.int .i64 0)] [.pointer (some ⟨g2, 0, none⟩), .int .i64 5, .int .i64 (IntKind.i64.wrap (x1.at_ + 1)), str (runeS (IntKind.i32.wrap (((x1.s_.getD (x1.at_ : Int).toNat (0 : UInt8)).toNat : Int)))), .int .i64 0] Try.func42) (impl_lexer_put.calls w441 H x1 g2 A4 c5 F7 5 (IntKind.i64.wrap (x1.at_ + 1)) (runeS (IntKind.i32.wrap (((x1.s_.getD (x1.at_ : Int).toNat (0 : UInt8)).toNat : Int)))) 0 h6 b3 (St.own' (Fa := [F7, (is g2)]) (Fr := []) S605) t606 u607) ?_
    rintro _ w608 ⟨A611, c612, F614, H609, rfl, h613, b615, T610⟩
    refine ⟨_, rfl, ?_⟩
    obtain ⟨S616, K617⟩ := St.call (Fa := [F7, (is g2)]) (Fr := []) S605 T610
    have E618 := T610.ext
    refine wpList_nil (inb_n ?_)
    obtain rfl := Option.some.inj M
    exact end0 rfl ⟨A611, c612, F614, H609, rfl, h613, b615, S616⟩
  replace M := ifn q603 M
  refine lG 176 175 (bF q603) (eM (.int .u8 ((x1.s_.getD (x1.at_ : Int).toNat (0 : UInt8)).toNat : Int))) (lG 177 175 (bF q603) (eEq .u8 ((x1.s_.getD (x1.at_ : Int).toNat (0 : UInt8)).toNat : Int) 91) (lV 178 (eF (.bool (decide (((x1.s_.getD (x1.at_ : Int).toNat (0 : UInt8)).toNat : Int) = 91))) (bF q603)) (lV 179 (eM (.bool (decide (((x1.s_.getD (x1.at_ : Int).toNat (0 : UInt8)).toNat : Int) = 91)))) ?_)))
  by_cases q619 : ((x1.s_.getD (x1.at_ : Int).toNat (0 : UInt8)).toNat : Int) = 91
  · replace M := ifp q619 M
    refine lK 179 true (bT q619) ?_
    refine lK 179 true (bT q619) ?_
    refine lV 182 (eT (.bool true) (bT q619)) (lV 183 (eM (.bool true)) ?_)
    refine lJ 183 true ?_
    refine lJ 183 true ?_
    refine lV 186 (eT (.bool true)) (lV 187 (eM (.bool true)) ?_)
    refine lJ 187 true ?_
    refine lJ 187 true ?_
    refine lV 190 (eT (.bool true)) (lV 191 (eM (.bool true)) ?_)
    refine lJ 191 true ?_
    refine lJ 191 true ?_
    refine lV 194 (eT (.bool true)) (lV 195 (eM (.bool true)) ?_)
    refine lJ 195 true ?_
    refine lJ 195 true ?_
    refine lV 198 (eT (.bool true)) (lV 172 (eA (.bool true)) (wpList_nil (then_n (cond_t rfl (by kernel_rfl) (wp_region_lit (lV 199 (eM (.pointer (some ⟨g2, 0, none⟩))) (lV 200 (eM (.pointer (some ⟨g2, 0, none⟩))) ?_)))))))
    refine lV 201 (eN ⟨g2, 0, none⟩) (lV 202 (eD g2 0 1 1 Try.underlying42) (lV 203 (eL ⟨g2, 0 + 1, none⟩ (.int .i64 x1.at_) Try.underlying3 (blk_cell b3 rfl)) (lV 204 (eAdd .i64 x1.at_ 1) (lV 205 (eM (.int .u8 ((x1.s_.getD (x1.at_ : Int).toNat (0 : UInt8)).toNat : Int))) (lV 206 (e_conv_int (k := .u8) (a := ((x1.s_.getD (x1.at_ : Int).toNat (0 : UInt8)).toNat : Int)) (by kernel_rfl) Try.underlying21 (by kernel_rfl)) (lV 207 (e_conv_rs (k := .i32) (a := (IntKind.i32.wrap (((x1.s_.getD (x1.at_ : Int).toNat (0 : UInt8)).toNat : Int)))) Try.underlying21 Try.underlying9 (by kernel_rfl)) ?_))))))
    have S620 := S443.pull (F := (is g2)) (Fr := [F7]) 1 rfl rfl
    have S621 := S620.pull (F := F7) (Fr := [(is g2)]) 1 rfl rfl
    obtain ⟨t622, u623, M⟩ := bnd M
    refine lC 208 (eC [.tmp 199, .const (.int .i64 5), .tmp 204, .tmp 207, .const (.int .i64 0)] [.pointer (some ⟨g2, 0, none⟩), .int .i64 5, .int .i64 (IntKind.i64.wrap (x1.at_ + 1)), str (runeS (IntKind.i32.wrap (((x1.s_.getD (x1.at_ : Int).toNat (0 : UInt8)).toNat : Int)))), .int .i64 0] Try.func42) (impl_lexer_put.calls w441 H x1 g2 A4 c5 F7 5 (IntKind.i64.wrap (x1.at_ + 1)) (runeS (IntKind.i32.wrap (((x1.s_.getD (x1.at_ : Int).toNat (0 : UInt8)).toNat : Int)))) 0 h6 b3 (St.own' (Fa := [F7, (is g2)]) (Fr := []) S621) t622 u623) ?_
    rintro _ w624 ⟨A627, c628, F630, H625, rfl, h629, b631, T626⟩
    refine ⟨_, rfl, ?_⟩
    obtain ⟨S632, K633⟩ := St.call (Fa := [F7, (is g2)]) (Fr := []) S621 T626
    have E634 := T626.ext
    refine wpList_nil (inb_n ?_)
    obtain rfl := Option.some.inj M
    exact end0 rfl ⟨A627, c628, F630, H625, rfl, h629, b631, S632⟩
  replace M := ifn q619 M
  refine lG 180 179 (bF q619) (eM (.int .u8 ((x1.s_.getD (x1.at_ : Int).toNat (0 : UInt8)).toNat : Int))) (lG 181 179 (bF q619) (eEq .u8 ((x1.s_.getD (x1.at_ : Int).toNat (0 : UInt8)).toNat : Int) 93) (lV 182 (eF (.bool (decide (((x1.s_.getD (x1.at_ : Int).toNat (0 : UInt8)).toNat : Int) = 93))) (bF q619)) (lV 183 (eM (.bool (decide (((x1.s_.getD (x1.at_ : Int).toNat (0 : UInt8)).toNat : Int) = 93)))) ?_)))
  by_cases q635 : ((x1.s_.getD (x1.at_ : Int).toNat (0 : UInt8)).toNat : Int) = 93
  · replace M := ifp q635 M
    refine lK 183 true (bT q635) ?_
    refine lK 183 true (bT q635) ?_
    refine lV 186 (eT (.bool true) (bT q635)) (lV 187 (eM (.bool true)) ?_)
    refine lJ 187 true ?_
    refine lJ 187 true ?_
    refine lV 190 (eT (.bool true)) (lV 191 (eM (.bool true)) ?_)
    refine lJ 191 true ?_
    refine lJ 191 true ?_
    refine lV 194 (eT (.bool true)) (lV 195 (eM (.bool true)) ?_)
    refine lJ 195 true ?_
    refine lJ 195 true ?_
    refine lV 198 (eT (.bool true)) (lV 172 (eA (.bool true)) (wpList_nil (then_n (cond_t rfl (by kernel_rfl) (wp_region_lit (lV 199 (eM (.pointer (some ⟨g2, 0, none⟩))) (lV 200 (eM (.pointer (some ⟨g2, 0, none⟩))) ?_)))))))
    refine lV 201 (eN ⟨g2, 0, none⟩) (lV 202 (eD g2 0 1 1 Try.underlying42) (lV 203 (eL ⟨g2, 0 + 1, none⟩ (.int .i64 x1.at_) Try.underlying3 (blk_cell b3 rfl)) (lV 204 (eAdd .i64 x1.at_ 1) (lV 205 (eM (.int .u8 ((x1.s_.getD (x1.at_ : Int).toNat (0 : UInt8)).toNat : Int))) (lV 206 (e_conv_int (k := .u8) (a := ((x1.s_.getD (x1.at_ : Int).toNat (0 : UInt8)).toNat : Int)) (by kernel_rfl) Try.underlying21 (by kernel_rfl)) (lV 207 (e_conv_rs (k := .i32) (a := (IntKind.i32.wrap (((x1.s_.getD (x1.at_ : Int).toNat (0 : UInt8)).toNat : Int)))) Try.underlying21 Try.underlying9 (by kernel_rfl)) ?_))))))
    have S636 := S443.pull (F := (is g2)) (Fr := [F7]) 1 rfl rfl
    have S637 := S636.pull (F := F7) (Fr := [(is g2)]) 1 rfl rfl
    obtain ⟨t638, u639, M⟩ := bnd M
    refine lC 208 (eC [.tmp 199, .const (.int .i64 5), .tmp 204, .tmp 207, .const (.int .i64 0)] [.pointer (some ⟨g2, 0, none⟩), .int .i64 5, .int .i64 (IntKind.i64.wrap (x1.at_ + 1)), str (runeS (IntKind.i32.wrap (((x1.s_.getD (x1.at_ : Int).toNat (0 : UInt8)).toNat : Int)))), .int .i64 0] Try.func42) (impl_lexer_put.calls w441 H x1 g2 A4 c5 F7 5 (IntKind.i64.wrap (x1.at_ + 1)) (runeS (IntKind.i32.wrap (((x1.s_.getD (x1.at_ : Int).toNat (0 : UInt8)).toNat : Int)))) 0 h6 b3 (St.own' (Fa := [F7, (is g2)]) (Fr := []) S637) t638 u639) ?_
    rintro _ w640 ⟨A643, c644, F646, H641, rfl, h645, b647, T642⟩
    refine ⟨_, rfl, ?_⟩
    obtain ⟨S648, K649⟩ := St.call (Fa := [F7, (is g2)]) (Fr := []) S637 T642
    have E650 := T642.ext
    refine wpList_nil (inb_n ?_)
    obtain rfl := Option.some.inj M
    exact end0 rfl ⟨A643, c644, F646, H641, rfl, h645, b647, S648⟩
  replace M := ifn q635 M
  refine lG 184 183 (bF q635) (eM (.int .u8 ((x1.s_.getD (x1.at_ : Int).toNat (0 : UInt8)).toNat : Int))) (lG 185 183 (bF q635) (eEq .u8 ((x1.s_.getD (x1.at_ : Int).toNat (0 : UInt8)).toNat : Int) 123) (lV 186 (eF (.bool (decide (((x1.s_.getD (x1.at_ : Int).toNat (0 : UInt8)).toNat : Int) = 123))) (bF q635)) (lV 187 (eM (.bool (decide (((x1.s_.getD (x1.at_ : Int).toNat (0 : UInt8)).toNat : Int) = 123)))) ?_)))
  by_cases q651 : ((x1.s_.getD (x1.at_ : Int).toNat (0 : UInt8)).toNat : Int) = 123
  · replace M := ifp q651 M
    refine lK 187 true (bT q651) ?_
    refine lK 187 true (bT q651) ?_
    refine lV 190 (eT (.bool true) (bT q651)) (lV 191 (eM (.bool true)) ?_)
    refine lJ 191 true ?_
    refine lJ 191 true ?_
    refine lV 194 (eT (.bool true)) (lV 195 (eM (.bool true)) ?_)
    refine lJ 195 true ?_
    refine lJ 195 true ?_
    refine lV 198 (eT (.bool true)) (lV 172 (eA (.bool true)) (wpList_nil (then_n (cond_t rfl (by kernel_rfl) (wp_region_lit (lV 199 (eM (.pointer (some ⟨g2, 0, none⟩))) (lV 200 (eM (.pointer (some ⟨g2, 0, none⟩))) ?_)))))))
    refine lV 201 (eN ⟨g2, 0, none⟩) (lV 202 (eD g2 0 1 1 Try.underlying42) (lV 203 (eL ⟨g2, 0 + 1, none⟩ (.int .i64 x1.at_) Try.underlying3 (blk_cell b3 rfl)) (lV 204 (eAdd .i64 x1.at_ 1) (lV 205 (eM (.int .u8 ((x1.s_.getD (x1.at_ : Int).toNat (0 : UInt8)).toNat : Int))) (lV 206 (e_conv_int (k := .u8) (a := ((x1.s_.getD (x1.at_ : Int).toNat (0 : UInt8)).toNat : Int)) (by kernel_rfl) Try.underlying21 (by kernel_rfl)) (lV 207 (e_conv_rs (k := .i32) (a := (IntKind.i32.wrap (((x1.s_.getD (x1.at_ : Int).toNat (0 : UInt8)).toNat : Int)))) Try.underlying21 Try.underlying9 (by kernel_rfl)) ?_))))))
    have S652 := S443.pull (F := (is g2)) (Fr := [F7]) 1 rfl rfl
    have S653 := S652.pull (F := F7) (Fr := [(is g2)]) 1 rfl rfl
    obtain ⟨t654, u655, M⟩ := bnd M
    refine lC 208 (eC [.tmp 199, .const (.int .i64 5), .tmp 204, .tmp 207, .const (.int .i64 0)] [.pointer (some ⟨g2, 0, none⟩), .int .i64 5, .int .i64 (IntKind.i64.wrap (x1.at_ + 1)), str (runeS (IntKind.i32.wrap (((x1.s_.getD (x1.at_ : Int).toNat (0 : UInt8)).toNat : Int)))), .int .i64 0] Try.func42) (impl_lexer_put.calls w441 H x1 g2 A4 c5 F7 5 (IntKind.i64.wrap (x1.at_ + 1)) (runeS (IntKind.i32.wrap (((x1.s_.getD (x1.at_ : Int).toNat (0 : UInt8)).toNat : Int)))) 0 h6 b3 (St.own' (Fa := [F7, (is g2)]) (Fr := []) S653) t654 u655) ?_
    rintro _ w656 ⟨A659, c660, F662, H657, rfl, h661, b663, T658⟩
    refine ⟨_, rfl, ?_⟩
    obtain ⟨S664, K665⟩ := St.call (Fa := [F7, (is g2)]) (Fr := []) S653 T658
    have E666 := T658.ext
    refine wpList_nil (inb_n ?_)
    obtain rfl := Option.some.inj M
    exact end0 rfl ⟨A659, c660, F662, H657, rfl, h661, b663, S664⟩
  replace M := ifn q651 M
  refine lG 188 187 (bF q651) (eM (.int .u8 ((x1.s_.getD (x1.at_ : Int).toNat (0 : UInt8)).toNat : Int))) (lG 189 187 (bF q651) (eEq .u8 ((x1.s_.getD (x1.at_ : Int).toNat (0 : UInt8)).toNat : Int) 125) (lV 190 (eF (.bool (decide (((x1.s_.getD (x1.at_ : Int).toNat (0 : UInt8)).toNat : Int) = 125))) (bF q651)) (lV 191 (eM (.bool (decide (((x1.s_.getD (x1.at_ : Int).toNat (0 : UInt8)).toNat : Int) = 125)))) ?_)))
  by_cases q667 : ((x1.s_.getD (x1.at_ : Int).toNat (0 : UInt8)).toNat : Int) = 125
  · replace M := ifp q667 M
    refine lK 191 true (bT q667) ?_
    refine lK 191 true (bT q667) ?_
    refine lV 194 (eT (.bool true) (bT q667)) (lV 195 (eM (.bool true)) ?_)
    refine lJ 195 true ?_
    refine lJ 195 true ?_
    refine lV 198 (eT (.bool true)) (lV 172 (eA (.bool true)) (wpList_nil (then_n (cond_t rfl (by kernel_rfl) (wp_region_lit (lV 199 (eM (.pointer (some ⟨g2, 0, none⟩))) (lV 200 (eM (.pointer (some ⟨g2, 0, none⟩))) ?_)))))))
    refine lV 201 (eN ⟨g2, 0, none⟩) (lV 202 (eD g2 0 1 1 Try.underlying42) (lV 203 (eL ⟨g2, 0 + 1, none⟩ (.int .i64 x1.at_) Try.underlying3 (blk_cell b3 rfl)) (lV 204 (eAdd .i64 x1.at_ 1) (lV 205 (eM (.int .u8 ((x1.s_.getD (x1.at_ : Int).toNat (0 : UInt8)).toNat : Int))) (lV 206 (e_conv_int (k := .u8) (a := ((x1.s_.getD (x1.at_ : Int).toNat (0 : UInt8)).toNat : Int)) (by kernel_rfl) Try.underlying21 (by kernel_rfl)) (lV 207 (e_conv_rs (k := .i32) (a := (IntKind.i32.wrap (((x1.s_.getD (x1.at_ : Int).toNat (0 : UInt8)).toNat : Int)))) Try.underlying21 Try.underlying9 (by kernel_rfl)) ?_))))))
    have S668 := S443.pull (F := (is g2)) (Fr := [F7]) 1 rfl rfl
    have S669 := S668.pull (F := F7) (Fr := [(is g2)]) 1 rfl rfl
    obtain ⟨t670, u671, M⟩ := bnd M
    refine lC 208 (eC [.tmp 199, .const (.int .i64 5), .tmp 204, .tmp 207, .const (.int .i64 0)] [.pointer (some ⟨g2, 0, none⟩), .int .i64 5, .int .i64 (IntKind.i64.wrap (x1.at_ + 1)), str (runeS (IntKind.i32.wrap (((x1.s_.getD (x1.at_ : Int).toNat (0 : UInt8)).toNat : Int)))), .int .i64 0] Try.func42) (impl_lexer_put.calls w441 H x1 g2 A4 c5 F7 5 (IntKind.i64.wrap (x1.at_ + 1)) (runeS (IntKind.i32.wrap (((x1.s_.getD (x1.at_ : Int).toNat (0 : UInt8)).toNat : Int)))) 0 h6 b3 (St.own' (Fa := [F7, (is g2)]) (Fr := []) S669) t670 u671) ?_
    rintro _ w672 ⟨A675, c676, F678, H673, rfl, h677, b679, T674⟩
    refine ⟨_, rfl, ?_⟩
    obtain ⟨S680, K681⟩ := St.call (Fa := [F7, (is g2)]) (Fr := []) S669 T674
    have E682 := T674.ext
    refine wpList_nil (inb_n ?_)
    obtain rfl := Option.some.inj M
    exact end0 rfl ⟨A675, c676, F678, H673, rfl, h677, b679, S680⟩
  replace M := ifn q667 M
  refine lG 192 191 (bF q667) (eM (.int .u8 ((x1.s_.getD (x1.at_ : Int).toNat (0 : UInt8)).toNat : Int))) (lG 193 191 (bF q667) (eEq .u8 ((x1.s_.getD (x1.at_ : Int).toNat (0 : UInt8)).toNat : Int) 44) (lV 194 (eF (.bool (decide (((x1.s_.getD (x1.at_ : Int).toNat (0 : UInt8)).toNat : Int) = 44))) (bF q667)) (lV 195 (eM (.bool (decide (((x1.s_.getD (x1.at_ : Int).toNat (0 : UInt8)).toNat : Int) = 44)))) ?_)))
  by_cases q683 : ((x1.s_.getD (x1.at_ : Int).toNat (0 : UInt8)).toNat : Int) = 44
  · replace M := ifp q683 M
    refine lK 195 true (bT q683) ?_
    refine lK 195 true (bT q683) ?_
    refine lV 198 (eT (.bool true) (bT q683)) (lV 172 (eA (.bool true)) (wpList_nil (then_n (cond_t rfl (by kernel_rfl) (wp_region_lit (lV 199 (eM (.pointer (some ⟨g2, 0, none⟩))) (lV 200 (eM (.pointer (some ⟨g2, 0, none⟩))) ?_)))))))
    refine lV 201 (eN ⟨g2, 0, none⟩) (lV 202 (eD g2 0 1 1 Try.underlying42) (lV 203 (eL ⟨g2, 0 + 1, none⟩ (.int .i64 x1.at_) Try.underlying3 (blk_cell b3 rfl)) (lV 204 (eAdd .i64 x1.at_ 1) (lV 205 (eM (.int .u8 ((x1.s_.getD (x1.at_ : Int).toNat (0 : UInt8)).toNat : Int))) (lV 206 (e_conv_int (k := .u8) (a := ((x1.s_.getD (x1.at_ : Int).toNat (0 : UInt8)).toNat : Int)) (by kernel_rfl) Try.underlying21 (by kernel_rfl)) (lV 207 (e_conv_rs (k := .i32) (a := (IntKind.i32.wrap (((x1.s_.getD (x1.at_ : Int).toNat (0 : UInt8)).toNat : Int)))) Try.underlying21 Try.underlying9 (by kernel_rfl)) ?_))))))
    have S684 := S443.pull (F := (is g2)) (Fr := [F7]) 1 rfl rfl
    have S685 := S684.pull (F := F7) (Fr := [(is g2)]) 1 rfl rfl
    obtain ⟨t686, u687, M⟩ := bnd M
    refine lC 208 (eC [.tmp 199, .const (.int .i64 5), .tmp 204, .tmp 207, .const (.int .i64 0)] [.pointer (some ⟨g2, 0, none⟩), .int .i64 5, .int .i64 (IntKind.i64.wrap (x1.at_ + 1)), str (runeS (IntKind.i32.wrap (((x1.s_.getD (x1.at_ : Int).toNat (0 : UInt8)).toNat : Int)))), .int .i64 0] Try.func42) (impl_lexer_put.calls w441 H x1 g2 A4 c5 F7 5 (IntKind.i64.wrap (x1.at_ + 1)) (runeS (IntKind.i32.wrap (((x1.s_.getD (x1.at_ : Int).toNat (0 : UInt8)).toNat : Int)))) 0 h6 b3 (St.own' (Fa := [F7, (is g2)]) (Fr := []) S685) t686 u687) ?_
    rintro _ w688 ⟨A691, c692, F694, H689, rfl, h693, b695, T690⟩
    refine ⟨_, rfl, ?_⟩
    obtain ⟨S696, K697⟩ := St.call (Fa := [F7, (is g2)]) (Fr := []) S685 T690
    have E698 := T690.ext
    refine wpList_nil (inb_n ?_)
    obtain rfl := Option.some.inj M
    exact end0 rfl ⟨A691, c692, F694, H689, rfl, h693, b695, S696⟩
  replace M := ifn q683 M
  refine lG 196 195 (bF q683) (eM (.int .u8 ((x1.s_.getD (x1.at_ : Int).toNat (0 : UInt8)).toNat : Int))) (lG 197 195 (bF q683) (eEq .u8 ((x1.s_.getD (x1.at_ : Int).toNat (0 : UInt8)).toNat : Int) 124) (lV 198 (eF (.bool (decide (((x1.s_.getD (x1.at_ : Int).toNat (0 : UInt8)).toNat : Int) = 124))) (bF q683)) (lV 172 (eA (.bool (decide (((x1.s_.getD (x1.at_ : Int).toNat (0 : UInt8)).toNat : Int) = 124)))) (wpList_nil (then_n ?_)))))
  by_cases q699 : ((x1.s_.getD (x1.at_ : Int).toNat (0 : UInt8)).toNat : Int) = 124
  · replace M := ifp q699 M
    refine cT (bT q699) (wp_region_lit (lV 199 (eM (.pointer (some ⟨g2, 0, none⟩))) (lV 200 (eM (.pointer (some ⟨g2, 0, none⟩))) (lV 201 (eN ⟨g2, 0, none⟩) (lV 202 (eD g2 0 1 1 Try.underlying42) (lV 203 (eL ⟨g2, 0 + 1, none⟩ (.int .i64 x1.at_) Try.underlying3 (blk_cell b3 rfl)) (lV 204 (eAdd .i64 x1.at_ 1) ?_)))))))
    refine lV 205 (eM (.int .u8 ((x1.s_.getD (x1.at_ : Int).toNat (0 : UInt8)).toNat : Int))) (lV 206 (e_conv_int (k := .u8) (a := ((x1.s_.getD (x1.at_ : Int).toNat (0 : UInt8)).toNat : Int)) (by kernel_rfl) Try.underlying21 (by kernel_rfl)) (lV 207 (e_conv_rs (k := .i32) (a := (IntKind.i32.wrap (((x1.s_.getD (x1.at_ : Int).toNat (0 : UInt8)).toNat : Int)))) Try.underlying21 Try.underlying9 (by kernel_rfl)) ?_))
    have S700 := S443.pull (F := (is g2)) (Fr := [F7]) 1 rfl rfl
    have S701 := S700.pull (F := F7) (Fr := [(is g2)]) 1 rfl rfl
    obtain ⟨t702, u703, M⟩ := bnd M
    refine lC 208 (eC [.tmp 199, .const (.int .i64 5), .tmp 204, .tmp 207, .const (.int .i64 0)] [.pointer (some ⟨g2, 0, none⟩), .int .i64 5, .int .i64 (IntKind.i64.wrap (x1.at_ + 1)), str (runeS (IntKind.i32.wrap (((x1.s_.getD (x1.at_ : Int).toNat (0 : UInt8)).toNat : Int)))), .int .i64 0] Try.func42) (impl_lexer_put.calls w441 H x1 g2 A4 c5 F7 5 (IntKind.i64.wrap (x1.at_ + 1)) (runeS (IntKind.i32.wrap (((x1.s_.getD (x1.at_ : Int).toNat (0 : UInt8)).toNat : Int)))) 0 h6 b3 (St.own' (Fa := [F7, (is g2)]) (Fr := []) S701) t702 u703) ?_
    rintro _ w704 ⟨A707, c708, F710, H705, rfl, h709, b711, T706⟩
    refine ⟨_, rfl, ?_⟩
    obtain ⟨S712, K713⟩ := St.call (Fa := [F7, (is g2)]) (Fr := []) S701 T706
    have E714 := T706.ext
    refine wpList_nil (inb_n ?_)
    obtain rfl := Option.some.inj M
    exact end0 rfl ⟨A707, c708, F710, H705, rfl, h709, b711, S712⟩
  replace M := ifn q699 M
  refine cF (bF q699) (wp_region_lit (lV 14 (eM (.pointer (some ⟨g2, 0, none⟩))) (lV 15 (eM (.pointer (some ⟨g2, 0, none⟩))) (lV 16 (eN ⟨g2, 0, none⟩) (lV 17 (eD g2 0 1 1 Try.underlying42) (lV 18 (eL ⟨g2, 0 + 1, none⟩ (.int .i64 x1.at_) Try.underlying3 (blk_cell b3 rfl)) ?_))))))
  have S715 := S443.pull (F := (is g2)) (Fr := [F7]) 1 rfl rfl
  have S716 := S715.pull (F := F7) (Fr := [(is g2)]) 1 rfl rfl
  obtain ⟨t717, u718, M⟩ := bnd M
  refine lC 19 (eC [.tmp 14, .const (.int .i64 2), .tmp 18] [.pointer (some ⟨g2, 0, none⟩), .int .i64 2, .int .i64 x1.at_] Try.func37) (impl_lexer_fault.calls w441 H x1 g2 A4 c5 F7 2 x1.at_ h6 b3 (St.own' (Fa := [F7, (is g2)]) (Fr := []) S716) t717 u718) ?_
  rintro _ w719 ⟨A722, c723, F725, H720, rfl, h724, b726, T721⟩
  refine ⟨_, rfl, ?_⟩
  obtain ⟨S727, K728⟩ := St.call (Fa := [F7, (is g2)]) (Fr := []) S716 T721
  have E729 := T721.ext
  refine wpList_nil (inb_n ?_)
  obtain rfl := Option.some.inj M
  exact end0 rfl ⟨A722, c723, F725, H720, rfl, h724, b726, S727⟩

/-! impl_Lex -/
def impl_Lex.l0 (_k : Nat) (x17 : List UInt8) (x18 : Int) (x19 : List Token) (x24 : Int) (x25 : Int) : Option ((List Token) × Int × Int) := (if x24 ≠ 0 then some ([], x24, x25) else some (x19, 0, 0))
def impl_Lex.l1 : Nat → (List UInt8) → Int → (List Token) → Int → Int → Option ((List Token) × Int × Int)
  | 0, _, _, _, _, _ => none
  | k50 + 1, x35, x36, x37, x42, x43 => ((impl_lexer_blanks.f k50 (⟨x35, x36, x37, x42, x43⟩ : GLexer)).bind fun t54 => (if t54.code_ ≠ 0 then (impl_Lex.l0 0 t54.s_ t54.at_ t54.tokens_ t54.code_ t54.place_) else (if t54.at_ ≥ (t54.s_.length : Int) then (impl_Lex.l0 0 t54.s_ t54.at_ t54.tokens_ t54.code_ t54.place_) else ((impl_lexer_token.f k50 t54).bind fun t73 => (if t73.code_ ≠ 0 then (impl_Lex.l0 0 t73.s_ t73.at_ t73.tokens_ t73.code_ t73.place_) else (impl_Lex.l1 k50 t73.s_ t73.at_ t73.tokens_ t73.code_ t73.place_))))))
def impl_Lex.f (k : Nat) (x1 : List UInt8) : Option ((List Token) × Int × Int) := (if (x1.length : Int) > 10000 then some ([], 3, 10000) else (impl_Lex.l1 k x1 0 [] 0 0))
theorem impl_Lex.calls (k : Nat) (w : World) (H : Hp) (x1 : List UInt8) (A2 : Option Addr) (c3 : Nat) (h4 : Rd tByte H A2 x1) (l5 : x1.length ≤ c3) (S : Own [] H w) (r : (List Token) × Int × Int) (M : impl_Lex.f k x1 = some r) :
    Calls Try.prog 11 #[.slice A2 x1.length c3] w (fun e e_w => ∃ (A_1 : Option Addr) (c_1 : Nat) (F_1 : Foot) (H_ : Hp), e = .returned (.tuple #[.slice A_1 r.1.length c_1, .int .i64 r.2.1, .int .i64 r.2.2]) ∧ Row st37 37 H_ (hp e_w) F_1 A_1 c_1 r.1 ∧ St (anyOf []) H w [F_1] H_ e_w) := by
  rw [impl_Lex.f] at M
  refine enter (l := [.slice A2 x1.length c3]) 56 Try.func11 rfl rfl rfl ?_
  have S0_ := S.st
  refine wp_seq (wp_region_lit (lV 2 (eA (.slice none 0 0)) (lV 3 (eA (.int .i64 0)) (lV 4 (eA (.int .i64 0)) (wpList_nil (then_n (wp_seq ?_)))))))
  refine wp_seq (wp_region_lit (lV 6 (eM (.slice A2 x1.length c3)) (lV 7 (e_len (A := A2) (n := x1.length) (c := c3) Try.underlying23 (by kernel_rfl)) (lV 8 (e_gtr (k := .i64) (a := (x1.length : Int)) (b := 10000) (by kernel_rfl) rfl) (wpList_nil (then_n ?_))))))
  by_cases q6 : (x1.length : Int) > 10000
  · replace M := ifp q6 M
    refine cT (bT q6) (wp_seq (wp_region_lit (lV 2 (eA (.slice none 0 0)) (lV 3 (eA (.int .i64 3)) (lV 4 (eA (.int .i64 10000)) (wpList_nil (then_n ?_)))))))
    refine wp_ret (then_r ?_)
    obtain rfl := Option.some.inj M
    have S7 := S0_.unit
    exact ret3 rfl rfl rfl rfl (show _ = .slice none 0 0 from (by kernel_rfl)) (show _ = .int .i64 3 from (by kernel_rfl)) (show _ = .int .i64 10000 from (by kernel_rfl)) ⟨none, 0, no, H, rfl, (Row.nil _ _ _ _ no), S7⟩
  replace M := ifn q6 M
  refine cF (bF q6) (wp_skip (then_n (wp_seq (wp_region_lit (lV 9 (eM (.slice A2 x1.length c3)) (lV 10 (e_conv_bs (A := A2) (n := x1.length) (c := c3) (xs := x1) Try.underlying23 Try.underlying5 Try.underlying9 (by kernel_rfl) rfl (Rd.bytesE S0_.inv h4)) (lV 11 (show _ = Result.ok (Next.value (.agg #[str x1, .int .i64 0, .slice none 0 0, .int .i64 0, .int .i64 0])) w from by kernel_rfl) ?_)))))))
  refine lve (d := 12) rfl rfl (by kernel_rfl) (new_blk (v := fun g_ => .pointer (some ⟨g_, 0, none⟩)) (cs := #[str x1, .int .i64 0, .slice none 0 0, .int .i64 0, .int .i64 0]) (t := 42) S0_ (by kernel_rfl)) ?_
  rintro _ w8 ⟨g9, rfl, b10, S11, K12⟩
  refine lV 5 (eA (.pointer (some ⟨g9, 0, none⟩))) (wpList_nil (then_n ?_))
  refine wp_seq_cut (fun a30 w13 => ∃ (f14 : Nat → Value) (H15 : Hp) (x17 : List UInt8) (x18 : Int) (x19 : List Token) (A20 : Option Addr) (c21 : Nat) (F22 : Foot) (x24 : Int) (x25 : Int), a30 = mk 56 f14 ∧ f14 5 = .pointer (some ⟨g9, 0, none⟩) ∧ w13.heap[g9]? = some (.cells #[str x17, .int .i64 x18, .slice A20 x19.length c21, .int .i64 x24, .int .i64 x25] 42 (0, 0)) ∧ Row st37 37 H15 (hp w13) F22 A20 c21 x19 ∧ Ext H H15 ∧ St (anyOf []) H w [(is g9), F22] H15 w13 ∧ impl_Lex.l0 0 x17 x18 x19 x24 x25 = some r) ?_ ?_
  · refine wp_block ?_
    have S51 := S11.unit
    have S52 := S51.pull (F := (is g9)) (Fr := [no]) 1 rfl rfl
    refine wp_loop_g (fun k48 a49 w31 => ∃ (f32 : Nat → Value) (H33 : Hp) (x35 : List UInt8) (x36 : Int) (x37 : List Token) (A38 : Option Addr) (c39 : Nat) (F40 : Foot) (x42 : Int) (x43 : Int), a49 = mk 56 f32 ∧ f32 5 = .pointer (some ⟨g9, 0, none⟩) ∧ w31.heap[g9]? = some (.cells #[str x35, .int .i64 x36, .slice A38 x37.length c39, .int .i64 x42, .int .i64 x43] 42 (0, 0)) ∧ Row st37 37 H33 (hp w31) F40 A38 c39 x37 ∧ Ext H H33 ∧ St (anyOf []) H w [(is g9), F40] H33 w31 ∧ impl_Lex.l1 k48 x35 x36 x37 x42 x43 = some r) k ⟨_, H, x1, 0, [], none, 0, no, 0, 0, rfl, (by kernel_rfl), b10, (Row.nil _ _ _ _ _), (Ext.refl _), S52, M⟩ ?_
    clear M
    rintro k48 a49 w31 ⟨f32, H33, x35, x36, x37, A38, c39, F40, x42, x43, rfl, e44, b10, h41, Y34, S45, M⟩
    rcases k48 with _ | k50
    · rw [impl_Lex.l1] at M
      cases M
    rw [impl_Lex.l1] at M
    refine wp_block (wp_seq (wp_region_lit (lV 13 (eM (.pointer (some ⟨g9, 0, none⟩)) (by exact e44)) ?_)))
    have S53 := S45.pull (F := F40) (Fr := [(is g9)]) 1 rfl rfl
    obtain ⟨t54, u55, M⟩ := bnd M
    refine lC 14 (eC [.tmp 13] [.pointer (some ⟨g9, 0, none⟩)] Try.func21) (impl_lexer_blanks.calls k50 w31 H33 (⟨x35, x36, x37, x42, x43⟩ : GLexer) g9 A38 c39 F40 h41 b10 (St.own' (Fa := [F40, (is g9)]) (Fr := []) S53) t54 u55) ?_
    rintro _ w56 ⟨A59, c60, F62, H57, rfl, h61, b63, T58⟩
    refine ⟨_, rfl, ?_⟩
    obtain ⟨S64, K65⟩ := St.call (Fa := [F40, (is g9)]) (Fr := []) S53 T58
    have E66 := T58.ext
    refine wpList_nil (then_n (wp_seq (wp_seq ?_)))
    refine region_still (by kernel_rfl) (by kernel_rfl) S64 ?_
    intro w67 S68 K69
    replace b63 := K69.blk 0 rfl b63
    replace h61 := h61.move (K69.at 1 rfl)
    refine sV 15 (eM (.pointer (some ⟨g9, 0, none⟩)) (by exact e44)) (sV 16 (eN ⟨g9, 0, none⟩) (sV 17 (eD g9 0 3 1 Try.underlying42) (sV 18 (eL ⟨g9, 0 + 3, none⟩ (.int .i64 t54.code_) Try.underlying3 (blk_cell b63 rfl)) (sV 19 (eNe .i64 t54.code_ 0) (sV 20 (eM (.bool (decide (t54.code_ ≠ 0)))) ?_)))))
    by_cases q70 : t54.code_ ≠ 0
    · replace M := ifp q70 M
      refine sK 20 true (bT q70) ?_
      refine sK 20 true (bT q70) ?_
      refine sK 20 true (bT q70) ?_
      refine sK 20 true (bT q70) ?_
      refine sK 20 true (bT q70) ?_
      refine sK 20 true (bT q70) ?_
      refine sK 20 true (bT q70) ?_
      refine sK 20 true (bT q70) ?_
      refine sK 20 true (bT q70) ?_
      refine sK 20 true (bT q70) ?_
      refine sV 31 (eT (.bool true) (bT q70)) (wpStill_nil (then_n (cond_t rfl (by kernel_rfl) (wp_exit (then_e (inb_miss rfl (then_e ?_)))))))
      refine inb_hit (then_n ?_)
      exact ⟨_, H57, t54.s_, t54.at_, t54.tokens_, A59, c60, F62, t54.code_, t54.place_, rfl, (by exact e44), b63, h61, (Y34.trans E66), S68, M⟩
    replace M := ifn q70 M
    refine sG 21 20 (bF q70) (eM (.pointer (some ⟨g9, 0, none⟩)) (by exact e44)) (sG 22 20 (bF q70) (eN ⟨g9, 0, none⟩) (sG 23 20 (bF q70) (eD g9 0 1 1 Try.underlying42) (sG 24 20 (bF q70) (eL ⟨g9, 0 + 1, none⟩ (.int .i64 t54.at_) Try.underlying3 (blk_cell b63 rfl)) (sG 25 20 (bF q70) (eM (.pointer (some ⟨g9, 0, none⟩)) (by exact e44)) (sG 26 20 (bF q70) (eN ⟨g9, 0, none⟩) (sG 27 20 (bF q70) (eD g9 0 0 1 Try.underlying42) (sG 28 20 (bF q70) (eL ⟨g9, 0 + 0, none⟩ (str t54.s_) Try.underlying9 (blk_cell b63 rfl)) ?_)))))))
    refine sG 29 20 (bF q70) (e_slen (p := t54.s_) Try.underlying9 (by kernel_rfl)) (sG 30 20 (bF q70) (e_geq (k := .i64) (a := t54.at_) (b := (t54.s_.length : Int)) (by kernel_rfl) (by kernel_rfl)) (sV 31 (eF (.bool (decide (t54.at_ ≥ (t54.s_.length : Int)))) (bF q70)) (wpStill_nil (then_n ?_))))
    by_cases q71 : t54.at_ ≥ (t54.s_.length : Int)
    · replace M := ifp q71 M
      refine cT (bT q71) (wp_exit (then_e (inb_miss rfl (then_e (inb_hit (then_n ?_))))))
      exact ⟨_, H57, t54.s_, t54.at_, t54.tokens_, A59, c60, F62, t54.code_, t54.place_, rfl, (by exact e44), b63, h61, (Y34.trans E66), S68, M⟩
    replace M := ifn q71 M
    refine cF (bF q71) (wp_skip (then_n (wp_seq (wp_region_lit (lV 32 (eM (.pointer (some ⟨g9, 0, none⟩)) (by exact e44)) ?_)))))
    have S72 := S68.pull (F := F62) (Fr := [(is g9)]) 1 rfl rfl
    obtain ⟨t73, u74, M⟩ := bnd M
    refine lC 33 (eC [.tmp 32] [.pointer (some ⟨g9, 0, none⟩)] Try.func22) (impl_lexer_token.calls k50 w67 H57 t54 g9 A59 c60 F62 h61 b63 (St.own' (Fa := [F62, (is g9)]) (Fr := []) S72) t73 u74) ?_
    rintro _ w75 ⟨A78, c79, F81, H76, rfl, h80, b82, T77⟩
    refine ⟨_, rfl, ?_⟩
    obtain ⟨S83, K84⟩ := St.call (Fa := [F62, (is g9)]) (Fr := []) S72 T77
    have E85 := T77.ext
    refine wpList_nil (then_n (wp_seq (wp_region_lit (lV 34 (eM (.pointer (some ⟨g9, 0, none⟩)) (by exact e44)) (lV 35 (eN ⟨g9, 0, none⟩) (lV 36 (eD g9 0 3 1 Try.underlying42) (lV 37 (eL ⟨g9, 0 + 3, none⟩ (.int .i64 t73.code_) Try.underlying3 (blk_cell b82 rfl)) ?_)))))))
    refine lV 38 (eNe .i64 t73.code_ 0) (wpList_nil (then_n ?_))
    by_cases q86 : t73.code_ ≠ 0
    · replace M := ifp q86 M
      refine cT (bT q86) (wp_exit (inb_miss rfl (then_e (inb_hit (then_n ?_)))))
      exact ⟨_, H76, t73.s_, t73.at_, t73.tokens_, A78, c79, F81, t73.code_, t73.place_, rfl, (by exact e44), b82, h80, ((Y34.trans E66).trans E85), S83, M⟩
    replace M := ifn q86 M
    refine cF (bF q86) (wp_skip (inb_n (then_n ?_)))
    exact ⟨k50, (by omega), _, H76, t73.s_, t73.at_, t73.tokens_, A78, c79, F81, t73.code_, t73.place_, rfl, (by exact e44), b82, h80, ((Y34.trans E66).trans E85), S83, M⟩
  clear M
  rintro a30 w13 ⟨f14, H15, x17, x18, x19, A20, c21, F22, x24, x25, rfl, e26, b10, h23, Y16, S27, M⟩
  rw [impl_Lex.l0] at M
  refine wp_seq (wp_seq (wp_region_lit (lV 39 (eM (.pointer (some ⟨g9, 0, none⟩)) (by exact e26)) (lV 40 (eN ⟨g9, 0, none⟩) (lV 41 (eD g9 0 3 1 Try.underlying42) (lV 42 (eL ⟨g9, 0 + 3, none⟩ (.int .i64 x24) Try.underlying3 (blk_cell b10 rfl)) (lV 43 (eNe .i64 x24 0) ?_)))))))
  refine wpList_nil (then_n ?_)
  by_cases q87 : x24 ≠ 0
  · replace M := ifp q87 M
    refine cT (bT q87) (wp_seq ?_)
    refine region_still (by kernel_rfl) (by kernel_rfl) S27 ?_
    intro w88 S89 K90
    replace b10 := K90.blk 0 rfl b10
    refine sV 44 (eM (.pointer (some ⟨g9, 0, none⟩)) (by exact e26)) (sV 45 (eN ⟨g9, 0, none⟩) (sV 46 (eD g9 0 3 1 Try.underlying42) (sV 47 (eL ⟨g9, 0 + 3, none⟩ (.int .i64 x24) Try.underlying3 (blk_cell b10 rfl)) (sV 48 (eM (.pointer (some ⟨g9, 0, none⟩)) (by exact e26)) (sV 49 (eN ⟨g9, 0, none⟩) (sV 50 (eD g9 0 4 1 Try.underlying42) (sV 51 (eL ⟨g9, 0 + 4, none⟩ (.int .i64 x25) Try.underlying3 (blk_cell b10 rfl)) ?_)))))))
    refine sV 2 (eA (.slice none 0 0)) (sV 3 (eA (.int .i64 x24)) (sV 4 (eA (.int .i64 x25)) (wpStill_nil (then_n (wp_ret (then_r ?_))))))
    obtain rfl := Option.some.inj M
    have S91 := S89.unit
    have S92 := St.first (Fa := [no]) (Fr := [(is g9), F22]) S91
    exact ret3 rfl rfl rfl rfl (show _ = .slice none 0 0 from (by kernel_rfl)) (show _ = .int .i64 x24 from (by kernel_rfl)) (show _ = .int .i64 x25 from (by kernel_rfl)) ⟨none, 0, no, H15, rfl, (Row.nil _ _ _ _ no), S92⟩
  replace M := ifn q87 M
  refine cF (bF q87) (wp_skip (then_n (wp_seq (wp_region_lit (lV 52 (eM (.pointer (some ⟨g9, 0, none⟩)) (by exact e26)) (lV 53 (eN ⟨g9, 0, none⟩) (lV 54 (eD g9 0 2 1 Try.underlying42) ?_)))))))
  refine lV 55 (eL ⟨g9, 0 + 2, none⟩ (.slice A20 x19.length c21) Try.underlying27 (blk_cell b10 rfl)) (lV 2 (eA (.slice A20 x19.length c21)) (lV 3 (eA (.int .i64 0)) (lV 4 (eA (.int .i64 0)) (wpList_nil (then_n (wp_ret ?_))))))
  obtain rfl := Option.some.inj M
  have S93 := S27.pull (F := F22) (Fr := [(is g9)]) 1 rfl rfl
  have S94 := St.first (Fa := [F22]) (Fr := [(is g9)]) S93
  exact ret3 rfl rfl rfl rfl (show _ = .slice A20 x19.length c21 from (by kernel_rfl)) (show _ = .int .i64 0 from (by kernel_rfl)) (show _ = .int .i64 0 from (by kernel_rfl)) ⟨A20, c21, F22, H15, rfl, h23, S94⟩

/-! laws_eqByteS -/
def laws_eqByteS.l0 : Nat → (List UInt8) → (List UInt8) → Int → Option Bool
  | 0, _, _, _ => none
  | k23 + 1, x1, x6, x14 => (if x14 < (x1.length : Int) then (if 0 ≤ x14 then (if x14 < (x6.length : Int) then (if ((x1.getD ((x14).toNat) (0 : UInt8)).toNat : Int) ≠ ((x6.getD ((x14).toNat) (0 : UInt8)).toNat : Int) then some false else (laws_eqByteS.l0 k23 x1 x6 (IntKind.i64.wrap (x14 + 1)))) else none) else none) else some true)
def laws_eqByteS.f (k : Nat) (x1 : List UInt8) (x6 : List UInt8) : Option Bool := (if (x1.length : Int) ≠ (x6.length : Int) then some false else (laws_eqByteS.l0 k x1 x6 0))
theorem laws_eqByteS.calls (k : Nat) (w : World) (H : Hp) (x1 : List UInt8) (A2 : Option Addr) (c3 : Nat) (x6 : List UInt8) (A7 : Option Addr) (c8 : Nat) (h4 : Rd tByte H A2 x1) (l5 : x1.length ≤ c3) (h9 : Rd tByte H A7 x6) (l10 : x6.length ≤ c8) (S : Own [] H w) (r : Bool) (M : laws_eqByteS.f k x1 x6 = some r) :
    Calls Try.prog 9 #[.slice A2 x1.length c3, .slice A7 x6.length c8] w (fun e e_w => e = .returned (.bool r) ∧ Chg no w e_w) := by
  rw [laws_eqByteS.f] at M
  refine enter (l := [.slice A2 x1.length c3, .slice A7 x6.length c8]) 26 Try.func9 rfl rfl rfl ?_
  have S0_ := S.st
  refine wp_seq (wp_region_lit (lV 4 (eA (.bool false)) (wpList_nil (then_n (wp_seq (wp_seq (wp_region_lit ?_)))))))
  refine lV 6 (eM (.slice A2 x1.length c3)) (lV 7 (e_len (A := A2) (n := x1.length) (c := c3) Try.underlying23 (by kernel_rfl)) (lV 8 (eM (.slice A7 x6.length c8)) (lV 9 (e_len (A := A7) (n := x6.length) (c := c8) Try.underlying23 (by kernel_rfl)) (lV 10 (eNe .i64 (x1.length : Int) (x6.length : Int)) (wpList_nil (then_n ?_))))))
  by_cases q11 : (x1.length : Int) ≠ (x6.length : Int)
  · replace M := ifp q11 M
    refine cT (bT q11) (wp_seq (wp_region_lit (lV 4 (eA (.bool false)) (wpList_nil (then_n (wp_ret (then_r ?_)))))))
    obtain rfl := Option.some.inj M
    exact ret1 rfl rfl  (show _ = .bool false from (by kernel_rfl)) ⟨rfl, S0_.chg⟩
  replace M := ifn q11 M
  refine cF (bF q11) (wp_skip (then_n (wp_seq (wp_seq (wp_region_lit (lV 5 (eA (.int .i64 0)) (wpList_nil ?_)))))))
  refine then_n (wp_block ?_)
  refine wp_loop_g (fun k21 a22 w12 => ∃ (f13 : Nat → Value) (x14 : Int), a22 = mk 26 f13 ∧ f13 0 = .slice A2 x1.length c3 ∧ f13 1 = .slice A7 x6.length c8 ∧ f13 5 = .int .i64 x14 ∧ St (anyOf []) H w [] H w12 ∧ laws_eqByteS.l0 k21 x1 x6 x14 = some r) k ⟨_, 0, rfl, (by kernel_rfl), (by kernel_rfl), (by kernel_rfl), S0_, M⟩ ?_
  clear M
  rintro k21 a22 w12 ⟨f13, x14, rfl, e15, e16, e17, S18, M⟩
  rcases k21 with _ | k23
  · rw [laws_eqByteS.l0] at M
    cases M
  rw [laws_eqByteS.l0] at M
  refine wp_seq (wp_seq (wp_region_lit (lV 11 (eM (.int .i64 x14) (by exact e17)) (lV 12 (eM (.slice A2 x1.length c3) (by exact e15)) (lV 13 (e_len (A := A2) (n := x1.length) (c := c3) Try.underlying23 (by kernel_rfl)) (lV 14 (eLt .i64 x14 (x1.length : Int)) (wpList_nil ?_)))))))
  refine then_n ?_
  by_cases q24 : x14 < (x1.length : Int)
  · replace M := ifp q24 M
    refine cT (bT q24) (wp_skip (then_n (wp_seq (wp_block (wp_seq ?_)))))
    refine region_still (by kernel_rfl) (by kernel_rfl) S18 ?_
    intro w25 S26 K27
    refine sV 17 (eM (.slice A2 x1.length c3) (by exact e15)) (sV 18 (eM (.int .i64 x14) (by exact e17)) ?_)
    obtain ⟨q28, M⟩ := chk M
    obtain ⟨b29, o30, e31⟩ := Rd.addr h4 (show (x14).toNat < x1.length by omega)
    obtain ⟨y32, r33, k34⟩ := Rd.at h4 e31 (getD_some (0 : UInt8) (show (x14).toNat < x1.length by omega))
    obtain rfl := r33
    refine sV 19 (eI b29 o30 x1.length c3 1 x14 .i64 Try.underlying23 e31 q28 q24) (sV 20 (eL ⟨b29, o30 + (x14 : Int).toNat * 1, none⟩ (.int .u8 ((x1.getD ((x14).toNat) (0 : UInt8)).toNat : Int)) Try.underlying5 (hpx (S26.inv.cell (k34 0 _ rfl)))) (sV 21 (eM (.slice A7 x6.length c8) (by exact e16)) (sV 22 (eM (.int .i64 x14) (by exact e17)) ?_)))
    obtain ⟨q35, M⟩ := chk M
    obtain ⟨b36, o37, e38⟩ := Rd.addr h9 (show (x14).toNat < x6.length by omega)
    obtain ⟨y39, r40, k41⟩ := Rd.at h9 e38 (getD_some (0 : UInt8) (show (x14).toNat < x6.length by omega))
    obtain rfl := r40
    refine sV 23 (eI b36 o37 x6.length c8 1 x14 .i64 Try.underlying23 e38 q28 q35) (sV 24 (eL ⟨b36, o37 + (x14 : Int).toNat * 1, none⟩ (.int .u8 ((x6.getD ((x14).toNat) (0 : UInt8)).toNat : Int)) Try.underlying5 (hpx (S26.inv.cell (k41 0 _ rfl)))) (sV 25 (eNe .u8 ((x1.getD ((x14).toNat) (0 : UInt8)).toNat : Int) ((x6.getD ((x14).toNat) (0 : UInt8)).toNat : Int)) (wpStill_nil (then_n ?_))))
    by_cases q42 : ((x1.getD ((x14).toNat) (0 : UInt8)).toNat : Int) ≠ ((x6.getD ((x14).toNat) (0 : UInt8)).toNat : Int)
    · replace M := ifp q42 M
      refine cT (bT q42) (wp_seq (wp_region_lit (lV 4 (eA (.bool false)) (wpList_nil (then_n (wp_ret (inb_r ?_)))))))
      refine then_r (then_r (inb_r (then_r ?_)))
      obtain rfl := Option.some.inj M
      exact ret1 rfl rfl  (show _ = .bool false from (by kernel_rfl)) ⟨rfl, S26.chg⟩
    replace M := ifn q42 M
    refine cF (bF q42) (wp_skip (inb_n (then_n (wp_region_lit (lV 15 (eM (.int .i64 x14) (by exact e17)) (lV 16 (eAdd .i64 x14 1) (lV 5 (eA (.int .i64 (IntKind.i64.wrap (x14 + 1)))) ?_)))))))
    refine wpList_nil (then_n ?_)
    exact ⟨k23, (by omega), _, (IntKind.i64.wrap (x14 + 1)), rfl, (by exact e15), (by exact e16), (by kernel_rfl), S26, M⟩
  replace M := ifn q24 M
  refine cF (bF q24) (wp_exit (then_e (then_e (inb_hit (then_n (wp_seq (wp_region_lit ?_)))))))
  refine lV 4 (eA (.bool true)) (wpList_nil (then_n (wp_ret ?_)))
  obtain rfl := Option.some.inj M
  exact ret1 rfl rfl  (show _ = .bool true from (by kernel_rfl)) ⟨rfl, S18.chg⟩

/-! laws_eqToken -/
def laws_eqToken.f (k : Nat) (x1 : Token) (x6 : Token) : Option Bool := (if x1.kind ≠ x6.kind then some false else (if x1.place ≠ x6.place then some false else (if x1.size ≠ x6.size then some false else ((laws_eqByteS.f k x1.text x6.text).bind fun t24 => (if ¬ (t24 = true) then some false else (if x1.n ≠ x6.n then some false else some true))))))
theorem laws_eqToken.calls (k : Nat) (w : World) (H : Hp) (x1 : Token) (A2 : Option Addr) (c3 : Nat) (x6 : Token) (A7 : Option Addr) (c8 : Nat) (h4 : Rd tByte H A2 x1.text) (l5 : x1.text.length ≤ c3) (h9 : Rd tByte H A7 x6.text) (l10 : x6.text.length ≤ c8) (S : Own [] H w) (r : Bool) (M : laws_eqToken.f k x1 x6 = some r) :
    Calls Try.prog 23 #[.agg #[.int .i64 x1.kind, .int .i64 x1.place, .int .i64 x1.size, .slice A2 x1.text.length c3, .int .i64 x1.n], .agg #[.int .i64 x6.kind, .int .i64 x6.place, .int .i64 x6.size, .slice A7 x6.text.length c8, .int .i64 x6.n]] w (fun e e_w => e = .returned (.bool r) ∧ Chg no w e_w) := by
  rw [laws_eqToken.f] at M
  refine enter (l := [.agg #[.int .i64 x1.kind, .int .i64 x1.place, .int .i64 x1.size, .slice A2 x1.text.length c3, .int .i64 x1.n], .agg #[.int .i64 x6.kind, .int .i64 x6.place, .int .i64 x6.size, .slice A7 x6.text.length c8, .int .i64 x6.n]]) 31 Try.func23 rfl rfl rfl ?_
  have S0_ := S.st
  refine wp_seq (wp_region_lit ?_)
  refine lve (d := 2) rfl rfl (by kernel_rfl) (new_blk (v := fun g_ => .pointer (some ⟨g_, 0, none⟩)) (cs := #[.int .i64 x1.kind, .int .i64 x1.place, .int .i64 x1.size, .slice A2 x1.text.length c3, .int .i64 x1.n]) (t := 37) S0_ (by kernel_rfl)) ?_
  rintro _ w11 ⟨g12, rfl, b13, S14, K15⟩
  refine lve (d := 3) rfl rfl (by kernel_rfl) (new_blk (v := fun g_ => .pointer (some ⟨g_, 0, none⟩)) (cs := #[.int .i64 x6.kind, .int .i64 x6.place, .int .i64 x6.size, .slice A7 x6.text.length c8, .int .i64 x6.n]) (t := 37) S14 (by kernel_rfl)) ?_
  rintro _ w16 ⟨g17, rfl, b18, S19, K20⟩
  replace b13 := K20.blk 0 rfl b13
  refine lV 4 (eA (.bool false)) (wpList_nil (then_n (wp_seq (wp_seq (wp_region_lit (lV 5 (eD g12 0 0 1 Try.underlying37) (lV 6 (eL ⟨g12, 0 + 0, none⟩ (.int .i64 x1.kind) Try.underlying3 (blk_cell b13 rfl)) ?_)))))))
  refine lV 7 (eD g17 0 0 1 Try.underlying37) (lV 8 (eL ⟨g17, 0 + 0, none⟩ (.int .i64 x6.kind) Try.underlying3 (blk_cell b18 rfl)) (lV 9 (eNe .i64 x1.kind x6.kind) (wpList_nil (then_n ?_))))
  by_cases q21 : x1.kind ≠ x6.kind
  · replace M := ifp q21 M
    refine cT (bT q21) (wp_seq (wp_region_lit (lV 4 (eA (.bool false)) (wpList_nil (then_n (wp_ret (then_r ?_)))))))
    obtain rfl := Option.some.inj M
    exact ret1 rfl rfl  (show _ = .bool false from (by kernel_rfl)) ⟨rfl, S19.chg⟩
  replace M := ifn q21 M
  refine cF (bF q21) (wp_skip (then_n (wp_seq (wp_seq (wp_region_lit (lV 10 (eD g12 0 1 1 Try.underlying37) (lV 11 (eL ⟨g12, 0 + 1, none⟩ (.int .i64 x1.place) Try.underlying3 (blk_cell b13 rfl)) ?_)))))))
  refine lV 12 (eD g17 0 1 1 Try.underlying37) (lV 13 (eL ⟨g17, 0 + 1, none⟩ (.int .i64 x6.place) Try.underlying3 (blk_cell b18 rfl)) (lV 14 (eNe .i64 x1.place x6.place) (wpList_nil (then_n ?_))))
  by_cases q22 : x1.place ≠ x6.place
  · replace M := ifp q22 M
    refine cT (bT q22) (wp_seq (wp_region_lit (lV 4 (eA (.bool false)) (wpList_nil (then_n (wp_ret (then_r ?_)))))))
    obtain rfl := Option.some.inj M
    exact ret1 rfl rfl  (show _ = .bool false from (by kernel_rfl)) ⟨rfl, S19.chg⟩
  replace M := ifn q22 M
  refine cF (bF q22) (wp_skip (then_n (wp_seq (wp_seq (wp_region_lit (lV 15 (eD g12 0 2 1 Try.underlying37) (lV 16 (eL ⟨g12, 0 + 2, none⟩ (.int .i64 x1.size) Try.underlying3 (blk_cell b13 rfl)) ?_)))))))
  refine lV 17 (eD g17 0 2 1 Try.underlying37) (lV 18 (eL ⟨g17, 0 + 2, none⟩ (.int .i64 x6.size) Try.underlying3 (blk_cell b18 rfl)) (lV 19 (eNe .i64 x1.size x6.size) (wpList_nil (then_n ?_))))
  by_cases q23 : x1.size ≠ x6.size
  · replace M := ifp q23 M
    refine cT (bT q23) (wp_seq (wp_region_lit (lV 4 (eA (.bool false)) (wpList_nil (then_n (wp_ret (then_r ?_)))))))
    obtain rfl := Option.some.inj M
    exact ret1 rfl rfl  (show _ = .bool false from (by kernel_rfl)) ⟨rfl, S19.chg⟩
  replace M := ifn q23 M
  refine cF (bF q23) (wp_skip (then_n (wp_seq (wp_seq (wp_region_lit (lV 20 (eD g12 0 3 1 Try.underlying37) (lV 21 (eL ⟨g12, 0 + 3, none⟩ (.slice A2 x1.text.length c3) Try.underlying23 (blk_cell b13 rfl)) ?_)))))))
  refine lV 22 (eD g17 0 3 1 Try.underlying37) (lV 23 (eL ⟨g17, 0 + 3, none⟩ (.slice A7 x6.text.length c8) Try.underlying23 (blk_cell b18 rfl)) ?_)
  obtain ⟨t24, u25, M⟩ := bnd M
  refine lC 24 (eC [.tmp 21, .tmp 23] [.slice A2 x1.text.length c3, .slice A7 x6.text.length c8] Try.func9) (laws_eqByteS.calls k w16 H x1.text A2 c3 x6.text A7 c8 h4 l5 h9 l10 S19.own0 t24 u25) ?_
  rintro _ w26 ⟨rfl, C27⟩
  refine ⟨_, rfl, ?_⟩
  obtain ⟨S28, K29⟩ := S19.still C27
  replace b18 := K29.blk 0 rfl b18
  replace b13 := K29.blk 1 rfl b13
  refine lV 25 (e_notv (c := t24) (by kernel_rfl)) (wpList_nil (then_n ?_))
  by_cases q30 : ¬ (t24 = true)
  · replace M := ifp q30 M
    refine cT (bT q30) (wp_seq (wp_region_lit (lV 4 (eA (.bool false)) (wpList_nil (then_n (wp_ret (then_r ?_)))))))
    obtain rfl := Option.some.inj M
    exact ret1 rfl rfl  (show _ = .bool false from (by kernel_rfl)) ⟨rfl, S28.chg⟩
  replace M := ifn q30 M
  refine cF (bF q30) (wp_skip (then_n (wp_seq (wp_seq (wp_region_lit (lV 26 (eD g12 0 4 1 Try.underlying37) (lV 27 (eL ⟨g12, 0 + 4, none⟩ (.int .i64 x1.n) Try.underlying3 (blk_cell b13 rfl)) ?_)))))))
  refine lV 28 (eD g17 0 4 1 Try.underlying37) (lV 29 (eL ⟨g17, 0 + 4, none⟩ (.int .i64 x6.n) Try.underlying3 (blk_cell b18 rfl)) (lV 30 (eNe .i64 x1.n x6.n) (wpList_nil (then_n ?_))))
  by_cases q31 : x1.n ≠ x6.n
  · replace M := ifp q31 M
    refine cT (bT q31) (wp_seq (wp_region_lit (lV 4 (eA (.bool false)) (wpList_nil (then_n (wp_ret (then_r ?_)))))))
    obtain rfl := Option.some.inj M
    exact ret1 rfl rfl  (show _ = .bool false from (by kernel_rfl)) ⟨rfl, S28.chg⟩
  replace M := ifn q31 M
  refine cF (bF q31) (wp_skip (then_n (wp_seq (wp_region_lit (lV 4 (eA (.bool true)) (wpList_nil (then_n ?_)))))))
  refine wp_ret ?_
  obtain rfl := Option.some.inj M
  exact ret1 rfl rfl  (show _ = .bool true from (by kernel_rfl)) ⟨rfl, S28.chg⟩

/-! laws_eqTokenS -/
def laws_eqTokenS.l0 : Nat → (List Token) → (List Token) → Int → Option Bool
  | 0, _, _, _ => none
  | k23 + 1, x1, x6, x14 => (if x14 < (x1.length : Int) then (if 0 ≤ x14 then (if x14 < (x6.length : Int) then ((laws_eqToken.f k23 (x1.getD ((x14).toNat) z37) (x6.getD ((x14).toNat) z37)).bind fun t47 => (if ¬ (t47 = true) then some false else (laws_eqTokenS.l0 k23 x1 x6 (IntKind.i64.wrap (x14 + 1))))) else none) else none) else some true)
def laws_eqTokenS.f (k : Nat) (x1 : List Token) (x6 : List Token) : Option Bool := (if (x1.length : Int) ≠ (x6.length : Int) then some false else (laws_eqTokenS.l0 k x1 x6 0))
theorem laws_eqTokenS.calls (k : Nat) (w : World) (H : Hp) (x1 : List Token) (A2 : Option Addr) (c3 : Nat) (x6 : List Token) (A7 : Option Addr) (c8 : Nat) (h4 : Rd st37 H A2 x1) (l5 : x1.length ≤ c3) (h9 : Rd st37 H A7 x6) (l10 : x6.length ≤ c8) (S : Own [] H w) (r : Bool) (M : laws_eqTokenS.f k x1 x6 = some r) :
    Calls Try.prog 12 #[.slice A2 x1.length c3, .slice A7 x6.length c8] w (fun e e_w => e = .returned (.bool r) ∧ Chg no w e_w) := by
  rw [laws_eqTokenS.f] at M
  refine enter (l := [.slice A2 x1.length c3, .slice A7 x6.length c8]) 27 Try.func12 rfl rfl rfl ?_
  have S0_ := S.st
  refine wp_seq (wp_region_lit (lV 4 (eA (.bool false)) (wpList_nil (then_n (wp_seq (wp_seq (wp_region_lit ?_)))))))
  refine lV 6 (eM (.slice A2 x1.length c3)) (lV 7 (e_len (A := A2) (n := x1.length) (c := c3) Try.underlying27 (by kernel_rfl)) (lV 8 (eM (.slice A7 x6.length c8)) (lV 9 (e_len (A := A7) (n := x6.length) (c := c8) Try.underlying27 (by kernel_rfl)) (lV 10 (eNe .i64 (x1.length : Int) (x6.length : Int)) (wpList_nil (then_n ?_))))))
  by_cases q11 : (x1.length : Int) ≠ (x6.length : Int)
  · replace M := ifp q11 M
    refine cT (bT q11) (wp_seq (wp_region_lit (lV 4 (eA (.bool false)) (wpList_nil (then_n (wp_ret (then_r ?_)))))))
    obtain rfl := Option.some.inj M
    exact ret1 rfl rfl  (show _ = .bool false from (by kernel_rfl)) ⟨rfl, S0_.chg⟩
  replace M := ifn q11 M
  refine cF (bF q11) (wp_skip (then_n (wp_seq (wp_seq (wp_region_lit (lV 5 (eA (.int .i64 0)) (wpList_nil ?_)))))))
  refine then_n (wp_block ?_)
  refine wp_loop_g (fun k21 a22 w12 => ∃ (f13 : Nat → Value) (x14 : Int), a22 = mk 27 f13 ∧ f13 0 = .slice A2 x1.length c3 ∧ f13 1 = .slice A7 x6.length c8 ∧ f13 5 = .int .i64 x14 ∧ St (anyOf []) H w [] H w12 ∧ laws_eqTokenS.l0 k21 x1 x6 x14 = some r) k ⟨_, 0, rfl, (by kernel_rfl), (by kernel_rfl), (by kernel_rfl), S0_, M⟩ ?_
  clear M
  rintro k21 a22 w12 ⟨f13, x14, rfl, e15, e16, e17, S18, M⟩
  rcases k21 with _ | k23
  · rw [laws_eqTokenS.l0] at M
    cases M
  rw [laws_eqTokenS.l0] at M
  refine wp_seq (wp_seq (wp_region_lit (lV 11 (eM (.int .i64 x14) (by exact e17)) (lV 12 (eM (.slice A2 x1.length c3) (by exact e15)) (lV 13 (e_len (A := A2) (n := x1.length) (c := c3) Try.underlying27 (by kernel_rfl)) (lV 14 (eLt .i64 x14 (x1.length : Int)) (wpList_nil ?_)))))))
  refine then_n ?_
  by_cases q24 : x14 < (x1.length : Int)
  · replace M := ifp q24 M
    refine cT (bT q24) (wp_skip (then_n (wp_seq (wp_block (wp_seq ?_)))))
    refine region_quiet (by kernel_rfl) (by kernel_rfl) ?_
    refine qV 17 (fun wq_ hq_ => eM (.slice A2 x1.length c3) (by exact e15)) ?_
    refine qV 18 (fun wq_ hq_ => eM (.int .i64 x14) (by exact e17)) ?_
    obtain ⟨q25, M⟩ := chk M
    obtain ⟨b26, o27, e28⟩ := Rd.addr h4 (show (x14).toNat < x1.length by omega)
    obtain ⟨y29, r30, k31⟩ := Rd.at h4 e28 (getD_some z37 (show (x14).toNat < x1.length by omega))
    obtain ⟨A32, c33, rfl, l34, h35⟩ := st37_open r30
    refine qV 19 (fun wq_ hq_ => eI b26 o27 x1.length c3 5 x14 .i64 Try.underlying27 e28 q25 q24) ?_
    refine qV 20 (fun wq_ hq_ => e_loadS (b := b26) (off := o27 + (x14 : Int).toNat * 5) (cs := [.int .i64 ((x1.getD ((x14).toNat) z37).kind), .int .i64 ((x1.getD ((x14).toNat) z37).place), .int .i64 ((x1.getD ((x14).toNat) z37).size), .slice A32 ((x1.getD ((x14).toNat) z37).text).length c33, .int .i64 ((x1.getD ((x14).toNat) z37).n)]) Try.underlying37 rfl (by kernel_rfl) (by kernel_rfl) (fun j_ u_ e_ => (hpx ((S18.still hq_).1.inv.cell (k31 j_ u_ e_))))) ?_
    refine qV 21 (fun wq_ hq_ => eM (.slice A7 x6.length c8) (by exact e16)) ?_
    refine qV 22 (fun wq_ hq_ => eM (.int .i64 x14) (by exact e17)) ?_
    obtain ⟨q36, M⟩ := chk M
    obtain ⟨b37, o38, e39⟩ := Rd.addr h9 (show (x14).toNat < x6.length by omega)
    obtain ⟨y40, r41, k42⟩ := Rd.at h9 e39 (getD_some z37 (show (x14).toNat < x6.length by omega))
    obtain ⟨A43, c44, rfl, l45, h46⟩ := st37_open r41
    refine qV 23 (fun wq_ hq_ => eI b37 o38 x6.length c8 5 x14 .i64 Try.underlying27 e39 q25 q36) ?_
    refine qV 24 (fun wq_ hq_ => e_loadS (b := b37) (off := o38 + (x14 : Int).toNat * 5) (cs := [.int .i64 ((x6.getD ((x14).toNat) z37).kind), .int .i64 ((x6.getD ((x14).toNat) z37).place), .int .i64 ((x6.getD ((x14).toNat) z37).size), .slice A43 ((x6.getD ((x14).toNat) z37).text).length c44, .int .i64 ((x6.getD ((x14).toNat) z37).n)]) Try.underlying37 rfl (by kernel_rfl) (by kernel_rfl) (fun j_ u_ e_ => (hpx ((S18.still hq_).1.inv.cell (k42 j_ u_ e_))))) ?_
    obtain ⟨t47, u48, M⟩ := bnd M
    refine qcall (v := .bool t47) (d := 25) rfl rfl (by kernel_rfl) (fun w_ => eC [.tmp 20, .tmp 24] [.agg #[.int .i64 ((x1.getD ((x14).toNat) z37).kind), .int .i64 ((x1.getD ((x14).toNat) z37).place), .int .i64 ((x1.getD ((x14).toNat) z37).size), .slice A32 ((x1.getD ((x14).toNat) z37).text).length c33, .int .i64 ((x1.getD ((x14).toNat) z37).n)], .agg #[.int .i64 ((x6.getD ((x14).toNat) z37).kind), .int .i64 ((x6.getD ((x14).toNat) z37).place), .int .i64 ((x6.getD ((x14).toNat) z37).size), .slice A43 ((x6.getD ((x14).toNat) z37).text).length c44, .int .i64 ((x6.getD ((x14).toNat) z37).n)]] Try.func23) (fun wq_ hq_ => (by obtain ⟨S_, K_⟩ := S18.still hq_; exact (laws_eqToken.calls k23 wq_ H (x1.getD ((x14).toNat) z37) A32 c33 (x6.getD ((x14).toNat) z37) A43 c44 h35 l34 h46 l45 S_.own0 t47 u48))) ?_
    refine qV 26 (fun wq_ hq_ => e_notv (c := t47) (by kernel_rfl)) ?_
    refine wpQuiet_nil ?_
    intro w49 C52
    obtain ⟨S50, K51⟩ := S18.still C52
    refine then_n ?_
    by_cases q53 : ¬ (t47 = true)
    · replace M := ifp q53 M
      refine cT (bT q53) (wp_seq (wp_region_lit (lV 4 (eA (.bool false)) (wpList_nil (then_n (wp_ret (inb_r ?_)))))))
      refine then_r (then_r (inb_r (then_r ?_)))
      obtain rfl := Option.some.inj M
      exact ret1 rfl rfl  (show _ = .bool false from (by kernel_rfl)) ⟨rfl, S50.chg⟩
    replace M := ifn q53 M
    refine cF (bF q53) (wp_skip (inb_n (then_n (wp_region_lit (lV 15 (eM (.int .i64 x14) (by exact e17)) (lV 16 (eAdd .i64 x14 1) (lV 5 (eA (.int .i64 (IntKind.i64.wrap (x14 + 1)))) ?_)))))))
    refine wpList_nil (then_n ?_)
    exact ⟨k23, (by omega), _, (IntKind.i64.wrap (x14 + 1)), rfl, (by exact e15), (by exact e16), (by kernel_rfl), S50, M⟩
  replace M := ifn q24 M
  refine cF (bF q24) (wp_exit (then_e (then_e (inb_hit (then_n (wp_seq (wp_region_lit ?_)))))))
  refine lV 4 (eA (.bool true)) (wpList_nil (then_n (wp_ret ?_)))
  obtain rfl := Option.some.inj M
  exact ret1 rfl rfl  (show _ = .bool true from (by kernel_rfl)) ⟨rfl, S18.chg⟩

/-! laws_markByteS -/
def laws_markByteS_2.l0 : Nat → (List UInt8) → Int → Int → (List UInt8) → Option (Int × (List UInt8))
  | 0, _, _, _, _ => none
  | k22 + 1, x1, x9, x10, x12 => (if x10 < (x1.length : Int) then (if 0 ≤ x10 then (laws_markByteS_2.l0 k22 x1 (IntKind.i64.wrap (x9 + 1)) (IntKind.i64.wrap (x10 + 1)) (x12.set ((x10).toNat) (b8 (x9)))) else none) else some (x9, x12))
def laws_markByteS_2.f (k : Nat) (x1 : List UInt8) (x6 : Int) : Option (Int × (List UInt8)) := (laws_markByteS_2.l0 k x1 x6 0 x1)
theorem laws_markByteS_2.calls (k : Nat) (w : World) (H : Hp) (x1 : List UInt8) (A2 : Option Addr) (c3 : Nat) (F5 : Foot) (x6 : Int) (h4 : Row tByte 5 H (hp w) F5 A2 c3 x1) (S : Own [F5] H w) (r : Int × (List UInt8)) (M : laws_markByteS_2.f k x1 x6 = some r) :
    Calls Try.prog 13 #[.slice A2 x1.length c3, .int .i64 x6] w (fun e e_w => ∃ (F_1 : Foot) (H_ : Hp), e = .returned (.int .i64 r.1) ∧ r.2.length = x1.length ∧ Row tByte 5 H_ (hp e_w) F_1 A2 c3 r.2 ∧ St (anyOf [F5]) H w [F_1] H_ e_w) := by
  rw [laws_markByteS_2.f] at M
  refine enter (l := [.slice A2 x1.length c3, .int .i64 x6]) 20 Try.func13 rfl rfl rfl ?_
  have S0_ := S.st
  refine wp_seq (wp_region_lit (lV 4 (eA (.int .i64 0)) (wpList_nil (then_n (wp_seq (wp_seq (wp_region_lit ?_)))))))
  refine lV 5 (eA (.int .i64 0)) (wpList_nil (then_n (wp_block ?_)))
  refine wp_loop_g (fun k20 a21 w7 => ∃ (f8 : Nat → Value) (x9 : Int) (x10 : Int) (F11 : Foot) (x12 : List UInt8), a21 = mk 20 f8 ∧ f8 0 = .slice A2 x1.length c3 ∧ f8 1 = .int .i64 x9 ∧ f8 5 = .int .i64 x10 ∧ Row tByte 5 H (hp w7) F11 A2 c3 x12 ∧ x12.length = x1.length ∧ St (anyOf [F5]) H w [F11] H w7 ∧ laws_markByteS_2.l0 k20 x1 x9 x10 x12 = some r) k ⟨_, x6, 0, F5, x1, rfl, (by kernel_rfl), (by kernel_rfl), (by kernel_rfl), h4, rfl, S0_, M⟩ ?_
  clear M
  rintro k20 a21 w7 ⟨f8, x9, x10, F11, x12, rfl, e14, e15, e16, h4, n13, S17, M⟩
  rcases k20 with _ | k22
  · rw [laws_markByteS_2.l0] at M
    cases M
  rw [laws_markByteS_2.l0] at M
  refine wp_seq (wp_seq (wp_region_lit (lV 6 (eM (.int .i64 x10) (by exact e16)) (lV 7 (eM (.slice A2 x1.length c3) (by exact e14)) (lV 8 (e_len (A := A2) (n := x1.length) (c := c3) Try.underlying23 (by kernel_rfl)) (lV 9 (eLt .i64 x10 (x1.length : Int)) (wpList_nil ?_)))))))
  refine then_n ?_
  by_cases q23 : x10 < (x1.length : Int)
  · replace M := ifp q23 M
    refine cT (bT q23) (wp_skip (then_n (wp_seq (wp_block (wp_seq (wp_region_lit (lV 12 (eM (.slice A2 x1.length c3) (by exact e14)) ?_)))))))
    refine lV 13 (eM (.int .i64 x10) (by exact e16)) (lV 14 (eM (.int .i64 x9) (by exact e15)) (lV 15 (e_conv_i8 (k := .i64) (a := x9) (by kernel_rfl) Try.underlying5 (by kernel_rfl)) ?_))
    obtain ⟨q24, M⟩ := chk M
    obtain ⟨b25, e27⟩ := Row.addr h4 (show (x10).toNat < x12.length by have : x12.length = x1.length := n13; omega)
    refine lV 16 (eI b25 0 x1.length c3 1 x10 .i64 Try.underlying23 e27 q24 q23) ?_
    have S28 := S17.unit
    have S29 := S28.pull (F := F11) (Fr := [no]) 1 rfl rfl
    refine lE (e_setel (d := tByte) (b := b25) (i := (x10).toNat) (v := .int .u8 ((b8 (x9)).toNat : Int)) (vs := [.int .u8 ((b8 (x9)).toNat : Int)]) (yv := (b8 (x9))) S29 (by kernel_rfl) e27 (by kernel_rfl) rfl (by kernel_rfl) h4 (show (x10).toNat < x12.length by have : x12.length = x1.length := n13; omega) rfl) ?_
    rintro w30 ⟨F32, h31, S33, K34⟩
    clear h4
    refine wpList_nil (then_n (wp_region_lit (lV 17 (eM (.int .i64 x9) (by exact e15)) (lV 18 (eAdd .i64 x9 1) (lV 1 (eA (.int .i64 (IntKind.i64.wrap (x9 + 1)))) (wpList_nil (inb_n ?_)))))))
    refine then_n (wp_region_lit (lV 10 (eM (.int .i64 x10) (by exact e16)) (lV 11 (eAdd .i64 x10 1) (lV 5 (eA (.int .i64 (IntKind.i64.wrap (x10 + 1)))) (wpList_nil (then_n ?_))))))
    exact ⟨k22, (by omega), _, (IntKind.i64.wrap (x9 + 1)), (IntKind.i64.wrap (x10 + 1)), F32, (x12.set ((x10).toNat) (b8 (x9))), rfl, (by exact e14), (by kernel_rfl), (by kernel_rfl), h31, (List.length_set.trans n13), S33, M⟩
  replace M := ifn q23 M
  refine cF (bF q23) (wp_exit (then_e (then_e (inb_hit (then_n (wp_seq (wp_region_lit ?_)))))))
  refine lV 19 (eM (.int .i64 x9) (by exact e15)) (lV 4 (eA (.int .i64 x9)) (wpList_nil (then_n (wp_ret ?_))))
  obtain rfl := Option.some.inj M
  exact ret1 rfl rfl  (show _ = .int .i64 x9 from (by kernel_rfl)) ⟨F11, H, rfl, n13, h4, S17⟩
end Go.Proofs.Ytdkbfcmekppnmaa
