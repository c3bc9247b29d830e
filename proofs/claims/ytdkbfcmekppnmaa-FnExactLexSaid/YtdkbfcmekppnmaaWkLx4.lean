import Derived.Test.YtdkbfcmekppnmaaWkLx3
namespace Go.Proofs.Ytdkbfcmekppnmaa
open Go.Sx Go.Sy
attribute [local irreducible] Go.wpList Go.wpStill Go.wpQuiet Go.Code.wp
set_option maxRecDepth 100000
set_option maxHeartbeats 1000000
set_option linter.unusedVariables false
set_option linter.unusedSimpArgs false

/-! impl_lexer_number -/
def impl_lexer_number.l1 (_k : Nat) (x1 : GLexer) (x141 : List UInt8) (x142 : Int) (x143 : List Token) (x148 : Int) (x149 : Int) (x150 : Int) (x151 : Int) : Option GLexer := (if x151 < (x141.length : Int) then (if 0 ≤ x151 then ((impl_isAlnum.f (x141.getD (x151 : Int).toNat (0 : UInt8))).bind fun t552 => (if t552 = true then ((impl_lexer_fault.f (⟨x141, x142, x143, x148, x149⟩ : GLexer) 2 x1.at_).bind fun t561 => some t561) else (if x150 > 1000000000000000 then ((impl_lexer_fault.f (⟨x141, x142, x143, x148, x149⟩ : GLexer) 3 x1.at_).bind fun t580 => some t580) else ((impl_lexer_put.f (⟨x141, x142, x143, x148, x149⟩ : GLexer) 3 x151 ([] : List UInt8) x150).bind fun t598 => some t598)))) else none) else (if x150 > 1000000000000000 then ((impl_lexer_fault.f (⟨x141, x142, x143, x148, x149⟩ : GLexer) 3 x1.at_).bind fun t621 => some t621) else ((impl_lexer_put.f (⟨x141, x142, x143, x148, x149⟩ : GLexer) 3 x151 ([] : List UInt8) x150).bind fun t639 => some t639)))
def impl_lexer_number.l0 (k : Nat) (x1 : GLexer) (x35 : Int) : Option GLexer := (if 0 ≤ x1.at_ then (if x1.at_ < (x1.s_.length : Int) then (if ((x1.s_.getD (x1.at_ : Int).toNat (0 : UInt8)).toNat : Int) = 48 then ((impl_lexer_peek.f x1 1).bind fun t163 => (if (t163.toNat : Int) = 39 then (if (IntKind.i64.wrap (x1.at_ + 2)) ≥ (x1.s_.length : Int) then ((impl_lexer_fault.f x1 2 x1.at_).bind fun t193 => (if t193.code_ ≠ 0 then some t193 else (impl_lexer_number.l1 0 x1 t193.s_ t193.at_ t193.tokens_ t193.code_ t193.place_ 0 (IntKind.i64.wrap (x1.at_ + 2))))) else (if 0 ≤ (IntKind.i64.wrap (x1.at_ + 2)) then (if (IntKind.i64.wrap (x1.at_ + 2)) < (x1.s_.length : Int) then (if ((x1.s_.getD ((IntKind.i64.wrap (x1.at_ + 2)) : Int).toNat (0 : UInt8)).toNat : Int) = 39 then ((impl_lexer_peek.f x1 3).bind fun t221 => (if (t221.toNat : Int) ≠ 39 then ((impl_lexer_fault.f x1 2 x1.at_).bind fun t243 => (if t243.code_ ≠ 0 then some t243 else (impl_lexer_number.l1 0 x1 t243.s_ t243.at_ t243.tokens_ t243.code_ t243.place_ 39 (IntKind.i64.wrap ((IntKind.i64.wrap (x1.at_ + 2)) + 2))))) else (if x1.code_ ≠ 0 then some x1 else (impl_lexer_number.l1 0 x1 x1.s_ x1.at_ x1.tokens_ x1.code_ x1.place_ 39 (IntKind.i64.wrap ((IntKind.i64.wrap (x1.at_ + 2)) + 2)))))) else (if ((x1.s_.getD ((IntKind.i64.wrap (x1.at_ + 2)) : Int).toNat (0 : UInt8)).toNat : Int) = 92 then ((impl_lexer_escape.f k x1 (IntKind.i64.wrap (x1.at_ + 2))).bind fun t298 => (if ¬ (t298.2.2 = true) then ((impl_lexer_fault.f x1 2 x1.at_).bind fun t320 => some t320) else (if t298.1 = ([] : List UInt8) then ((impl_lexer_fault.f x1 2 x1.at_).bind fun t339 => some t339) else (if 0 < (t298.1.length : Int) then (if x1.code_ ≠ 0 then some x1 else (impl_lexer_number.l1 0 x1 x1.s_ x1.at_ x1.tokens_ x1.code_ x1.place_ ((t298.1.getD (0 : Int).toNat (0 : UInt8)).toNat : Int) t298.2.1)) else none)))) else ((impl_isPrint.f (x1.s_.getD ((IntKind.i64.wrap (x1.at_ + 2)) : Int).toNat (0 : UInt8))).bind fun t375 => (if t375 = true then (if x1.code_ ≠ 0 then some x1 else (impl_lexer_number.l1 0 x1 x1.s_ x1.at_ x1.tokens_ x1.code_ x1.place_ ((x1.s_.getD ((IntKind.i64.wrap (x1.at_ + 2)) : Int).toNat (0 : UInt8)).toNat : Int) (IntKind.i64.wrap ((IntKind.i64.wrap (x1.at_ + 2)) + 1)))) else ((impl_lexer_fault.f x1 2 x1.at_).bind fun t426 => (if t426.code_ ≠ 0 then some t426 else (impl_lexer_number.l1 0 x1 t426.s_ t426.at_ t426.tokens_ t426.code_ t426.place_ 0 (IntKind.i64.wrap (x1.at_ + 2))))))))) else none) else none)) else (if x35 ≠ 10 then ((impl_lexer_number_c1.f k x35 (IntKind.i64.wrap (x1.at_ + 2)) x1 0).bind fun t458 => (impl_lexer_number.l1 0 x1 x1.s_ x1.at_ x1.tokens_ x1.code_ x1.place_ t458.2 t458.1)) else ((impl_lexer_number_c1.f k 10 x1.at_ x1 0).bind fun t481 => (impl_lexer_number.l1 0 x1 x1.s_ x1.at_ x1.tokens_ x1.code_ x1.place_ t481.2 t481.1))))) else (if x35 ≠ 10 then ((impl_lexer_number_c1.f k x35 (IntKind.i64.wrap (x1.at_ + 2)) x1 0).bind fun t509 => (impl_lexer_number.l1 0 x1 x1.s_ x1.at_ x1.tokens_ x1.code_ x1.place_ t509.2 t509.1)) else ((impl_lexer_number_c1.f k 10 x1.at_ x1 0).bind fun t532 => (impl_lexer_number.l1 0 x1 x1.s_ x1.at_ x1.tokens_ x1.code_ x1.place_ t532.2 t532.1)))) else none) else none)
def impl_lexer_number.f (k : Nat) (x1 : GLexer) : Option GLexer := (if 0 ≤ x1.at_ then (if x1.at_ < (x1.s_.length : Int) then (if ((x1.s_.getD (x1.at_ : Int).toNat (0 : UInt8)).toNat : Int) = 48 then ((impl_lexer_peek.f x1 1).bind fun t66 => (if ((mget (mset (mset (mset [] (120 : UInt8) 16) (111 : UInt8) 8) (98 : UInt8) 2) t66).getD (0 : Int)) = 0 then (impl_lexer_number.l0 k x1 10) else ((impl_lexer_peek.f x1 2).bind fun t92 => ((impl_hexValue.f t92).bind fun t111 => (if t111 ≥ ((mget (mset (mset (mset [] (120 : UInt8) 16) (111 : UInt8) 8) (98 : UInt8) 2) t66).getD (0 : Int)) then (impl_lexer_number.l0 k x1 10) else (if (IntKind.i64.wrap (x1.at_ + 2)) ≥ (x1.s_.length : Int) then (impl_lexer_number.l0 k x1 10) else (impl_lexer_number.l0 k x1 ((mget (mset (mset (mset [] (120 : UInt8) 16) (111 : UInt8) 8) (98 : UInt8) 2) t66).getD (0 : Int))))))))) else (impl_lexer_number.l0 k x1 10)) else none) else none)
theorem impl_lexer_number.calls (k : Nat) (w : World) (H : Hp) (x1 : GLexer) (g2 : Nat) (A4 : Option Addr) (c5 : Nat) (F7 : Foot) (h6 : Row st37 37 H (hp w) F7 A4 c5 x1.tokens_) (b3 : w.heap[g2]? = some (.cells #[str x1.s_, .int .i64 x1.at_, .slice A4 x1.tokens_.length c5, .int .i64 x1.code_, .int .i64 x1.place_] 42 (0, 0))) (S : Own [F7, (is g2)] H w) (r : GLexer) (M : impl_lexer_number.f k x1 = some r) :
    Calls Try.prog 41 #[.pointer (some ⟨g2, 0, none⟩)] w (fun e e_w => ∃ (A_1 : Option Addr) (c_1 : Nat) (F_1 : Foot) (H_ : Hp), e = .returned (.tuple #[]) ∧ Row st37 37 H_ (hp e_w) F_1 A_1 c_1 r.tokens_ ∧ e_w.heap[g2]? = some (.cells #[str r.s_, .int .i64 r.at_, .slice A_1 r.tokens_.length c_1, .int .i64 r.code_, .int .i64 r.place_] 42 (0, 0)) ∧ St (anyOf [F7, (is g2)]) H w [(is g2), F_1] H_ e_w) := by
  rw [impl_lexer_number.f] at M
  refine enter (l := [.pointer (some ⟨g2, 0, none⟩)]) 180 Try.func41 rfl rfl rfl ?_
  have S0_ := S.st
  refine wp_seq (wp_region_lit ?_)
  refine lve (d := 1) rfl rfl (by kernel_rfl) (new_blk (v := fun g_ => .pointer (some ⟨g_, 0, none⟩)) (cs := #[.pointer (some ⟨g2, 0, none⟩)]) (t := 40) S0_ (by kernel_rfl)) ?_
  rintro _ w8 ⟨g9, rfl, b10, S11, K12⟩
  replace h6 := h6.move (K12.at 0 rfl)
  replace b3 := K12.blk 1 rfl b3
  refine wpList_nil (then_n (wp_seq (wp_region_lit (lV 10 (eL ⟨g9, 0, none⟩ (.pointer (some ⟨g2, 0, none⟩)) Try.underlying40 (blk_cell b10 rfl)) (lV 11 (eN ⟨g2, 0, none⟩) (lV 12 (eD g2 0 1 1 Try.underlying42) (lV 13 (eL ⟨g2, 0 + 1, none⟩ (.int .i64 x1.at_) Try.underlying3 (blk_cell b3 rfl)) ?_)))))))
  refine lV 2 (eA (.int .i64 x1.at_)) (wpList_nil (then_n (wp_seq (wp_region_lit (lV 14 (eM (.int .i64 x1.at_)) ?_)))))
  refine lve (d := 3) rfl rfl (by kernel_rfl) (new_blk (v := fun g_ => .pointer (some ⟨g_, 0, none⟩)) (cs := #[.int .i64 0]) (t := 3) S11 (by kernel_rfl)) ?_
  rintro _ w13 ⟨g14, rfl, b15, S16, K17⟩
  replace b10 := K17.blk 0 rfl b10
  replace h6 := h6.move (K17.at 1 rfl)
  replace b3 := K17.blk 2 rfl b3
  refine lve (d := 4) rfl rfl (by kernel_rfl) (new_blk (v := fun g_ => .pointer (some ⟨g_, 0, none⟩)) (cs := #[.int .i64 0]) (t := 3) S16 (by kernel_rfl)) ?_
  rintro _ w18 ⟨g19, rfl, b20, S21, K22⟩
  replace b15 := K22.blk 0 rfl b15
  replace b10 := K22.blk 1 rfl b10
  replace h6 := h6.move (K22.at 2 rfl)
  replace b3 := K22.blk 3 rfl b3
  have S23 := S21.pull (F := (is g14)) (Fr := [(is g19), (is g9), F7, (is g2)]) 1 rfl rfl
  refine lE (eS g14 0 (.int .i64 0) #[.int .i64 0] [.int .i64 0] S23 b15) ?_
  rintro w24 ⟨b25, S26, K27⟩
  replace b20 := K27.blk 0 rfl b20
  replace b10 := K27.blk 1 rfl b10
  replace h6 := h6.move (K27.at 2 rfl)
  replace b3 := K27.blk 3 rfl b3
  clear b15
  have S28 := S26.pull (F := (is g19)) (Fr := [(is g14), (is g9), F7, (is g2)]) 1 rfl rfl
  refine lE (eS g19 0 (.int .i64 x1.at_) #[.int .i64 x1.at_] [.int .i64 x1.at_] S28 b20) ?_
  rintro w29 ⟨b30, S31, K32⟩
  replace b25 := K32.blk 0 rfl b25
  replace b10 := K32.blk 1 rfl b10
  replace h6 := h6.move (K32.at 2 rfl)
  replace b3 := K32.blk 3 rfl b3
  clear b20
  refine wpList_nil (then_n (wp_seq (wp_region_lit (lV 15 (e_makeFunc (cs := [.tmp 4, .tmp 1, .tmp 3]) (vs := [.pointer (some ⟨g19, 0, none⟩), .pointer (some ⟨g9, 0, none⟩), .pointer (some ⟨g14, 0, none⟩)]) (by kernel_rfl)) (lV 5 (eA (.func (.func 48) #[] #[.pointer (some ⟨g19, 0, none⟩), .pointer (some ⟨g9, 0, none⟩), .pointer (some ⟨g14, 0, none⟩)])) (wpList_nil (then_n ?_)))))))
  refine wp_seq (wp_region_lit (lV 6 (eA (.int .i64 10)) (wpList_nil (then_n ?_))))
  refine wp_seq_cut (fun a45 w33 => ∃ (f34 : Nat → Value) (x35 : Int), a45 = mk 180 f34 ∧ f34 1 = .pointer (some ⟨g9, 0, none⟩) ∧ f34 2 = .int .i64 x1.at_ ∧ f34 3 = .pointer (some ⟨g14, 0, none⟩) ∧ f34 4 = .pointer (some ⟨g19, 0, none⟩) ∧ f34 5 = .func (.func 48) #[] #[.pointer (some ⟨g19, 0, none⟩), .pointer (some ⟨g9, 0, none⟩), .pointer (some ⟨g14, 0, none⟩)] ∧ f34 6 = .int .i64 x35 ∧ w33.heap[g19]? = some (.cells #[.int .i64 x1.at_] 3 (0, 0)) ∧ w33.heap[g14]? = some (.cells #[.int .i64 0] 3 (0, 0)) ∧ w33.heap[g9]? = some (.cells #[.pointer (some ⟨g2, 0, none⟩)] 40 (0, 0)) ∧ Row st37 37 H (hp w33) F7 A4 c5 x1.tokens_ ∧ w33.heap[g2]? = some (.cells #[str x1.s_, .int .i64 x1.at_, .slice A4 x1.tokens_.length c5, .int .i64 x1.code_, .int .i64 x1.place_] 42 (0, 0)) ∧ St (anyOf [F7, (is g2)]) H w [(is g19), (is g14), (is g9), F7, (is g2)] H w33 ∧ impl_lexer_number.l0 k x1 x35 = some r) ?_ ?_
  · refine wp_seq (wp_region_lit (lV 16 (eL ⟨g9, 0, none⟩ (.pointer (some ⟨g2, 0, none⟩)) Try.underlying40 (blk_cell b10 rfl)) (lV 17 (eN ⟨g2, 0, none⟩) (lV 18 (eD g2 0 0 1 Try.underlying42) (lV 19 (eL ⟨g2, 0 + 0, none⟩ (str x1.s_) Try.underlying9 (blk_cell b3 rfl)) (lV 20 (eM (.int .i64 x1.at_)) ?_))))))
    obtain ⟨q46, M⟩ := chk M
    obtain ⟨q47, M⟩ := chk M
    refine lV 21 (e_sindex (p := x1.s_) (i := x1.at_) (k := .i64) Try.underlying9 (by kernel_rfl) (by kernel_rfl) q46 q47) (lV 22 (eEq .u8 ((x1.s_.getD (x1.at_ : Int).toNat (0 : UInt8)).toNat : Int) 48) (wpList_nil (then_n ?_)))
    by_cases q48 : ((x1.s_.getD (x1.at_ : Int).toNat (0 : UInt8)).toNat : Int) = 48
    · replace M := ifp q48 M
      refine cT (bT q48) (wp_seq (wp_region_lit ?_))
      refine lve (d := 23) rfl rfl (by kernel_rfl) (e_makeMap S31 encB tInt) ?_
      rintro _ w49 ⟨g50, rfl, h51, S52, K53⟩
      replace b30 := K53.blk 0 rfl b30
      replace b25 := K53.blk 1 rfl b25
      replace b10 := K53.blk 2 rfl b10
      replace h6 := h6.move (K53.at 3 rfl)
      replace b3 := K53.blk 4 rfl b3
      refine lE (e_insert (k := (120 : UInt8)) (a := 16) S52 h51 keyB Try.underlying55 Try.underlying5 (by kernel_rfl) rfl rfl rfl) ?_
      rintro w54 ⟨h55, S56, K57⟩
      replace b30 := K57.blk 0 rfl b30
      replace b25 := K57.blk 1 rfl b25
      replace b10 := K57.blk 2 rfl b10
      replace h6 := h6.move (K57.at 3 rfl)
      replace b3 := K57.blk 4 rfl b3
      clear h51
      refine lE (e_insert (k := (111 : UInt8)) (a := 8) S56 h55 keyB Try.underlying55 Try.underlying5 (by kernel_rfl) rfl rfl rfl) ?_
      rintro w58 ⟨h59, S60, K61⟩
      replace b30 := K61.blk 0 rfl b30
      replace b25 := K61.blk 1 rfl b25
      replace b10 := K61.blk 2 rfl b10
      replace h6 := h6.move (K61.at 3 rfl)
      replace b3 := K61.blk 4 rfl b3
      clear h55
      refine lE (e_insert (k := (98 : UInt8)) (a := 2) S60 h59 keyB Try.underlying55 Try.underlying5 (by kernel_rfl) rfl rfl rfl) ?_
      rintro w62 ⟨h63, S64, K65⟩
      replace b30 := K65.blk 0 rfl b30
      replace b25 := K65.blk 1 rfl b25
      replace b10 := K65.blk 2 rfl b10
      replace h6 := h6.move (K65.at 3 rfl)
      replace b3 := K65.blk 4 rfl b3
      clear h59
      refine lV 24 (eM (.map (some g50))) (lV 25 (eL ⟨g9, 0, none⟩ (.pointer (some ⟨g2, 0, none⟩)) Try.underlying40 (blk_cell b10 rfl)) ?_)
      obtain ⟨t66, u67, M⟩ := bnd M
      refine lC 26 (eC [.tmp 25, .const (.int .i64 1)] [.pointer (some ⟨g2, 0, none⟩), .int .i64 1] Try.func36) (by have l68 := h6.le; have S69 := S64.pull (F := F7) (Fr := [(is g50), (is g19), (is g14), (is g9), (is g2)]) 4 rfl rfl; obtain ⟨H70, S71, E72, h73, z74⟩ := S69.frzRow h6; replace h63 := h63.ext E72; have S75 := S71.pull (F := (is g2)) (Fr := [(is g50), (is g19), (is g14), (is g9)]) 4 rfl rfl; obtain ⟨H76, S77, E78, h79, z80⟩ := S75.frzBlk b3; replace h63 := h63.ext E78; exact (impl_lexer_peek.calls w62 H76 x1 g2 A4 c5 1 (h73.ext E78) l68 h79 S77.own0 t66 u67)) ?_
      rintro _ w81 ⟨rfl, C82⟩
      refine ⟨_, rfl, ?_⟩
      obtain ⟨S83, K84⟩ := S64.still C82
      replace h63 := h63.move (K84.at 0 rfl)
      replace b30 := K84.blk 1 rfl b30
      replace b25 := K84.blk 2 rfl b25
      replace b10 := K84.blk 3 rfl b10
      replace h6 := h6.move (K84.at 4 rfl)
      replace b3 := K84.blk 5 rfl b3
      refine lV 27 (e_look1_s (k := t66) (0 : Int) h63 keyB Try.underlying55 Try.underlying5 (by kernel_rfl) (by kernel_rfl) (by kernel_rfl)) (lV 6 (eA (.int .i64 ((mget (mset (mset (mset [] (120 : UInt8) 16) (111 : UInt8) 8) (98 : UInt8) 2) t66).getD (0 : Int)))) (wpList_nil (then_n (wp_seq (wp_region_lit (lV 28 (eM (.int .i64 ((mget (mset (mset (mset [] (120 : UInt8) 16) (111 : UInt8) 8) (98 : UInt8) 2) t66).getD (0 : Int)))) (lV 29 (eEq .i64 ((mget (mset (mset (mset [] (120 : UInt8) 16) (111 : UInt8) 8) (98 : UInt8) 2) t66).getD (0 : Int)) 0) ?_)))))))
      refine lV 30 (eM (.bool (decide (((mget (mset (mset (mset [] (120 : UInt8) 16) (111 : UInt8) 8) (98 : UInt8) 2) t66).getD (0 : Int)) = 0)))) ?_
      by_cases q85 : ((mget (mset (mset (mset [] (120 : UInt8) 16) (111 : UInt8) 8) (98 : UInt8) 2) t66).getD (0 : Int)) = 0
      · replace M := ifp q85 M
        refine lK 30 true (bT q85) ?_
        refine lK 30 true (bT q85) ?_
        refine lK 30 true (bT q85) ?_
        refine lK 30 true (bT q85) ?_
        refine lK 30 true (bT q85) ?_
        refine lV 36 (eT (.bool true) (bT q85)) (lV 37 (eM (.bool true)) ?_)
        refine lJ 37 true ?_
        refine lJ 37 true ?_
        refine lJ 37 true ?_
        refine lJ 37 true ?_
        refine lJ 37 true ?_
        refine lJ 37 true ?_
        refine lJ 37 true ?_
        refine lJ 37 true ?_
        refine lV 46 (eT (.bool true)) (wpList_nil (then_n (cond_t rfl (by kernel_rfl) (wp_region_lit (lV 6 (eA (.int .i64 10)) (wpList_nil (then_n ?_)))))))
        have S86 := S83.pull (F := (is g2)) (Fr := [(is g50), (is g19), (is g14), (is g9), F7]) 5 rfl rfl
        have S87 := S86.pull (F := F7) (Fr := [(is g2), (is g50), (is g19), (is g14), (is g9)]) 5 rfl rfl
        have S88 := S87.pull (F := (is g9)) (Fr := [F7, (is g2), (is g50), (is g19), (is g14)]) 5 rfl rfl
        have S89 := S88.pull (F := (is g14)) (Fr := [(is g9), F7, (is g2), (is g50), (is g19)]) 5 rfl rfl
        have S90 := S89.pull (F := (is g19)) (Fr := [(is g14), (is g9), F7, (is g2), (is g50)]) 5 rfl rfl
        have S91 := St.first (Fa := [(is g19), (is g14), (is g9), F7, (is g2)]) (Fr := [(is g50)]) S90
        exact ⟨_, 10, rfl, (by kernel_rfl), (by kernel_rfl), (by kernel_rfl), (by kernel_rfl), (by kernel_rfl), (by kernel_rfl), b30, b25, b10, h6, b3, S91, M⟩
      replace M := ifn q85 M
      refine lG 31 30 (bF q85) (eL ⟨g9, 0, none⟩ (.pointer (some ⟨g2, 0, none⟩)) Try.underlying40 (blk_cell b10 rfl)) ?_
      obtain ⟨t92, u93, M⟩ := bnd M
      refine lcallg (d := 32) (t := 30) rfl (by kernel_rfl) rfl (bF q85) rfl (by kernel_rfl) (eC [.tmp 31, .const (.int .i64 2)] [.pointer (some ⟨g2, 0, none⟩), .int .i64 2] Try.func36) (by have l94 := h6.le; have S95 := S83.pull (F := F7) (Fr := [(is g50), (is g19), (is g14), (is g9), (is g2)]) 4 rfl rfl; obtain ⟨H96, S97, E98, h99, z100⟩ := S95.frzRow h6; replace h63 := h63.ext E98; have S101 := S97.pull (F := (is g2)) (Fr := [(is g50), (is g19), (is g14), (is g9)]) 4 rfl rfl; obtain ⟨H102, S103, E104, h105, z106⟩ := S101.frzBlk b3; replace h63 := h63.ext E104; exact (impl_lexer_peek.calls w81 H102 x1 g2 A4 c5 2 (h99.ext E104) l94 h105 S103.own0 t92 u93)) ?_
      rintro _ w107 ⟨rfl, C108⟩
      refine ⟨_, rfl, ?_⟩
      obtain ⟨S109, K110⟩ := S83.still C108
      replace b30 := K110.blk 1 rfl b30
      replace b25 := K110.blk 2 rfl b25
      replace b10 := K110.blk 3 rfl b10
      replace h6 := h6.move (K110.at 4 rfl)
      replace b3 := K110.blk 5 rfl b3
      obtain ⟨t111, u112, M⟩ := bnd M
      refine lcallg (d := 33) (t := 30) rfl (by kernel_rfl) rfl (bF q85) rfl (by kernel_rfl) (eC [.tmp 32] [.int .u8 (t92.toNat : Int)] Try.func49) (impl_hexValue.calls w107 H t92  S109.own0 t111 u112) ?_
      rintro _ w113 ⟨rfl, C114⟩
      refine ⟨_, rfl, ?_⟩
      obtain ⟨S115, K116⟩ := S109.still C114
      replace b30 := K116.blk 1 rfl b30
      replace b25 := K116.blk 2 rfl b25
      replace b10 := K116.blk 3 rfl b10
      replace h6 := h6.move (K116.at 4 rfl)
      replace b3 := K116.blk 5 rfl b3
      refine lG 34 30 (bF q85) (eM (.int .i64 ((mget (mset (mset (mset [] (120 : UInt8) 16) (111 : UInt8) 8) (98 : UInt8) 2) t66).getD (0 : Int)))) (lG 35 30 (bF q85) (e_geq (k := .i64) (a := t111) (b := ((mget (mset (mset (mset [] (120 : UInt8) 16) (111 : UInt8) 8) (98 : UInt8) 2) t66).getD (0 : Int))) (by kernel_rfl) (by kernel_rfl)) (lV 36 (eF (.bool (decide (t111 ≥ ((mget (mset (mset (mset [] (120 : UInt8) 16) (111 : UInt8) 8) (98 : UInt8) 2) t66).getD (0 : Int))))) (bF q85)) (lV 37 (eM (.bool (decide (t111 ≥ ((mget (mset (mset (mset [] (120 : UInt8) 16) (111 : UInt8) 8) (98 : UInt8) 2) t66).getD (0 : Int)))))) ?_)))
      by_cases q117 : t111 ≥ ((mget (mset (mset (mset [] (120 : UInt8) 16) (111 : UInt8) 8) (98 : UInt8) 2) t66).getD (0 : Int))
      · replace M := ifp q117 M
        refine lK 37 true (bT q117) ?_
        refine lK 37 true (bT q117) ?_
        refine lK 37 true (bT q117) ?_
        refine lK 37 true (bT q117) ?_
        refine lK 37 true (bT q117) ?_
        refine lK 37 true (bT q117) ?_
        refine lK 37 true (bT q117) ?_
        refine lK 37 true (bT q117) ?_
        refine lV 46 (eT (.bool true) (bT q117)) (wpList_nil (then_n (cond_t rfl (by kernel_rfl) (wp_region_lit (lV 6 (eA (.int .i64 10)) (wpList_nil (then_n ?_)))))))
        have S118 := S115.pull (F := (is g2)) (Fr := [(is g50), (is g19), (is g14), (is g9), F7]) 5 rfl rfl
        have S119 := S118.pull (F := F7) (Fr := [(is g2), (is g50), (is g19), (is g14), (is g9)]) 5 rfl rfl
        have S120 := S119.pull (F := (is g9)) (Fr := [F7, (is g2), (is g50), (is g19), (is g14)]) 5 rfl rfl
        have S121 := S120.pull (F := (is g14)) (Fr := [(is g9), F7, (is g2), (is g50), (is g19)]) 5 rfl rfl
        have S122 := S121.pull (F := (is g19)) (Fr := [(is g14), (is g9), F7, (is g2), (is g50)]) 5 rfl rfl
        have S123 := St.first (Fa := [(is g19), (is g14), (is g9), F7, (is g2)]) (Fr := [(is g50)]) S122
        exact ⟨_, 10, rfl, (by kernel_rfl), (by kernel_rfl), (by kernel_rfl), (by kernel_rfl), (by kernel_rfl), (by kernel_rfl), b30, b25, b10, h6, b3, S123, M⟩
      replace M := ifn q117 M
      refine lG 38 37 (bF q117) (eM (.int .i64 x1.at_)) (lG 39 37 (bF q117) (eAdd .i64 x1.at_ 2) (lG 40 37 (bF q117) (eL ⟨g9, 0, none⟩ (.pointer (some ⟨g2, 0, none⟩)) Try.underlying40 (blk_cell b10 rfl)) (lG 41 37 (bF q117) (eN ⟨g2, 0, none⟩) (lG 42 37 (bF q117) (eD g2 0 0 1 Try.underlying42) (lG 43 37 (bF q117) (eL ⟨g2, 0 + 0, none⟩ (str x1.s_) Try.underlying9 (blk_cell b3 rfl)) (lG 44 37 (bF q117) (e_slen (p := x1.s_) Try.underlying9 (by kernel_rfl)) (lG 45 37 (bF q117) (e_geq (k := .i64) (a := (IntKind.i64.wrap (x1.at_ + 2))) (b := (x1.s_.length : Int)) (by kernel_rfl) (by kernel_rfl)) ?_)))))))
      refine lV 46 (eF (.bool (decide ((IntKind.i64.wrap (x1.at_ + 2)) ≥ (x1.s_.length : Int)))) (bF q117)) (wpList_nil (then_n ?_))
      by_cases q124 : (IntKind.i64.wrap (x1.at_ + 2)) ≥ (x1.s_.length : Int)
      · replace M := ifp q124 M
        refine cT (bT q124) (wp_region_lit (lV 6 (eA (.int .i64 10)) (wpList_nil (then_n ?_))))
        have S125 := S115.pull (F := (is g2)) (Fr := [(is g50), (is g19), (is g14), (is g9), F7]) 5 rfl rfl
        have S126 := S125.pull (F := F7) (Fr := [(is g2), (is g50), (is g19), (is g14), (is g9)]) 5 rfl rfl
        have S127 := S126.pull (F := (is g9)) (Fr := [F7, (is g2), (is g50), (is g19), (is g14)]) 5 rfl rfl
        have S128 := S127.pull (F := (is g14)) (Fr := [(is g9), F7, (is g2), (is g50), (is g19)]) 5 rfl rfl
        have S129 := S128.pull (F := (is g19)) (Fr := [(is g14), (is g9), F7, (is g2), (is g50)]) 5 rfl rfl
        have S130 := St.first (Fa := [(is g19), (is g14), (is g9), F7, (is g2)]) (Fr := [(is g50)]) S129
        exact ⟨_, 10, rfl, (by kernel_rfl), (by kernel_rfl), (by kernel_rfl), (by kernel_rfl), (by kernel_rfl), (by kernel_rfl), b30, b25, b10, h6, b3, S130, M⟩
      replace M := ifn q124 M
      refine cF (bF q124) (wp_skip (then_n ?_))
      have S131 := S115.pull (F := (is g2)) (Fr := [(is g50), (is g19), (is g14), (is g9), F7]) 5 rfl rfl
      have S132 := S131.pull (F := F7) (Fr := [(is g2), (is g50), (is g19), (is g14), (is g9)]) 5 rfl rfl
      have S133 := S132.pull (F := (is g9)) (Fr := [F7, (is g2), (is g50), (is g19), (is g14)]) 5 rfl rfl
      have S134 := S133.pull (F := (is g14)) (Fr := [(is g9), F7, (is g2), (is g50), (is g19)]) 5 rfl rfl
      have S135 := S134.pull (F := (is g19)) (Fr := [(is g14), (is g9), F7, (is g2), (is g50)]) 5 rfl rfl
      have S136 := St.first (Fa := [(is g19), (is g14), (is g9), F7, (is g2)]) (Fr := [(is g50)]) S135
      exact ⟨_, ((mget (mset (mset (mset [] (120 : UInt8) 16) (111 : UInt8) 8) (98 : UInt8) 2) t66).getD (0 : Int)), rfl, (by kernel_rfl), (by kernel_rfl), (by kernel_rfl), (by kernel_rfl), (by kernel_rfl), (by kernel_rfl), b30, b25, b10, h6, b3, S136, M⟩
    replace M := ifn q48 M
    refine cF (bF q48) (wp_skip (then_n ?_))
    exact ⟨_, 10, rfl, (by kernel_rfl), (by kernel_rfl), (by kernel_rfl), (by kernel_rfl), (by kernel_rfl), (by kernel_rfl), b30, b25, b10, h6, b3, S31, M⟩
  clear M
  rintro a45 w33 ⟨f34, x35, rfl, e36, e37, e38, e39, e40, e41, b30, b25, b10, h6, b3, S42, M⟩
  rw [impl_lexer_number.l0] at M
  refine wp_seq_cut (fun a159 w137 => ∃ (f138 : Nat → Value) (H139 : Hp) (x141 : List UInt8) (x142 : Int) (x143 : List Token) (A144 : Option Addr) (c145 : Nat) (F146 : Foot) (x148 : Int) (x149 : Int) (x150 : Int) (x151 : Int), a159 = mk 180 f138 ∧ f138 1 = .pointer (some ⟨g9, 0, none⟩) ∧ f138 2 = .int .i64 x1.at_ ∧ f138 3 = .pointer (some ⟨g14, 0, none⟩) ∧ f138 4 = .pointer (some ⟨g19, 0, none⟩) ∧ w137.heap[g19]? = some (.cells #[.int .i64 x151] 3 (0, 0)) ∧ w137.heap[g14]? = some (.cells #[.int .i64 x150] 3 (0, 0)) ∧ w137.heap[g9]? = some (.cells #[.pointer (some ⟨g2, 0, none⟩)] 40 (0, 0)) ∧ w137.heap[g2]? = some (.cells #[str x141, .int .i64 x142, .slice A144 x143.length c145, .int .i64 x148, .int .i64 x149] 42 (0, 0)) ∧ Row st37 37 H139 (hp w137) F146 A144 c145 x143 ∧ Ext H H139 ∧ St (anyOf [F7, (is g2)]) H w [(is g19), (is g14), (is g9), (is g2), F146] H139 w137 ∧ impl_lexer_number.l1 0 x1 x141 x142 x143 x148 x149 x150 x151 = some r) ?_ ?_
  · refine wp_block (wp_seq (wp_region_lit (lV 50 (eL ⟨g9, 0, none⟩ (.pointer (some ⟨g2, 0, none⟩)) Try.underlying40 (blk_cell b10 rfl) (by exact e36)) (lV 51 (eN ⟨g2, 0, none⟩) (lV 52 (eD g2 0 0 1 Try.underlying42) (lV 53 (eL ⟨g2, 0 + 0, none⟩ (str x1.s_) Try.underlying9 (blk_cell b3 rfl)) (lV 54 (eM (.int .i64 x1.at_) (by exact e37)) ?_)))))))
    obtain ⟨q160, M⟩ := chk M
    obtain ⟨q161, M⟩ := chk M
    refine lV 55 (e_sindex (p := x1.s_) (i := x1.at_) (k := .i64) Try.underlying9 (by kernel_rfl) (by kernel_rfl) q160 q161) (lV 56 (eEq .u8 ((x1.s_.getD (x1.at_ : Int).toNat (0 : UInt8)).toNat : Int) 48) (lV 57 (eM (.bool (decide (((x1.s_.getD (x1.at_ : Int).toNat (0 : UInt8)).toNat : Int) = 48)))) ?_))
    by_cases q162 : ((x1.s_.getD (x1.at_ : Int).toNat (0 : UInt8)).toNat : Int) = 48
    · replace M := ifp q162 M
      refine lG 58 57 (bT q162) (eL ⟨g9, 0, none⟩ (.pointer (some ⟨g2, 0, none⟩)) Try.underlying40 (blk_cell b10 rfl) (by exact e36)) ?_
      obtain ⟨t163, u164, M⟩ := bnd M
      refine lcallg (d := 59) (t := 57) rfl (by kernel_rfl) rfl (bT q162) rfl (by kernel_rfl) (eC [.tmp 58, .const (.int .i64 1)] [.pointer (some ⟨g2, 0, none⟩), .int .i64 1] Try.func36) (by have l165 := h6.le; have S166 := S42.pull (F := F7) (Fr := [(is g19), (is g14), (is g9), (is g2)]) 3 rfl rfl; obtain ⟨H167, S168, E169, h170, z171⟩ := S166.frzRow h6; have S172 := S168.pull (F := (is g2)) (Fr := [(is g19), (is g14), (is g9)]) 3 rfl rfl; obtain ⟨H173, S174, E175, h176, z177⟩ := S172.frzBlk b3; exact (impl_lexer_peek.calls w33 H173 x1 g2 A4 c5 1 (h170.ext E175) l165 h176 S174.own0 t163 u164)) ?_
      rintro _ w178 ⟨rfl, C179⟩
      refine ⟨_, rfl, ?_⟩
      obtain ⟨S180, K181⟩ := S42.still C179
      replace b30 := K181.blk 0 rfl b30
      replace b25 := K181.blk 1 rfl b25
      replace b10 := K181.blk 2 rfl b10
      replace h6 := h6.move (K181.at 3 rfl)
      replace b3 := K181.blk 4 rfl b3
      refine lG 60 57 (bT q162) (eEq .u8 (t163.toNat : Int) 39) (lV 61 (eT (.bool (decide ((t163.toNat : Int) = 39))) (bT q162)) (lV 49 (eA (.bool (decide ((t163.toNat : Int) = 39)))) (wpList_nil (then_n ?_))))
      by_cases q182 : (t163.toNat : Int) = 39
      · replace M := ifp q182 M
        refine cT (bT q182) (wp_seq (wp_region_lit (lV 62 (eM (.int .i64 x1.at_) (by exact e37)) (lV 63 (eAdd .i64 x1.at_ 2) ?_))))
        refine lE (eS g19 0 (.int .i64 (IntKind.i64.wrap (x1.at_ + 2))) #[.int .i64 (IntKind.i64.wrap (x1.at_ + 2))] [.int .i64 (IntKind.i64.wrap (x1.at_ + 2))] S180 b30 (by exact e39)) ?_
        rintro w183 ⟨b184, S185, K186⟩
        replace b25 := K186.blk 0 rfl b25
        replace b10 := K186.blk 1 rfl b10
        replace h6 := h6.move (K186.at 2 rfl)
        replace b3 := K186.blk 3 rfl b3
        clear b30
        refine wpList_nil (then_n (wp_seq (wp_block (wp_seq ?_))))
        refine region_still (by kernel_rfl) (by kernel_rfl) S185 ?_
        intro w187 S188 K189
        replace b184 := K189.blk 0 rfl b184
        replace b25 := K189.blk 1 rfl b25
        replace b10 := K189.blk 2 rfl b10
        replace h6 := h6.move (K189.at 3 rfl)
        replace b3 := K189.blk 4 rfl b3
        refine sV 68 (eL ⟨g19, 0, none⟩ (.int .i64 (IntKind.i64.wrap (x1.at_ + 2))) Try.underlying3 (blk_cell b184 rfl) (by exact e39)) (sV 69 (eL ⟨g9, 0, none⟩ (.pointer (some ⟨g2, 0, none⟩)) Try.underlying40 (blk_cell b10 rfl) (by exact e36)) (sV 70 (eN ⟨g2, 0, none⟩) (sV 71 (eD g2 0 0 1 Try.underlying42) (sV 72 (eL ⟨g2, 0 + 0, none⟩ (str x1.s_) Try.underlying9 (blk_cell b3 rfl)) (sV 73 (e_slen (p := x1.s_) Try.underlying9 (by kernel_rfl)) (sV 74 (e_geq (k := .i64) (a := (IntKind.i64.wrap (x1.at_ + 2))) (b := (x1.s_.length : Int)) (by kernel_rfl) (by kernel_rfl)) (sV 67 (eA (.bool (decide ((IntKind.i64.wrap (x1.at_ + 2)) ≥ (x1.s_.length : Int))))) ?_)))))))
        refine wpStill_nil (then_n ?_)
        by_cases q190 : (IntKind.i64.wrap (x1.at_ + 2)) ≥ (x1.s_.length : Int)
        · replace M := ifp q190 M
          refine cT (bT q190) (wp_region_lit (lV 75 (eL ⟨g9, 0, none⟩ (.pointer (some ⟨g2, 0, none⟩)) Try.underlying40 (blk_cell b10 rfl) (by exact e36)) (lV 76 (eM (.int .i64 x1.at_) (by exact e37)) ?_)))
          have S191 := S188.pull (F := (is g2)) (Fr := [(is g19), (is g14), (is g9), F7]) 4 rfl rfl
          have S192 := S191.pull (F := F7) (Fr := [(is g2), (is g19), (is g14), (is g9)]) 4 rfl rfl
          obtain ⟨t193, u194, M⟩ := bnd M
          refine lC 77 (eC [.tmp 75, .const (.int .i64 2), .tmp 76] [.pointer (some ⟨g2, 0, none⟩), .int .i64 2, .int .i64 x1.at_] Try.func37) (impl_lexer_fault.calls w187 H x1 g2 A4 c5 F7 2 x1.at_ h6 b3 (St.own' (Fa := [F7, (is g2)]) (Fr := [(is g19), (is g14), (is g9)]) S192) t193 u194) ?_
          rintro _ w195 ⟨A198, c199, F201, H196, rfl, h200, b202, T197⟩
          refine ⟨_, rfl, ?_⟩
          obtain ⟨S203, K204⟩ := St.call (Fa := [F7, (is g2)]) (Fr := [(is g19), (is g14), (is g9)]) S192 T197
          replace b184 := K204.blk 0 rfl b184
          replace b25 := K204.blk 1 rfl b25
          replace b10 := K204.blk 2 rfl b10
          have E205 := T197.ext
          refine wpList_nil (inb_n (then_n (wp_seq (wp_region_lit (lV 139 (eL ⟨g9, 0, none⟩ (.pointer (some ⟨g2, 0, none⟩)) Try.underlying40 (blk_cell b10 rfl) (by exact e36)) (lV 140 (eN ⟨g2, 0, none⟩) (lV 141 (eD g2 0 3 1 Try.underlying42) ?_)))))))
          refine lV 142 (eL ⟨g2, 0 + 3, none⟩ (.int .i64 t193.code_) Try.underlying3 (blk_cell b202 rfl)) (lV 143 (eNe .i64 t193.code_ 0) (wpList_nil (then_n ?_)))
          by_cases q206 : t193.code_ ≠ 0
          · replace M := ifp q206 M
            refine cT (bT q206) (wp_ret (inb_r (then_r ?_)))
            obtain rfl := Option.some.inj M
            have S207 := S203.pull (F := F201) (Fr := [(is g2), (is g19), (is g14), (is g9)]) 1 rfl rfl
            have S208 := S207.pull (F := (is g2)) (Fr := [F201, (is g19), (is g14), (is g9)]) 1 rfl rfl
            have S209 := St.first (Fa := [(is g2), F201]) (Fr := [(is g19), (is g14), (is g9)]) S208
            exact Go.Sy.ret0 rfl ⟨A198, c199, F201, H196, rfl, h200, b202, S209⟩
          replace M := ifn q206 M
          refine cF (bF q206) (wp_skip (inb_n (then_n ?_)))
          have S210 := S203.pull (F := F201) (Fr := [(is g2), (is g19), (is g14), (is g9)]) 1 rfl rfl
          have S211 := S210.pull (F := (is g2)) (Fr := [F201, (is g19), (is g14), (is g9)]) 1 rfl rfl
          have S212 := S211.pull (F := (is g9)) (Fr := [(is g2), F201, (is g19), (is g14)]) 4 rfl rfl
          have S213 := S212.pull (F := (is g14)) (Fr := [(is g9), (is g2), F201, (is g19)]) 4 rfl rfl
          have S214 := S213.pull (F := (is g19)) (Fr := [(is g14), (is g9), (is g2), F201]) 4 rfl rfl
          exact ⟨_, H196, t193.s_, t193.at_, t193.tokens_, A198, c199, F201, t193.code_, t193.place_, 0, (IntKind.i64.wrap (x1.at_ + 2)), rfl, (by exact e36), (by exact e37), (by exact e38), (by exact e39), b184, b25, b10, b202, h200, E205, S214, M⟩
        replace M := ifn q190 M
        refine cF (bF q190) (wp_seq ?_)
        refine region_still (by kernel_rfl) (by kernel_rfl) S188 ?_
        intro w215 S216 K217
        replace b184 := K217.blk 0 rfl b184
        replace b25 := K217.blk 1 rfl b25
        replace b10 := K217.blk 2 rfl b10
        replace h6 := h6.move (K217.at 3 rfl)
        replace b3 := K217.blk 4 rfl b3
        refine sV 79 (eL ⟨g9, 0, none⟩ (.pointer (some ⟨g2, 0, none⟩)) Try.underlying40 (blk_cell b10 rfl) (by exact e36)) (sV 80 (eN ⟨g2, 0, none⟩) (sV 81 (eD g2 0 0 1 Try.underlying42) (sV 82 (eL ⟨g2, 0 + 0, none⟩ (str x1.s_) Try.underlying9 (blk_cell b3 rfl)) (sV 83 (eL ⟨g19, 0, none⟩ (.int .i64 (IntKind.i64.wrap (x1.at_ + 2))) Try.underlying3 (blk_cell b184 rfl) (by exact e39)) ?_))))
        obtain ⟨q218, M⟩ := chk M
        obtain ⟨q219, M⟩ := chk M
        refine sV 84 (e_sindex (p := x1.s_) (i := (IntKind.i64.wrap (x1.at_ + 2))) (k := .i64) Try.underlying9 (by kernel_rfl) (by kernel_rfl) q218 q219) (sV 85 (eEq .u8 ((x1.s_.getD ((IntKind.i64.wrap (x1.at_ + 2)) : Int).toNat (0 : UInt8)).toNat : Int) 39) (sV 78 (eA (.bool (decide (((x1.s_.getD ((IntKind.i64.wrap (x1.at_ + 2)) : Int).toNat (0 : UInt8)).toNat : Int) = 39)))) (wpStill_nil (then_n ?_))))
        by_cases q220 : ((x1.s_.getD ((IntKind.i64.wrap (x1.at_ + 2)) : Int).toNat (0 : UInt8)).toNat : Int) = 39
        · replace M := ifp q220 M
          refine cT (bT q220) (wp_seq (wp_seq (wp_region_lit (lV 86 (eL ⟨g9, 0, none⟩ (.pointer (some ⟨g2, 0, none⟩)) Try.underlying40 (blk_cell b10 rfl) (by exact e36)) ?_))))
          obtain ⟨t221, u222, M⟩ := bnd M
          refine lC 87 (eC [.tmp 86, .const (.int .i64 3)] [.pointer (some ⟨g2, 0, none⟩), .int .i64 3] Try.func36) (by have l223 := h6.le; have S224 := S216.pull (F := F7) (Fr := [(is g19), (is g14), (is g9), (is g2)]) 3 rfl rfl; obtain ⟨H225, S226, E227, h228, z229⟩ := S224.frzRow h6; have S230 := S226.pull (F := (is g2)) (Fr := [(is g19), (is g14), (is g9)]) 3 rfl rfl; obtain ⟨H231, S232, E233, h234, z235⟩ := S230.frzBlk b3; exact (impl_lexer_peek.calls w215 H231 x1 g2 A4 c5 3 (h228.ext E233) l223 h234 S232.own0 t221 u222)) ?_
          rintro _ w236 ⟨rfl, C237⟩
          refine ⟨_, rfl, ?_⟩
          obtain ⟨S238, K239⟩ := S216.still C237
          replace b184 := K239.blk 0 rfl b184
          replace b25 := K239.blk 1 rfl b25
          replace b10 := K239.blk 2 rfl b10
          replace h6 := h6.move (K239.at 3 rfl)
          replace b3 := K239.blk 4 rfl b3
          refine lV 88 (eNe .u8 (t221.toNat : Int) 39) (wpList_nil (then_n ?_))
          by_cases q240 : (t221.toNat : Int) ≠ 39
          · replace M := ifp q240 M
            refine cT (bT q240) (wp_region_lit (lV 89 (eL ⟨g9, 0, none⟩ (.pointer (some ⟨g2, 0, none⟩)) Try.underlying40 (blk_cell b10 rfl) (by exact e36)) (lV 90 (eM (.int .i64 x1.at_) (by exact e37)) ?_)))
            have S241 := S238.pull (F := (is g2)) (Fr := [(is g19), (is g14), (is g9), F7]) 4 rfl rfl
            have S242 := S241.pull (F := F7) (Fr := [(is g2), (is g19), (is g14), (is g9)]) 4 rfl rfl
            obtain ⟨t243, u244, M⟩ := bnd M
            refine lC 91 (eC [.tmp 89, .const (.int .i64 2), .tmp 90] [.pointer (some ⟨g2, 0, none⟩), .int .i64 2, .int .i64 x1.at_] Try.func37) (impl_lexer_fault.calls w236 H x1 g2 A4 c5 F7 2 x1.at_ h6 b3 (St.own' (Fa := [F7, (is g2)]) (Fr := [(is g19), (is g14), (is g9)]) S242) t243 u244) ?_
            rintro _ w245 ⟨A248, c249, F251, H246, rfl, h250, b252, T247⟩
            refine ⟨_, rfl, ?_⟩
            obtain ⟨S253, K254⟩ := St.call (Fa := [F7, (is g2)]) (Fr := [(is g19), (is g14), (is g9)]) S242 T247
            replace b184 := K254.blk 0 rfl b184
            replace b25 := K254.blk 1 rfl b25
            replace b10 := K254.blk 2 rfl b10
            have E255 := T247.ext
            refine wpList_nil (then_n (wp_seq (wp_region_lit ?_)))
            have S256 := S253.pull (F := (is g14)) (Fr := [(is g2), F251, (is g19), (is g9)]) 3 rfl rfl
            refine lE (eS g14 0 (.int .i64 39) #[.int .i64 39] [.int .i64 39] S256 b25 (by exact e38)) ?_
            rintro w257 ⟨b258, S259, K260⟩
            replace b252 := K260.blk 0 rfl b252
            replace h250 := h250.move (K260.at 1 rfl)
            replace b184 := K260.blk 2 rfl b184
            replace b10 := K260.blk 3 rfl b10
            clear b25
            refine wpList_nil (then_n (wp_region_lit (lV 92 (eL ⟨g19, 0, none⟩ (.int .i64 (IntKind.i64.wrap (x1.at_ + 2))) Try.underlying3 (blk_cell b184 rfl) (by exact e39)) (lV 93 (eAdd .i64 (IntKind.i64.wrap (x1.at_ + 2)) 2) ?_))))
            have S261 := S259.pull (F := (is g19)) (Fr := [(is g14), (is g2), F251, (is g9)]) 3 rfl rfl
            refine lE (eS g19 0 (.int .i64 (IntKind.i64.wrap ((IntKind.i64.wrap (x1.at_ + 2)) + 2))) #[.int .i64 (IntKind.i64.wrap ((IntKind.i64.wrap (x1.at_ + 2)) + 2))] [.int .i64 (IntKind.i64.wrap ((IntKind.i64.wrap (x1.at_ + 2)) + 2))] S261 b184 (by exact e39)) ?_
            rintro w262 ⟨b263, S264, K265⟩
            replace b258 := K265.blk 0 rfl b258
            replace b252 := K265.blk 1 rfl b252
            replace h250 := h250.move (K265.at 2 rfl)
            replace b10 := K265.blk 3 rfl b10
            clear b184
            refine wpList_nil (inb_n (then_n (wp_seq (wp_region_lit (lV 139 (eL ⟨g9, 0, none⟩ (.pointer (some ⟨g2, 0, none⟩)) Try.underlying40 (blk_cell b10 rfl) (by exact e36)) (lV 140 (eN ⟨g2, 0, none⟩) (lV 141 (eD g2 0 3 1 Try.underlying42) ?_)))))))
            refine lV 142 (eL ⟨g2, 0 + 3, none⟩ (.int .i64 t243.code_) Try.underlying3 (blk_cell b252 rfl)) (lV 143 (eNe .i64 t243.code_ 0) (wpList_nil (then_n ?_)))
            by_cases q266 : t243.code_ ≠ 0
            · replace M := ifp q266 M
              refine cT (bT q266) (wp_ret (inb_r (then_r ?_)))
              obtain rfl := Option.some.inj M
              have S267 := S264.pull (F := F251) (Fr := [(is g19), (is g14), (is g2), (is g9)]) 3 rfl rfl
              have S268 := S267.pull (F := (is g2)) (Fr := [F251, (is g19), (is g14), (is g9)]) 3 rfl rfl
              have S269 := St.first (Fa := [(is g2), F251]) (Fr := [(is g19), (is g14), (is g9)]) S268
              exact Go.Sy.ret0 rfl ⟨A248, c249, F251, H246, rfl, h250, b252, S269⟩
            replace M := ifn q266 M
            refine cF (bF q266) (wp_skip (inb_n (then_n ?_)))
            have S270 := S264.pull (F := F251) (Fr := [(is g19), (is g14), (is g2), (is g9)]) 3 rfl rfl
            have S271 := S270.pull (F := (is g2)) (Fr := [F251, (is g19), (is g14), (is g9)]) 3 rfl rfl
            have S272 := S271.pull (F := (is g9)) (Fr := [(is g2), F251, (is g19), (is g14)]) 4 rfl rfl
            have S273 := S272.pull (F := (is g14)) (Fr := [(is g9), (is g2), F251, (is g19)]) 4 rfl rfl
            have S274 := S273.pull (F := (is g19)) (Fr := [(is g14), (is g9), (is g2), F251]) 4 rfl rfl
            exact ⟨_, H246, t243.s_, t243.at_, t243.tokens_, A248, c249, F251, t243.code_, t243.place_, 39, (IntKind.i64.wrap ((IntKind.i64.wrap (x1.at_ + 2)) + 2)), rfl, (by exact e36), (by exact e37), (by exact e38), (by exact e39), b263, b258, b10, b252, h250, E255, S274, M⟩
          replace M := ifn q240 M
          refine cF (bF q240) (wp_skip (then_n (wp_seq (wp_region_lit ?_))))
          have S275 := S238.pull (F := (is g14)) (Fr := [(is g19), (is g9), F7, (is g2)]) 1 rfl rfl
          refine lE (eS g14 0 (.int .i64 39) #[.int .i64 39] [.int .i64 39] S275 b25 (by exact e38)) ?_
          rintro w276 ⟨b277, S278, K279⟩
          replace b184 := K279.blk 0 rfl b184
          replace b10 := K279.blk 1 rfl b10
          replace h6 := h6.move (K279.at 2 rfl)
          replace b3 := K279.blk 3 rfl b3
          clear b25
          refine wpList_nil (then_n (wp_region_lit (lV 92 (eL ⟨g19, 0, none⟩ (.int .i64 (IntKind.i64.wrap (x1.at_ + 2))) Try.underlying3 (blk_cell b184 rfl) (by exact e39)) (lV 93 (eAdd .i64 (IntKind.i64.wrap (x1.at_ + 2)) 2) ?_))))
          have S280 := S278.pull (F := (is g19)) (Fr := [(is g14), (is g9), F7, (is g2)]) 1 rfl rfl
          refine lE (eS g19 0 (.int .i64 (IntKind.i64.wrap ((IntKind.i64.wrap (x1.at_ + 2)) + 2))) #[.int .i64 (IntKind.i64.wrap ((IntKind.i64.wrap (x1.at_ + 2)) + 2))] [.int .i64 (IntKind.i64.wrap ((IntKind.i64.wrap (x1.at_ + 2)) + 2))] S280 b184 (by exact e39)) ?_
          rintro w281 ⟨b282, S283, K284⟩
          replace b277 := K284.blk 0 rfl b277
          replace b10 := K284.blk 1 rfl b10
          replace h6 := h6.move (K284.at 2 rfl)
          replace b3 := K284.blk 3 rfl b3
          clear b184
          refine wpList_nil (inb_n (then_n (wp_seq (wp_region_lit (lV 139 (eL ⟨g9, 0, none⟩ (.pointer (some ⟨g2, 0, none⟩)) Try.underlying40 (blk_cell b10 rfl) (by exact e36)) (lV 140 (eN ⟨g2, 0, none⟩) (lV 141 (eD g2 0 3 1 Try.underlying42) ?_)))))))
          refine lV 142 (eL ⟨g2, 0 + 3, none⟩ (.int .i64 x1.code_) Try.underlying3 (blk_cell b3 rfl)) (lV 143 (eNe .i64 x1.code_ 0) (wpList_nil (then_n ?_)))
          by_cases q285 : x1.code_ ≠ 0
          · replace M := ifp q285 M
            refine cT (bT q285) (wp_ret (inb_r (then_r ?_)))
            obtain rfl := Option.some.inj M
            have S286 := S283.pull (F := F7) (Fr := [(is g19), (is g14), (is g9), (is g2)]) 3 rfl rfl
            have S287 := S286.pull (F := (is g2)) (Fr := [F7, (is g19), (is g14), (is g9)]) 4 rfl rfl
            have S288 := St.first (Fa := [(is g2), F7]) (Fr := [(is g19), (is g14), (is g9)]) S287
            exact Go.Sy.ret0 rfl ⟨A4, c5, F7, H, rfl, h6, b3, S288⟩
          replace M := ifn q285 M
          refine cF (bF q285) (wp_skip (inb_n (then_n ?_)))
          have S289 := S283.pull (F := F7) (Fr := [(is g19), (is g14), (is g9), (is g2)]) 3 rfl rfl
          have S290 := S289.pull (F := (is g2)) (Fr := [F7, (is g19), (is g14), (is g9)]) 4 rfl rfl
          have S291 := S290.pull (F := (is g9)) (Fr := [(is g2), F7, (is g19), (is g14)]) 4 rfl rfl
          have S292 := S291.pull (F := (is g14)) (Fr := [(is g9), (is g2), F7, (is g19)]) 4 rfl rfl
          have S293 := S292.pull (F := (is g19)) (Fr := [(is g14), (is g9), (is g2), F7]) 4 rfl rfl
          exact ⟨_, H, x1.s_, x1.at_, x1.tokens_, A4, c5, F7, x1.code_, x1.place_, 39, (IntKind.i64.wrap ((IntKind.i64.wrap (x1.at_ + 2)) + 2)), rfl, (by exact e36), (by exact e37), (by exact e38), (by exact e39), b282, b277, b10, b3, h6, (Ext.refl _), S293, M⟩
        replace M := ifn q220 M
        refine cF (bF q220) (wp_seq ?_)
        refine region_still (by kernel_rfl) (by kernel_rfl) S216 ?_
        intro w294 S295 K296
        replace b184 := K296.blk 0 rfl b184
        replace b25 := K296.blk 1 rfl b25
        replace b10 := K296.blk 2 rfl b10
        replace h6 := h6.move (K296.at 3 rfl)
        replace b3 := K296.blk 4 rfl b3
        refine sV 95 (eL ⟨g9, 0, none⟩ (.pointer (some ⟨g2, 0, none⟩)) Try.underlying40 (blk_cell b10 rfl) (by exact e36)) (sV 96 (eN ⟨g2, 0, none⟩) (sV 97 (eD g2 0 0 1 Try.underlying42) (sV 98 (eL ⟨g2, 0 + 0, none⟩ (str x1.s_) Try.underlying9 (blk_cell b3 rfl)) (sV 99 (eL ⟨g19, 0, none⟩ (.int .i64 (IntKind.i64.wrap (x1.at_ + 2))) Try.underlying3 (blk_cell b184 rfl) (by exact e39)) (sV 100 (e_sindex (p := x1.s_) (i := (IntKind.i64.wrap (x1.at_ + 2))) (k := .i64) Try.underlying9 (by kernel_rfl) (by kernel_rfl) q218 q219) (sV 101 (eEq .u8 ((x1.s_.getD ((IntKind.i64.wrap (x1.at_ + 2)) : Int).toNat (0 : UInt8)).toNat : Int) 92) (sV 94 (eA (.bool (decide (((x1.s_.getD ((IntKind.i64.wrap (x1.at_ + 2)) : Int).toNat (0 : UInt8)).toNat : Int) = 92)))) ?_)))))))
        refine wpStill_nil (then_n ?_)
        by_cases q297 : ((x1.s_.getD ((IntKind.i64.wrap (x1.at_ + 2)) : Int).toNat (0 : UInt8)).toNat : Int) = 92
        · replace M := ifp q297 M
          refine cT (bT q297) (wp_seq (wp_region_lit (lV 103 (eL ⟨g9, 0, none⟩ (.pointer (some ⟨g2, 0, none⟩)) Try.underlying40 (blk_cell b10 rfl) (by exact e36)) (lV 104 (eL ⟨g19, 0, none⟩ (.int .i64 (IntKind.i64.wrap (x1.at_ + 2))) Try.underlying3 (blk_cell b184 rfl) (by exact e39)) ?_))))
          obtain ⟨t298, u299, M⟩ := bnd M
          refine lC 105 (eC [.tmp 103, .tmp 104] [.pointer (some ⟨g2, 0, none⟩), .int .i64 (IntKind.i64.wrap (x1.at_ + 2))] Try.func50) (by have l300 := h6.le; have S301 := S295.pull (F := F7) (Fr := [(is g19), (is g14), (is g9), (is g2)]) 3 rfl rfl; obtain ⟨H302, S303, E304, h305, z306⟩ := S301.frzRow h6; have S307 := S303.pull (F := (is g2)) (Fr := [(is g19), (is g14), (is g9)]) 3 rfl rfl; obtain ⟨H308, S309, E310, h311, z312⟩ := S307.frzBlk b3; exact (impl_lexer_escape.calls k w294 H308 x1 g2 A4 c5 (IntKind.i64.wrap (x1.at_ + 2)) (h305.ext E310) l300 h311 S309.own0 t298 u299)) ?_
          rintro _ w313 ⟨rfl, C314⟩
          refine ⟨_, rfl, ?_⟩
          obtain ⟨S315, K316⟩ := S295.still C314
          replace b184 := K316.blk 0 rfl b184
          replace b25 := K316.blk 1 rfl b25
          replace b10 := K316.blk 2 rfl b10
          replace h6 := h6.move (K316.at 3 rfl)
          replace b3 := K316.blk 4 rfl b3
          refine lV 102 (eM (.tuple #[str t298.1, .int .i64 t298.2.1, .bool t298.2.2])) (lV 106 (e_extract (vs := #[str t298.1, .int .i64 t298.2.1, .bool t298.2.2]) (v := str t298.1) (by kernel_rfl) rfl) (lV 107 (e_extract (vs := #[str t298.1, .int .i64 t298.2.1, .bool t298.2.2]) (v := .int .i64 t298.2.1) (by kernel_rfl) rfl) (lV 108 (e_extract (vs := #[str t298.1, .int .i64 t298.2.1, .bool t298.2.2]) (v := .bool t298.2.2) (by kernel_rfl) rfl) (lV 7 (eA (str t298.1)) (lV 8 (eA (.int .i64 t298.2.1)) (lV 9 (eA (.bool t298.2.2)) (wpList_nil ?_)))))))
          refine then_n (wp_seq (wp_seq (wp_region_lit (lV 109 (eM (.bool t298.2.2)) (lV 110 (e_notv (c := t298.2.2) (by kernel_rfl)) (lV 111 (eM (.bool (decide (¬ (t298.2.2 = true))))) ?_))))))
          by_cases q317 : ¬ (t298.2.2 = true)
          · replace M := ifp q317 M
            refine lK 111 true (bT q317) ?_
            refine lK 111 true (bT q317) ?_
            refine lV 114 (eT (.bool true) (bT q317)) (wpList_nil (then_n (cond_t rfl (by kernel_rfl) (wp_seq (wp_region_lit (lV 115 (eL ⟨g9, 0, none⟩ (.pointer (some ⟨g2, 0, none⟩)) Try.underlying40 (blk_cell b10 rfl) (by exact e36)) (lV 116 (eM (.int .i64 x1.at_) (by exact e37)) ?_)))))))
            have S318 := S315.pull (F := (is g2)) (Fr := [(is g19), (is g14), (is g9), F7]) 4 rfl rfl
            have S319 := S318.pull (F := F7) (Fr := [(is g2), (is g19), (is g14), (is g9)]) 4 rfl rfl
            obtain ⟨t320, u321, M⟩ := bnd M
            refine lC 117 (eC [.tmp 115, .const (.int .i64 2), .tmp 116] [.pointer (some ⟨g2, 0, none⟩), .int .i64 2, .int .i64 x1.at_] Try.func37) (impl_lexer_fault.calls w313 H x1 g2 A4 c5 F7 2 x1.at_ h6 b3 (St.own' (Fa := [F7, (is g2)]) (Fr := [(is g19), (is g14), (is g9)]) S319) t320 u321) ?_
            rintro _ w322 ⟨A325, c326, F328, H323, rfl, h327, b329, T324⟩
            refine ⟨_, rfl, ?_⟩
            obtain ⟨S330, K331⟩ := St.call (Fa := [F7, (is g2)]) (Fr := [(is g19), (is g14), (is g9)]) S319 T324
            have E332 := T324.ext
            refine wpList_nil (then_n (wp_ret (then_r (inb_r (then_r (inb_r (then_r ?_)))))))
            obtain rfl := Option.some.inj M
            have S333 := S330.pull (F := F328) (Fr := [(is g2), (is g19), (is g14), (is g9)]) 1 rfl rfl
            have S334 := S333.pull (F := (is g2)) (Fr := [F328, (is g19), (is g14), (is g9)]) 1 rfl rfl
            have S335 := St.first (Fa := [(is g2), F328]) (Fr := [(is g19), (is g14), (is g9)]) S334
            exact Go.Sy.ret0 rfl ⟨A325, c326, F328, H323, rfl, h327, b329, S335⟩
          replace M := ifn q317 M
          refine lG 112 111 (bF q317) (eM (str t298.1)) (lG 113 111 (bF q317) (e_seql (p := t298.1) (q := ([] : List UInt8)) (by kernel_rfl) rfl) (lV 114 (eF (.bool (decide (t298.1 = ([] : List UInt8)))) (bF q317)) (wpList_nil (then_n ?_))))
          by_cases q336 : t298.1 = ([] : List UInt8)
          · replace M := ifp q336 M
            refine cT (bT q336) (wp_seq (wp_region_lit (lV 115 (eL ⟨g9, 0, none⟩ (.pointer (some ⟨g2, 0, none⟩)) Try.underlying40 (blk_cell b10 rfl) (by exact e36)) (lV 116 (eM (.int .i64 x1.at_) (by exact e37)) ?_))))
            have S337 := S315.pull (F := (is g2)) (Fr := [(is g19), (is g14), (is g9), F7]) 4 rfl rfl
            have S338 := S337.pull (F := F7) (Fr := [(is g2), (is g19), (is g14), (is g9)]) 4 rfl rfl
            obtain ⟨t339, u340, M⟩ := bnd M
            refine lC 117 (eC [.tmp 115, .const (.int .i64 2), .tmp 116] [.pointer (some ⟨g2, 0, none⟩), .int .i64 2, .int .i64 x1.at_] Try.func37) (impl_lexer_fault.calls w313 H x1 g2 A4 c5 F7 2 x1.at_ h6 b3 (St.own' (Fa := [F7, (is g2)]) (Fr := [(is g19), (is g14), (is g9)]) S338) t339 u340) ?_
            rintro _ w341 ⟨A344, c345, F347, H342, rfl, h346, b348, T343⟩
            refine ⟨_, rfl, ?_⟩
            obtain ⟨S349, K350⟩ := St.call (Fa := [F7, (is g2)]) (Fr := [(is g19), (is g14), (is g9)]) S338 T343
            have E351 := T343.ext
            refine wpList_nil (then_n (wp_ret (then_r (inb_r (then_r (inb_r (then_r ?_)))))))
            obtain rfl := Option.some.inj M
            have S352 := S349.pull (F := F347) (Fr := [(is g2), (is g19), (is g14), (is g9)]) 1 rfl rfl
            have S353 := S352.pull (F := (is g2)) (Fr := [F347, (is g19), (is g14), (is g9)]) 1 rfl rfl
            have S354 := St.first (Fa := [(is g2), F347]) (Fr := [(is g19), (is g14), (is g9)]) S353
            exact Go.Sy.ret0 rfl ⟨A344, c345, F347, H342, rfl, h346, b348, S354⟩
          replace M := ifn q336 M
          refine cF (bF q336) (wp_skip (then_n (wp_region_lit (lV 118 (eM (str t298.1)) ?_))))
          obtain ⟨q355, M⟩ := chk M
          refine lV 119 (e_sindex (p := t298.1) (i := 0) (k := .i64) Try.underlying9 (by kernel_rfl) rfl (by decide) q355) (lV 120 (e_conv_8i (a := (t298.1.getD (0 : Int).toNat (0 : UInt8))) (by kernel_rfl) Try.underlying3 (by kernel_rfl)) (lV 121 (eM (.int .i64 t298.2.1)) ?_))
          have S356 := S315.pull (F := (is g14)) (Fr := [(is g19), (is g9), F7, (is g2)]) 1 rfl rfl
          refine lE (eS g14 0 (.int .i64 ((t298.1.getD (0 : Int).toNat (0 : UInt8)).toNat : Int)) #[.int .i64 ((t298.1.getD (0 : Int).toNat (0 : UInt8)).toNat : Int)] [.int .i64 ((t298.1.getD (0 : Int).toNat (0 : UInt8)).toNat : Int)] S356 b25 (by exact e38)) ?_
          rintro w357 ⟨b358, S359, K360⟩
          replace b184 := K360.blk 0 rfl b184
          replace b10 := K360.blk 1 rfl b10
          replace h6 := h6.move (K360.at 2 rfl)
          replace b3 := K360.blk 3 rfl b3
          clear b25
          have S361 := S359.pull (F := (is g19)) (Fr := [(is g14), (is g9), F7, (is g2)]) 1 rfl rfl
          refine lE (eS g19 0 (.int .i64 t298.2.1) #[.int .i64 t298.2.1] [.int .i64 t298.2.1] S361 b184 (by exact e39)) ?_
          rintro w362 ⟨b363, S364, K365⟩
          replace b358 := K365.blk 0 rfl b358
          replace b10 := K365.blk 1 rfl b10
          replace h6 := h6.move (K365.at 2 rfl)
          replace b3 := K365.blk 3 rfl b3
          clear b184
          refine wpList_nil (inb_n (then_n (wp_seq (wp_region_lit (lV 139 (eL ⟨g9, 0, none⟩ (.pointer (some ⟨g2, 0, none⟩)) Try.underlying40 (blk_cell b10 rfl) (by exact e36)) (lV 140 (eN ⟨g2, 0, none⟩) (lV 141 (eD g2 0 3 1 Try.underlying42) ?_)))))))
          refine lV 142 (eL ⟨g2, 0 + 3, none⟩ (.int .i64 x1.code_) Try.underlying3 (blk_cell b3 rfl)) (lV 143 (eNe .i64 x1.code_ 0) (wpList_nil (then_n ?_)))
          by_cases q366 : x1.code_ ≠ 0
          · replace M := ifp q366 M
            refine cT (bT q366) (wp_ret (inb_r (then_r ?_)))
            obtain rfl := Option.some.inj M
            have S367 := S364.pull (F := F7) (Fr := [(is g19), (is g14), (is g9), (is g2)]) 3 rfl rfl
            have S368 := S367.pull (F := (is g2)) (Fr := [F7, (is g19), (is g14), (is g9)]) 4 rfl rfl
            have S369 := St.first (Fa := [(is g2), F7]) (Fr := [(is g19), (is g14), (is g9)]) S368
            exact Go.Sy.ret0 rfl ⟨A4, c5, F7, H, rfl, h6, b3, S369⟩
          replace M := ifn q366 M
          refine cF (bF q366) (wp_skip (inb_n (then_n ?_)))
          have S370 := S364.pull (F := F7) (Fr := [(is g19), (is g14), (is g9), (is g2)]) 3 rfl rfl
          have S371 := S370.pull (F := (is g2)) (Fr := [F7, (is g19), (is g14), (is g9)]) 4 rfl rfl
          have S372 := S371.pull (F := (is g9)) (Fr := [(is g2), F7, (is g19), (is g14)]) 4 rfl rfl
          have S373 := S372.pull (F := (is g14)) (Fr := [(is g9), (is g2), F7, (is g19)]) 4 rfl rfl
          have S374 := S373.pull (F := (is g19)) (Fr := [(is g14), (is g9), (is g2), F7]) 4 rfl rfl
          exact ⟨_, H, x1.s_, x1.at_, x1.tokens_, A4, c5, F7, x1.code_, x1.place_, ((t298.1.getD (0 : Int).toNat (0 : UInt8)).toNat : Int), t298.2.1, rfl, (by exact e36), (by exact e37), (by exact e38), (by exact e39), b363, b358, b10, b3, h6, (Ext.refl _), S374, M⟩
        replace M := ifn q297 M
        refine cF (bF q297) (wp_seq ?_)
        refine region_quiet (by kernel_rfl) (by kernel_rfl) ?_
        refine qV 123 (fun wq_ hq_ => eL ⟨g9, 0, none⟩ (.pointer (some ⟨g2, 0, none⟩)) Try.underlying40 (blk_cell ((S295.still hq_).2.blk 2 rfl b10) rfl) (by exact e36)) ?_
        refine qV 124 (fun wq_ hq_ => eN ⟨g2, 0, none⟩) ?_
        refine qV 125 (fun wq_ hq_ => eD g2 0 0 1 Try.underlying42) ?_
        refine qV 126 (fun wq_ hq_ => eL ⟨g2, 0 + 0, none⟩ (str x1.s_) Try.underlying9 (blk_cell ((S295.still hq_).2.blk 4 rfl b3) rfl)) ?_
        refine qV 127 (fun wq_ hq_ => eL ⟨g19, 0, none⟩ (.int .i64 (IntKind.i64.wrap (x1.at_ + 2))) Try.underlying3 (blk_cell ((S295.still hq_).2.blk 0 rfl b184) rfl) (by exact e39)) ?_
        refine qV 128 (fun wq_ hq_ => e_sindex (p := x1.s_) (i := (IntKind.i64.wrap (x1.at_ + 2))) (k := .i64) Try.underlying9 (by kernel_rfl) (by kernel_rfl) q218 q219) ?_
        obtain ⟨t375, u376, M⟩ := bnd M
        refine qcall (v := .bool t375) (d := 129) rfl rfl (by kernel_rfl) (fun w_ => eC [.tmp 128] [.int .u8 ((x1.s_.getD ((IntKind.i64.wrap (x1.at_ + 2)) : Int).toNat (0 : UInt8)).toNat : Int)] Try.func51) (fun wq_ hq_ => (by obtain ⟨S_, K_⟩ := S295.still hq_; replace b184 := K_.blk 0 rfl b184; replace b25 := K_.blk 1 rfl b25; replace b10 := K_.blk 2 rfl b10; replace h6 := h6.move (K_.at 3 rfl); replace b3 := K_.blk 4 rfl b3; exact (impl_isPrint.calls wq_ H (x1.s_.getD ((IntKind.i64.wrap (x1.at_ + 2)) : Int).toNat (0 : UInt8))  S_.own0 t375 u376))) ?_
        refine qV 122 (fun wq_ hq_ => eA (.bool t375)) ?_
        refine wpQuiet_nil ?_
        intro w377 C380
        obtain ⟨S378, K379⟩ := S295.still C380
        replace b184 := K379.blk 0 rfl b184
        replace b25 := K379.blk 1 rfl b25
        replace b10 := K379.blk 2 rfl b10
        replace h6 := h6.move (K379.at 3 rfl)
        replace b3 := K379.blk 4 rfl b3
        refine then_n ?_
        by_cases q381 : t375 = true
        · replace M := ifp q381 M
          refine cT (bvt q381 (by kernel_rfl)) (wp_seq ?_)
          refine region_mix (S := (fun (L_ : Array Bool) (w_ : World) => Ext H (hp w_) ∧ (∀ b_, (is g9) b_ → hp w_ b_ = hp w377 b_) ∧ (∀ b_, (is g2) b_ → hp w_ b_ = hp w377 b_))) (by kernel_rfl) S378 ?_
          intro w382 S383 K384 hc385
          have o386 := b10
          have o387 := b3
          have hs388 : (fun (L_ : Array Bool) (w_ : World) => Ext H (hp w_) ∧ (∀ b_, (is g9) b_ → hp w_ b_ = hp w377 b_) ∧ (∀ b_, (is g2) b_ → hp w_ b_ = hp w377 b_)) (Array.replicate 8 false) w382 := ⟨S383.inv, (fun b_ h_ => K384.at 2 rfl b_ h_), (fun b_ h_ => K384.at 4 rfl b_ h_)⟩
          replace b184 := K384.blk 0 rfl b184
          replace b25 := K384.blk 1 rfl b25
          replace b10 := K384.blk 2 rfl b10
          replace h6 := h6.move (K384.at 3 rfl)
          replace b3 := K384.blk 4 rfl b3
          refine xv (i := 0) (d := 130) rfl rfl rfl (by kernel_rfl) (by kernel_rfl) (fun _ _ => Iff.rfl) hc385 hs388 (fun L_ w_ hc_ hu_ hs_ => eL ⟨g9, 0, none⟩ (.pointer (some ⟨g2, 0, none⟩)) Try.underlying40 (blk_cell ((hs_.2.1 _ rfl).trans o386) rfl) (by exact e36)) ?_; intro hc389 hs390
          refine xv (i := 1) (d := 131) rfl rfl rfl (by kernel_rfl) (by kernel_rfl) (fun _ _ => Iff.rfl) hc389 hs390 (fun L_ w_ hc_ hu_ hs_ => eN ⟨g2, 0, none⟩) ?_; intro hc391 hs392
          refine xv (i := 2) (d := 132) rfl rfl rfl (by kernel_rfl) (by kernel_rfl) (fun _ _ => Iff.rfl) hc391 hs392 (fun L_ w_ hc_ hu_ hs_ => eD g2 0 0 1 Try.underlying42) ?_; intro hc393 hs394
          refine xv (i := 3) (d := 133) rfl rfl rfl (by kernel_rfl) (by kernel_rfl) (fun _ _ => Iff.rfl) hc393 hs394 (fun L_ w_ hc_ hu_ hs_ => eL ⟨g2, 0 + 0, none⟩ (str x1.s_) Try.underlying9 (blk_cell ((hs_.2.2 _ rfl).trans o387) rfl)) ?_; intro hc395 hs396
          refine xone (i := 4) (by kernel_rfl) hc395 ?_
          refine yo (i := 4) (d := 134) rfl rfl (wanted_none rfl _) (by kernel_rfl) (by kernel_rfl) (fun _ _ => Iff.rfl) hs396 (eL ⟨g19, 0, none⟩ (.int .i64 (IntKind.i64.wrap (x1.at_ + 2))) Try.underlying3 (blk_cell b184 rfl) (by exact e39)) ?_; intro hc397 hs398
          refine xone (i := 5) (by kernel_rfl) hc397 ?_
          refine yo (i := 5) (d := 135) rfl rfl (wanted_none rfl _) (by kernel_rfl) (by kernel_rfl) (fun _ _ => Iff.rfl) hs398 (e_sindex (p := x1.s_) (i := (IntKind.i64.wrap (x1.at_ + 2))) (k := .i64) Try.underlying9 (by kernel_rfl) (by kernel_rfl) q218 q219) ?_; intro hc399 hs400
          refine xone (i := 6) (by kernel_rfl) hc399 ?_
          refine yo (i := 6) (d := 136) rfl rfl (wanted_none rfl _) (by kernel_rfl) (by kernel_rfl) (fun _ _ => Iff.rfl) hs400 (e_conv_8i (a := (x1.s_.getD ((IntKind.i64.wrap (x1.at_ + 2)) : Int).toNat (0 : UInt8))) (by kernel_rfl) Try.underlying3 (by kernel_rfl)) ?_; intro hc401 hs402
          have S403 := S383.pull (F := (is g14)) (Fr := [(is g19), (is g9), F7, (is g2)]) 1 rfl rfl
          refine xone (i := 7) (by kernel_rfl) hc401 ?_
          refine ys (i := 7) rfl rfl (wanted_none rfl _) (by kernel_rfl) (by kernel_rfl) (eS g14 0 (.int .i64 ((x1.s_.getD ((IntKind.i64.wrap (x1.at_ + 2)) : Int).toNat (0 : UInt8)).toNat : Int)) #[.int .i64 ((x1.s_.getD ((IntKind.i64.wrap (x1.at_ + 2)) : Int).toNat (0 : UInt8)).toNat : Int)] [.int .i64 ((x1.s_.getD ((IntKind.i64.wrap (x1.at_ + 2)) : Int).toNat (0 : UInt8)).toNat : Int)] S403 b25 (by exact e38)) ?_
          rintro hc408 w404 ⟨b405, S406, K407⟩
          replace b184 := K407.blk 0 rfl b184
          replace b10 := K407.blk 1 rfl b10
          replace h6 := h6.move (K407.at 2 rfl)
          replace b3 := K407.blk 3 rfl b3
          refine ⟨⟨S406.inv, (fun b_ h_ => (K407.at 1 rfl b_ h_).trans (hs402.2.1 b_ h_)), (fun b_ h_ => (K407.at 3 rfl b_ h_).trans (hs402.2.2 b_ h_))⟩, fun hs409 => ?_⟩
          clear b25
          refine xn (by kernel_rfl) ?_ _
          refine then_n (wp_region_lit (lV 137 (eL ⟨g19, 0, none⟩ (.int .i64 (IntKind.i64.wrap (x1.at_ + 2))) Try.underlying3 (blk_cell b184 rfl) (by exact e39)) (lV 138 (eAdd .i64 (IntKind.i64.wrap (x1.at_ + 2)) 1) ?_)))
          have S410 := S406.pull (F := (is g19)) (Fr := [(is g14), (is g9), F7, (is g2)]) 1 rfl rfl
          refine lE (eS g19 0 (.int .i64 (IntKind.i64.wrap ((IntKind.i64.wrap (x1.at_ + 2)) + 1))) #[.int .i64 (IntKind.i64.wrap ((IntKind.i64.wrap (x1.at_ + 2)) + 1))] [.int .i64 (IntKind.i64.wrap ((IntKind.i64.wrap (x1.at_ + 2)) + 1))] S410 b184 (by exact e39)) ?_
          rintro w411 ⟨b412, S413, K414⟩
          replace b405 := K414.blk 0 rfl b405
          replace b10 := K414.blk 1 rfl b10
          replace h6 := h6.move (K414.at 2 rfl)
          replace b3 := K414.blk 3 rfl b3
          clear b184
          refine wpList_nil (inb_n (then_n (wp_seq (wp_region_lit (lV 139 (eL ⟨g9, 0, none⟩ (.pointer (some ⟨g2, 0, none⟩)) Try.underlying40 (blk_cell b10 rfl) (by exact e36)) (lV 140 (eN ⟨g2, 0, none⟩) (lV 141 (eD g2 0 3 1 Try.underlying42) ?_)))))))
          refine lV 142 (eL ⟨g2, 0 + 3, none⟩ (.int .i64 x1.code_) Try.underlying3 (blk_cell b3 rfl)) (lV 143 (eNe .i64 x1.code_ 0) (wpList_nil (then_n ?_)))
          by_cases q415 : x1.code_ ≠ 0
          · replace M := ifp q415 M
            refine cT (bT q415) (wp_ret (inb_r (then_r ?_)))
            obtain rfl := Option.some.inj M
            have S416 := S413.pull (F := F7) (Fr := [(is g19), (is g14), (is g9), (is g2)]) 3 rfl rfl
            have S417 := S416.pull (F := (is g2)) (Fr := [F7, (is g19), (is g14), (is g9)]) 4 rfl rfl
            have S418 := St.first (Fa := [(is g2), F7]) (Fr := [(is g19), (is g14), (is g9)]) S417
            exact Go.Sy.ret0 rfl ⟨A4, c5, F7, H, rfl, h6, b3, S418⟩
          replace M := ifn q415 M
          refine cF (bF q415) (wp_skip (inb_n (then_n ?_)))
          have S419 := S413.pull (F := F7) (Fr := [(is g19), (is g14), (is g9), (is g2)]) 3 rfl rfl
          have S420 := S419.pull (F := (is g2)) (Fr := [F7, (is g19), (is g14), (is g9)]) 4 rfl rfl
          have S421 := S420.pull (F := (is g9)) (Fr := [(is g2), F7, (is g19), (is g14)]) 4 rfl rfl
          have S422 := S421.pull (F := (is g14)) (Fr := [(is g9), (is g2), F7, (is g19)]) 4 rfl rfl
          have S423 := S422.pull (F := (is g19)) (Fr := [(is g14), (is g9), (is g2), F7]) 4 rfl rfl
          exact ⟨_, H, x1.s_, x1.at_, x1.tokens_, A4, c5, F7, x1.code_, x1.place_, ((x1.s_.getD ((IntKind.i64.wrap (x1.at_ + 2)) : Int).toNat (0 : UInt8)).toNat : Int), (IntKind.i64.wrap ((IntKind.i64.wrap (x1.at_ + 2)) + 1)), rfl, (by exact e36), (by exact e37), (by exact e38), (by exact e39), b412, b405, b10, b3, h6, (Ext.refl _), S423, M⟩
        replace M := ifn q381 M
        refine cF (bvf q381 (by kernel_rfl)) (wp_region_lit (lV 64 (eL ⟨g9, 0, none⟩ (.pointer (some ⟨g2, 0, none⟩)) Try.underlying40 (blk_cell b10 rfl) (by exact e36)) (lV 65 (eM (.int .i64 x1.at_) (by exact e37)) ?_)))
        have S424 := S378.pull (F := (is g2)) (Fr := [(is g19), (is g14), (is g9), F7]) 4 rfl rfl
        have S425 := S424.pull (F := F7) (Fr := [(is g2), (is g19), (is g14), (is g9)]) 4 rfl rfl
        obtain ⟨t426, u427, M⟩ := bnd M
        refine lC 66 (eC [.tmp 64, .const (.int .i64 2), .tmp 65] [.pointer (some ⟨g2, 0, none⟩), .int .i64 2, .int .i64 x1.at_] Try.func37) (impl_lexer_fault.calls w377 H x1 g2 A4 c5 F7 2 x1.at_ h6 b3 (St.own' (Fa := [F7, (is g2)]) (Fr := [(is g19), (is g14), (is g9)]) S425) t426 u427) ?_
        rintro _ w428 ⟨A431, c432, F434, H429, rfl, h433, b435, T430⟩
        refine ⟨_, rfl, ?_⟩
        obtain ⟨S436, K437⟩ := St.call (Fa := [F7, (is g2)]) (Fr := [(is g19), (is g14), (is g9)]) S425 T430
        replace b184 := K437.blk 0 rfl b184
        replace b25 := K437.blk 1 rfl b25
        replace b10 := K437.blk 2 rfl b10
        have E438 := T430.ext
        refine wpList_nil (inb_n (then_n (wp_seq (wp_region_lit (lV 139 (eL ⟨g9, 0, none⟩ (.pointer (some ⟨g2, 0, none⟩)) Try.underlying40 (blk_cell b10 rfl) (by exact e36)) (lV 140 (eN ⟨g2, 0, none⟩) (lV 141 (eD g2 0 3 1 Try.underlying42) ?_)))))))
        refine lV 142 (eL ⟨g2, 0 + 3, none⟩ (.int .i64 t426.code_) Try.underlying3 (blk_cell b435 rfl)) (lV 143 (eNe .i64 t426.code_ 0) (wpList_nil (then_n ?_)))
        by_cases q439 : t426.code_ ≠ 0
        · replace M := ifp q439 M
          refine cT (bT q439) (wp_ret (inb_r (then_r ?_)))
          obtain rfl := Option.some.inj M
          have S440 := S436.pull (F := F434) (Fr := [(is g2), (is g19), (is g14), (is g9)]) 1 rfl rfl
          have S441 := S440.pull (F := (is g2)) (Fr := [F434, (is g19), (is g14), (is g9)]) 1 rfl rfl
          have S442 := St.first (Fa := [(is g2), F434]) (Fr := [(is g19), (is g14), (is g9)]) S441
          exact Go.Sy.ret0 rfl ⟨A431, c432, F434, H429, rfl, h433, b435, S442⟩
        replace M := ifn q439 M
        refine cF (bF q439) (wp_skip (inb_n (then_n ?_)))
        have S443 := S436.pull (F := F434) (Fr := [(is g2), (is g19), (is g14), (is g9)]) 1 rfl rfl
        have S444 := S443.pull (F := (is g2)) (Fr := [F434, (is g19), (is g14), (is g9)]) 1 rfl rfl
        have S445 := S444.pull (F := (is g9)) (Fr := [(is g2), F434, (is g19), (is g14)]) 4 rfl rfl
        have S446 := S445.pull (F := (is g14)) (Fr := [(is g9), (is g2), F434, (is g19)]) 4 rfl rfl
        have S447 := S446.pull (F := (is g19)) (Fr := [(is g14), (is g9), (is g2), F434]) 4 rfl rfl
        exact ⟨_, H429, t426.s_, t426.at_, t426.tokens_, A431, c432, F434, t426.code_, t426.place_, 0, (IntKind.i64.wrap (x1.at_ + 2)), rfl, (by exact e36), (by exact e37), (by exact e38), (by exact e39), b184, b25, b10, b435, h433, E438, S447, M⟩
      replace M := ifn q182 M
      refine cF (bF q182) (wp_seq (wp_region_lit (lV 145 (eM (.int .i64 x35) (by exact e41)) (lV 146 (eNe .i64 x35 10) (lV 144 (eA (.bool (decide (x35 ≠ 10)))) (wpList_nil (then_n ?_)))))))
      by_cases q448 : x35 ≠ 10
      · replace M := ifp q448 M
        refine cT (bT q448) (wp_seq (wp_region_lit (lV 147 (eM (.int .i64 x1.at_) (by exact e37)) (lV 148 (eAdd .i64 x1.at_ 2) ?_))))
        refine lE (eS g19 0 (.int .i64 (IntKind.i64.wrap (x1.at_ + 2))) #[.int .i64 (IntKind.i64.wrap (x1.at_ + 2))] [.int .i64 (IntKind.i64.wrap (x1.at_ + 2))] S180 b30 (by exact e39)) ?_
        rintro w449 ⟨b450, S451, K452⟩
        replace b25 := K452.blk 0 rfl b25
        replace b10 := K452.blk 1 rfl b10
        replace h6 := h6.move (K452.at 2 rfl)
        replace b3 := K452.blk 3 rfl b3
        clear b30
        refine wpList_nil (then_n (wp_region_lit (lV 149 (eM (.func (.func 48) #[] #[.pointer (some ⟨g19, 0, none⟩), .pointer (some ⟨g9, 0, none⟩), .pointer (some ⟨g14, 0, none⟩)]) (by exact e40)) (lV 150 (eM (.int .i64 x35) (by exact e41)) ?_))))
        have S453 := S451.pull (F := (is g14)) (Fr := [(is g19), (is g9), F7, (is g2)]) 1 rfl rfl
        have S454 := S453.pull (F := (is g9)) (Fr := [(is g14), (is g19), F7, (is g2)]) 2 rfl rfl
        have S455 := S454.pull (F := (is g2)) (Fr := [(is g9), (is g14), (is g19), F7]) 4 rfl rfl
        have S456 := S455.pull (F := F7) (Fr := [(is g2), (is g9), (is g14), (is g19)]) 4 rfl rfl
        have S457 := S456.pull (F := (is g19)) (Fr := [F7, (is g2), (is g9), (is g14)]) 4 rfl rfl
        obtain ⟨t458, u459, M⟩ := bnd M
        refine lC 151 (e_callv (l := [.tmp 150]) (vs := [.int .i64 x35]) (cs := [.pointer (some ⟨g19, 0, none⟩), .pointer (some ⟨g9, 0, none⟩), .pointer (some ⟨g14, 0, none⟩)]) Try.func48 (by kernel_rfl) rfl (by kernel_rfl) (by kernel_rfl)) (impl_lexer_number_c1.calls k w449 H x35 (IntKind.i64.wrap (x1.at_ + 2)) g19 x1 g2 A4 c5 F7 g9 0 g14 b450 h6 b3 b10 b25 (St.own' (Fa := [(is g19), F7, (is g2), (is g9), (is g14)]) (Fr := []) S457) t458 u459) ?_
        rintro _ w460 ⟨H461, rfl, b463, h464, b465, b466, b467, T462⟩
        refine ⟨_, rfl, ?_⟩
        obtain ⟨S468, K469⟩ := St.call (Fa := [(is g19), F7, (is g2), (is g9), (is g14)]) (Fr := []) S457 T462
        have E470 := T462.ext
        refine wpList_nil (inb_n (then_n ?_))
        have S471 := S468.pull (F := F7) (Fr := [(is g19), (is g2), (is g9), (is g14)]) 1 rfl rfl
        have S472 := S471.pull (F := (is g2)) (Fr := [F7, (is g19), (is g9), (is g14)]) 2 rfl rfl
        have S473 := S472.pull (F := (is g9)) (Fr := [(is g2), F7, (is g19), (is g14)]) 3 rfl rfl
        have S474 := S473.pull (F := (is g14)) (Fr := [(is g9), (is g2), F7, (is g19)]) 4 rfl rfl
        have S475 := S474.pull (F := (is g19)) (Fr := [(is g14), (is g9), (is g2), F7]) 4 rfl rfl
        exact ⟨_, H461, x1.s_, x1.at_, x1.tokens_, A4, c5, F7, x1.code_, x1.place_, t458.2, t458.1, rfl, (by exact e36), (by exact e37), (by exact e38), (by exact e39), b463, b467, b466, b465, h464, E470, S475, M⟩
      replace M := ifn q448 M
      refine cF (bF q448) (wp_region_lit (lV 47 (eM (.func (.func 48) #[] #[.pointer (some ⟨g19, 0, none⟩), .pointer (some ⟨g9, 0, none⟩), .pointer (some ⟨g14, 0, none⟩)]) (by exact e40)) ?_))
      have S476 := S180.pull (F := (is g14)) (Fr := [(is g19), (is g9), F7, (is g2)]) 1 rfl rfl
      have S477 := S476.pull (F := (is g9)) (Fr := [(is g14), (is g19), F7, (is g2)]) 2 rfl rfl
      have S478 := S477.pull (F := (is g2)) (Fr := [(is g9), (is g14), (is g19), F7]) 4 rfl rfl
      have S479 := S478.pull (F := F7) (Fr := [(is g2), (is g9), (is g14), (is g19)]) 4 rfl rfl
      have S480 := S479.pull (F := (is g19)) (Fr := [F7, (is g2), (is g9), (is g14)]) 4 rfl rfl
      obtain ⟨t481, u482, M⟩ := bnd M
      refine lC 48 (e_callv (l := [.const (.int .i64 10)]) (vs := [.int .i64 10]) (cs := [.pointer (some ⟨g19, 0, none⟩), .pointer (some ⟨g9, 0, none⟩), .pointer (some ⟨g14, 0, none⟩)]) Try.func48 (by kernel_rfl) rfl (by kernel_rfl) (by kernel_rfl)) (impl_lexer_number_c1.calls k w178 H 10 x1.at_ g19 x1 g2 A4 c5 F7 g9 0 g14 b30 h6 b3 b10 b25 (St.own' (Fa := [(is g19), F7, (is g2), (is g9), (is g14)]) (Fr := []) S480) t481 u482) ?_
      rintro _ w483 ⟨H484, rfl, b486, h487, b488, b489, b490, T485⟩
      refine ⟨_, rfl, ?_⟩
      obtain ⟨S491, K492⟩ := St.call (Fa := [(is g19), F7, (is g2), (is g9), (is g14)]) (Fr := []) S480 T485
      have E493 := T485.ext
      refine wpList_nil (inb_n (then_n ?_))
      have S494 := S491.pull (F := F7) (Fr := [(is g19), (is g2), (is g9), (is g14)]) 1 rfl rfl
      have S495 := S494.pull (F := (is g2)) (Fr := [F7, (is g19), (is g9), (is g14)]) 2 rfl rfl
      have S496 := S495.pull (F := (is g9)) (Fr := [(is g2), F7, (is g19), (is g14)]) 3 rfl rfl
      have S497 := S496.pull (F := (is g14)) (Fr := [(is g9), (is g2), F7, (is g19)]) 4 rfl rfl
      have S498 := S497.pull (F := (is g19)) (Fr := [(is g14), (is g9), (is g2), F7]) 4 rfl rfl
      exact ⟨_, H484, x1.s_, x1.at_, x1.tokens_, A4, c5, F7, x1.code_, x1.place_, t481.2, t481.1, rfl, (by exact e36), (by exact e37), (by exact e38), (by exact e39), b486, b490, b489, b488, h487, E493, S498, M⟩
    replace M := ifn q162 M
    refine lK 57 false (bF q162) ?_
    refine lK 57 false (bF q162) ?_
    refine lK 57 false (bF q162) ?_
    refine lV 61 (eF (.bool false) (bF q162)) (lV 49 (eA (.bool false)) (wpList_nil (then_n (cond_f rfl (by kernel_rfl) (wp_seq (wp_region_lit (lV 145 (eM (.int .i64 x35) (by exact e41)) ?_)))))))
    refine lV 146 (eNe .i64 x35 10) (lV 144 (eA (.bool (decide (x35 ≠ 10)))) (wpList_nil (then_n ?_)))
    by_cases q499 : x35 ≠ 10
    · replace M := ifp q499 M
      refine cT (bT q499) (wp_seq (wp_region_lit (lV 147 (eM (.int .i64 x1.at_) (by exact e37)) (lV 148 (eAdd .i64 x1.at_ 2) ?_))))
      refine lE (eS g19 0 (.int .i64 (IntKind.i64.wrap (x1.at_ + 2))) #[.int .i64 (IntKind.i64.wrap (x1.at_ + 2))] [.int .i64 (IntKind.i64.wrap (x1.at_ + 2))] S42 b30 (by exact e39)) ?_
      rintro w500 ⟨b501, S502, K503⟩
      replace b25 := K503.blk 0 rfl b25
      replace b10 := K503.blk 1 rfl b10
      replace h6 := h6.move (K503.at 2 rfl)
      replace b3 := K503.blk 3 rfl b3
      clear b30
      refine wpList_nil (then_n (wp_region_lit (lV 149 (eM (.func (.func 48) #[] #[.pointer (some ⟨g19, 0, none⟩), .pointer (some ⟨g9, 0, none⟩), .pointer (some ⟨g14, 0, none⟩)]) (by exact e40)) (lV 150 (eM (.int .i64 x35) (by exact e41)) ?_))))
      have S504 := S502.pull (F := (is g14)) (Fr := [(is g19), (is g9), F7, (is g2)]) 1 rfl rfl
      have S505 := S504.pull (F := (is g9)) (Fr := [(is g14), (is g19), F7, (is g2)]) 2 rfl rfl
      have S506 := S505.pull (F := (is g2)) (Fr := [(is g9), (is g14), (is g19), F7]) 4 rfl rfl
      have S507 := S506.pull (F := F7) (Fr := [(is g2), (is g9), (is g14), (is g19)]) 4 rfl rfl
      have S508 := S507.pull (F := (is g19)) (Fr := [F7, (is g2), (is g9), (is g14)]) 4 rfl rfl
      obtain ⟨t509, u510, M⟩ := bnd M
      refine lC 151 (e_callv (l := [.tmp 150]) (vs := [.int .i64 x35]) (cs := [.pointer (some ⟨g19, 0, none⟩), .pointer (some ⟨g9, 0, none⟩), .pointer (some ⟨g14, 0, none⟩)]) Try.func48 (by kernel_rfl) rfl (by kernel_rfl) (by kernel_rfl)) (impl_lexer_number_c1.calls k w500 H x35 (IntKind.i64.wrap (x1.at_ + 2)) g19 x1 g2 A4 c5 F7 g9 0 g14 b501 h6 b3 b10 b25 (St.own' (Fa := [(is g19), F7, (is g2), (is g9), (is g14)]) (Fr := []) S508) t509 u510) ?_
      rintro _ w511 ⟨H512, rfl, b514, h515, b516, b517, b518, T513⟩
      refine ⟨_, rfl, ?_⟩
      obtain ⟨S519, K520⟩ := St.call (Fa := [(is g19), F7, (is g2), (is g9), (is g14)]) (Fr := []) S508 T513
      have E521 := T513.ext
      refine wpList_nil (inb_n (then_n ?_))
      have S522 := S519.pull (F := F7) (Fr := [(is g19), (is g2), (is g9), (is g14)]) 1 rfl rfl
      have S523 := S522.pull (F := (is g2)) (Fr := [F7, (is g19), (is g9), (is g14)]) 2 rfl rfl
      have S524 := S523.pull (F := (is g9)) (Fr := [(is g2), F7, (is g19), (is g14)]) 3 rfl rfl
      have S525 := S524.pull (F := (is g14)) (Fr := [(is g9), (is g2), F7, (is g19)]) 4 rfl rfl
      have S526 := S525.pull (F := (is g19)) (Fr := [(is g14), (is g9), (is g2), F7]) 4 rfl rfl
      exact ⟨_, H512, x1.s_, x1.at_, x1.tokens_, A4, c5, F7, x1.code_, x1.place_, t509.2, t509.1, rfl, (by exact e36), (by exact e37), (by exact e38), (by exact e39), b514, b518, b517, b516, h515, E521, S526, M⟩
    replace M := ifn q499 M
    refine cF (bF q499) (wp_region_lit (lV 47 (eM (.func (.func 48) #[] #[.pointer (some ⟨g19, 0, none⟩), .pointer (some ⟨g9, 0, none⟩), .pointer (some ⟨g14, 0, none⟩)]) (by exact e40)) ?_))
    have S527 := S42.pull (F := (is g14)) (Fr := [(is g19), (is g9), F7, (is g2)]) 1 rfl rfl
    have S528 := S527.pull (F := (is g9)) (Fr := [(is g14), (is g19), F7, (is g2)]) 2 rfl rfl
    have S529 := S528.pull (F := (is g2)) (Fr := [(is g9), (is g14), (is g19), F7]) 4 rfl rfl
    have S530 := S529.pull (F := F7) (Fr := [(is g2), (is g9), (is g14), (is g19)]) 4 rfl rfl
    have S531 := S530.pull (F := (is g19)) (Fr := [F7, (is g2), (is g9), (is g14)]) 4 rfl rfl
    obtain ⟨t532, u533, M⟩ := bnd M
    refine lC 48 (e_callv (l := [.const (.int .i64 10)]) (vs := [.int .i64 10]) (cs := [.pointer (some ⟨g19, 0, none⟩), .pointer (some ⟨g9, 0, none⟩), .pointer (some ⟨g14, 0, none⟩)]) Try.func48 (by kernel_rfl) rfl (by kernel_rfl) (by kernel_rfl)) (impl_lexer_number_c1.calls k w33 H 10 x1.at_ g19 x1 g2 A4 c5 F7 g9 0 g14 b30 h6 b3 b10 b25 (St.own' (Fa := [(is g19), F7, (is g2), (is g9), (is g14)]) (Fr := []) S531) t532 u533) ?_
    rintro _ w534 ⟨H535, rfl, b537, h538, b539, b540, b541, T536⟩
    refine ⟨_, rfl, ?_⟩
    obtain ⟨S542, K543⟩ := St.call (Fa := [(is g19), F7, (is g2), (is g9), (is g14)]) (Fr := []) S531 T536
    have E544 := T536.ext
    refine wpList_nil (inb_n (then_n ?_))
    have S545 := S542.pull (F := F7) (Fr := [(is g19), (is g2), (is g9), (is g14)]) 1 rfl rfl
    have S546 := S545.pull (F := (is g2)) (Fr := [F7, (is g19), (is g9), (is g14)]) 2 rfl rfl
    have S547 := S546.pull (F := (is g9)) (Fr := [(is g2), F7, (is g19), (is g14)]) 3 rfl rfl
    have S548 := S547.pull (F := (is g14)) (Fr := [(is g9), (is g2), F7, (is g19)]) 4 rfl rfl
    have S549 := S548.pull (F := (is g19)) (Fr := [(is g14), (is g9), (is g2), F7]) 4 rfl rfl
    exact ⟨_, H535, x1.s_, x1.at_, x1.tokens_, A4, c5, F7, x1.code_, x1.place_, t532.2, t532.1, rfl, (by exact e36), (by exact e37), (by exact e38), (by exact e39), b537, b541, b540, b539, h538, E544, S549, M⟩
  clear M
  rintro a159 w137 ⟨f138, H139, x141, x142, x143, A144, c145, F146, x148, x149, x150, x151, rfl, e152, e153, e154, e155, b30, b25, b10, b3, h147, Y140, S156, M⟩
  rw [impl_lexer_number.l1] at M
  refine wp_seq (wp_seq ?_)
  refine region_quiet (by kernel_rfl) (by kernel_rfl) ?_
  refine qV 152 (fun wq_ hq_ => eL ⟨g19, 0, none⟩ (.int .i64 x151) Try.underlying3 (blk_cell ((S156.still hq_).2.blk 0 rfl b30) rfl) (by exact e155)) ?_
  refine qV 153 (fun wq_ hq_ => eL ⟨g9, 0, none⟩ (.pointer (some ⟨g2, 0, none⟩)) Try.underlying40 (blk_cell ((S156.still hq_).2.blk 2 rfl b10) rfl) (by exact e152)) ?_
  refine qV 154 (fun wq_ hq_ => eN ⟨g2, 0, none⟩) ?_
  refine qV 155 (fun wq_ hq_ => eD g2 0 0 1 Try.underlying42) ?_
  refine qV 156 (fun wq_ hq_ => eL ⟨g2, 0 + 0, none⟩ (str x141) Try.underlying9 (blk_cell ((S156.still hq_).2.blk 3 rfl b3) rfl)) ?_
  refine qV 157 (fun wq_ hq_ => e_slen (p := x141) Try.underlying9 (by kernel_rfl)) ?_
  refine qV 158 (fun wq_ hq_ => eLt .i64 x151 (x141.length : Int)) ?_
  refine qV 159 (fun wq_ hq_ => eM (.bool (decide (x151 < (x141.length : Int))))) ?_
  by_cases q550 : x151 < (x141.length : Int)
  · replace M := ifp q550 M
    refine qG 160 159 (bT q550) (fun wq_ hq_ => eL ⟨g9, 0, none⟩ (.pointer (some ⟨g2, 0, none⟩)) Try.underlying40 (blk_cell ((S156.still hq_).2.blk 2 rfl b10) rfl) (by exact e152)) ?_
    refine qG 161 159 (bT q550) (fun wq_ hq_ => eN ⟨g2, 0, none⟩) ?_
    refine qG 162 159 (bT q550) (fun wq_ hq_ => eD g2 0 0 1 Try.underlying42) ?_
    refine qG 163 159 (bT q550) (fun wq_ hq_ => eL ⟨g2, 0 + 0, none⟩ (str x141) Try.underlying9 (blk_cell ((S156.still hq_).2.blk 3 rfl b3) rfl)) ?_
    refine qG 164 159 (bT q550) (fun wq_ hq_ => eL ⟨g19, 0, none⟩ (.int .i64 x151) Try.underlying3 (blk_cell ((S156.still hq_).2.blk 0 rfl b30) rfl) (by exact e155)) ?_
    obtain ⟨q551, M⟩ := chk M
    refine qG 165 159 (bT q550) (fun wq_ hq_ => e_sindex (p := x141) (i := x151) (k := .i64) Try.underlying9 (by kernel_rfl) (by kernel_rfl) q551 q550) ?_
    obtain ⟨t552, u553, M⟩ := bnd M
    refine qcallg (v := .bool t552) (d := 166) (t := 159) rfl (by kernel_rfl) rfl (bT q550) rfl (by kernel_rfl) (fun w_ => eC [.tmp 165] [.int .u8 ((x141.getD (x151 : Int).toNat (0 : UInt8)).toNat : Int)] Try.func28) (fun wq_ hq_ => (by obtain ⟨S_, K_⟩ := S156.still hq_; replace b30 := K_.blk 0 rfl b30; replace b25 := K_.blk 1 rfl b25; replace b10 := K_.blk 2 rfl b10; replace b3 := K_.blk 3 rfl b3; replace h147 := h147.move (K_.at 4 rfl); exact (impl_isAlnum.calls wq_ H139 (x141.getD (x151 : Int).toNat (0 : UInt8))  S_.own0 t552 u553))) ?_
    refine qV 167 (fun wq_ hq_ => eT (.bool t552) (bT q550)) ?_
    refine wpQuiet_nil ?_
    intro w554 C557
    obtain ⟨S555, K556⟩ := S156.still C557
    replace b30 := K556.blk 0 rfl b30
    replace b25 := K556.blk 1 rfl b25
    replace b10 := K556.blk 2 rfl b10
    replace b3 := K556.blk 3 rfl b3
    replace h147 := h147.move (K556.at 4 rfl)
    refine then_n ?_
    by_cases q558 : t552 = true
    · replace M := ifp q558 M
      refine cT (bvt q558 (by kernel_rfl)) (wp_seq (wp_region_lit (lV 168 (eL ⟨g9, 0, none⟩ (.pointer (some ⟨g2, 0, none⟩)) Try.underlying40 (blk_cell b10 rfl) (by exact e152)) (lV 169 (eM (.int .i64 x1.at_) (by exact e153)) ?_))))
      have S559 := S555.pull (F := (is g2)) (Fr := [(is g19), (is g14), (is g9), F146]) 3 rfl rfl
      have S560 := S559.pull (F := F146) (Fr := [(is g2), (is g19), (is g14), (is g9)]) 4 rfl rfl
      obtain ⟨t561, u562, M⟩ := bnd M
      refine lC 170 (eC [.tmp 168, .const (.int .i64 2), .tmp 169] [.pointer (some ⟨g2, 0, none⟩), .int .i64 2, .int .i64 x1.at_] Try.func37) (impl_lexer_fault.calls w554 H139 (⟨x141, x142, x143, x148, x149⟩ : GLexer) g2 A144 c145 F146 2 x1.at_ h147 b3 (St.own' (Fa := [F146, (is g2)]) (Fr := [(is g19), (is g14), (is g9)]) S560) t561 u562) ?_
      rintro _ w563 ⟨A566, c567, F569, H564, rfl, h568, b570, T565⟩
      refine ⟨_, rfl, ?_⟩
      obtain ⟨S571, K572⟩ := St.call (Fa := [F146, (is g2)]) (Fr := [(is g19), (is g14), (is g9)]) S560 T565
      have E573 := T565.ext
      refine wpList_nil (then_n (wp_ret (then_r ?_)))
      obtain rfl := Option.some.inj M
      have S574 := S571.pull (F := F569) (Fr := [(is g2), (is g19), (is g14), (is g9)]) 1 rfl rfl
      have S575 := S574.pull (F := (is g2)) (Fr := [F569, (is g19), (is g14), (is g9)]) 1 rfl rfl
      have S576 := St.first (Fa := [(is g2), F569]) (Fr := [(is g19), (is g14), (is g9)]) S575
      exact Go.Sy.ret0 rfl ⟨A566, c567, F569, H564, rfl, h568, b570, S576⟩
    replace M := ifn q558 M
    refine cF (bvf q558 (by kernel_rfl)) (wp_skip (then_n (wp_seq (wp_seq (wp_region_lit (lV 171 (eL ⟨g14, 0, none⟩ (.int .i64 x150) Try.underlying3 (blk_cell b25 rfl) (by exact e154)) (lV 172 (e_gtr (k := .i64) (a := x150) (b := 1000000000000000) (by kernel_rfl) rfl) ?_)))))))
    refine wpList_nil (then_n ?_)
    by_cases q577 : x150 > 1000000000000000
    · replace M := ifp q577 M
      refine cT (bT q577) (wp_seq (wp_region_lit (lV 173 (eL ⟨g9, 0, none⟩ (.pointer (some ⟨g2, 0, none⟩)) Try.underlying40 (blk_cell b10 rfl) (by exact e152)) (lV 174 (eM (.int .i64 x1.at_) (by exact e153)) ?_))))
      have S578 := S555.pull (F := (is g2)) (Fr := [(is g19), (is g14), (is g9), F146]) 3 rfl rfl
      have S579 := S578.pull (F := F146) (Fr := [(is g2), (is g19), (is g14), (is g9)]) 4 rfl rfl
      obtain ⟨t580, u581, M⟩ := bnd M
      refine lC 175 (eC [.tmp 173, .const (.int .i64 3), .tmp 174] [.pointer (some ⟨g2, 0, none⟩), .int .i64 3, .int .i64 x1.at_] Try.func37) (impl_lexer_fault.calls w554 H139 (⟨x141, x142, x143, x148, x149⟩ : GLexer) g2 A144 c145 F146 3 x1.at_ h147 b3 (St.own' (Fa := [F146, (is g2)]) (Fr := [(is g19), (is g14), (is g9)]) S579) t580 u581) ?_
      rintro _ w582 ⟨A585, c586, F588, H583, rfl, h587, b589, T584⟩
      refine ⟨_, rfl, ?_⟩
      obtain ⟨S590, K591⟩ := St.call (Fa := [F146, (is g2)]) (Fr := [(is g19), (is g14), (is g9)]) S579 T584
      have E592 := T584.ext
      refine wpList_nil (then_n (wp_ret (then_r ?_)))
      obtain rfl := Option.some.inj M
      have S593 := S590.pull (F := F588) (Fr := [(is g2), (is g19), (is g14), (is g9)]) 1 rfl rfl
      have S594 := S593.pull (F := (is g2)) (Fr := [F588, (is g19), (is g14), (is g9)]) 1 rfl rfl
      have S595 := St.first (Fa := [(is g2), F588]) (Fr := [(is g19), (is g14), (is g9)]) S594
      exact Go.Sy.ret0 rfl ⟨A585, c586, F588, H583, rfl, h587, b589, S595⟩
    replace M := ifn q577 M
    refine cF (bF q577) (wp_skip (then_n (wp_region_lit (lV 176 (eL ⟨g9, 0, none⟩ (.pointer (some ⟨g2, 0, none⟩)) Try.underlying40 (blk_cell b10 rfl) (by exact e152)) (lV 177 (eL ⟨g19, 0, none⟩ (.int .i64 x151) Try.underlying3 (blk_cell b30 rfl) (by exact e155)) (lV 178 (eL ⟨g14, 0, none⟩ (.int .i64 x150) Try.underlying3 (blk_cell b25 rfl) (by exact e154)) ?_))))))
    have S596 := S555.pull (F := (is g2)) (Fr := [(is g19), (is g14), (is g9), F146]) 3 rfl rfl
    have S597 := S596.pull (F := F146) (Fr := [(is g2), (is g19), (is g14), (is g9)]) 4 rfl rfl
    obtain ⟨t598, u599, M⟩ := bnd M
    refine lC 179 (eC [.tmp 176, .const (.int .i64 3), .tmp 177, .const (str ([] : List UInt8)), .tmp 178] [.pointer (some ⟨g2, 0, none⟩), .int .i64 3, .int .i64 x151, str ([] : List UInt8), .int .i64 x150] Try.func42) (impl_lexer_put.calls w554 H139 (⟨x141, x142, x143, x148, x149⟩ : GLexer) g2 A144 c145 F146 3 x151 ([] : List UInt8) x150 h147 b3 (St.own' (Fa := [F146, (is g2)]) (Fr := [(is g19), (is g14), (is g9)]) S597) t598 u599) ?_
    rintro _ w600 ⟨A603, c604, F606, H601, rfl, h605, b607, T602⟩
    refine ⟨_, rfl, ?_⟩
    obtain ⟨S608, K609⟩ := St.call (Fa := [F146, (is g2)]) (Fr := [(is g19), (is g14), (is g9)]) S597 T602
    have E610 := T602.ext
    refine wpList_nil ?_
    obtain rfl := Option.some.inj M
    have S611 := S608.pull (F := F606) (Fr := [(is g2), (is g19), (is g14), (is g9)]) 1 rfl rfl
    have S612 := S611.pull (F := (is g2)) (Fr := [F606, (is g19), (is g14), (is g9)]) 1 rfl rfl
    have S613 := St.first (Fa := [(is g2), F606]) (Fr := [(is g19), (is g14), (is g9)]) S612
    exact end0 rfl ⟨A603, c604, F606, H601, rfl, h605, b607, S613⟩
  replace M := ifn q550 M
  refine qK 159 false (bF q550) ?_
  refine qK 159 false (bF q550) ?_
  refine qK 159 false (bF q550) ?_
  refine qK 159 false (bF q550) ?_
  refine qK 159 false (bF q550) ?_
  refine qK 159 false (bF q550) ?_
  refine qK 159 false (bF q550) ?_
  refine qV 167 (fun wq_ hq_ => eF (.bool false) (bF q550)) ?_
  refine wpQuiet_nil ?_
  intro w614 C617
  obtain ⟨S615, K616⟩ := S156.still C617
  replace b30 := K616.blk 0 rfl b30
  replace b25 := K616.blk 1 rfl b25
  replace b10 := K616.blk 2 rfl b10
  replace b3 := K616.blk 3 rfl b3
  replace h147 := h147.move (K616.at 4 rfl)
  refine then_n (cond_f rfl (by kernel_rfl) (wp_skip (then_n (wp_seq (wp_seq (wp_region_lit (lV 171 (eL ⟨g14, 0, none⟩ (.int .i64 x150) Try.underlying3 (blk_cell b25 rfl) (by exact e154)) ?_)))))))
  refine lV 172 (e_gtr (k := .i64) (a := x150) (b := 1000000000000000) (by kernel_rfl) rfl) (wpList_nil (then_n ?_))
  by_cases q618 : x150 > 1000000000000000
  · replace M := ifp q618 M
    refine cT (bT q618) (wp_seq (wp_region_lit (lV 173 (eL ⟨g9, 0, none⟩ (.pointer (some ⟨g2, 0, none⟩)) Try.underlying40 (blk_cell b10 rfl) (by exact e152)) (lV 174 (eM (.int .i64 x1.at_) (by exact e153)) ?_))))
    have S619 := S615.pull (F := (is g2)) (Fr := [(is g19), (is g14), (is g9), F146]) 3 rfl rfl
    have S620 := S619.pull (F := F146) (Fr := [(is g2), (is g19), (is g14), (is g9)]) 4 rfl rfl
    obtain ⟨t621, u622, M⟩ := bnd M
    refine lC 175 (eC [.tmp 173, .const (.int .i64 3), .tmp 174] [.pointer (some ⟨g2, 0, none⟩), .int .i64 3, .int .i64 x1.at_] Try.func37) (impl_lexer_fault.calls w614 H139 (⟨x141, x142, x143, x148, x149⟩ : GLexer) g2 A144 c145 F146 3 x1.at_ h147 b3 (St.own' (Fa := [F146, (is g2)]) (Fr := [(is g19), (is g14), (is g9)]) S620) t621 u622) ?_
    rintro _ w623 ⟨A626, c627, F629, H624, rfl, h628, b630, T625⟩
    refine ⟨_, rfl, ?_⟩
    obtain ⟨S631, K632⟩ := St.call (Fa := [F146, (is g2)]) (Fr := [(is g19), (is g14), (is g9)]) S620 T625
    have E633 := T625.ext
    refine wpList_nil (then_n (wp_ret (then_r ?_)))
    obtain rfl := Option.some.inj M
    have S634 := S631.pull (F := F629) (Fr := [(is g2), (is g19), (is g14), (is g9)]) 1 rfl rfl
    have S635 := S634.pull (F := (is g2)) (Fr := [F629, (is g19), (is g14), (is g9)]) 1 rfl rfl
    have S636 := St.first (Fa := [(is g2), F629]) (Fr := [(is g19), (is g14), (is g9)]) S635
    exact Go.Sy.ret0 rfl ⟨A626, c627, F629, H624, rfl, h628, b630, S636⟩
  replace M := ifn q618 M
  refine cF (bF q618) (wp_skip (then_n (wp_region_lit (lV 176 (eL ⟨g9, 0, none⟩ (.pointer (some ⟨g2, 0, none⟩)) Try.underlying40 (blk_cell b10 rfl) (by exact e152)) (lV 177 (eL ⟨g19, 0, none⟩ (.int .i64 x151) Try.underlying3 (blk_cell b30 rfl) (by exact e155)) (lV 178 (eL ⟨g14, 0, none⟩ (.int .i64 x150) Try.underlying3 (blk_cell b25 rfl) (by exact e154)) ?_))))))
  have S637 := S615.pull (F := (is g2)) (Fr := [(is g19), (is g14), (is g9), F146]) 3 rfl rfl
  have S638 := S637.pull (F := F146) (Fr := [(is g2), (is g19), (is g14), (is g9)]) 4 rfl rfl
  obtain ⟨t639, u640, M⟩ := bnd M
  refine lC 179 (eC [.tmp 176, .const (.int .i64 3), .tmp 177, .const (str ([] : List UInt8)), .tmp 178] [.pointer (some ⟨g2, 0, none⟩), .int .i64 3, .int .i64 x151, str ([] : List UInt8), .int .i64 x150] Try.func42) (impl_lexer_put.calls w614 H139 (⟨x141, x142, x143, x148, x149⟩ : GLexer) g2 A144 c145 F146 3 x151 ([] : List UInt8) x150 h147 b3 (St.own' (Fa := [F146, (is g2)]) (Fr := [(is g19), (is g14), (is g9)]) S638) t639 u640) ?_
  rintro _ w641 ⟨A644, c645, F647, H642, rfl, h646, b648, T643⟩
  refine ⟨_, rfl, ?_⟩
  obtain ⟨S649, K650⟩ := St.call (Fa := [F146, (is g2)]) (Fr := [(is g19), (is g14), (is g9)]) S638 T643
  have E651 := T643.ext
  refine wpList_nil ?_
  obtain rfl := Option.some.inj M
  have S652 := S649.pull (F := F647) (Fr := [(is g2), (is g19), (is g14), (is g9)]) 1 rfl rfl
  have S653 := S652.pull (F := (is g2)) (Fr := [F647, (is g19), (is g14), (is g9)]) 1 rfl rfl
  have S654 := St.first (Fa := [(is g2), F647]) (Fr := [(is g19), (is g14), (is g9)]) S653
  exact end0 rfl ⟨A644, c645, F647, H642, rfl, h646, b648, S654⟩

/-! impl_isSymbol -/
def impl_isSymbol.f (x1 : UInt8) : Option Bool := (if (x1.toNat : Int) = 43 then some true else (if (x1.toNat : Int) = 45 then some true else (if (x1.toNat : Int) = 42 then some true else (if (x1.toNat : Int) = 47 then some true else (if (x1.toNat : Int) = 92 then some true else (if (x1.toNat : Int) = 94 then some true else (if (x1.toNat : Int) = 60 then some true else (if (x1.toNat : Int) = 62 then some true else (if (x1.toNat : Int) = 61 then some true else (if (x1.toNat : Int) = 126 then some true else (if (x1.toNat : Int) = 58 then some true else (if (x1.toNat : Int) = 46 then some true else (if (x1.toNat : Int) = 63 then some true else (if (x1.toNat : Int) = 64 then some true else (if (x1.toNat : Int) = 35 then some true else (if (x1.toNat : Int) = 38 then some true else (if (x1.toNat : Int) = 36 then some true else some false)))))))))))))))))
theorem impl_isSymbol.calls (w : World) (H : Hp) (x1 : UInt8) (S : Own [] H w) (r : Bool) (M : impl_isSymbol.f x1 = some r) :
    Calls Try.prog 29 #[.int .u8 (x1.toNat : Int)] w (fun e e_w => e = .returned (.bool r) ∧ Chg no w e_w) := by
  rw [impl_isSymbol.f] at M
  refine enter (l := [.int .u8 (x1.toNat : Int)]) 22 Try.func29 rfl rfl rfl ?_
  have S0_ := S.st
  refine wp_seq (wp_region_lit (lV 2 (eA (.bool false)) (wpList_nil (then_n (wp_seq (wp_seq (wp_region_lit ?_)))))))
  refine lV 3 (eM (.int .u8 (x1.toNat : Int))) (wpList_nil (then_n (wp_block (wp_seq (wp_seq (wp_region_lit (lV 5 (eEq .u8 (x1.toNat : Int) 43) ?_)))))))
  refine lV 4 (eA (.bool (decide ((x1.toNat : Int) = 43)))) (wpList_nil (then_n ?_))
  by_cases q2 : (x1.toNat : Int) = 43
  · replace M := ifp q2 M
    refine cT (bT q2) (wp_skip (then_n (cT (bT q2) (wp_seq (wp_region_lit (lV 2 (eA (.bool true)) (wpList_nil ?_)))))))
    refine then_n (wp_ret (inb_r (then_r ?_)))
    obtain rfl := Option.some.inj M
    exact ret1 rfl rfl  (show _ = .bool true from (by kernel_rfl)) ⟨rfl, S0_.chg⟩
  replace M := ifn q2 M
  refine cF (bF q2) (wp_seq (wp_region_lit (lV 6 (eEq .u8 (x1.toNat : Int) 45) (lV 4 (eA (.bool (decide ((x1.toNat : Int) = 45)))) (wpList_nil (then_n ?_))))))
  by_cases q3 : (x1.toNat : Int) = 45
  · replace M := ifp q3 M
    refine cT (bT q3) (wp_skip (then_n (cT (bT q3) (wp_seq (wp_region_lit (lV 2 (eA (.bool true)) (wpList_nil ?_)))))))
    refine then_n (wp_ret (inb_r (then_r ?_)))
    obtain rfl := Option.some.inj M
    exact ret1 rfl rfl  (show _ = .bool true from (by kernel_rfl)) ⟨rfl, S0_.chg⟩
  replace M := ifn q3 M
  refine cF (bF q3) (wp_seq (wp_region_lit (lV 7 (eEq .u8 (x1.toNat : Int) 42) (lV 4 (eA (.bool (decide ((x1.toNat : Int) = 42)))) (wpList_nil (then_n ?_))))))
  by_cases q4 : (x1.toNat : Int) = 42
  · replace M := ifp q4 M
    refine cT (bT q4) (wp_skip (then_n (cT (bT q4) (wp_seq (wp_region_lit (lV 2 (eA (.bool true)) (wpList_nil ?_)))))))
    refine then_n (wp_ret (inb_r (then_r ?_)))
    obtain rfl := Option.some.inj M
    exact ret1 rfl rfl  (show _ = .bool true from (by kernel_rfl)) ⟨rfl, S0_.chg⟩
  replace M := ifn q4 M
  refine cF (bF q4) (wp_seq (wp_region_lit (lV 8 (eEq .u8 (x1.toNat : Int) 47) (lV 4 (eA (.bool (decide ((x1.toNat : Int) = 47)))) (wpList_nil (then_n ?_))))))
  by_cases q5 : (x1.toNat : Int) = 47
  · replace M := ifp q5 M
    refine cT (bT q5) (wp_skip (then_n (cT (bT q5) (wp_seq (wp_region_lit (lV 2 (eA (.bool true)) (wpList_nil ?_)))))))
    refine then_n (wp_ret (inb_r (then_r ?_)))
    obtain rfl := Option.some.inj M
    exact ret1 rfl rfl  (show _ = .bool true from (by kernel_rfl)) ⟨rfl, S0_.chg⟩
  replace M := ifn q5 M
  refine cF (bF q5) (wp_seq (wp_region_lit (lV 9 (eEq .u8 (x1.toNat : Int) 92) (lV 4 (eA (.bool (decide ((x1.toNat : Int) = 92)))) (wpList_nil (then_n ?_))))))
  by_cases q6 : (x1.toNat : Int) = 92
  · replace M := ifp q6 M
    refine cT (bT q6) (wp_skip (then_n (cT (bT q6) (wp_seq (wp_region_lit (lV 2 (eA (.bool true)) (wpList_nil ?_)))))))
    refine then_n (wp_ret (inb_r (then_r ?_)))
    obtain rfl := Option.some.inj M
    exact ret1 rfl rfl  (show _ = .bool true from (by kernel_rfl)) ⟨rfl, S0_.chg⟩
  replace M := ifn q6 M
  refine cF (bF q6) (wp_seq (wp_region_lit (lV 10 (eEq .u8 (x1.toNat : Int) 94) (lV 4 (eA (.bool (decide ((x1.toNat : Int) = 94)))) (wpList_nil (then_n ?_))))))
  by_cases q7 : (x1.toNat : Int) = 94
  · replace M := ifp q7 M
    refine cT (bT q7) (wp_skip (then_n (cT (bT q7) (wp_seq (wp_region_lit (lV 2 (eA (.bool true)) (wpList_nil ?_)))))))
    refine then_n (wp_ret (inb_r (then_r ?_)))
    obtain rfl := Option.some.inj M
    exact ret1 rfl rfl  (show _ = .bool true from (by kernel_rfl)) ⟨rfl, S0_.chg⟩
  replace M := ifn q7 M
  refine cF (bF q7) (wp_seq (wp_region_lit (lV 11 (eEq .u8 (x1.toNat : Int) 60) (lV 4 (eA (.bool (decide ((x1.toNat : Int) = 60)))) (wpList_nil (then_n ?_))))))
  by_cases q8 : (x1.toNat : Int) = 60
  · replace M := ifp q8 M
    refine cT (bT q8) (wp_skip (then_n (cT (bT q8) (wp_seq (wp_region_lit (lV 2 (eA (.bool true)) (wpList_nil ?_)))))))
    refine then_n (wp_ret (inb_r (then_r ?_)))
    obtain rfl := Option.some.inj M
    exact ret1 rfl rfl  (show _ = .bool true from (by kernel_rfl)) ⟨rfl, S0_.chg⟩
  replace M := ifn q8 M
  refine cF (bF q8) (wp_seq (wp_region_lit (lV 12 (eEq .u8 (x1.toNat : Int) 62) (lV 4 (eA (.bool (decide ((x1.toNat : Int) = 62)))) (wpList_nil (then_n ?_))))))
  by_cases q9 : (x1.toNat : Int) = 62
  · replace M := ifp q9 M
    refine cT (bT q9) (wp_skip (then_n (cT (bT q9) (wp_seq (wp_region_lit (lV 2 (eA (.bool true)) (wpList_nil ?_)))))))
    refine then_n (wp_ret (inb_r (then_r ?_)))
    obtain rfl := Option.some.inj M
    exact ret1 rfl rfl  (show _ = .bool true from (by kernel_rfl)) ⟨rfl, S0_.chg⟩
  replace M := ifn q9 M
  refine cF (bF q9) (wp_seq (wp_region_lit (lV 13 (eEq .u8 (x1.toNat : Int) 61) (lV 4 (eA (.bool (decide ((x1.toNat : Int) = 61)))) (wpList_nil (then_n ?_))))))
  by_cases q10 : (x1.toNat : Int) = 61
  · replace M := ifp q10 M
    refine cT (bT q10) (wp_skip (then_n (cT (bT q10) (wp_seq (wp_region_lit (lV 2 (eA (.bool true)) (wpList_nil ?_)))))))
    refine then_n (wp_ret (inb_r (then_r ?_)))
    obtain rfl := Option.some.inj M
    exact ret1 rfl rfl  (show _ = .bool true from (by kernel_rfl)) ⟨rfl, S0_.chg⟩
  replace M := ifn q10 M
  refine cF (bF q10) (wp_seq (wp_region_lit (lV 14 (eEq .u8 (x1.toNat : Int) 126) (lV 4 (eA (.bool (decide ((x1.toNat : Int) = 126)))) (wpList_nil (then_n ?_))))))
  by_cases q11 : (x1.toNat : Int) = 126
  · replace M := ifp q11 M
    refine cT (bT q11) (wp_skip (then_n (cT (bT q11) (wp_seq (wp_region_lit (lV 2 (eA (.bool true)) (wpList_nil ?_)))))))
    refine then_n (wp_ret (inb_r (then_r ?_)))
    obtain rfl := Option.some.inj M
    exact ret1 rfl rfl  (show _ = .bool true from (by kernel_rfl)) ⟨rfl, S0_.chg⟩
  replace M := ifn q11 M
  refine cF (bF q11) (wp_seq (wp_region_lit (lV 15 (eEq .u8 (x1.toNat : Int) 58) (lV 4 (eA (.bool (decide ((x1.toNat : Int) = 58)))) (wpList_nil (then_n ?_))))))
  by_cases q12 : (x1.toNat : Int) = 58
  · replace M := ifp q12 M
    refine cT (bT q12) (wp_skip (then_n (cT (bT q12) (wp_seq (wp_region_lit (lV 2 (eA (.bool true)) (wpList_nil ?_)))))))
    refine then_n (wp_ret (inb_r (then_r ?_)))
    obtain rfl := Option.some.inj M
    exact ret1 rfl rfl  (show _ = .bool true from (by kernel_rfl)) ⟨rfl, S0_.chg⟩
  replace M := ifn q12 M
  refine cF (bF q12) (wp_seq (wp_region_lit (lV 16 (eEq .u8 (x1.toNat : Int) 46) (lV 4 (eA (.bool (decide ((x1.toNat : Int) = 46)))) (wpList_nil (then_n ?_))))))
  by_cases q13 : (x1.toNat : Int) = 46
  · replace M := ifp q13 M
    refine cT (bT q13) (wp_skip (then_n (cT (bT q13) (wp_seq (wp_region_lit (lV 2 (eA (.bool true)) (wpList_nil ?_)))))))
    refine then_n (wp_ret (inb_r (then_r ?_)))
    obtain rfl := Option.some.inj M
    exact ret1 rfl rfl  (show _ = .bool true from (by kernel_rfl)) ⟨rfl, S0_.chg⟩
  replace M := ifn q13 M
  refine cF (bF q13) (wp_seq (wp_region_lit (lV 17 (eEq .u8 (x1.toNat : Int) 63) (lV 4 (eA (.bool (decide ((x1.toNat : Int) = 63)))) (wpList_nil (then_n ?_))))))
  by_cases q14 : (x1.toNat : Int) = 63
  · replace M := ifp q14 M
    refine cT (bT q14) (wp_skip (then_n (cT (bT q14) (wp_seq (wp_region_lit (lV 2 (eA (.bool true)) (wpList_nil ?_)))))))
    refine then_n (wp_ret (inb_r (then_r ?_)))
    obtain rfl := Option.some.inj M
    exact ret1 rfl rfl  (show _ = .bool true from (by kernel_rfl)) ⟨rfl, S0_.chg⟩
  replace M := ifn q14 M
  refine cF (bF q14) (wp_seq (wp_region_lit (lV 18 (eEq .u8 (x1.toNat : Int) 64) (lV 4 (eA (.bool (decide ((x1.toNat : Int) = 64)))) (wpList_nil (then_n ?_))))))
  by_cases q15 : (x1.toNat : Int) = 64
  · replace M := ifp q15 M
    refine cT (bT q15) (wp_skip (then_n (cT (bT q15) (wp_seq (wp_region_lit (lV 2 (eA (.bool true)) (wpList_nil ?_)))))))
    refine then_n (wp_ret (inb_r (then_r ?_)))
    obtain rfl := Option.some.inj M
    exact ret1 rfl rfl  (show _ = .bool true from (by kernel_rfl)) ⟨rfl, S0_.chg⟩
  replace M := ifn q15 M
  refine cF (bF q15) (wp_seq (wp_region_lit (lV 19 (eEq .u8 (x1.toNat : Int) 35) (lV 4 (eA (.bool (decide ((x1.toNat : Int) = 35)))) (wpList_nil (then_n ?_))))))
  by_cases q16 : (x1.toNat : Int) = 35
  · replace M := ifp q16 M
    refine cT (bT q16) (wp_skip (then_n (cT (bT q16) (wp_seq (wp_region_lit (lV 2 (eA (.bool true)) (wpList_nil ?_)))))))
    refine then_n (wp_ret (inb_r (then_r ?_)))
    obtain rfl := Option.some.inj M
    exact ret1 rfl rfl  (show _ = .bool true from (by kernel_rfl)) ⟨rfl, S0_.chg⟩
  replace M := ifn q16 M
  refine cF (bF q16) (wp_seq (wp_region_lit (lV 20 (eEq .u8 (x1.toNat : Int) 38) (lV 4 (eA (.bool (decide ((x1.toNat : Int) = 38)))) (wpList_nil (then_n ?_))))))
  by_cases q17 : (x1.toNat : Int) = 38
  · replace M := ifp q17 M
    refine cT (bT q17) (wp_skip (then_n (cT (bT q17) (wp_seq (wp_region_lit (lV 2 (eA (.bool true)) (wpList_nil ?_)))))))
    refine then_n (wp_ret (inb_r (then_r ?_)))
    obtain rfl := Option.some.inj M
    exact ret1 rfl rfl  (show _ = .bool true from (by kernel_rfl)) ⟨rfl, S0_.chg⟩
  replace M := ifn q17 M
  refine cF (bF q17) (wp_region_lit (lV 21 (eEq .u8 (x1.toNat : Int) 36) (lV 4 (eA (.bool (decide ((x1.toNat : Int) = 36)))) (wpList_nil (then_n ?_)))))
  by_cases q18 : (x1.toNat : Int) = 36
  · replace M := ifp q18 M
    refine cT (bT q18) (wp_seq (wp_region_lit (lV 2 (eA (.bool true)) (wpList_nil (then_n (wp_ret (inb_r ?_)))))))
    refine then_r ?_
    obtain rfl := Option.some.inj M
    exact ret1 rfl rfl  (show _ = .bool true from (by kernel_rfl)) ⟨rfl, S0_.chg⟩
  replace M := ifn q18 M
  refine cF (bF q18) (wp_skip (inb_n (then_n (wp_seq (wp_region_lit (lV 2 (eA (.bool false)) (wpList_nil ?_)))))))
  refine then_n (wp_ret ?_)
  obtain rfl := Option.some.inj M
  exact ret1 rfl rfl  (show _ = .bool false from (by kernel_rfl)) ⟨rfl, S0_.chg⟩

/-! impl_lexer_run -/
def impl_lexer_run_2.l0 : Nat → GLexer → Int → Int → Option GLexer
  | 0, _, _, _ => none
  | k21 + 1, x1, x8, x11 => (if x11 < (x1.s_.length : Int) then (if 0 ≤ x11 then ((impl_isSymbol.f (x1.s_.getD (x11 : Int).toNat (0 : UInt8))).bind fun t24 => (if t24 = true then (impl_lexer_run_2.l0 k21 x1 x8 (IntKind.i64.wrap (x11 + 1))) else (if 0 ≤ x1.at_ then (if x1.at_ ≤ x11 then (if x11 ≤ (x1.s_.length : Int) then ((impl_lexer_put.f x1 x8 x11 ((x1.s_.drop (x1.at_ : Int).toNat).take ((x11 : Int).toNat - (x1.at_ : Int).toNat)) 0).bind fun t68 => some t68) else none) else none) else none))) else none) else (if 0 ≤ x1.at_ then (if x1.at_ ≤ x11 then (if x11 ≤ (x1.s_.length : Int) then ((impl_lexer_put.f x1 x8 x11 ((x1.s_.drop (x1.at_ : Int).toNat).take ((x11 : Int).toNat - (x1.at_ : Int).toNat)) 0).bind fun t120 => some t120) else none) else none) else none))
def impl_lexer_run_2.f (k : Nat) (x1 : GLexer) (x8 : Int) : Option GLexer := (impl_lexer_run_2.l0 k x1 x8 x1.at_)
theorem impl_lexer_run_2.calls (k : Nat) (w : World) (H : Hp) (x1 : GLexer) (g2 : Nat) (A4 : Option Addr) (c5 : Nat) (F7 : Foot) (x8 : Int) (h6 : Row st37 37 H (hp w) F7 A4 c5 x1.tokens_) (b3 : w.heap[g2]? = some (.cells #[str x1.s_, .int .i64 x1.at_, .slice A4 x1.tokens_.length c5, .int .i64 x1.code_, .int .i64 x1.place_] 42 (0, 0))) (S : Own [F7, (is g2)] H w) (r : GLexer) (M : impl_lexer_run_2.f k x1 x8 = some r) :
    Calls Try.prog 38 #[.pointer (some ⟨g2, 0, none⟩), .int .i64 x8, .func (.func 29) #[] #[]] w (fun e e_w => ∃ (A_1 : Option Addr) (c_1 : Nat) (F_1 : Foot) (H_ : Hp), e = .returned (.tuple #[]) ∧ Row st37 37 H_ (hp e_w) F_1 A_1 c_1 r.tokens_ ∧ e_w.heap[g2]? = some (.cells #[str r.s_, .int .i64 r.at_, .slice A_1 r.tokens_.length c_1, .int .i64 r.code_, .int .i64 r.place_] 42 (0, 0)) ∧ St (anyOf [F7, (is g2)]) H w [(is g2), F_1] H_ e_w) := by
  rw [impl_lexer_run_2.f] at M
  refine enter (l := [.pointer (some ⟨g2, 0, none⟩), .int .i64 x8, .func (.func 29) #[] #[]]) 44 Try.func38 rfl rfl rfl ?_
  have S0_ := S.st
  refine wp_seq (wp_region_lit (lV 7 (eM (.pointer (some ⟨g2, 0, none⟩))) (lV 8 (eN ⟨g2, 0, none⟩) (lV 9 (eD g2 0 1 1 Try.underlying42) (lV 10 (eL ⟨g2, 0 + 1, none⟩ (.int .i64 x1.at_) Try.underlying3 (blk_cell b3 rfl)) (lV 6 (eA (.int .i64 x1.at_)) (wpList_nil ?_)))))))
  refine then_n (wp_seq (wp_block ?_))
  refine wp_loop_g (fun k19 a20 w9 => ∃ (f10 : Nat → Value) (x11 : Int), a20 = mk 44 f10 ∧ f10 0 = .pointer (some ⟨g2, 0, none⟩) ∧ f10 1 = .int .i64 x8 ∧ f10 2 = .func (.func 29) #[] #[] ∧ f10 6 = .int .i64 x11 ∧ Row st37 37 H (hp w9) F7 A4 c5 x1.tokens_ ∧ w9.heap[g2]? = some (.cells #[str x1.s_, .int .i64 x1.at_, .slice A4 x1.tokens_.length c5, .int .i64 x1.code_, .int .i64 x1.place_] 42 (0, 0)) ∧ St (anyOf [F7, (is g2)]) H w [F7, (is g2)] H w9 ∧ impl_lexer_run_2.l0 k19 x1 x8 x11 = some r) k ⟨_, x1.at_, rfl, (by kernel_rfl), (by kernel_rfl), (by kernel_rfl), (by kernel_rfl), h6, b3, S0_, M⟩ ?_
  clear M
  rintro k19 a20 w9 ⟨f10, x11, rfl, e12, e13, e14, e15, h6, b3, S16, M⟩
  rcases k19 with _ | k21
  · rw [impl_lexer_run_2.l0] at M
    cases M
  rw [impl_lexer_run_2.l0] at M
  refine wp_seq (wp_seq (wp_region_lit (lV 11 (eM (.int .i64 x11) (by exact e15)) (lV 12 (eM (.pointer (some ⟨g2, 0, none⟩)) (by exact e12)) (lV 13 (eN ⟨g2, 0, none⟩) (lV 14 (eD g2 0 0 1 Try.underlying42) (lV 15 (eL ⟨g2, 0 + 0, none⟩ (str x1.s_) Try.underlying9 (blk_cell b3 rfl)) ?_)))))))
  refine lV 16 (e_slen (p := x1.s_) Try.underlying9 (by kernel_rfl)) (lV 17 (eLt .i64 x11 (x1.s_.length : Int)) (lV 18 (eM (.bool (decide (x11 < (x1.s_.length : Int))))) ?_))
  by_cases q22 : x11 < (x1.s_.length : Int)
  · replace M := ifp q22 M
    refine lG 19 18 (bT q22) (eM (.func (.func 29) #[] #[]) (by exact e14)) (lG 20 18 (bT q22) (eM (.pointer (some ⟨g2, 0, none⟩)) (by exact e12)) (lG 21 18 (bT q22) (eN ⟨g2, 0, none⟩) (lG 22 18 (bT q22) (eD g2 0 0 1 Try.underlying42) (lG 23 18 (bT q22) (eL ⟨g2, 0 + 0, none⟩ (str x1.s_) Try.underlying9 (blk_cell b3 rfl)) (lG 24 18 (bT q22) (eM (.int .i64 x11) (by exact e15)) ?_)))))
    obtain ⟨q23, M⟩ := chk M
    refine lG 25 18 (bT q22) (e_sindex (p := x1.s_) (i := x11) (k := .i64) Try.underlying9 (by kernel_rfl) (by kernel_rfl) q23 q22) ?_
    obtain ⟨t24, u25, M⟩ := bnd M
    refine lcallg (d := 26) (t := 18) rfl (by kernel_rfl) rfl (bT q22) rfl (by kernel_rfl) (e_callv (l := [.tmp 25]) (vs := [.int .u8 ((x1.s_.getD (x11 : Int).toNat (0 : UInt8)).toNat : Int)]) (cs := []) Try.func29 (by kernel_rfl) rfl (by kernel_rfl) (by kernel_rfl)) (impl_isSymbol.calls w9 H (x1.s_.getD (x11 : Int).toNat (0 : UInt8))  S16.own0 t24 u25) ?_
    rintro _ w26 ⟨rfl, C27⟩
    refine ⟨_, rfl, ?_⟩
    obtain ⟨S28, K29⟩ := S16.still C27
    replace h6 := h6.move (K29.at 0 rfl)
    replace b3 := K29.blk 1 rfl b3
    refine lV 27 (eT (.bool t24) (bT q22)) (wpList_nil (then_n ?_))
    by_cases q30 : t24 = true
    · replace M := ifp q30 M
      refine cT (bvt q30 (by kernel_rfl)) (wp_skip (then_n (wp_block (wp_region_lit (lV 28 (eM (.int .i64 x11) (by exact e15)) (lV 29 (eAdd .i64 x11 1) (lV 6 (eA (.int .i64 (IntKind.i64.wrap (x11 + 1)))) ?_)))))))
      refine wpList_nil (inb_n (then_n ?_))
      exact ⟨k21, (by omega), _, (IntKind.i64.wrap (x11 + 1)), rfl, (by exact e12), (by exact e13), (by exact e14), (by kernel_rfl), h6, b3, S28, M⟩
    replace M := ifn q30 M
    refine cF (bvf q30 (by kernel_rfl)) (wp_exit (then_e (then_e (inb_hit (then_n ?_)))))
    refine region_mix (S := (fun (L_ : Array Bool) (w_ : World) => Ext H (hp w_) ∧ (L_.getD 13 true = false → (∀ b_, (is g2) b_ → hp w_ b_ = hp w26 b_)))) (by kernel_rfl) S28 ?_
    intro w31 S32 K33 hc34
    have o35 := b3
    have hs36 : (fun (L_ : Array Bool) (w_ : World) => Ext H (hp w_) ∧ (L_.getD 13 true = false → (∀ b_, (is g2) b_ → hp w_ b_ = hp w26 b_))) (Array.replicate 14 false) w31 := ⟨S32.inv, (fun _ => (fun b_ h_ => K33.at 1 rfl b_ h_))⟩
    replace h6 := h6.move (K33.at 0 rfl)
    replace b3 := K33.blk 1 rfl b3
    refine xv (i := 0) (d := 30) rfl rfl rfl (by kernel_rfl) (by kernel_rfl) (fun L_ w_ => by simp only [getD_set_ne true (show (0 : Nat) ≠ 13 by decide)]) hc34 hs36 (fun L_ w_ hc_ hu_ hs_ => eM (.pointer (some ⟨g2, 0, none⟩)) (by exact e12)) ?_; intro hc37 hs38
    refine xv (i := 1) (d := 31) rfl rfl rfl (by kernel_rfl) (by kernel_rfl) (fun L_ w_ => by simp only [getD_set_ne true (show (1 : Nat) ≠ 13 by decide)]) hc37 hs38 (fun L_ w_ hc_ hu_ hs_ => eM (.int .i64 x8) (by exact e13)) ?_; intro hc39 hs40
    refine xv (i := 2) (d := 32) rfl rfl rfl (by kernel_rfl) (by kernel_rfl) (fun L_ w_ => by simp only [getD_set_ne true (show (2 : Nat) ≠ 13 by decide)]) hc39 hs40 (fun L_ w_ hc_ hu_ hs_ => eM (.int .i64 x11) (by exact e15)) ?_; intro hc41 hs42
    refine xv (i := 3) (d := 33) rfl rfl rfl (by kernel_rfl) (by kernel_rfl) (fun L_ w_ => by simp only [getD_set_ne true (show (3 : Nat) ≠ 13 by decide)]) hc41 hs42 (fun L_ w_ hc_ hu_ hs_ => eM (.pointer (some ⟨g2, 0, none⟩)) (by exact e12)) ?_; intro hc43 hs44
    refine xv (i := 4) (d := 34) rfl rfl rfl (by kernel_rfl) (by kernel_rfl) (fun L_ w_ => by simp only [getD_set_ne true (show (4 : Nat) ≠ 13 by decide)]) hc43 hs44 (fun L_ w_ hc_ hu_ hs_ => eN ⟨g2, 0, none⟩) ?_; intro hc45 hs46
    refine xv (i := 5) (d := 35) rfl rfl rfl (by kernel_rfl) (by kernel_rfl) (fun L_ w_ => by simp only [getD_set_ne true (show (5 : Nat) ≠ 13 by decide)]) hc45 hs46 (fun L_ w_ hc_ hu_ hs_ => eD g2 0 0 1 Try.underlying42) ?_; intro hc47 hs48
    refine xv (i := 6) (d := 36) rfl rfl rfl (by kernel_rfl) (by kernel_rfl) (fun L_ w_ => by simp only [getD_set_ne true (show (6 : Nat) ≠ 13 by decide)]) hc47 hs48 (fun L_ w_ hc_ hu_ hs_ => eL ⟨g2, 0 + 0, none⟩ (str x1.s_) Try.underlying9 (blk_cell (((hs_.2 (unl 9 13 6 hc_ hu_ (by kernel_rfl))) _ rfl).trans o35) rfl)) ?_; intro hc49 hs50
    refine xv (i := 7) (d := 37) rfl rfl rfl (by kernel_rfl) (by kernel_rfl) (fun L_ w_ => by simp only [getD_set_ne true (show (7 : Nat) ≠ 13 by decide)]) hc49 hs50 (fun L_ w_ hc_ hu_ hs_ => eM (.pointer (some ⟨g2, 0, none⟩)) (by exact e12)) ?_; intro hc51 hs52
    refine xv (i := 8) (d := 38) rfl rfl rfl (by kernel_rfl) (by kernel_rfl) (fun L_ w_ => by simp only [getD_set_ne true (show (8 : Nat) ≠ 13 by decide)]) hc51 hs52 (fun L_ w_ hc_ hu_ hs_ => eN ⟨g2, 0, none⟩) ?_; intro hc53 hs54
    refine xv (i := 9) (d := 39) rfl rfl rfl (by kernel_rfl) (by kernel_rfl) (fun L_ w_ => by simp only [getD_set_ne true (show (9 : Nat) ≠ 13 by decide)]) hc53 hs54 (fun L_ w_ hc_ hu_ hs_ => eD g2 0 1 1 Try.underlying42) ?_; intro hc55 hs56
    refine xv (i := 10) (d := 40) rfl rfl rfl (by kernel_rfl) (by kernel_rfl) (fun L_ w_ => by simp only [getD_set_ne true (show (10 : Nat) ≠ 13 by decide)]) hc55 hs56 (fun L_ w_ hc_ hu_ hs_ => eL ⟨g2, 0 + 1, none⟩ (.int .i64 x1.at_) Try.underlying3 (blk_cell (((hs_.2 (unl 9 13 10 hc_ hu_ (by kernel_rfl))) _ rfl).trans o35) rfl)) ?_; intro hc57 hs58
    refine xone (i := 11) (by kernel_rfl) hc57 ?_
    refine yo (i := 11) (d := 41) rfl rfl (wanted_none rfl _) (by kernel_rfl) (by kernel_rfl) (fun L_ w_ => by simp only [getD_set_ne true (show (11 : Nat) ≠ 13 by decide)]) hs58 (eM (.int .i64 x11) (by exact e15)) ?_; intro hc59 hs60
    obtain ⟨q61, M⟩ := chk M
    obtain ⟨q62, M⟩ := chk M
    obtain ⟨q63, M⟩ := chk M
    refine xone (i := 12) (by kernel_rfl) hc59 ?_
    refine yo (i := 12) (d := 42) rfl rfl (wanted_none rfl _) (by kernel_rfl) (by kernel_rfl) (fun L_ w_ => by simp only [getD_set_ne true (show (12 : Nat) ≠ 13 by decide)]) hs60 (e_sslice_lh (p := x1.s_) (a := x1.at_) (b := x11) (k := .i64) (k2 := .i64) Try.underlying9 (by kernel_rfl) (by kernel_rfl) (by kernel_rfl) q61 q62 q63) ?_; intro hc64 hs65
    have S66 := S32.pull (F := (is g2)) (Fr := [F7]) 1 rfl rfl
    have S67 := S66.pull (F := F7) (Fr := [(is g2)]) 1 rfl rfl
    obtain ⟨t68, u69, M⟩ := bnd M
    refine xone (i := 13) (by kernel_rfl) hc64 ?_
    refine yc (i := 13) rfl (wanted_none rfl _) (by kernel_rfl) (by kernel_rfl) (eC [.tmp 30, .tmp 31, .tmp 32, .tmp 42, .const (.int .i64 0)] [.pointer (some ⟨g2, 0, none⟩), .int .i64 x8, .int .i64 x11, str ((x1.s_.drop (x1.at_ : Int).toNat).take ((x11 : Int).toNat - (x1.at_ : Int).toNat)), .int .i64 0] Try.func42) (impl_lexer_put.calls w31 H x1 g2 A4 c5 F7 x8 x11 ((x1.s_.drop (x1.at_ : Int).toNat).take ((x11 : Int).toNat - (x1.at_ : Int).toNat)) 0 h6 b3 (St.own' (Fa := [F7, (is g2)]) (Fr := []) S67) t68 u69) ?_
    rintro hc78 _ w70 ⟨A73, c74, F76, H71, rfl, h75, b77, T72⟩
    refine ⟨_, rfl, ?_⟩
    obtain ⟨S79, K80⟩ := St.call (Fa := [F7, (is g2)]) (Fr := []) S67 T72
    have E81 := T72.ext
    refine ⟨⟨(Ext.trans E81 S79.inv), (fun q_ => absurd q_ (by decide +kernel))⟩, fun hs82 => ?_⟩
    refine xn (by kernel_rfl) ?_ _
    obtain rfl := Option.some.inj M
    exact end0 rfl ⟨A73, c74, F76, H71, rfl, h75, b77, S79⟩
  replace M := ifn q22 M
  refine lK 18 false (bF q22) ?_
  refine lK 18 false (bF q22) ?_
  refine lK 18 false (bF q22) ?_
  refine lK 18 false (bF q22) ?_
  refine lK 18 false (bF q22) ?_
  refine lK 18 false (bF q22) ?_
  refine lK 18 false (bF q22) ?_
  refine lK 18 false (bF q22) ?_
  refine lV 27 (eF (.bool false) (bF q22)) (wpList_nil (then_n (cond_f rfl (by kernel_rfl) (wp_exit (then_e (then_e (inb_hit ?_)))))))
  refine then_n ?_
  refine region_mix (S := (fun (L_ : Array Bool) (w_ : World) => Ext H (hp w_) ∧ (L_.getD 13 true = false → (∀ b_, (is g2) b_ → hp w_ b_ = hp w9 b_)))) (by kernel_rfl) S16 ?_
  intro w83 S84 K85 hc86
  have o87 := b3
  have hs88 : (fun (L_ : Array Bool) (w_ : World) => Ext H (hp w_) ∧ (L_.getD 13 true = false → (∀ b_, (is g2) b_ → hp w_ b_ = hp w9 b_))) (Array.replicate 14 false) w83 := ⟨S84.inv, (fun _ => (fun b_ h_ => K85.at 1 rfl b_ h_))⟩
  replace h6 := h6.move (K85.at 0 rfl)
  replace b3 := K85.blk 1 rfl b3
  refine xv (i := 0) (d := 30) rfl rfl rfl (by kernel_rfl) (by kernel_rfl) (fun L_ w_ => by simp only [getD_set_ne true (show (0 : Nat) ≠ 13 by decide)]) hc86 hs88 (fun L_ w_ hc_ hu_ hs_ => eM (.pointer (some ⟨g2, 0, none⟩)) (by exact e12)) ?_; intro hc89 hs90
  refine xv (i := 1) (d := 31) rfl rfl rfl (by kernel_rfl) (by kernel_rfl) (fun L_ w_ => by simp only [getD_set_ne true (show (1 : Nat) ≠ 13 by decide)]) hc89 hs90 (fun L_ w_ hc_ hu_ hs_ => eM (.int .i64 x8) (by exact e13)) ?_; intro hc91 hs92
  refine xv (i := 2) (d := 32) rfl rfl rfl (by kernel_rfl) (by kernel_rfl) (fun L_ w_ => by simp only [getD_set_ne true (show (2 : Nat) ≠ 13 by decide)]) hc91 hs92 (fun L_ w_ hc_ hu_ hs_ => eM (.int .i64 x11) (by exact e15)) ?_; intro hc93 hs94
  refine xv (i := 3) (d := 33) rfl rfl rfl (by kernel_rfl) (by kernel_rfl) (fun L_ w_ => by simp only [getD_set_ne true (show (3 : Nat) ≠ 13 by decide)]) hc93 hs94 (fun L_ w_ hc_ hu_ hs_ => eM (.pointer (some ⟨g2, 0, none⟩)) (by exact e12)) ?_; intro hc95 hs96
  refine xv (i := 4) (d := 34) rfl rfl rfl (by kernel_rfl) (by kernel_rfl) (fun L_ w_ => by simp only [getD_set_ne true (show (4 : Nat) ≠ 13 by decide)]) hc95 hs96 (fun L_ w_ hc_ hu_ hs_ => eN ⟨g2, 0, none⟩) ?_; intro hc97 hs98
  refine xv (i := 5) (d := 35) rfl rfl rfl (by kernel_rfl) (by kernel_rfl) (fun L_ w_ => by simp only [getD_set_ne true (show (5 : Nat) ≠ 13 by decide)]) hc97 hs98 (fun L_ w_ hc_ hu_ hs_ => eD g2 0 0 1 Try.underlying42) ?_; intro hc99 hs100
  refine xv (i := 6) (d := 36) rfl rfl rfl (by kernel_rfl) (by kernel_rfl) (fun L_ w_ => by simp only [getD_set_ne true (show (6 : Nat) ≠ 13 by decide)]) hc99 hs100 (fun L_ w_ hc_ hu_ hs_ => eL ⟨g2, 0 + 0, none⟩ (str x1.s_) Try.underlying9 (blk_cell (((hs_.2 (unl 9 13 6 hc_ hu_ (by kernel_rfl))) _ rfl).trans o87) rfl)) ?_; intro hc101 hs102
  refine xv (i := 7) (d := 37) rfl rfl rfl (by kernel_rfl) (by kernel_rfl) (fun L_ w_ => by simp only [getD_set_ne true (show (7 : Nat) ≠ 13 by decide)]) hc101 hs102 (fun L_ w_ hc_ hu_ hs_ => eM (.pointer (some ⟨g2, 0, none⟩)) (by exact e12)) ?_; intro hc103 hs104
  refine xv (i := 8) (d := 38) rfl rfl rfl (by kernel_rfl) (by kernel_rfl) (fun L_ w_ => by simp only [getD_set_ne true (show (8 : Nat) ≠ 13 by decide)]) hc103 hs104 (fun L_ w_ hc_ hu_ hs_ => eN ⟨g2, 0, none⟩) ?_; intro hc105 hs106
  refine xv (i := 9) (d := 39) rfl rfl rfl (by kernel_rfl) (by kernel_rfl) (fun L_ w_ => by simp only [getD_set_ne true (show (9 : Nat) ≠ 13 by decide)]) hc105 hs106 (fun L_ w_ hc_ hu_ hs_ => eD g2 0 1 1 Try.underlying42) ?_; intro hc107 hs108
  refine xv (i := 10) (d := 40) rfl rfl rfl (by kernel_rfl) (by kernel_rfl) (fun L_ w_ => by simp only [getD_set_ne true (show (10 : Nat) ≠ 13 by decide)]) hc107 hs108 (fun L_ w_ hc_ hu_ hs_ => eL ⟨g2, 0 + 1, none⟩ (.int .i64 x1.at_) Try.underlying3 (blk_cell (((hs_.2 (unl 9 13 10 hc_ hu_ (by kernel_rfl))) _ rfl).trans o87) rfl)) ?_; intro hc109 hs110
  refine xone (i := 11) (by kernel_rfl) hc109 ?_
  refine yo (i := 11) (d := 41) rfl rfl (wanted_none rfl _) (by kernel_rfl) (by kernel_rfl) (fun L_ w_ => by simp only [getD_set_ne true (show (11 : Nat) ≠ 13 by decide)]) hs110 (eM (.int .i64 x11) (by exact e15)) ?_; intro hc111 hs112
  obtain ⟨q113, M⟩ := chk M
  obtain ⟨q114, M⟩ := chk M
  obtain ⟨q115, M⟩ := chk M
  refine xone (i := 12) (by kernel_rfl) hc111 ?_
  refine yo (i := 12) (d := 42) rfl rfl (wanted_none rfl _) (by kernel_rfl) (by kernel_rfl) (fun L_ w_ => by simp only [getD_set_ne true (show (12 : Nat) ≠ 13 by decide)]) hs112 (e_sslice_lh (p := x1.s_) (a := x1.at_) (b := x11) (k := .i64) (k2 := .i64) Try.underlying9 (by kernel_rfl) (by kernel_rfl) (by kernel_rfl) q113 q114 q115) ?_; intro hc116 hs117
  have S118 := S84.pull (F := (is g2)) (Fr := [F7]) 1 rfl rfl
  have S119 := S118.pull (F := F7) (Fr := [(is g2)]) 1 rfl rfl
  obtain ⟨t120, u121, M⟩ := bnd M
  refine xone (i := 13) (by kernel_rfl) hc116 ?_
  refine yc (i := 13) rfl (wanted_none rfl _) (by kernel_rfl) (by kernel_rfl) (eC [.tmp 30, .tmp 31, .tmp 32, .tmp 42, .const (.int .i64 0)] [.pointer (some ⟨g2, 0, none⟩), .int .i64 x8, .int .i64 x11, str ((x1.s_.drop (x1.at_ : Int).toNat).take ((x11 : Int).toNat - (x1.at_ : Int).toNat)), .int .i64 0] Try.func42) (impl_lexer_put.calls w83 H x1 g2 A4 c5 F7 x8 x11 ((x1.s_.drop (x1.at_ : Int).toNat).take ((x11 : Int).toNat - (x1.at_ : Int).toNat)) 0 h6 b3 (St.own' (Fa := [F7, (is g2)]) (Fr := []) S119) t120 u121) ?_
  rintro hc130 _ w122 ⟨A125, c126, F128, H123, rfl, h127, b129, T124⟩
  refine ⟨_, rfl, ?_⟩
  obtain ⟨S131, K132⟩ := St.call (Fa := [F7, (is g2)]) (Fr := []) S119 T124
  have E133 := T124.ext
  refine ⟨⟨(Ext.trans E133 S131.inv), (fun q_ => absurd q_ (by decide +kernel))⟩, fun hs134 => ?_⟩
  refine xn (by kernel_rfl) ?_ _
  obtain rfl := Option.some.inj M
  exact end0 rfl ⟨A125, c126, F128, H123, rfl, h127, b129, S131⟩

/-! impl_lexer_quote -/
def impl_lexer_quote.l1 : Nat → GLexer → UInt8 → Int → (List UInt8) → Int → Option GLexer
  | 0, _, _, _, _, _ => none
  | k47 + 1, x1, x8, x11, x31, x36 => (if x36 < (x1.s_.length : Int) then (if 0 ≤ x36 then (if ((x1.s_.getD (x36 : Int).toNat (0 : UInt8)).toNat : Int) = (x8.toNat : Int) then (if (IntKind.i64.wrap (x36 + 1)) < (x1.s_.length : Int) then (if 0 ≤ (IntKind.i64.wrap (x36 + 1)) then (if ((x1.s_.getD ((IntKind.i64.wrap (x36 + 1)) : Int).toNat (0 : UInt8)).toNat : Int) = (x8.toNat : Int) then (if x31.length + 1 ≤ 140737488355328 then (impl_lexer_quote.l1 k47 x1 x8 x11 (x31 ++ [x8]) (IntKind.i64.wrap (x36 + 2))) else none) else ((impl_lexer_put.f x1 x11 (IntKind.i64.wrap (x36 + 1)) x31 0).bind fun t77 => some t77)) else none) else ((impl_lexer_put.f x1 x11 (IntKind.i64.wrap (x36 + 1)) x31 0).bind fun t95 => some t95)) else (if ((x1.s_.getD (x36 : Int).toNat (0 : UInt8)).toNat : Int) = 92 then ((impl_lexer_escape.f k47 x1 x36).bind fun t112 => (if ¬ (t112.2.2 = true) then ((impl_lexer_fault.f x1 2 x1.at_).bind fun t132 => some t132) else (if x31.length + t112.1.length ≤ 140737488355328 then (impl_lexer_quote.l1 k47 x1 x8 x11 (x31 ++ t112.1) t112.2.1) else none))) else ((impl_isPrint.f (x1.s_.getD (x36 : Int).toNat (0 : UInt8))).bind fun t161 => (if t161 = true then (if x31.length + 1 ≤ 140737488355328 then (impl_lexer_quote.l1 k47 x1 x8 x11 (x31 ++ [(x1.s_.getD (x36 : Int).toNat (0 : UInt8))]) (IntKind.i64.wrap (x36 + 1))) else none) else ((impl_lexer_fault.f x1 2 x1.at_).bind fun t189 => some t189))))) else none) else ((impl_lexer_fault.f x1 2 x1.at_).bind fun t207 => some t207))
def impl_lexer_quote.l0 (k : Nat) (x1 : GLexer) (x8 : UInt8) (x11 : Int) : Option GLexer := (impl_lexer_quote.l1 k x1 x8 x11 ([] : List UInt8) (IntKind.i64.wrap (x1.at_ + 1)))
def impl_lexer_quote.f (k : Nat) (x1 : GLexer) (x8 : UInt8) : Option GLexer := (if (x8.toNat : Int) = 34 then (impl_lexer_quote.l0 k x1 x8 4) else (impl_lexer_quote.l0 k x1 x8 1))
theorem impl_lexer_quote.calls (k : Nat) (w : World) (H : Hp) (x1 : GLexer) (g2 : Nat) (A4 : Option Addr) (c5 : Nat) (F7 : Foot) (x8 : UInt8) (h6 : Row st37 37 H (hp w) F7 A4 c5 x1.tokens_) (b3 : w.heap[g2]? = some (.cells #[str x1.s_, .int .i64 x1.at_, .slice A4 x1.tokens_.length c5, .int .i64 x1.code_, .int .i64 x1.place_] 42 (0, 0))) (S : Own [F7, (is g2)] H w) (r : GLexer) (M : impl_lexer_quote.f k x1 x8 = some r) :
    Calls Try.prog 43 #[.pointer (some ⟨g2, 0, none⟩), .int .u8 (x8.toNat : Int)] w (fun e e_w => ∃ (A_1 : Option Addr) (c_1 : Nat) (F_1 : Foot) (H_ : Hp), e = .returned (.tuple #[]) ∧ Row st37 37 H_ (hp e_w) F_1 A_1 c_1 r.tokens_ ∧ e_w.heap[g2]? = some (.cells #[str r.s_, .int .i64 r.at_, .slice A_1 r.tokens_.length c_1, .int .i64 r.code_, .int .i64 r.place_] 42 (0, 0)) ∧ St (anyOf [F7, (is g2)]) H w [(is g2), F_1] H_ e_w) := by
  rw [impl_lexer_quote.f] at M
  refine enter (l := [.pointer (some ⟨g2, 0, none⟩), .int .u8 (x8.toNat : Int)]) 111 Try.func43 rfl rfl rfl ?_
  have S0_ := S.st
  refine wp_seq (wp_region_lit (lV 4 (eA (.int .i64 1)) (wpList_nil (then_n ?_))))
  refine wp_seq_cut (fun a18 w9 => ∃ (f10 : Nat → Value) (x11 : Int), a18 = mk 111 f10 ∧ f10 0 = .pointer (some ⟨g2, 0, none⟩) ∧ f10 1 = .int .u8 (x8.toNat : Int) ∧ f10 4 = .int .i64 x11 ∧ Row st37 37 H (hp w9) F7 A4 c5 x1.tokens_ ∧ w9.heap[g2]? = some (.cells #[str x1.s_, .int .i64 x1.at_, .slice A4 x1.tokens_.length c5, .int .i64 x1.code_, .int .i64 x1.place_] 42 (0, 0)) ∧ St (anyOf [F7, (is g2)]) H w [F7, (is g2)] H w9 ∧ impl_lexer_quote.l0 k x1 x8 x11 = some r) ?_ ?_
  · refine wp_seq (wp_region_lit (lV 11 (eM (.int .u8 (x8.toNat : Int))) (lV 12 (eEq .u8 (x8.toNat : Int) 34) (wpList_nil (then_n ?_)))))
    by_cases q19 : (x8.toNat : Int) = 34
    · replace M := ifp q19 M
      refine cT (bT q19) (wp_region_lit (lV 4 (eA (.int .i64 4)) (wpList_nil (then_n ?_))))
      exact ⟨_, 4, rfl, (by kernel_rfl), (by kernel_rfl), (by kernel_rfl), h6, b3, S0_, M⟩
    replace M := ifn q19 M
    refine cF (bF q19) (wp_skip (then_n ?_))
    exact ⟨_, 1, rfl, (by kernel_rfl), (by kernel_rfl), (by kernel_rfl), h6, b3, S0_, M⟩
  clear M
  rintro a18 w9 ⟨f10, x11, rfl, e12, e13, e14, h6, b3, S15, M⟩
  rw [impl_lexer_quote.l0] at M
  refine wp_seq (wp_region_lit ?_)
  refine lve (d := 13) rfl rfl (by kernel_rfl) (new_blk (v := fun g_ => .slice (some ⟨g_, 0, none⟩) 0 0) (cs := #[]) (t := 5) S15 (by kernel_rfl)) ?_
  rintro _ w20 ⟨g21, rfl, b22, S23, K24⟩
  replace h6 := h6.move (K24.at 0 rfl)
  replace b3 := K24.blk 1 rfl b3
  have S25 := S23.unit
  have S26 := S25.pull (F := (is g21)) (Fr := [no, F7, (is g2)]) 1 rfl rfl
  obtain ⟨h27, S28⟩ := row_lit (d := tByte) (xs := ([] : List UInt8)) S26 b22 rfl (elsO_nil _ _ _ no) (Nat.le_of_ble_eq_true rfl)
  refine lV 5 (eA (.slice (some ⟨g21, 0, none⟩) 0 0)) (wpList_nil (then_n (wp_seq (wp_seq (wp_region_lit (lV 14 (eM (.pointer (some ⟨g2, 0, none⟩)) (by exact e12)) (lV 15 (eN ⟨g2, 0, none⟩) ?_)))))))
  refine lV 16 (eD g2 0 1 1 Try.underlying42) (lV 17 (eL ⟨g2, 0 + 1, none⟩ (.int .i64 x1.at_) Try.underlying3 (blk_cell b3 rfl)) (lV 18 (eAdd .i64 x1.at_ 1) (lV 6 (eA (.int .i64 (IntKind.i64.wrap (x1.at_ + 1)))) (wpList_nil (then_n (wp_block ?_))))))
  have S48 := S28.pull (F := (is g2)) (Fr := [(or2 (is g21) no), F7]) 2 rfl rfl
  have S49 := S48.pull (F := F7) (Fr := [(is g2), (or2 (is g21) no)]) 2 rfl rfl
  refine wp_loop_g (fun k45 a46 w29 => ∃ (f30 : Nat → Value) (x31 : List UInt8) (A32 : Option Addr) (c33 : Nat) (F34 : Foot) (x36 : Int), a46 = mk 111 f30 ∧ f30 0 = .pointer (some ⟨g2, 0, none⟩) ∧ f30 1 = .int .u8 (x8.toNat : Int) ∧ f30 4 = .int .i64 x11 ∧ f30 5 = .slice A32 x31.length c33 ∧ f30 6 = .int .i64 x36 ∧ Row st37 37 H (hp w29) F7 A4 c5 x1.tokens_ ∧ w29.heap[g2]? = some (.cells #[str x1.s_, .int .i64 x1.at_, .slice A4 x1.tokens_.length c5, .int .i64 x1.code_, .int .i64 x1.place_] 42 (0, 0)) ∧ Row tByte 5 H (hp w29) F34 A32 c33 x31 ∧ St (anyOf [F7, (is g2)]) H w [F7, (is g2), F34] H w29 ∧ impl_lexer_quote.l1 k45 x1 x8 x11 x31 x36 = some r) k ⟨_, ([] : List UInt8), (some ⟨g21, 0, none⟩), 0, (or2 (is g21) no), (IntKind.i64.wrap (x1.at_ + 1)), rfl, (by exact e12), (by exact e13), (by exact e14), (by kernel_rfl), (by kernel_rfl), h6, b3, h27, S49, M⟩ ?_
  clear M
  rintro k45 a46 w29 ⟨f30, x31, A32, c33, F34, x36, rfl, e37, e38, e39, e40, e41, h6, b3, h35, S42, M⟩
  rcases k45 with _ | k47
  · rw [impl_lexer_quote.l1] at M
    cases M
  rw [impl_lexer_quote.l1] at M
  refine wp_seq (wp_seq (wp_region_lit (lV 19 (eM (.int .i64 x36) (by exact e41)) (lV 20 (eM (.pointer (some ⟨g2, 0, none⟩)) (by exact e37)) (lV 21 (eN ⟨g2, 0, none⟩) (lV 22 (eD g2 0 0 1 Try.underlying42) (lV 23 (eL ⟨g2, 0 + 0, none⟩ (str x1.s_) Try.underlying9 (blk_cell b3 rfl)) ?_)))))))
  refine lV 24 (e_slen (p := x1.s_) Try.underlying9 (by kernel_rfl)) (lV 25 (eLt .i64 x36 (x1.s_.length : Int)) (wpList_nil (then_n ?_)))
  by_cases q50 : x36 < (x1.s_.length : Int)
  · replace M := ifp q50 M
    refine cT (bT q50) (wp_skip (then_n (wp_block (wp_seq (wp_region_lit (lV 26 (eM (.pointer (some ⟨g2, 0, none⟩)) (by exact e37)) (lV 27 (eN ⟨g2, 0, none⟩) ?_)))))))
    refine lV 28 (eD g2 0 0 1 Try.underlying42) (lV 29 (eL ⟨g2, 0 + 0, none⟩ (str x1.s_) Try.underlying9 (blk_cell b3 rfl)) (lV 30 (eM (.int .i64 x36) (by exact e41)) ?_))
    obtain ⟨q51, M⟩ := chk M
    refine lV 31 (e_sindex (p := x1.s_) (i := x36) (k := .i64) Try.underlying9 (by kernel_rfl) (by kernel_rfl) q51 q50) (lV 7 (eA (.int .u8 ((x1.s_.getD (x36 : Int).toNat (0 : UInt8)).toNat : Int))) (wpList_nil (then_n (wp_block (wp_seq (wp_region_lit (lV 39 (eM (.int .u8 ((x1.s_.getD (x36 : Int).toNat (0 : UInt8)).toNat : Int))) ?_)))))))
    refine lV 40 (eM (.int .u8 (x8.toNat : Int)) (by exact e38)) (lV 41 (eEq .u8 ((x1.s_.getD (x36 : Int).toNat (0 : UInt8)).toNat : Int) (x8.toNat : Int)) (lV 38 (eA (.bool (decide (((x1.s_.getD (x36 : Int).toNat (0 : UInt8)).toNat : Int) = (x8.toNat : Int))))) (wpList_nil (then_n ?_))))
    by_cases q52 : ((x1.s_.getD (x36 : Int).toNat (0 : UInt8)).toNat : Int) = (x8.toNat : Int)
    · replace M := ifp q52 M
      refine cT (bT q52) (wp_seq (wp_seq (wp_region_lit (lV 42 (eM (.int .i64 x36) (by exact e41)) (lV 43 (eAdd .i64 x36 1) (lV 44 (eM (.pointer (some ⟨g2, 0, none⟩)) (by exact e37)) (lV 45 (eN ⟨g2, 0, none⟩) ?_)))))))
      refine lV 46 (eD g2 0 0 1 Try.underlying42) (lV 47 (eL ⟨g2, 0 + 0, none⟩ (str x1.s_) Try.underlying9 (blk_cell b3 rfl)) (lV 48 (e_slen (p := x1.s_) Try.underlying9 (by kernel_rfl)) (lV 49 (eLt .i64 (IntKind.i64.wrap (x36 + 1)) (x1.s_.length : Int)) (lV 50 (eM (.bool (decide ((IntKind.i64.wrap (x36 + 1)) < (x1.s_.length : Int))))) ?_))))
      by_cases q53 : (IntKind.i64.wrap (x36 + 1)) < (x1.s_.length : Int)
      · replace M := ifp q53 M
        refine lG 51 50 (bT q53) (eM (.pointer (some ⟨g2, 0, none⟩)) (by exact e37)) (lG 52 50 (bT q53) (eN ⟨g2, 0, none⟩) (lG 53 50 (bT q53) (eD g2 0 0 1 Try.underlying42) (lG 54 50 (bT q53) (eL ⟨g2, 0 + 0, none⟩ (str x1.s_) Try.underlying9 (blk_cell b3 rfl)) (lG 55 50 (bT q53) (eM (.int .i64 x36) (by exact e41)) (lG 56 50 (bT q53) (eAdd .i64 x36 1) ?_)))))
        obtain ⟨q54, M⟩ := chk M
        refine lG 57 50 (bT q53) (e_sindex (p := x1.s_) (i := (IntKind.i64.wrap (x36 + 1))) (k := .i64) Try.underlying9 (by kernel_rfl) (by kernel_rfl) q54 q53) (lG 58 50 (bT q53) (eM (.int .u8 (x8.toNat : Int)) (by exact e38)) (lG 59 50 (bT q53) (eEq .u8 ((x1.s_.getD ((IntKind.i64.wrap (x36 + 1)) : Int).toNat (0 : UInt8)).toNat : Int) (x8.toNat : Int)) (lV 60 (eT (.bool (decide (((x1.s_.getD ((IntKind.i64.wrap (x36 + 1)) : Int).toNat (0 : UInt8)).toNat : Int) = (x8.toNat : Int)))) (bT q53)) (wpList_nil (then_n ?_)))))
        by_cases q55 : ((x1.s_.getD ((IntKind.i64.wrap (x36 + 1)) : Int).toNat (0 : UInt8)).toNat : Int) = (x8.toNat : Int)
        · replace M := ifp q55 M
          refine cT (bT q55) (wp_seq (wp_region_lit (lV 61 (eM (.slice A32 x31.length c33) (by exact e40)) (lV 62 (eM (.int .u8 (x8.toNat : Int)) (by exact e38)) ?_))))
          refine lve (d := 63) rfl rfl (by kernel_rfl) (new_blk (v := fun g_ => .slice (some ⟨g_, 0, none⟩) 1 1) (cs := #[.int .u8 (x8.toNat : Int)]) (t := 5) S42 (by kernel_rfl)) ?_
          rintro _ w56 ⟨g57, rfl, b58, S59, K60⟩
          replace h6 := h6.move (K60.at 0 rfl)
          replace b3 := K60.blk 1 rfl b3
          replace h35 := h35.move (K60.at 2 rfl)
          obtain ⟨q61, M⟩ := chk M
          have S62 := S59.pull (F := F34) (Fr := [(is g57), F7, (is g2)]) 3 rfl rfl
          have S63 := S62.unit
          have S64 := S63.pull (F := F34) (Fr := [no, (is g57), F7, (is g2)]) 1 rfl rfl
          refine lve (d := 64) rfl rfl (by kernel_rfl) (e_append (d := tByte) (n := x31.length) (xs := x31) (cap := c33) (A := A32) (ys := [x8]) (A2 := (some ⟨g57, 0, none⟩)) (c2 := 1) (z := .int .u8 0) (bytes := 1) S64 Try.underlying23 (by kernel_rfl) rfl (by decide) (by kernel_rfl) rfl (by kernel_rfl) h35 (elsO_one1 rfl) (.inr (blk_news b58 rfl)) (show (x31.length + [x8].length) * 1 ≤ _ by first | omega | (simp only [List.length_cons, List.length_nil]; omega)) (by decide)) ?_
          rintro _ w65 ⟨A66, c67, F68, rfl, h69, S70, K71⟩
          replace h6 := h6.move (K71.at 1 rfl)
          replace b3 := K71.blk 2 rfl b3
          refine lV 5 (eA (.slice A66 ((x31 ++ [x8]).length) c67)) (wpList_nil (then_n (wp_seq (wp_region_lit (lV 65 (eM (.int .i64 x36) (by exact e41)) (lV 66 (eAdd .i64 x36 2) (lV 6 (eA (.int .i64 (IntKind.i64.wrap (x36 + 2)))) ?_)))))))
          refine wpList_nil (then_n (wp_exit (then_e (inb_miss rfl (inb_hit (then_n ?_))))))
          have S72 := S70.pull (F := (is g2)) (Fr := [F68, (is g57), F7]) 3 rfl rfl
          have S73 := S72.pull (F := F7) (Fr := [(is g2), F68, (is g57)]) 3 rfl rfl
          have S74 := St.first (Fa := [F7, (is g2), F68]) (Fr := [(is g57)]) S73
          exact ⟨k47, (by omega), _, (x31 ++ [x8]), A66, c67, F68, (IntKind.i64.wrap (x36 + 2)), rfl, (by exact e37), (by exact e38), (by exact e39), (by kernel_rfl), (by kernel_rfl), h6, b3, h69, S74, M⟩
        replace M := ifn q55 M
        refine cF (bF q55) (wp_skip (then_n (wp_seq (wp_region_lit (lV 67 (eM (.pointer (some ⟨g2, 0, none⟩)) (by exact e37)) (lV 68 (eM (.int .i64 x11) (by exact e39)) (lV 69 (eM (.int .i64 x36) (by exact e41)) ?_)))))))
        refine lV 70 (eAdd .i64 x36 1) (lV 71 (eM (.slice A32 x31.length c33) (by exact e40)) (lV 72 (e_conv_bs (A := A32) (n := x31.length) (c := c33) (xs := x31) Try.underlying23 Try.underlying5 Try.underlying9 (by kernel_rfl) rfl (Row.bytes h35)) ?_))
        have S75 := S42.pull (F := (is g2)) (Fr := [F7, F34]) 1 rfl rfl
        have S76 := S75.pull (F := F7) (Fr := [(is g2), F34]) 1 rfl rfl
        obtain ⟨t77, u78, M⟩ := bnd M
        refine lC 73 (eC [.tmp 67, .tmp 68, .tmp 70, .tmp 72, .const (.int .i64 0)] [.pointer (some ⟨g2, 0, none⟩), .int .i64 x11, .int .i64 (IntKind.i64.wrap (x36 + 1)), str x31, .int .i64 0] Try.func42) (impl_lexer_put.calls w29 H x1 g2 A4 c5 F7 x11 (IntKind.i64.wrap (x36 + 1)) x31 0 h6 b3 (St.own' (Fa := [F7, (is g2)]) (Fr := [F34]) S76) t77 u78) ?_
        rintro _ w79 ⟨A82, c83, F85, H80, rfl, h84, b86, T81⟩
        refine ⟨_, rfl, ?_⟩
        obtain ⟨S87, K88⟩ := St.call (Fa := [F7, (is g2)]) (Fr := [F34]) S76 T81
        have E89 := T81.ext
        refine wpList_nil (then_n (wp_ret (inb_r (inb_r (then_r (inb_r (then_r ?_)))))))
        obtain rfl := Option.some.inj M
        have S90 := S87.pull (F := F85) (Fr := [(is g2), F34]) 1 rfl rfl
        have S91 := S90.pull (F := (is g2)) (Fr := [F85, F34]) 1 rfl rfl
        have S92 := St.first (Fa := [(is g2), F85]) (Fr := [F34]) S91
        exact Go.Sy.ret0 rfl ⟨A82, c83, F85, H80, rfl, h84, b86, S92⟩
      replace M := ifn q53 M
      refine lK 50 false (bF q53) ?_
      refine lK 50 false (bF q53) ?_
      refine lK 50 false (bF q53) ?_
      refine lK 50 false (bF q53) ?_
      refine lK 50 false (bF q53) ?_
      refine lK 50 false (bF q53) ?_
      refine lK 50 false (bF q53) ?_
      refine lK 50 false (bF q53) ?_
      refine lK 50 false (bF q53) ?_
      refine lV 60 (eF (.bool false) (bF q53)) (wpList_nil (then_n (cond_f rfl (by kernel_rfl) (wp_skip (then_n (wp_seq (wp_region_lit ?_)))))))
      refine lV 67 (eM (.pointer (some ⟨g2, 0, none⟩)) (by exact e37)) (lV 68 (eM (.int .i64 x11) (by exact e39)) (lV 69 (eM (.int .i64 x36) (by exact e41)) (lV 70 (eAdd .i64 x36 1) (lV 71 (eM (.slice A32 x31.length c33) (by exact e40)) (lV 72 (e_conv_bs (A := A32) (n := x31.length) (c := c33) (xs := x31) Try.underlying23 Try.underlying5 Try.underlying9 (by kernel_rfl) rfl (Row.bytes h35)) ?_)))))
      have S93 := S42.pull (F := (is g2)) (Fr := [F7, F34]) 1 rfl rfl
      have S94 := S93.pull (F := F7) (Fr := [(is g2), F34]) 1 rfl rfl
      obtain ⟨t95, u96, M⟩ := bnd M
      refine lC 73 (eC [.tmp 67, .tmp 68, .tmp 70, .tmp 72, .const (.int .i64 0)] [.pointer (some ⟨g2, 0, none⟩), .int .i64 x11, .int .i64 (IntKind.i64.wrap (x36 + 1)), str x31, .int .i64 0] Try.func42) (impl_lexer_put.calls w29 H x1 g2 A4 c5 F7 x11 (IntKind.i64.wrap (x36 + 1)) x31 0 h6 b3 (St.own' (Fa := [F7, (is g2)]) (Fr := [F34]) S94) t95 u96) ?_
      rintro _ w97 ⟨A100, c101, F103, H98, rfl, h102, b104, T99⟩
      refine ⟨_, rfl, ?_⟩
      obtain ⟨S105, K106⟩ := St.call (Fa := [F7, (is g2)]) (Fr := [F34]) S94 T99
      have E107 := T99.ext
      refine wpList_nil (then_n (wp_ret (inb_r (inb_r (then_r (inb_r (then_r ?_)))))))
      obtain rfl := Option.some.inj M
      have S108 := S105.pull (F := F103) (Fr := [(is g2), F34]) 1 rfl rfl
      have S109 := S108.pull (F := (is g2)) (Fr := [F103, F34]) 1 rfl rfl
      have S110 := St.first (Fa := [(is g2), F103]) (Fr := [F34]) S109
      exact Go.Sy.ret0 rfl ⟨A100, c101, F103, H98, rfl, h102, b104, S110⟩
    replace M := ifn q52 M
    refine cF (bF q52) (wp_seq (wp_region_lit (lV 75 (eM (.int .u8 ((x1.s_.getD (x36 : Int).toNat (0 : UInt8)).toNat : Int))) (lV 76 (eEq .u8 ((x1.s_.getD (x36 : Int).toNat (0 : UInt8)).toNat : Int) 92) (lV 74 (eA (.bool (decide (((x1.s_.getD (x36 : Int).toNat (0 : UInt8)).toNat : Int) = 92)))) (wpList_nil (then_n ?_)))))))
    by_cases q111 : ((x1.s_.getD (x36 : Int).toNat (0 : UInt8)).toNat : Int) = 92
    · replace M := ifp q111 M
      refine cT (bT q111) (wp_seq (wp_region_lit (lV 78 (eM (.pointer (some ⟨g2, 0, none⟩)) (by exact e37)) (lV 79 (eM (.int .i64 x36) (by exact e41)) ?_))))
      obtain ⟨t112, u113, M⟩ := bnd M
      refine lC 80 (eC [.tmp 78, .tmp 79] [.pointer (some ⟨g2, 0, none⟩), .int .i64 x36] Try.func50) (by have l114 := h6.le; obtain ⟨H115, S116, E117, h118, z119⟩ := S42.frzRow h6; replace h35 := h35.ext E117; obtain ⟨H120, S121, E122, h123, z124⟩ := S116.frzBlk b3; replace h35 := h35.ext E122; exact (impl_lexer_escape.calls k47 w29 H120 x1 g2 A4 c5 x36 (h118.ext E122) l114 h123 S121.own0 t112 u113)) ?_
      rintro _ w125 ⟨rfl, C126⟩
      refine ⟨_, rfl, ?_⟩
      obtain ⟨S127, K128⟩ := S42.still C126
      replace h6 := h6.move (K128.at 0 rfl)
      replace b3 := K128.blk 1 rfl b3
      replace h35 := h35.move (K128.at 2 rfl)
      refine lV 77 (eM (.tuple #[str t112.1, .int .i64 t112.2.1, .bool t112.2.2])) (lV 81 (e_extract (vs := #[str t112.1, .int .i64 t112.2.1, .bool t112.2.2]) (v := str t112.1) (by kernel_rfl) rfl) (lV 82 (e_extract (vs := #[str t112.1, .int .i64 t112.2.1, .bool t112.2.2]) (v := .int .i64 t112.2.1) (by kernel_rfl) rfl) (lV 83 (e_extract (vs := #[str t112.1, .int .i64 t112.2.1, .bool t112.2.2]) (v := .bool t112.2.2) (by kernel_rfl) rfl) (lV 8 (eA (str t112.1)) (lV 9 (eA (.int .i64 t112.2.1)) (lV 10 (eA (.bool t112.2.2)) (wpList_nil ?_)))))))
      refine then_n (wp_seq (wp_seq (wp_region_lit (lV 84 (eM (.bool t112.2.2)) (lV 85 (e_notv (c := t112.2.2) (by kernel_rfl)) (wpList_nil (then_n ?_)))))))
      by_cases q129 : ¬ (t112.2.2 = true)
      · replace M := ifp q129 M
        refine cT (bT q129) (wp_seq (wp_region_lit (lV 86 (eM (.pointer (some ⟨g2, 0, none⟩)) (by exact e37)) (lV 87 (eM (.pointer (some ⟨g2, 0, none⟩)) (by exact e37)) (lV 88 (eN ⟨g2, 0, none⟩) (lV 89 (eD g2 0 1 1 Try.underlying42) (lV 90 (eL ⟨g2, 0 + 1, none⟩ (.int .i64 x1.at_) Try.underlying3 (blk_cell b3 rfl)) ?_)))))))
        have S130 := S127.pull (F := (is g2)) (Fr := [F7, F34]) 1 rfl rfl
        have S131 := S130.pull (F := F7) (Fr := [(is g2), F34]) 1 rfl rfl
        obtain ⟨t132, u133, M⟩ := bnd M
        refine lC 91 (eC [.tmp 86, .const (.int .i64 2), .tmp 90] [.pointer (some ⟨g2, 0, none⟩), .int .i64 2, .int .i64 x1.at_] Try.func37) (impl_lexer_fault.calls w125 H x1 g2 A4 c5 F7 2 x1.at_ h6 b3 (St.own' (Fa := [F7, (is g2)]) (Fr := [F34]) S131) t132 u133) ?_
        rintro _ w134 ⟨A137, c138, F140, H135, rfl, h139, b141, T136⟩
        refine ⟨_, rfl, ?_⟩
        obtain ⟨S142, K143⟩ := St.call (Fa := [F7, (is g2)]) (Fr := [F34]) S131 T136
        have E144 := T136.ext
        refine wpList_nil (then_n (wp_ret (then_r (inb_r (inb_r (then_r (inb_r ?_)))))))
        refine then_r ?_
        obtain rfl := Option.some.inj M
        have S145 := S142.pull (F := F140) (Fr := [(is g2), F34]) 1 rfl rfl
        have S146 := S145.pull (F := (is g2)) (Fr := [F140, F34]) 1 rfl rfl
        have S147 := St.first (Fa := [(is g2), F140]) (Fr := [F34]) S146
        exact Go.Sy.ret0 rfl ⟨A137, c138, F140, H135, rfl, h139, b141, S147⟩
      replace M := ifn q129 M
      refine cF (bF q129) (wp_skip (then_n (wp_seq (wp_region_lit (lV 92 (eM (.slice A32 x31.length c33) (by exact e40)) (lV 93 (eM (str t112.1)) ?_))))))
      obtain ⟨q148, M⟩ := chk M
      have S149 := S127.pull (F := F34) (Fr := [F7, (is g2)]) 2 rfl rfl
      have S150 := S149.unit
      have S151 := S150.pull (F := F34) (Fr := [no, F7, (is g2)]) 1 rfl rfl
      refine lve (d := 94) rfl rfl (by kernel_rfl) (e_append_str (n := x31.length) (xs := x31) (cap := c33) (A := A32) (ys := t112.1) (z := .int .u8 0) (bytes := 1) S151 Try.underlying23 Try.underlying9 (by kernel_rfl) rfl (by kernel_rfl) rfl (by kernel_rfl) h35 (show (x31.length + t112.1.length) * 1 ≤ _ by omega) (by decide)) ?_
      rintro _ w152 ⟨A153, c154, F155, rfl, h156, S157, K158⟩
      replace h6 := h6.move (K158.at 0 rfl)
      replace b3 := K158.blk 1 rfl b3
      refine lV 5 (eA (.slice A153 ((x31 ++ t112.1).length) c154)) (wpList_nil (then_n (wp_region_lit (lV 95 (eM (.int .i64 t112.2.1)) (lV 6 (eA (.int .i64 t112.2.1)) (wpList_nil (inb_n ?_)))))))
      refine inb_n (then_n ?_)
      have S159 := S157.pull (F := (is g2)) (Fr := [F155, F7]) 2 rfl rfl
      have S160 := S159.pull (F := F7) (Fr := [(is g2), F155]) 2 rfl rfl
      exact ⟨k47, (by omega), _, (x31 ++ t112.1), A153, c154, F155, t112.2.1, rfl, (by exact e37), (by exact e38), (by exact e39), (by kernel_rfl), (by kernel_rfl), h6, b3, h156, S160, M⟩
    replace M := ifn q111 M
    refine cF (bF q111) (wp_seq (wp_region_lit (lV 97 (eM (.int .u8 ((x1.s_.getD (x36 : Int).toNat (0 : UInt8)).toNat : Int))) ?_)))
    obtain ⟨t161, u162, M⟩ := bnd M
    refine lC 98 (eC [.tmp 97] [.int .u8 ((x1.s_.getD (x36 : Int).toNat (0 : UInt8)).toNat : Int)] Try.func51) (impl_isPrint.calls w29 H (x1.s_.getD (x36 : Int).toNat (0 : UInt8))  S42.own0 t161 u162) ?_
    rintro _ w163 ⟨rfl, C164⟩
    refine ⟨_, rfl, ?_⟩
    obtain ⟨S165, K166⟩ := S42.still C164
    replace h6 := h6.move (K166.at 0 rfl)
    replace b3 := K166.blk 1 rfl b3
    replace h35 := h35.move (K166.at 2 rfl)
    refine lV 96 (eA (.bool t161)) (wpList_nil (then_n ?_))
    by_cases q167 : t161 = true
    · replace M := ifp q167 M
      refine cT (bvt q167 (by kernel_rfl)) (wp_seq (wp_region_lit (lV 99 (eM (.slice A32 x31.length c33) (by exact e40)) (lV 100 (eM (.int .u8 ((x1.s_.getD (x36 : Int).toNat (0 : UInt8)).toNat : Int))) ?_))))
      refine lve (d := 101) rfl rfl (by kernel_rfl) (new_blk (v := fun g_ => .slice (some ⟨g_, 0, none⟩) 1 1) (cs := #[.int .u8 ((x1.s_.getD (x36 : Int).toNat (0 : UInt8)).toNat : Int)]) (t := 5) S165 (by kernel_rfl)) ?_
      rintro _ w168 ⟨g169, rfl, b170, S171, K172⟩
      replace h6 := h6.move (K172.at 0 rfl)
      replace b3 := K172.blk 1 rfl b3
      replace h35 := h35.move (K172.at 2 rfl)
      obtain ⟨q173, M⟩ := chk M
      have S174 := S171.pull (F := F34) (Fr := [(is g169), F7, (is g2)]) 3 rfl rfl
      have S175 := S174.unit
      have S176 := S175.pull (F := F34) (Fr := [no, (is g169), F7, (is g2)]) 1 rfl rfl
      refine lve (d := 102) rfl rfl (by kernel_rfl) (e_append (d := tByte) (n := x31.length) (xs := x31) (cap := c33) (A := A32) (ys := [(x1.s_.getD (x36 : Int).toNat (0 : UInt8))]) (A2 := (some ⟨g169, 0, none⟩)) (c2 := 1) (z := .int .u8 0) (bytes := 1) S176 Try.underlying23 (by kernel_rfl) rfl (by decide) (by kernel_rfl) rfl (by kernel_rfl) h35 (elsO_one1 rfl) (.inr (blk_news b170 rfl)) (show (x31.length + [(x1.s_.getD (x36 : Int).toNat (0 : UInt8))].length) * 1 ≤ _ by first | omega | (simp only [List.length_cons, List.length_nil]; omega)) (by decide)) ?_
      rintro _ w177 ⟨A178, c179, F180, rfl, h181, S182, K183⟩
      replace h6 := h6.move (K183.at 1 rfl)
      replace b3 := K183.blk 2 rfl b3
      refine lV 5 (eA (.slice A178 ((x31 ++ [(x1.s_.getD (x36 : Int).toNat (0 : UInt8))]).length) c179)) (wpList_nil (then_n (wp_region_lit (lV 103 (eM (.int .i64 x36) (by exact e41)) (lV 104 (eAdd .i64 x36 1) (lV 6 (eA (.int .i64 (IntKind.i64.wrap (x36 + 1)))) (wpList_nil ?_)))))))
      refine inb_n (inb_n (then_n ?_))
      have S184 := S182.pull (F := (is g2)) (Fr := [F180, (is g169), F7]) 3 rfl rfl
      have S185 := S184.pull (F := F7) (Fr := [(is g2), F180, (is g169)]) 3 rfl rfl
      have S186 := St.first (Fa := [F7, (is g2), F180]) (Fr := [(is g169)]) S185
      exact ⟨k47, (by omega), _, (x31 ++ [(x1.s_.getD (x36 : Int).toNat (0 : UInt8))]), A178, c179, F180, (IntKind.i64.wrap (x36 + 1)), rfl, (by exact e37), (by exact e38), (by exact e39), (by kernel_rfl), (by kernel_rfl), h6, b3, h181, S186, M⟩
    replace M := ifn q167 M
    refine cF (bvf q167 (by kernel_rfl)) (wp_seq (wp_region_lit (lV 32 (eM (.pointer (some ⟨g2, 0, none⟩)) (by exact e37)) (lV 33 (eM (.pointer (some ⟨g2, 0, none⟩)) (by exact e37)) (lV 34 (eN ⟨g2, 0, none⟩) (lV 35 (eD g2 0 1 1 Try.underlying42) (lV 36 (eL ⟨g2, 0 + 1, none⟩ (.int .i64 x1.at_) Try.underlying3 (blk_cell b3 rfl)) ?_)))))))
    have S187 := S165.pull (F := (is g2)) (Fr := [F7, F34]) 1 rfl rfl
    have S188 := S187.pull (F := F7) (Fr := [(is g2), F34]) 1 rfl rfl
    obtain ⟨t189, u190, M⟩ := bnd M
    refine lC 37 (eC [.tmp 32, .const (.int .i64 2), .tmp 36] [.pointer (some ⟨g2, 0, none⟩), .int .i64 2, .int .i64 x1.at_] Try.func37) (impl_lexer_fault.calls w163 H x1 g2 A4 c5 F7 2 x1.at_ h6 b3 (St.own' (Fa := [F7, (is g2)]) (Fr := [F34]) S188) t189 u190) ?_
    rintro _ w191 ⟨A194, c195, F197, H192, rfl, h196, b198, T193⟩
    refine ⟨_, rfl, ?_⟩
    obtain ⟨S199, K200⟩ := St.call (Fa := [F7, (is g2)]) (Fr := [F34]) S188 T193
    have E201 := T193.ext
    refine wpList_nil (then_n (wp_ret (inb_r (inb_r (then_r (inb_r (then_r ?_)))))))
    obtain rfl := Option.some.inj M
    have S202 := S199.pull (F := F197) (Fr := [(is g2), F34]) 1 rfl rfl
    have S203 := S202.pull (F := (is g2)) (Fr := [F197, F34]) 1 rfl rfl
    have S204 := St.first (Fa := [(is g2), F197]) (Fr := [F34]) S203
    exact Go.Sy.ret0 rfl ⟨A194, c195, F197, H192, rfl, h196, b198, S204⟩
  replace M := ifn q50 M
  refine cF (bF q50) (wp_exit (then_e (then_e (inb_hit (then_n (wp_region_lit (lV 105 (eM (.pointer (some ⟨g2, 0, none⟩)) (by exact e37)) ?_)))))))
  refine lV 106 (eM (.pointer (some ⟨g2, 0, none⟩)) (by exact e37)) (lV 107 (eN ⟨g2, 0, none⟩) (lV 108 (eD g2 0 1 1 Try.underlying42) (lV 109 (eL ⟨g2, 0 + 1, none⟩ (.int .i64 x1.at_) Try.underlying3 (blk_cell b3 rfl)) ?_)))
  have S205 := S42.pull (F := (is g2)) (Fr := [F7, F34]) 1 rfl rfl
  have S206 := S205.pull (F := F7) (Fr := [(is g2), F34]) 1 rfl rfl
  obtain ⟨t207, u208, M⟩ := bnd M
  refine lC 110 (eC [.tmp 105, .const (.int .i64 2), .tmp 109] [.pointer (some ⟨g2, 0, none⟩), .int .i64 2, .int .i64 x1.at_] Try.func37) (impl_lexer_fault.calls w29 H x1 g2 A4 c5 F7 2 x1.at_ h6 b3 (St.own' (Fa := [F7, (is g2)]) (Fr := [F34]) S206) t207 u208) ?_
  rintro _ w209 ⟨A212, c213, F215, H210, rfl, h214, b216, T211⟩
  refine ⟨_, rfl, ?_⟩
  obtain ⟨S217, K218⟩ := St.call (Fa := [F7, (is g2)]) (Fr := [F34]) S206 T211
  have E219 := T211.ext
  refine wpList_nil ?_
  obtain rfl := Option.some.inj M
  have S220 := S217.pull (F := F215) (Fr := [(is g2), F34]) 1 rfl rfl
  have S221 := S220.pull (F := (is g2)) (Fr := [F215, F34]) 1 rfl rfl
  have S222 := St.first (Fa := [(is g2), F215]) (Fr := [F34]) S221
  exact end0 rfl ⟨A212, c213, F215, H210, rfl, h214, b216, S222⟩
end Go.Proofs.Ytdkbfcmekppnmaa
