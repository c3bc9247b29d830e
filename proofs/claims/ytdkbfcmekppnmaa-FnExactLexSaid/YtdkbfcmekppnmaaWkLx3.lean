import Derived.Test.YtdkbfcmekppnmaaWkLx2
namespace Go.Proofs.Ytdkbfcmekppnmaa
open Go.Sx Go.Sy
attribute [local irreducible] Go.wpList Go.wpStill Go.wpQuiet Go.Code.wp
set_option maxRecDepth 100000
set_option maxHeartbeats 1000000
set_option linter.unusedVariables false
set_option linter.unusedSimpArgs false

/-! impl_lexer_blanks -/
mutual
def impl_lexer_blanks.l0 : Nat → GLexer → Int → Option GLexer
  | 0, _, _ => none
  | k17 + 1, x1, x10 => (if x10 < (x1.s_.length : Int) then (if x1.code_ = 0 then (if 0 ≤ x10 then ((impl_isBlank.f (x1.s_.getD (x10 : Int).toNat (0 : UInt8))).bind fun t27 => (if t27 = true then (impl_lexer_blanks.l0 k17 x1 (IntKind.i64.wrap (x10 + 1))) else (if ((x1.s_.getD (x10 : Int).toNat (0 : UInt8)).toNat : Int) = 37 then (impl_lexer_blanks.l1 k17 x1 x10) else (if ((x1.s_.getD (x10 : Int).toNat (0 : UInt8)).toNat : Int) = 47 then ((impl_lexer_peek.f (⟨x1.s_, x10, x1.tokens_, x1.code_, x1.place_⟩ : GLexer) 1).bind fun t69 => (if (t69.toNat : Int) = 42 then (impl_lexer_blanks.l2 k17 x1 x10 (IntKind.i64.wrap (x10 + 2))) else some (⟨x1.s_, x10, x1.tokens_, x1.code_, x1.place_⟩ : GLexer))) else some (⟨x1.s_, x10, x1.tokens_, x1.code_, x1.place_⟩ : GLexer))))) else none) else some (⟨x1.s_, x10, x1.tokens_, x1.code_, x1.place_⟩ : GLexer)) else some (⟨x1.s_, x10, x1.tokens_, x1.code_, x1.place_⟩ : GLexer))
def impl_lexer_blanks.l1 : Nat → GLexer → Int → Option GLexer
  | 0, _, _ => none
  | k55 + 1, x1, x43 => (if x43 < (x1.s_.length : Int) then (if 0 ≤ x43 then (if ((x1.s_.getD (x43 : Int).toNat (0 : UInt8)).toNat : Int) ≠ 10 then (impl_lexer_blanks.l1 k55 x1 (IntKind.i64.wrap (x43 + 1))) else (impl_lexer_blanks.l0 k55 x1 x43)) else none) else (impl_lexer_blanks.l0 k55 x1 x43))
def impl_lexer_blanks.l2 : Nat → GLexer → Int → Int → Option GLexer
  | 0, _, _, _ => none
  | k105 + 1, x1, x10, x89 => (if (IntKind.i64.wrap (x89 + 1)) < (x1.s_.length : Int) then (if 0 ≤ x89 then (if x89 ≤ (IntKind.i64.wrap (x89 + 2)) then (if (IntKind.i64.wrap (x89 + 2)) ≤ (x1.s_.length : Int) then (if ((x1.s_.drop (x89 : Int).toNat).take (((IntKind.i64.wrap (x89 + 2)) : Int).toNat - (x89 : Int).toNat)) ≠ ([42, 47] : List UInt8) then (impl_lexer_blanks.l2 k105 x1 x10 (IntKind.i64.wrap (x89 + 1))) else (if (IntKind.i64.wrap (x89 + 1)) ≥ (x1.s_.length : Int) then ((impl_lexer_fault.f (⟨x1.s_, x10, x1.tokens_, x1.code_, x1.place_⟩ : GLexer) 2 x10).bind fun t114 => some t114) else (impl_lexer_blanks.l0 k105 x1 (IntKind.i64.wrap (x89 + 2))))) else none) else none) else none) else (if (IntKind.i64.wrap (x89 + 1)) ≥ (x1.s_.length : Int) then ((impl_lexer_fault.f (⟨x1.s_, x10, x1.tokens_, x1.code_, x1.place_⟩ : GLexer) 2 x10).bind fun t136 => some t136) else (impl_lexer_blanks.l0 k105 x1 (IntKind.i64.wrap (x89 + 2)))))
end
def impl_lexer_blanks.f (k : Nat) (x1 : GLexer) : Option GLexer := (impl_lexer_blanks.l0 k x1 x1.at_)
theorem impl_lexer_blanks.calls (k : Nat) (w : World) (H : Hp) (x1 : GLexer) (g2 : Nat) (A4 : Option Addr) (c5 : Nat) (F7 : Foot) (h6 : Row st37 37 H (hp w) F7 A4 c5 x1.tokens_) (b3 : w.heap[g2]? = some (.cells #[str x1.s_, .int .i64 x1.at_, .slice A4 x1.tokens_.length c5, .int .i64 x1.code_, .int .i64 x1.place_] 42 (0, 0))) (S : Own [F7, (is g2)] H w) (r : GLexer) (M : impl_lexer_blanks.f k x1 = some r) :
    Calls Try.prog 21 #[.pointer (some ⟨g2, 0, none⟩)] w (fun e e_w => ∃ (A_1 : Option Addr) (c_1 : Nat) (F_1 : Foot) (H_ : Hp), e = .returned (.tuple #[]) ∧ Row st37 37 H_ (hp e_w) F_1 A_1 c_1 r.tokens_ ∧ e_w.heap[g2]? = some (.cells #[str r.s_, .int .i64 r.at_, .slice A_1 r.tokens_.length c_1, .int .i64 r.code_, .int .i64 r.place_] 42 (0, 0)) ∧ St (anyOf [F7, (is g2)]) H w [(is g2), F_1] H_ e_w) := by
  rw [impl_lexer_blanks.f] at M
  refine enter (l := [.pointer (some ⟨g2, 0, none⟩)]) 125 Try.func21 rfl rfl rfl ?_
  have S0_ := S.st
  refine wp_block ?_
  refine wp_loop_g (fun k15 a16 w8 => ∃ (f9 : Nat → Value) (x10 : Int), a16 = mk 125 f9 ∧ f9 0 = .pointer (some ⟨g2, 0, none⟩) ∧ Row st37 37 H (hp w8) F7 A4 c5 x1.tokens_ ∧ w8.heap[g2]? = some (.cells #[str x1.s_, .int .i64 x10, .slice A4 x1.tokens_.length c5, .int .i64 x1.code_, .int .i64 x1.place_] 42 (0, 0)) ∧ St (anyOf [F7, (is g2)]) H w [F7, (is g2)] H w8 ∧ impl_lexer_blanks.l0 k15 x1 x10 = some r) k ⟨_, x1.at_, rfl, (by kernel_rfl), h6, b3, S0_, M⟩ ?_
  clear M
  rintro k15 a16 w8 ⟨f9, x10, rfl, e11, h6, b3, S12, M⟩
  rcases k15 with _ | k17
  · rw [impl_lexer_blanks.l0] at M
    cases M
  rw [impl_lexer_blanks.l0] at M
  refine wp_seq (wp_seq ?_)
  refine region_still (by kernel_rfl) (by kernel_rfl) S12 ?_
  intro w18 S19 K20
  replace h6 := h6.move (K20.at 0 rfl)
  replace b3 := K20.blk 1 rfl b3
  refine sV 4 (eM (.pointer (some ⟨g2, 0, none⟩)) (by exact e11)) (sV 5 (eN ⟨g2, 0, none⟩) (sV 6 (eD g2 0 1 1 Try.underlying42) (sV 7 (eL ⟨g2, 0 + 1, none⟩ (.int .i64 x10) Try.underlying3 (blk_cell b3 rfl)) (sV 8 (eM (.pointer (some ⟨g2, 0, none⟩)) (by exact e11)) (sV 9 (eN ⟨g2, 0, none⟩) (sV 10 (eD g2 0 0 1 Try.underlying42) (sV 11 (eL ⟨g2, 0 + 0, none⟩ (str x1.s_) Try.underlying9 (blk_cell b3 rfl)) ?_)))))))
  refine sV 12 (e_slen (p := x1.s_) Try.underlying9 (by kernel_rfl)) (sV 13 (eLt .i64 x10 (x1.s_.length : Int)) (sV 14 (eM (.bool (decide (x10 < (x1.s_.length : Int))))) ?_))
  by_cases q21 : x10 < (x1.s_.length : Int)
  · replace M := ifp q21 M
    refine sG 15 14 (bT q21) (eM (.pointer (some ⟨g2, 0, none⟩)) (by exact e11)) (sG 16 14 (bT q21) (eN ⟨g2, 0, none⟩) (sG 17 14 (bT q21) (eD g2 0 3 1 Try.underlying42) (sG 18 14 (bT q21) (eL ⟨g2, 0 + 3, none⟩ (.int .i64 x1.code_) Try.underlying3 (blk_cell b3 rfl)) (sG 19 14 (bT q21) (eEq .i64 x1.code_ 0) (sV 20 (eT (.bool (decide (x1.code_ = 0))) (bT q21)) (wpStill_nil (then_n ?_)))))))
    by_cases q22 : x1.code_ = 0
    · replace M := ifp q22 M
      refine cT (bT q22) (wp_skip (then_n (wp_block (wp_seq ?_))))
      refine region_still (by kernel_rfl) (by kernel_rfl) S19 ?_
      intro w23 S24 K25
      replace h6 := h6.move (K25.at 0 rfl)
      replace b3 := K25.blk 1 rfl b3
      refine sV 21 (eM (.pointer (some ⟨g2, 0, none⟩)) (by exact e11)) (sV 22 (eN ⟨g2, 0, none⟩) (sV 23 (eD g2 0 0 1 Try.underlying42) (sV 24 (eL ⟨g2, 0 + 0, none⟩ (str x1.s_) Try.underlying9 (blk_cell b3 rfl)) (sV 25 (eM (.pointer (some ⟨g2, 0, none⟩)) (by exact e11)) (sV 26 (eN ⟨g2, 0, none⟩) (sV 27 (eD g2 0 1 1 Try.underlying42) (sV 28 (eL ⟨g2, 0 + 1, none⟩ (.int .i64 x10) Try.underlying3 (blk_cell b3 rfl)) ?_)))))))
      obtain ⟨q26, M⟩ := chk M
      refine sV 29 (e_sindex (p := x1.s_) (i := x10) (k := .i64) Try.underlying9 (by kernel_rfl) (by kernel_rfl) q26 q21) (sV 2 (eA (.int .u8 ((x1.s_.getD (x10 : Int).toNat (0 : UInt8)).toNat : Int))) (wpStill_nil (then_n (wp_block (wp_seq (wp_region_lit (lV 31 (eM (.int .u8 ((x1.s_.getD (x10 : Int).toNat (0 : UInt8)).toNat : Int))) ?_)))))))
      obtain ⟨t27, u28, M⟩ := bnd M
      refine lC 32 (eC [.tmp 31] [.int .u8 ((x1.s_.getD (x10 : Int).toNat (0 : UInt8)).toNat : Int)] Try.func35) (impl_isBlank.calls w23 H (x1.s_.getD (x10 : Int).toNat (0 : UInt8))  S24.own0 t27 u28) ?_
      rintro _ w29 ⟨rfl, C30⟩
      refine ⟨_, rfl, ?_⟩
      obtain ⟨S31, K32⟩ := S24.still C30
      replace h6 := h6.move (K32.at 0 rfl)
      replace b3 := K32.blk 1 rfl b3
      refine lV 30 (eA (.bool t27)) (wpList_nil (then_n ?_))
      by_cases q33 : t27 = true
      · replace M := ifp q33 M
        refine cT (bvt q33 (by kernel_rfl)) (wp_region_lit (lV 33 (eM (.pointer (some ⟨g2, 0, none⟩)) (by exact e11)) (lV 34 (eN ⟨g2, 0, none⟩) (lV 35 (eD g2 0 1 1 Try.underlying42) (lV 36 (eL ⟨g2, 0 + 1, none⟩ (.int .i64 x10) Try.underlying3 (blk_cell b3 rfl)) (lV 37 (eAdd .i64 x10 1) (lV 38 (eN ⟨g2, 0, none⟩) ?_)))))))
        refine lV 39 (eD g2 0 1 1 Try.underlying42) ?_
        have S34 := S31.pull (F := (is g2)) (Fr := [F7]) 1 rfl rfl
        refine lE (eS g2 (0 + 1) (.int .i64 (IntKind.i64.wrap (x10 + 1))) #[str x1.s_, .int .i64 (IntKind.i64.wrap (x10 + 1)), .slice A4 x1.tokens_.length c5, .int .i64 x1.code_, .int .i64 x1.place_] [.int .i64 (IntKind.i64.wrap (x10 + 1))] S34 b3) ?_
        rintro w35 ⟨b36, S37, K38⟩
        replace h6 := h6.move (K38.at 0 rfl)
        clear b3
        refine wpList_nil (inb_n (inb_n (then_n ?_)))
        have S39 := S37.pull (F := F7) (Fr := [(is g2)]) 1 rfl rfl
        exact ⟨k17, (by omega), _, (IntKind.i64.wrap (x10 + 1)), rfl, (by exact e11), h6, b36, S39, M⟩
      replace M := ifn q33 M
      refine cF (bvf q33 (by kernel_rfl)) (wp_seq (wp_region_lit (lV 41 (eM (.int .u8 ((x1.s_.getD (x10 : Int).toNat (0 : UInt8)).toNat : Int))) (lV 42 (eEq .u8 ((x1.s_.getD (x10 : Int).toNat (0 : UInt8)).toNat : Int) 37) (lV 40 (eA (.bool (decide (((x1.s_.getD (x10 : Int).toNat (0 : UInt8)).toNat : Int) = 37)))) (wpList_nil (then_n ?_)))))))
      by_cases q40 : ((x1.s_.getD (x10 : Int).toNat (0 : UInt8)).toNat : Int) = 37
      · replace M := ifp q40 M
        refine cT (bT q40) (wp_block ?_)
        refine wp_loop_g (fun k53 a54 w41 => ∃ (f42 : Nat → Value) (x43 : Int), k53 ≤ k17 ∧ a54 = mk 125 f42 ∧ f42 0 = .pointer (some ⟨g2, 0, none⟩) ∧ f42 15 = .pointer (some ⟨g2, 0, none⟩) ∧ f42 16 = .pointer (some ⟨g2, 0, none⟩) ∧ f42 17 = .pointer (some ⟨g2, 0 + 3, none⟩) ∧ f42 18 = .int .i64 x1.code_ ∧ f42 19 = .bool (decide (x1.code_ = 0)) ∧ Row st37 37 H (hp w41) F7 A4 c5 x1.tokens_ ∧ w41.heap[g2]? = some (.cells #[str x1.s_, .int .i64 x43, .slice A4 x1.tokens_.length c5, .int .i64 x1.code_, .int .i64 x1.place_] 42 (0, 0)) ∧ St (anyOf [F7, (is g2)]) H w [F7, (is g2)] H w41 ∧ impl_lexer_blanks.l1 k53 x1 x43 = some r) k17 ⟨_, x10, (by omega), rfl, (by exact e11), (by kernel_rfl), (by kernel_rfl), (by kernel_rfl), (by kernel_rfl), (by kernel_rfl), h6, b3, S31, M⟩ ?_
        clear M
        rintro k53 a54 w41 ⟨f42, x43, z52, rfl, e44, e45, e46, e47, e48, e49, h6, b3, S50, M⟩
        rcases k53 with _ | k55
        · rw [impl_lexer_blanks.l1] at M
          cases M
        rw [impl_lexer_blanks.l1] at M
        refine wp_seq (wp_seq ?_)
        refine region_still (by kernel_rfl) (by kernel_rfl) S50 ?_
        intro w56 S57 K58
        replace h6 := h6.move (K58.at 0 rfl)
        replace b3 := K58.blk 1 rfl b3
        refine sV 43 (eM (.pointer (some ⟨g2, 0, none⟩)) (by exact e44)) (sV 44 (eN ⟨g2, 0, none⟩) (sV 45 (eD g2 0 1 1 Try.underlying42) (sV 46 (eL ⟨g2, 0 + 1, none⟩ (.int .i64 x43) Try.underlying3 (blk_cell b3 rfl)) (sV 47 (eM (.pointer (some ⟨g2, 0, none⟩)) (by exact e44)) (sV 48 (eN ⟨g2, 0, none⟩) (sV 49 (eD g2 0 0 1 Try.underlying42) (sV 50 (eL ⟨g2, 0 + 0, none⟩ (str x1.s_) Try.underlying9 (blk_cell b3 rfl)) ?_)))))))
        refine sV 51 (e_slen (p := x1.s_) Try.underlying9 (by kernel_rfl)) (sV 52 (eLt .i64 x43 (x1.s_.length : Int)) (sV 53 (eM (.bool (decide (x43 < (x1.s_.length : Int))))) ?_))
        by_cases q59 : x43 < (x1.s_.length : Int)
        · replace M := ifp q59 M
          refine sG 54 53 (bT q59) (eM (.pointer (some ⟨g2, 0, none⟩)) (by exact e44)) (sG 55 53 (bT q59) (eN ⟨g2, 0, none⟩) (sG 56 53 (bT q59) (eD g2 0 0 1 Try.underlying42) (sG 57 53 (bT q59) (eL ⟨g2, 0 + 0, none⟩ (str x1.s_) Try.underlying9 (blk_cell b3 rfl)) (sG 58 53 (bT q59) (eM (.pointer (some ⟨g2, 0, none⟩)) (by exact e44)) (sG 59 53 (bT q59) (eN ⟨g2, 0, none⟩) (sG 60 53 (bT q59) (eD g2 0 1 1 Try.underlying42) (sG 61 53 (bT q59) (eL ⟨g2, 0 + 1, none⟩ (.int .i64 x43) Try.underlying3 (blk_cell b3 rfl)) ?_)))))))
          obtain ⟨q60, M⟩ := chk M
          refine sG 62 53 (bT q59) (e_sindex (p := x1.s_) (i := x43) (k := .i64) Try.underlying9 (by kernel_rfl) (by kernel_rfl) q60 q59) (sG 63 53 (bT q59) (eNe .u8 ((x1.s_.getD (x43 : Int).toNat (0 : UInt8)).toNat : Int) 10) (sV 64 (eT (.bool (decide (((x1.s_.getD (x43 : Int).toNat (0 : UInt8)).toNat : Int) ≠ 10))) (bT q59)) (wpStill_nil (then_n ?_))))
          by_cases q61 : ((x1.s_.getD (x43 : Int).toNat (0 : UInt8)).toNat : Int) ≠ 10
          · replace M := ifp q61 M
            refine cT (bT q61) (wp_skip (then_n (wp_block (wp_region_lit (lV 65 (eM (.pointer (some ⟨g2, 0, none⟩)) (by exact e44)) (lV 66 (eN ⟨g2, 0, none⟩) (lV 67 (eD g2 0 1 1 Try.underlying42) ?_)))))))
            refine lV 68 (eL ⟨g2, 0 + 1, none⟩ (.int .i64 x43) Try.underlying3 (blk_cell b3 rfl)) (lV 69 (eAdd .i64 x43 1) (lV 70 (eN ⟨g2, 0, none⟩) (lV 71 (eD g2 0 1 1 Try.underlying42) ?_)))
            have S62 := S57.pull (F := (is g2)) (Fr := [F7]) 1 rfl rfl
            refine lE (eS g2 (0 + 1) (.int .i64 (IntKind.i64.wrap (x43 + 1))) #[str x1.s_, .int .i64 (IntKind.i64.wrap (x43 + 1)), .slice A4 x1.tokens_.length c5, .int .i64 x1.code_, .int .i64 x1.place_] [.int .i64 (IntKind.i64.wrap (x43 + 1))] S62 b3) ?_
            rintro w63 ⟨b64, S65, K66⟩
            replace h6 := h6.move (K66.at 0 rfl)
            clear b3
            refine wpList_nil (inb_n (then_n ?_))
            have S67 := S65.pull (F := F7) (Fr := [(is g2)]) 1 rfl rfl
            exact ⟨k55, (by omega), _, (IntKind.i64.wrap (x43 + 1)), (by omega), rfl, (by exact e44), (by exact e45), (by exact e46), (by exact e47), (by exact e48), (by exact e49), h6, b64, S67, M⟩
          replace M := ifn q61 M
          refine cF (bF q61) (wp_exit (then_e (then_e (inb_hit (inb_n (inb_n (then_n ?_)))))))
          exact ⟨k55, (by omega), _, x43, rfl, (by exact e44), h6, b3, S57, M⟩
        replace M := ifn q59 M
        refine sK 53 false (bF q59) ?_
        refine sK 53 false (bF q59) ?_
        refine sK 53 false (bF q59) ?_
        refine sK 53 false (bF q59) ?_
        refine sK 53 false (bF q59) ?_
        refine sK 53 false (bF q59) ?_
        refine sK 53 false (bF q59) ?_
        refine sK 53 false (bF q59) ?_
        refine sK 53 false (bF q59) ?_
        refine sK 53 false (bF q59) ?_
        refine sV 64 (eF (.bool false) (bF q59)) (wpStill_nil (then_n (cond_f rfl (by kernel_rfl) (wp_exit (then_e (then_e (inb_hit ?_)))))))
        refine inb_n (inb_n (then_n ?_))
        exact ⟨k55, (by omega), _, x43, rfl, (by exact e44), h6, b3, S57, M⟩
      replace M := ifn q40 M
      refine cF (bF q40) (wp_seq (wp_region_lit (lV 73 (eM (.int .u8 ((x1.s_.getD (x10 : Int).toNat (0 : UInt8)).toNat : Int))) (lV 74 (eEq .u8 ((x1.s_.getD (x10 : Int).toNat (0 : UInt8)).toNat : Int) 47) (lV 75 (eM (.bool (decide (((x1.s_.getD (x10 : Int).toNat (0 : UInt8)).toNat : Int) = 47)))) ?_)))))
      by_cases q68 : ((x1.s_.getD (x10 : Int).toNat (0 : UInt8)).toNat : Int) = 47
      · replace M := ifp q68 M
        refine lG 76 75 (bT q68) (eM (.pointer (some ⟨g2, 0, none⟩)) (by exact e11)) ?_
        obtain ⟨t69, u70, M⟩ := bnd M
        refine lcallg (d := 77) (t := 75) rfl (by kernel_rfl) rfl (bT q68) rfl (by kernel_rfl) (eC [.tmp 76, .const (.int .i64 1)] [.pointer (some ⟨g2, 0, none⟩), .int .i64 1] Try.func36) (by have l71 := h6.le; obtain ⟨H72, S73, E74, h75, z76⟩ := S31.frzRow h6; obtain ⟨H77, S78, E79, h80, z81⟩ := S73.frzBlk b3; exact (impl_lexer_peek.calls w29 H77 (⟨x1.s_, x10, x1.tokens_, x1.code_, x1.place_⟩ : GLexer) g2 A4 c5 1 (h75.ext E79) l71 h80 S78.own0 t69 u70)) ?_
        rintro _ w82 ⟨rfl, C83⟩
        refine ⟨_, rfl, ?_⟩
        obtain ⟨S84, K85⟩ := S31.still C83
        replace h6 := h6.move (K85.at 0 rfl)
        replace b3 := K85.blk 1 rfl b3
        refine lG 78 75 (bT q68) (eEq .u8 (t69.toNat : Int) 42) (lV 79 (eT (.bool (decide ((t69.toNat : Int) = 42))) (bT q68)) (lV 72 (eA (.bool (decide ((t69.toNat : Int) = 42)))) (wpList_nil (then_n ?_))))
        by_cases q86 : (t69.toNat : Int) = 42
        · replace M := ifp q86 M
          refine cT (bT q86) (wp_seq (wp_region_lit (lV 80 (eM (.pointer (some ⟨g2, 0, none⟩)) (by exact e11)) (lV 81 (eN ⟨g2, 0, none⟩) (lV 82 (eD g2 0 1 1 Try.underlying42) (lV 83 (eL ⟨g2, 0 + 1, none⟩ (.int .i64 x10) Try.underlying3 (blk_cell b3 rfl)) (lV 84 (eAdd .i64 x10 2) ?_)))))))
          refine lV 3 (eA (.int .i64 (IntKind.i64.wrap (x10 + 2)))) (wpList_nil (then_n (wp_seq (wp_block ?_))))
          refine wp_loop_g (fun k103 a104 w87 => ∃ (f88 : Nat → Value) (x89 : Int), k103 ≤ k17 ∧ a104 = mk 125 f88 ∧ f88 0 = .pointer (some ⟨g2, 0, none⟩) ∧ f88 3 = .int .i64 x89 ∧ f88 15 = .pointer (some ⟨g2, 0, none⟩) ∧ f88 16 = .pointer (some ⟨g2, 0, none⟩) ∧ f88 17 = .pointer (some ⟨g2, 0 + 3, none⟩) ∧ f88 18 = .int .i64 x1.code_ ∧ f88 19 = .bool (decide (x1.code_ = 0)) ∧ f88 76 = .pointer (some ⟨g2, 0, none⟩) ∧ f88 77 = .int .u8 (t69.toNat : Int) ∧ f88 78 = .bool (decide ((t69.toNat : Int) = 42)) ∧ Row st37 37 H (hp w87) F7 A4 c5 x1.tokens_ ∧ w87.heap[g2]? = some (.cells #[str x1.s_, .int .i64 x10, .slice A4 x1.tokens_.length c5, .int .i64 x1.code_, .int .i64 x1.place_] 42 (0, 0)) ∧ St (anyOf [F7, (is g2)]) H w [F7, (is g2)] H w87 ∧ impl_lexer_blanks.l2 k103 x1 x10 x89 = some r) k17 ⟨_, (IntKind.i64.wrap (x10 + 2)), (by omega), rfl, (by exact e11), (by kernel_rfl), (by kernel_rfl), (by kernel_rfl), (by kernel_rfl), (by kernel_rfl), (by kernel_rfl), (by kernel_rfl), (by kernel_rfl), (by kernel_rfl), h6, b3, S84, M⟩ ?_
          clear M
          rintro k103 a104 w87 ⟨f88, x89, z102, rfl, e90, e91, e92, e93, e94, e95, e96, e97, e98, e99, h6, b3, S100, M⟩
          rcases k103 with _ | k105
          · rw [impl_lexer_blanks.l2] at M
            cases M
          rw [impl_lexer_blanks.l2] at M
          refine wp_seq (wp_seq (wp_region_lit (lV 85 (eM (.int .i64 x89) (by exact e91)) (lV 86 (eAdd .i64 x89 1) (lV 87 (eM (.pointer (some ⟨g2, 0, none⟩)) (by exact e90)) (lV 88 (eN ⟨g2, 0, none⟩) (lV 89 (eD g2 0 0 1 Try.underlying42) ?_)))))))
          refine lV 90 (eL ⟨g2, 0 + 0, none⟩ (str x1.s_) Try.underlying9 (blk_cell b3 rfl)) (lV 91 (e_slen (p := x1.s_) Try.underlying9 (by kernel_rfl)) (lV 92 (eLt .i64 (IntKind.i64.wrap (x89 + 1)) (x1.s_.length : Int)) (lV 93 (eM (.bool (decide ((IntKind.i64.wrap (x89 + 1)) < (x1.s_.length : Int))))) ?_)))
          by_cases q106 : (IntKind.i64.wrap (x89 + 1)) < (x1.s_.length : Int)
          · replace M := ifp q106 M
            refine lG 94 93 (bT q106) (eM (.pointer (some ⟨g2, 0, none⟩)) (by exact e90)) (lG 95 93 (bT q106) (eN ⟨g2, 0, none⟩) (lG 96 93 (bT q106) (eD g2 0 0 1 Try.underlying42) (lG 97 93 (bT q106) (eL ⟨g2, 0 + 0, none⟩ (str x1.s_) Try.underlying9 (blk_cell b3 rfl)) (lG 98 93 (bT q106) (eM (.int .i64 x89) (by exact e91)) (lG 99 93 (bT q106) (eM (.int .i64 x89) (by exact e91)) (lG 100 93 (bT q106) (eAdd .i64 x89 2) ?_))))))
            obtain ⟨q107, M⟩ := chk M
            obtain ⟨q108, M⟩ := chk M
            obtain ⟨q109, M⟩ := chk M
            refine lG 101 93 (bT q106) (e_sslice_lh (p := x1.s_) (a := x89) (b := (IntKind.i64.wrap (x89 + 2))) (k := .i64) (k2 := .i64) Try.underlying9 (by kernel_rfl) (by kernel_rfl) (by kernel_rfl) q107 q108 q109) (lG 102 93 (bT q106) (e_sneq (p := ((x1.s_.drop (x89 : Int).toNat).take (((IntKind.i64.wrap (x89 + 2)) : Int).toNat - (x89 : Int).toNat))) (q := ([42, 47] : List UInt8)) (by kernel_rfl) rfl) (lV 103 (eT (.bool (decide (((x1.s_.drop (x89 : Int).toNat).take (((IntKind.i64.wrap (x89 + 2)) : Int).toNat - (x89 : Int).toNat)) ≠ ([42, 47] : List UInt8)))) (bT q106)) (wpList_nil (then_n ?_))))
            by_cases q110 : ((x1.s_.drop (x89 : Int).toNat).take (((IntKind.i64.wrap (x89 + 2)) : Int).toNat - (x89 : Int).toNat)) ≠ ([42, 47] : List UInt8)
            · replace M := ifp q110 M
              refine cT (bT q110) (wp_skip (then_n (wp_block (wp_region_lit (lV 104 (eM (.int .i64 x89) (by exact e91)) (lV 105 (eAdd .i64 x89 1) (lV 3 (eA (.int .i64 (IntKind.i64.wrap (x89 + 1)))) ?_)))))))
              refine wpList_nil (inb_n (then_n ?_))
              exact ⟨k105, (by omega), _, (IntKind.i64.wrap (x89 + 1)), (by omega), rfl, (by exact e90), (by kernel_rfl), (by exact e92), (by exact e93), (by exact e94), (by exact e95), (by exact e96), (by exact e97), (by exact e98), (by exact e99), h6, b3, S100, M⟩
            replace M := ifn q110 M
            refine cF (bF q110) (wp_exit (then_e (then_e (inb_hit (then_n (wp_seq (wp_seq ?_)))))))
            refine wp_region_lit (lV 106 (eM (.int .i64 x89) (by exact e91)) (lV 107 (eAdd .i64 x89 1) (lV 108 (eM (.pointer (some ⟨g2, 0, none⟩)) (by exact e90)) (lV 109 (eN ⟨g2, 0, none⟩) (lV 110 (eD g2 0 0 1 Try.underlying42) (lV 111 (eL ⟨g2, 0 + 0, none⟩ (str x1.s_) Try.underlying9 (blk_cell b3 rfl)) (lV 112 (e_slen (p := x1.s_) Try.underlying9 (by kernel_rfl)) ?_)))))))
            refine lV 113 (e_geq (k := .i64) (a := (IntKind.i64.wrap (x89 + 1))) (b := (x1.s_.length : Int)) (by kernel_rfl) (by kernel_rfl)) (wpList_nil (then_n ?_))
            by_cases q111 : (IntKind.i64.wrap (x89 + 1)) ≥ (x1.s_.length : Int)
            · replace M := ifp q111 M
              refine cT (bT q111) (wp_seq (wp_region_lit (lV 114 (eM (.pointer (some ⟨g2, 0, none⟩)) (by exact e90)) (lV 115 (eM (.pointer (some ⟨g2, 0, none⟩)) (by exact e90)) (lV 116 (eN ⟨g2, 0, none⟩) (lV 117 (eD g2 0 1 1 Try.underlying42) (lV 118 (eL ⟨g2, 0 + 1, none⟩ (.int .i64 x10) Try.underlying3 (blk_cell b3 rfl)) ?_)))))))
              have S112 := S100.pull (F := (is g2)) (Fr := [F7]) 1 rfl rfl
              have S113 := S112.pull (F := F7) (Fr := [(is g2)]) 1 rfl rfl
              obtain ⟨t114, u115, M⟩ := bnd M
              refine lC 119 (eC [.tmp 114, .const (.int .i64 2), .tmp 118] [.pointer (some ⟨g2, 0, none⟩), .int .i64 2, .int .i64 x10] Try.func37) (impl_lexer_fault.calls w87 H (⟨x1.s_, x10, x1.tokens_, x1.code_, x1.place_⟩ : GLexer) g2 A4 c5 F7 2 x10 h6 b3 (St.own' (Fa := [F7, (is g2)]) (Fr := []) S113) t114 u115) ?_
              rintro _ w116 ⟨A119, c120, F122, H117, rfl, h121, b123, T118⟩
              refine ⟨_, rfl, ?_⟩
              obtain ⟨S124, K125⟩ := St.call (Fa := [F7, (is g2)]) (Fr := []) S113 T118
              have E126 := T118.ext
              refine wpList_nil (then_n (wp_ret (then_r (inb_r (inb_r (then_r (inb_r ?_)))))))
              obtain rfl := Option.some.inj M
              exact Go.Sy.ret0 rfl ⟨A119, c120, F122, H117, rfl, h121, b123, S124⟩
            replace M := ifn q111 M
            refine cF (bF q111) (wp_skip (then_n (wp_region_lit (lV 120 (eM (.pointer (some ⟨g2, 0, none⟩)) (by exact e90)) (lV 121 (eM (.int .i64 x89) (by exact e91)) (lV 122 (eAdd .i64 x89 2) (lV 123 (eN ⟨g2, 0, none⟩) ?_)))))))
            refine lV 124 (eD g2 0 1 1 Try.underlying42) ?_
            have S127 := S100.pull (F := (is g2)) (Fr := [F7]) 1 rfl rfl
            refine lE (eS g2 (0 + 1) (.int .i64 (IntKind.i64.wrap (x89 + 2))) #[str x1.s_, .int .i64 (IntKind.i64.wrap (x89 + 2)), .slice A4 x1.tokens_.length c5, .int .i64 x1.code_, .int .i64 x1.place_] [.int .i64 (IntKind.i64.wrap (x89 + 2))] S127 b3) ?_
            rintro w128 ⟨b129, S130, K131⟩
            replace h6 := h6.move (K131.at 0 rfl)
            clear b3
            refine wpList_nil (inb_n (inb_n (then_n ?_)))
            have S132 := S130.pull (F := F7) (Fr := [(is g2)]) 1 rfl rfl
            exact ⟨k105, (by omega), _, (IntKind.i64.wrap (x89 + 2)), rfl, (by exact e90), h6, b129, S132, M⟩
          replace M := ifn q106 M
          refine lK 93 false (bF q106) ?_
          refine lK 93 false (bF q106) ?_
          refine lK 93 false (bF q106) ?_
          refine lK 93 false (bF q106) ?_
          refine lK 93 false (bF q106) ?_
          refine lK 93 false (bF q106) ?_
          refine lK 93 false (bF q106) ?_
          refine lK 93 false (bF q106) ?_
          refine lK 93 false (bF q106) ?_
          refine lV 103 (eF (.bool false) (bF q106)) (wpList_nil (then_n (cond_f rfl (by kernel_rfl) (wp_exit (then_e (then_e (inb_hit ?_)))))))
          refine then_n (wp_seq (wp_seq (wp_region_lit (lV 106 (eM (.int .i64 x89) (by exact e91)) (lV 107 (eAdd .i64 x89 1) (lV 108 (eM (.pointer (some ⟨g2, 0, none⟩)) (by exact e90)) (lV 109 (eN ⟨g2, 0, none⟩) ?_)))))))
          refine lV 110 (eD g2 0 0 1 Try.underlying42) (lV 111 (eL ⟨g2, 0 + 0, none⟩ (str x1.s_) Try.underlying9 (blk_cell b3 rfl)) (lV 112 (e_slen (p := x1.s_) Try.underlying9 (by kernel_rfl)) (lV 113 (e_geq (k := .i64) (a := (IntKind.i64.wrap (x89 + 1))) (b := (x1.s_.length : Int)) (by kernel_rfl) (by kernel_rfl)) (wpList_nil (then_n ?_)))))
          by_cases q133 : (IntKind.i64.wrap (x89 + 1)) ≥ (x1.s_.length : Int)
          · replace M := ifp q133 M
            refine cT (bT q133) (wp_seq (wp_region_lit (lV 114 (eM (.pointer (some ⟨g2, 0, none⟩)) (by exact e90)) (lV 115 (eM (.pointer (some ⟨g2, 0, none⟩)) (by exact e90)) (lV 116 (eN ⟨g2, 0, none⟩) (lV 117 (eD g2 0 1 1 Try.underlying42) (lV 118 (eL ⟨g2, 0 + 1, none⟩ (.int .i64 x10) Try.underlying3 (blk_cell b3 rfl)) ?_)))))))
            have S134 := S100.pull (F := (is g2)) (Fr := [F7]) 1 rfl rfl
            have S135 := S134.pull (F := F7) (Fr := [(is g2)]) 1 rfl rfl
            obtain ⟨t136, u137, M⟩ := bnd M
            refine lC 119 (eC [.tmp 114, .const (.int .i64 2), .tmp 118] [.pointer (some ⟨g2, 0, none⟩), .int .i64 2, .int .i64 x10] Try.func37) (impl_lexer_fault.calls w87 H (⟨x1.s_, x10, x1.tokens_, x1.code_, x1.place_⟩ : GLexer) g2 A4 c5 F7 2 x10 h6 b3 (St.own' (Fa := [F7, (is g2)]) (Fr := []) S135) t136 u137) ?_
            rintro _ w138 ⟨A141, c142, F144, H139, rfl, h143, b145, T140⟩
            refine ⟨_, rfl, ?_⟩
            obtain ⟨S146, K147⟩ := St.call (Fa := [F7, (is g2)]) (Fr := []) S135 T140
            have E148 := T140.ext
            refine wpList_nil (then_n (wp_ret (then_r (inb_r (inb_r (then_r (inb_r ?_)))))))
            obtain rfl := Option.some.inj M
            exact Go.Sy.ret0 rfl ⟨A141, c142, F144, H139, rfl, h143, b145, S146⟩
          replace M := ifn q133 M
          refine cF (bF q133) (wp_skip (then_n (wp_region_lit (lV 120 (eM (.pointer (some ⟨g2, 0, none⟩)) (by exact e90)) (lV 121 (eM (.int .i64 x89) (by exact e91)) (lV 122 (eAdd .i64 x89 2) (lV 123 (eN ⟨g2, 0, none⟩) ?_)))))))
          refine lV 124 (eD g2 0 1 1 Try.underlying42) ?_
          have S149 := S100.pull (F := (is g2)) (Fr := [F7]) 1 rfl rfl
          refine lE (eS g2 (0 + 1) (.int .i64 (IntKind.i64.wrap (x89 + 2))) #[str x1.s_, .int .i64 (IntKind.i64.wrap (x89 + 2)), .slice A4 x1.tokens_.length c5, .int .i64 x1.code_, .int .i64 x1.place_] [.int .i64 (IntKind.i64.wrap (x89 + 2))] S149 b3) ?_
          rintro w150 ⟨b151, S152, K153⟩
          replace h6 := h6.move (K153.at 0 rfl)
          clear b3
          refine wpList_nil (inb_n (inb_n (then_n ?_)))
          have S154 := S152.pull (F := F7) (Fr := [(is g2)]) 1 rfl rfl
          exact ⟨k105, (by omega), _, (IntKind.i64.wrap (x89 + 2)), rfl, (by exact e90), h6, b151, S154, M⟩
        replace M := ifn q86 M
        refine cF (bF q86) (wp_ret (inb_r (inb_r (then_r (inb_r ?_)))))
        obtain rfl := Option.some.inj M
        have S155 := S84.pull (F := (is g2)) (Fr := [F7]) 1 rfl rfl
        exact Go.Sy.ret0 rfl ⟨A4, c5, F7, H, rfl, h6, b3, S155⟩
      replace M := ifn q68 M
      refine lK 75 false (bF q68) ?_
      refine lK 75 false (bF q68) ?_
      refine lK 75 false (bF q68) ?_
      refine lV 79 (eF (.bool false) (bF q68)) (lV 72 (eA (.bool false)) (wpList_nil (then_n (cond_f rfl (by kernel_rfl) (wp_ret (inb_r (inb_r ?_)))))))
      refine then_r (inb_r ?_)
      obtain rfl := Option.some.inj M
      have S156 := S31.pull (F := (is g2)) (Fr := [F7]) 1 rfl rfl
      exact Go.Sy.ret0 rfl ⟨A4, c5, F7, H, rfl, h6, b3, S156⟩
    replace M := ifn q22 M
    refine cF (bF q22) (wp_exit (then_e (then_e (inb_hit ?_))))
    obtain rfl := Option.some.inj M
    have S157 := S19.pull (F := (is g2)) (Fr := [F7]) 1 rfl rfl
    exact end0 rfl ⟨A4, c5, F7, H, rfl, h6, b3, S157⟩
  replace M := ifn q21 M
  refine sK 14 false (bF q21) ?_
  refine sK 14 false (bF q21) ?_
  refine sK 14 false (bF q21) ?_
  refine sK 14 false (bF q21) ?_
  refine sK 14 false (bF q21) ?_
  refine sV 20 (eF (.bool false) (bF q21)) (wpStill_nil (then_n (cond_f rfl (by kernel_rfl) (wp_exit (then_e (then_e (inb_hit ?_)))))))
  obtain rfl := Option.some.inj M
  have S158 := S19.pull (F := (is g2)) (Fr := [F7]) 1 rfl rfl
  exact end0 rfl ⟨A4, c5, F7, H, rfl, h6, b3, S158⟩

/-! impl_isSmall -/
def impl_isSmall.f (x1 : UInt8) : Option Bool := (if (x1.toNat : Int) ≥ 97 then some (decide ((x1.toNat : Int) ≤ 122)) else some false)
theorem impl_isSmall.calls (w : World) (H : Hp) (x1 : UInt8) (S : Own [] H w) (r : Bool) (M : impl_isSmall.f x1 = some r) :
    Calls Try.prog 27 #[.int .u8 (x1.toNat : Int)] w (fun e e_w => e = .returned (.bool r) ∧ Chg no w e_w) := by
  rw [impl_isSmall.f] at M
  refine enter (l := [.int .u8 (x1.toNat : Int)]) 9 Try.func27 rfl rfl rfl ?_
  have S0_ := S.st
  refine wp_seq (wp_region_lit (lV 2 (eA (.bool false)) (wpList_nil (then_n (wp_seq (wp_region_lit (lV 3 (eM (.int .u8 (x1.toNat : Int))) ?_)))))))
  refine lV 4 (e_geq (k := .u8) (a := (x1.toNat : Int)) (b := 97) (by kernel_rfl) rfl) (lV 5 (eM (.bool (decide ((x1.toNat : Int) ≥ 97)))) ?_)
  by_cases q2 : (x1.toNat : Int) ≥ 97
  · replace M := ifp q2 M
    refine lG 6 5 (bT q2) (eM (.int .u8 (x1.toNat : Int))) (lG 7 5 (bT q2) (e_leq (k := .u8) (a := (x1.toNat : Int)) (b := 122) (by kernel_rfl) rfl) (lV 8 (eT (.bool (decide ((x1.toNat : Int) ≤ 122))) (bT q2)) (lV 2 (eA (.bool (decide ((x1.toNat : Int) ≤ 122)))) (wpList_nil (then_n (wp_ret ?_))))))
    obtain rfl := Option.some.inj M
    exact ret1 rfl rfl  (show _ = .bool (decide ((x1.toNat : Int) ≤ 122)) from (by kernel_rfl)) ⟨rfl, S0_.chg⟩
  replace M := ifn q2 M
  refine lK 5 false (bF q2) ?_
  refine lK 5 false (bF q2) ?_
  refine lV 8 (eF (.bool false) (bF q2)) (lV 2 (eA (.bool false)) (wpList_nil (then_n (wp_ret ?_))))
  obtain rfl := Option.some.inj M
  exact ret1 rfl rfl  (show _ = .bool false from (by kernel_rfl)) ⟨rfl, S0_.chg⟩

/-! impl_isLetter -/
def impl_isLetter.f (x1 : UInt8) : Option Bool := ((impl_isSmall.f x1).bind fun t2 => (if t2 = true then some true else (if (x1.toNat : Int) ≥ 65 then (if (x1.toNat : Int) ≤ 90 then some true else some (decide ((x1.toNat : Int) = 95))) else some (decide ((x1.toNat : Int) = 95)))))
theorem impl_isLetter.calls (w : World) (H : Hp) (x1 : UInt8) (S : Own [] H w) (r : Bool) (M : impl_isLetter.f x1 = some r) :
    Calls Try.prog 39 #[.int .u8 (x1.toNat : Int)] w (fun e e_w => e = .returned (.bool r) ∧ Chg no w e_w) := by
  rw [impl_isLetter.f] at M
  refine enter (l := [.int .u8 (x1.toNat : Int)]) 17 Try.func39 rfl rfl rfl ?_
  have S0_ := S.st
  refine wp_seq (wp_region_lit (lV 2 (eA (.bool false)) (wpList_nil (then_n (wp_seq (wp_region_lit (lV 3 (eM (.int .u8 (x1.toNat : Int))) ?_)))))))
  obtain ⟨t2, u3, M⟩ := bnd M
  refine lC 4 (eC [.tmp 3] [.int .u8 (x1.toNat : Int)] Try.func27) (impl_isSmall.calls w H x1  S0_.own0 t2 u3) ?_
  rintro _ w4 ⟨rfl, C5⟩
  refine ⟨_, rfl, ?_⟩
  obtain ⟨S6, K7⟩ := S0_.still C5
  refine lV 5 (eM (.bool t2)) ?_
  by_cases q8 : t2 = true
  · replace M := ifp q8 M
    refine lK 5 true (bvt q8 (by kernel_rfl)) ?_
    refine lK 5 true (bvt q8 (by kernel_rfl)) ?_
    refine lK 5 true (bvt q8 (by kernel_rfl)) ?_
    refine lskipu (t := 8) rfl (by kernel_rfl) rfl (by kernel_rfl) rfl ?_
    refine lskipu (t := 8) rfl (by kernel_rfl) rfl (by kernel_rfl) rfl ?_
    refine lK 5 true (bvt q8 (by kernel_rfl)) ?_
    refine lV 12 (eT (.bool true) (bvt q8 (by kernel_rfl))) (lV 13 (eM (.bool true)) ?_)
    refine lJ 13 true ?_
    refine lJ 13 true ?_
    refine lV 16 (eT (.bool true)) (lV 2 (eA (.bool true)) (wpList_nil (then_n (wp_ret ?_))))
    obtain rfl := Option.some.inj M
    exact ret1 rfl rfl  (show _ = .bool true from (by kernel_rfl)) ⟨rfl, S6.chg⟩
  replace M := ifn q8 M
  refine lG 6 5 (bvf q8 (by kernel_rfl)) (eM (.int .u8 (x1.toNat : Int))) (lG 7 5 (bvf q8 (by kernel_rfl)) (e_geq (k := .u8) (a := (x1.toNat : Int)) (b := 65) (by kernel_rfl) rfl) (lG 8 5 (bvf q8 (by kernel_rfl)) (eM (.bool (decide ((x1.toNat : Int) ≥ 65)))) ?_))
  by_cases q9 : (x1.toNat : Int) ≥ 65
  · replace M := ifp q9 M
    refine lG 9 8 (bT q9) (eM (.int .u8 (x1.toNat : Int))) (lG 10 8 (bT q9) (e_leq (k := .u8) (a := (x1.toNat : Int)) (b := 90) (by kernel_rfl) rfl) (lG 11 5 (bvf q8 (by kernel_rfl)) (eT (.bool (decide ((x1.toNat : Int) ≤ 90))) (bT q9)) (lV 12 (eF (.bool (decide ((x1.toNat : Int) ≤ 90))) (bvf q8 (by kernel_rfl))) (lV 13 (eM (.bool (decide ((x1.toNat : Int) ≤ 90)))) ?_))))
    by_cases q10 : (x1.toNat : Int) ≤ 90
    · replace M := ifp q10 M
      refine lK 13 true (bT q10) ?_
      refine lK 13 true (bT q10) ?_
      refine lV 16 (eT (.bool true) (bT q10)) (lV 2 (eA (.bool true)) (wpList_nil (then_n (wp_ret ?_))))
      obtain rfl := Option.some.inj M
      exact ret1 rfl rfl  (show _ = .bool true from (by kernel_rfl)) ⟨rfl, S6.chg⟩
    replace M := ifn q10 M
    refine lG 14 13 (bF q10) (eM (.int .u8 (x1.toNat : Int))) (lG 15 13 (bF q10) (eEq .u8 (x1.toNat : Int) 95) (lV 16 (eF (.bool (decide ((x1.toNat : Int) = 95))) (bF q10)) (lV 2 (eA (.bool (decide ((x1.toNat : Int) = 95)))) (wpList_nil (then_n (wp_ret ?_))))))
    obtain rfl := Option.some.inj M
    exact ret1 rfl rfl  (show _ = .bool (decide ((x1.toNat : Int) = 95)) from (by kernel_rfl)) ⟨rfl, S6.chg⟩
  replace M := ifn q9 M
  refine lK 8 false (bF q9) ?_
  refine lK 8 false (bF q9) ?_
  refine lG 11 5 (bvf q8 (by kernel_rfl)) (eF (.bool false) (bF q9)) (lV 12 (eF (.bool false) (bvf q8 (by kernel_rfl))) (lV 13 (eM (.bool false)) (lH 14 13 (eM (.int .u8 (x1.toNat : Int))) (lH 15 13 (eEq .u8 (x1.toNat : Int) 95) (lV 16 (eF (.bool (decide ((x1.toNat : Int) = 95)))) (lV 2 (eA (.bool (decide ((x1.toNat : Int) = 95)))) (wpList_nil ?_)))))))
  refine then_n (wp_ret ?_)
  obtain rfl := Option.some.inj M
  exact ret1 rfl rfl  (show _ = .bool (decide ((x1.toNat : Int) = 95)) from (by kernel_rfl)) ⟨rfl, S6.chg⟩

/-! impl_isDigit -/
def impl_isDigit.f (x1 : UInt8) : Option Bool := (if (x1.toNat : Int) ≥ 48 then some (decide ((x1.toNat : Int) ≤ 57)) else some false)
theorem impl_isDigit.calls (w : World) (H : Hp) (x1 : UInt8) (S : Own [] H w) (r : Bool) (M : impl_isDigit.f x1 = some r) :
    Calls Try.prog 40 #[.int .u8 (x1.toNat : Int)] w (fun e e_w => e = .returned (.bool r) ∧ Chg no w e_w) := by
  rw [impl_isDigit.f] at M
  refine enter (l := [.int .u8 (x1.toNat : Int)]) 9 Try.func40 rfl rfl rfl ?_
  have S0_ := S.st
  refine wp_seq (wp_region_lit (lV 2 (eA (.bool false)) (wpList_nil (then_n (wp_seq (wp_region_lit (lV 3 (eM (.int .u8 (x1.toNat : Int))) ?_)))))))
  refine lV 4 (e_geq (k := .u8) (a := (x1.toNat : Int)) (b := 48) (by kernel_rfl) rfl) (lV 5 (eM (.bool (decide ((x1.toNat : Int) ≥ 48)))) ?_)
  by_cases q2 : (x1.toNat : Int) ≥ 48
  · replace M := ifp q2 M
    refine lG 6 5 (bT q2) (eM (.int .u8 (x1.toNat : Int))) (lG 7 5 (bT q2) (e_leq (k := .u8) (a := (x1.toNat : Int)) (b := 57) (by kernel_rfl) rfl) (lV 8 (eT (.bool (decide ((x1.toNat : Int) ≤ 57))) (bT q2)) (lV 2 (eA (.bool (decide ((x1.toNat : Int) ≤ 57)))) (wpList_nil (then_n (wp_ret ?_))))))
    obtain rfl := Option.some.inj M
    exact ret1 rfl rfl  (show _ = .bool (decide ((x1.toNat : Int) ≤ 57)) from (by kernel_rfl)) ⟨rfl, S0_.chg⟩
  replace M := ifn q2 M
  refine lK 5 false (bF q2) ?_
  refine lK 5 false (bF q2) ?_
  refine lV 8 (eF (.bool false) (bF q2)) (lV 2 (eA (.bool false)) (wpList_nil (then_n (wp_ret ?_))))
  obtain rfl := Option.some.inj M
  exact ret1 rfl rfl  (show _ = .bool false from (by kernel_rfl)) ⟨rfl, S0_.chg⟩

/-! impl_isAlnum -/
def impl_isAlnum.f (x1 : UInt8) : Option Bool := ((impl_isLetter.f x1).bind fun t2 => (if t2 = true then some true else ((impl_isDigit.f x1).bind fun t9 => some t9)))
theorem impl_isAlnum.calls (w : World) (H : Hp) (x1 : UInt8) (S : Own [] H w) (r : Bool) (M : impl_isAlnum.f x1 = some r) :
    Calls Try.prog 28 #[.int .u8 (x1.toNat : Int)] w (fun e e_w => e = .returned (.bool r) ∧ Chg no w e_w) := by
  rw [impl_isAlnum.f] at M
  refine enter (l := [.int .u8 (x1.toNat : Int)]) 9 Try.func28 rfl rfl rfl ?_
  have S0_ := S.st
  refine wp_seq (wp_region_lit (lV 2 (eA (.bool false)) (wpList_nil (then_n (wp_seq (wp_region_lit (lV 3 (eM (.int .u8 (x1.toNat : Int))) ?_)))))))
  obtain ⟨t2, u3, M⟩ := bnd M
  refine lC 4 (eC [.tmp 3] [.int .u8 (x1.toNat : Int)] Try.func39) (impl_isLetter.calls w H x1  S0_.own0 t2 u3) ?_
  rintro _ w4 ⟨rfl, C5⟩
  refine ⟨_, rfl, ?_⟩
  obtain ⟨S6, K7⟩ := S0_.still C5
  refine lV 5 (eM (.bool t2)) ?_
  by_cases q8 : t2 = true
  · replace M := ifp q8 M
    refine lK 5 true (bvt q8 (by kernel_rfl)) ?_
    refine lK 5 true (bvt q8 (by kernel_rfl)) ?_
    refine lV 8 (eT (.bool true) (bvt q8 (by kernel_rfl))) (lV 2 (eA (.bool true)) (wpList_nil (then_n (wp_ret ?_))))
    obtain rfl := Option.some.inj M
    exact ret1 rfl rfl  (show _ = .bool true from (by kernel_rfl)) ⟨rfl, S6.chg⟩
  replace M := ifn q8 M
  refine lG 6 5 (bvf q8 (by kernel_rfl)) (eM (.int .u8 (x1.toNat : Int))) ?_
  obtain ⟨t9, u10, M⟩ := bnd M
  refine lcallg (d := 7) (t := 5) rfl (by kernel_rfl) rfl (bvf q8 (by kernel_rfl)) rfl (by kernel_rfl) (eC [.tmp 6] [.int .u8 (x1.toNat : Int)] Try.func40) (impl_isDigit.calls w4 H x1  S6.own0 t9 u10) ?_
  rintro _ w11 ⟨rfl, C12⟩
  refine ⟨_, rfl, ?_⟩
  obtain ⟨S13, K14⟩ := S6.still C12
  refine lV 8 (eF (.bool t9) (bvf q8 (by kernel_rfl))) (lV 2 (eA (.bool t9)) (wpList_nil (then_n (wp_ret ?_))))
  obtain rfl := Option.some.inj M
  exact ret1 rfl rfl  (show _ = .bool t9 from (by kernel_rfl)) ⟨rfl, S13.chg⟩

/-! impl_lexer_put -/
def impl_lexer_put.f (x1 : GLexer) (x8 : Int) (x9 : Int) (x10 : List UInt8) (x11 : Int) : Option GLexer := (if x8 = 1 then (if (x10.length : Int) > 100 then ((impl_lexer_fault.f x1 3 x1.at_).bind fun t16 => some t16) else (if x10.length ≤ 9223372036854775807 then (if x1.tokens_.length + 1 ≤ 2513169434916 then some (⟨x1.s_, x9, (x1.tokens_ ++ [(⟨x8, x1.at_, (IntKind.i64.wrap (x9 - x1.at_)), x10, x11⟩ : Token)]), x1.code_, x1.place_⟩ : GLexer) else none) else none)) else (if x8 = 2 then (if (x10.length : Int) > 100 then ((impl_lexer_fault.f x1 3 x1.at_).bind fun t124 => some t124) else (if x10.length ≤ 9223372036854775807 then (if x1.tokens_.length + 1 ≤ 2513169434916 then some (⟨x1.s_, x9, (x1.tokens_ ++ [(⟨x8, x1.at_, (IntKind.i64.wrap (x9 - x1.at_)), x10, x11⟩ : Token)]), x1.code_, x1.place_⟩ : GLexer) else none) else none)) else (if x8 = 4 then (if (x10.length : Int) > 100 then ((impl_lexer_fault.f x1 3 x1.at_).bind fun t232 => some t232) else (if x10.length ≤ 9223372036854775807 then (if x1.tokens_.length + 1 ≤ 2513169434916 then some (⟨x1.s_, x9, (x1.tokens_ ++ [(⟨x8, x1.at_, (IntKind.i64.wrap (x9 - x1.at_)), x10, x11⟩ : Token)]), x1.code_, x1.place_⟩ : GLexer) else none) else none)) else (if x10.length ≤ 9223372036854775807 then (if x1.tokens_.length + 1 ≤ 2513169434916 then some (⟨x1.s_, x9, (x1.tokens_ ++ [(⟨x8, x1.at_, (IntKind.i64.wrap (x9 - x1.at_)), x10, x11⟩ : Token)]), x1.code_, x1.place_⟩ : GLexer) else none) else none))))
theorem impl_lexer_put.calls (w : World) (H : Hp) (x1 : GLexer) (g2 : Nat) (A4 : Option Addr) (c5 : Nat) (F7 : Foot) (x8 : Int) (x9 : Int) (x10 : List UInt8) (x11 : Int) (h6 : Row st37 37 H (hp w) F7 A4 c5 x1.tokens_) (b3 : w.heap[g2]? = some (.cells #[str x1.s_, .int .i64 x1.at_, .slice A4 x1.tokens_.length c5, .int .i64 x1.code_, .int .i64 x1.place_] 42 (0, 0))) (S : Own [F7, (is g2)] H w) (r : GLexer) (M : impl_lexer_put.f x1 x8 x9 x10 x11 = some r) :
    Calls Try.prog 42 #[.pointer (some ⟨g2, 0, none⟩), .int .i64 x8, .int .i64 x9, str x10, .int .i64 x11] w (fun e e_w => ∃ (A_1 : Option Addr) (c_1 : Nat) (F_1 : Foot) (H_ : Hp), e = .returned (.tuple #[]) ∧ Row st37 37 H_ (hp e_w) F_1 A_1 c_1 r.tokens_ ∧ e_w.heap[g2]? = some (.cells #[str r.s_, .int .i64 r.at_, .slice A_1 r.tokens_.length c_1, .int .i64 r.code_, .int .i64 r.place_] 42 (0, 0)) ∧ St (anyOf [F7, (is g2)]) H w [(is g2), F_1] H_ e_w) := by
  rw [impl_lexer_put.f] at M
  refine enter (l := [.pointer (some ⟨g2, 0, none⟩), .int .i64 x8, .int .i64 x9, str x10, .int .i64 x11]) 59 Try.func42 rfl rfl rfl ?_
  have S0_ := S.st
  refine wp_seq (wp_seq (wp_region_lit (lV 10 (eM (.int .i64 x8)) (lV 11 (eEq .i64 x8 1) (lV 12 (eM (.bool (decide (x8 = 1)))) ?_)))))
  by_cases q12 : x8 = 1
  · replace M := ifp q12 M
    refine lK 12 true (bT q12) ?_
    refine lK 12 true (bT q12) ?_
    refine lV 15 (eT (.bool true) (bT q12)) (lV 16 (eM (.bool true)) ?_)
    refine lJ 16 true ?_
    refine lJ 16 true ?_
    refine lV 19 (eT (.bool true)) (lV 20 (eM (.bool true)) (lH 21 20 (eM (str x10)) (lH 22 20 (e_slen (p := x10) Try.underlying9 (by kernel_rfl)) (lH 23 20 (e_gtr (k := .i64) (a := (x10.length : Int)) (b := 100) (by kernel_rfl) rfl) (lV 24 (eT (.bool (decide ((x10.length : Int) > 100)))) (wpList_nil (then_n ?_)))))))
    by_cases q13 : (x10.length : Int) > 100
    · replace M := ifp q13 M
      refine cT (bT q13) (wp_seq (wp_region_lit (lV 25 (eM (.pointer (some ⟨g2, 0, none⟩))) (lV 26 (eM (.pointer (some ⟨g2, 0, none⟩))) (lV 27 (eN ⟨g2, 0, none⟩) (lV 28 (eD g2 0 1 1 Try.underlying42) (lV 29 (eL ⟨g2, 0 + 1, none⟩ (.int .i64 x1.at_) Try.underlying3 (blk_cell b3 rfl)) ?_)))))))
      have S14 := S0_.pull (F := (is g2)) (Fr := [F7]) 1 rfl rfl
      have S15 := S14.pull (F := F7) (Fr := [(is g2)]) 1 rfl rfl
      obtain ⟨t16, u17, M⟩ := bnd M
      refine lC 30 (eC [.tmp 25, .const (.int .i64 3), .tmp 29] [.pointer (some ⟨g2, 0, none⟩), .int .i64 3, .int .i64 x1.at_] Try.func37) (impl_lexer_fault.calls w H x1 g2 A4 c5 F7 3 x1.at_ h6 b3 (St.own' (Fa := [F7, (is g2)]) (Fr := []) S15) t16 u17) ?_
      rintro _ w18 ⟨A21, c22, F24, H19, rfl, h23, b25, T20⟩
      refine ⟨_, rfl, ?_⟩
      obtain ⟨S26, K27⟩ := St.call (Fa := [F7, (is g2)]) (Fr := []) S15 T20
      have E28 := T20.ext
      refine wpList_nil (then_n (wp_ret (then_r ?_)))
      obtain rfl := Option.some.inj M
      exact Go.Sy.ret0 rfl ⟨A21, c22, F24, H19, rfl, h23, b25, S26⟩
    replace M := ifn q13 M
    refine cF (bF q13) (wp_skip (then_n (wp_seq ?_)))
    refine region_mix (S := (fun (L_ : Array Bool) (w_ : World) => Ext H (hp w_) ∧ (L_.getD 24 true = false → (∀ b_, (is g2) b_ → hp w_ b_ = hp w b_)))) (by kernel_rfl) S0_ ?_
    intro w29 S30 K31 hc32
    have o33 := b3
    have hs34 : (fun (L_ : Array Bool) (w_ : World) => Ext H (hp w_) ∧ (L_.getD 24 true = false → (∀ b_, (is g2) b_ → hp w_ b_ = hp w b_))) (Array.replicate 25 false) w29 := ⟨S30.inv, (fun _ => (fun b_ h_ => K31.at 1 rfl b_ h_))⟩
    replace h6 := h6.move (K31.at 0 rfl)
    replace b3 := K31.blk 1 rfl b3
    refine xv (i := 0) (d := 31) rfl rfl rfl (by kernel_rfl) (by kernel_rfl) (fun L_ w_ => by simp only [getD_set_ne true (show (0 : Nat) ≠ 24 by decide)]) hc32 hs34 (fun L_ w_ hc_ hu_ hs_ => eM (.pointer (some ⟨g2, 0, none⟩))) ?_; intro hc35 hs36
    refine xv (i := 1) (d := 32) rfl rfl rfl (by kernel_rfl) (by kernel_rfl) (fun L_ w_ => by simp only [getD_set_ne true (show (1 : Nat) ≠ 24 by decide)]) hc35 hs36 (fun L_ w_ hc_ hu_ hs_ => eM (.pointer (some ⟨g2, 0, none⟩))) ?_; intro hc37 hs38
    refine xv (i := 2) (d := 33) rfl rfl rfl (by kernel_rfl) (by kernel_rfl) (fun L_ w_ => by simp only [getD_set_ne true (show (2 : Nat) ≠ 24 by decide)]) hc37 hs38 (fun L_ w_ hc_ hu_ hs_ => eN ⟨g2, 0, none⟩) ?_; intro hc39 hs40
    refine xv (i := 3) (d := 34) rfl rfl rfl (by kernel_rfl) (by kernel_rfl) (fun L_ w_ => by simp only [getD_set_ne true (show (3 : Nat) ≠ 24 by decide)]) hc39 hs40 (fun L_ w_ hc_ hu_ hs_ => eD g2 0 2 1 Try.underlying42) ?_; intro hc41 hs42
    refine xv (i := 4) (d := 35) rfl rfl rfl (by kernel_rfl) (by kernel_rfl) (fun L_ w_ => by simp only [getD_set_ne true (show (4 : Nat) ≠ 24 by decide)]) hc41 hs42 (fun L_ w_ hc_ hu_ hs_ => eL ⟨g2, 0 + 2, none⟩ (.slice A4 x1.tokens_.length c5) Try.underlying27 (blk_cell (((hs_.2 (unl 9 24 4 hc_ hu_ (by kernel_rfl))) _ rfl).trans o33) rfl)) ?_; intro hc43 hs44
    refine xv (i := 5) (d := 36) rfl rfl rfl (by kernel_rfl) (by kernel_rfl) (fun L_ w_ => by simp only [getD_set_ne true (show (5 : Nat) ≠ 24 by decide)]) hc43 hs44 (fun L_ w_ hc_ hu_ hs_ => eM (.int .i64 x8)) ?_; intro hc45 hs46
    refine xv (i := 6) (d := 37) rfl rfl rfl (by kernel_rfl) (by kernel_rfl) (fun L_ w_ => by simp only [getD_set_ne true (show (6 : Nat) ≠ 24 by decide)]) hc45 hs46 (fun L_ w_ hc_ hu_ hs_ => eM (.pointer (some ⟨g2, 0, none⟩))) ?_; intro hc47 hs48
    refine xv (i := 7) (d := 38) rfl rfl rfl (by kernel_rfl) (by kernel_rfl) (fun L_ w_ => by simp only [getD_set_ne true (show (7 : Nat) ≠ 24 by decide)]) hc47 hs48 (fun L_ w_ hc_ hu_ hs_ => eN ⟨g2, 0, none⟩) ?_; intro hc49 hs50
    refine xv (i := 8) (d := 39) rfl rfl rfl (by kernel_rfl) (by kernel_rfl) (fun L_ w_ => by simp only [getD_set_ne true (show (8 : Nat) ≠ 24 by decide)]) hc49 hs50 (fun L_ w_ hc_ hu_ hs_ => eD g2 0 1 1 Try.underlying42) ?_; intro hc51 hs52
    refine xv (i := 9) (d := 40) rfl rfl rfl (by kernel_rfl) (by kernel_rfl) (fun L_ w_ => by simp only [getD_set_ne true (show (9 : Nat) ≠ 24 by decide)]) hc51 hs52 (fun L_ w_ hc_ hu_ hs_ => eL ⟨g2, 0 + 1, none⟩ (.int .i64 x1.at_) Try.underlying3 (blk_cell (((hs_.2 (unl 9 24 9 hc_ hu_ (by kernel_rfl))) _ rfl).trans o33) rfl)) ?_; intro hc53 hs54
    refine xv (i := 10) (d := 41) rfl rfl rfl (by kernel_rfl) (by kernel_rfl) (fun L_ w_ => by simp only [getD_set_ne true (show (10 : Nat) ≠ 24 by decide)]) hc53 hs54 (fun L_ w_ hc_ hu_ hs_ => eM (.int .i64 x9)) ?_; intro hc55 hs56
    refine xv (i := 11) (d := 42) rfl rfl rfl (by kernel_rfl) (by kernel_rfl) (fun L_ w_ => by simp only [getD_set_ne true (show (11 : Nat) ≠ 24 by decide)]) hc55 hs56 (fun L_ w_ hc_ hu_ hs_ => eM (.pointer (some ⟨g2, 0, none⟩))) ?_; intro hc57 hs58
    refine xv (i := 12) (d := 43) rfl rfl rfl (by kernel_rfl) (by kernel_rfl) (fun L_ w_ => by simp only [getD_set_ne true (show (12 : Nat) ≠ 24 by decide)]) hc57 hs58 (fun L_ w_ hc_ hu_ hs_ => eN ⟨g2, 0, none⟩) ?_; intro hc59 hs60
    refine xv (i := 13) (d := 44) rfl rfl rfl (by kernel_rfl) (by kernel_rfl) (fun L_ w_ => by simp only [getD_set_ne true (show (13 : Nat) ≠ 24 by decide)]) hc59 hs60 (fun L_ w_ hc_ hu_ hs_ => eD g2 0 1 1 Try.underlying42) ?_; intro hc61 hs62
    refine xv (i := 14) (d := 45) rfl rfl rfl (by kernel_rfl) (by kernel_rfl) (fun L_ w_ => by simp only [getD_set_ne true (show (14 : Nat) ≠ 24 by decide)]) hc61 hs62 (fun L_ w_ hc_ hu_ hs_ => eL ⟨g2, 0 + 1, none⟩ (.int .i64 x1.at_) Try.underlying3 (blk_cell (((hs_.2 (unl 9 24 14 hc_ hu_ (by kernel_rfl))) _ rfl).trans o33) rfl)) ?_; intro hc63 hs64
    refine xv (i := 15) (d := 46) rfl rfl rfl (by kernel_rfl) (by kernel_rfl) (fun L_ w_ => by simp only [getD_set_ne true (show (15 : Nat) ≠ 24 by decide)]) hc63 hs64 (fun L_ w_ hc_ hu_ hs_ => e_sub (k := .i64) (a := x9) (b := x1.at_) (by kernel_rfl) (by kernel_rfl)) ?_; intro hc65 hs66
    refine xv (i := 16) (d := 47) rfl rfl rfl (by kernel_rfl) (by kernel_rfl) (fun L_ w_ => by simp only [getD_set_ne true (show (16 : Nat) ≠ 24 by decide)]) hc65 hs66 (fun L_ w_ hc_ hu_ hs_ => eM (str x10)) ?_; intro hc67 hs68
    refine xv (i := 18) (d := 49) rfl rfl rfl (by kernel_rfl) (by kernel_rfl) (fun L_ w_ => by simp only [getD_set_ne true (show (18 : Nat) ≠ 24 by decide)]) hc67 hs68 (fun L_ w_ hc_ hu_ hs_ => eM (.int .i64 x11)) ?_; intro hc69 hs70
    obtain ⟨q71, M⟩ := chk M
    refine xone (i := 17) (by kernel_rfl) hc69 ?_
    refine ye (i := 17) (d := 48) rfl rfl (wanted_none rfl _) (by kernel_rfl) (by kernel_rfl) (e_conv_sb (xs := x10) S30 Try.underlying9 Try.underlying23 Try.underlying5 (by kernel_rfl) q71) ?_
    rintro hc79 _ w72 ⟨A73, c74, F75, rfl, h76, S77, K78⟩
    replace h6 := h6.move (K78.at 0 rfl)
    replace b3 := K78.blk 1 rfl b3
    refine ⟨⟨S77.inv, (fun q_ => (fun b_ h_ => (K78.at 1 rfl b_ h_).trans ((hs70.2 (by decide +kernel)) b_ h_)))⟩, fun hs80 => ?_⟩
    refine xone (i := 19) (by kernel_rfl) hc79 ?_
    refine yo (i := 19) (d := 50) rfl rfl (wanted_none rfl _) (by kernel_rfl) (by kernel_rfl) (fun L_ w_ => by simp only [getD_set_ne true (show (19 : Nat) ≠ 24 by decide)]) hs80 (show _ = Result.ok (Next.value (.agg #[.int .i64 x8, .int .i64 x1.at_, .int .i64 (IntKind.i64.wrap (x9 - x1.at_)), .slice A73 x10.length c74, .int .i64 x11])) w72 from by kernel_rfl) ?_; intro hc81 hs82
    refine xone (i := 20) (by kernel_rfl) hc81 ?_
    refine ye (i := 20) (d := 51) rfl rfl (wanted_none rfl _) (by kernel_rfl) (by kernel_rfl) (new_blk (v := fun g_ => .slice (some ⟨g_, 0, none⟩) 1 1) (cs := #[.int .i64 x8, .int .i64 x1.at_, .int .i64 (IntKind.i64.wrap (x9 - x1.at_)), .slice A73 x10.length c74, .int .i64 x11]) (t := 37) S77 (by kernel_rfl)) ?_
    rintro hc88 _ w83 ⟨g84, rfl, b85, S86, K87⟩
    replace h76 := h76.move (K87.at 0 rfl)
    replace h6 := h6.move (K87.at 1 rfl)
    replace b3 := K87.blk 2 rfl b3
    refine ⟨⟨S86.inv, (fun q_ => (fun b_ h_ => (K87.at 2 rfl b_ h_).trans ((hs82.2 (by decide +kernel)) b_ h_)))⟩, fun hs89 => ?_⟩
    obtain ⟨q90, M⟩ := chk M
    have S91 := S86.pull (F := F75) (Fr := [(is g84), F7, (is g2)]) 1 rfl rfl
    have S92 := S91.pull (F := F7) (Fr := [F75, (is g84), (is g2)]) 2 rfl rfl
    refine xone (i := 21) (by kernel_rfl) hc88 ?_
    refine ye (i := 21) (d := 52) rfl rfl (wanted_none rfl _) (by kernel_rfl) (by kernel_rfl) (e_append (d := st37) (n := x1.tokens_.length) (xs := x1.tokens_) (cap := c5) (A := A4) (ys := [(⟨x8, x1.at_, (IntKind.i64.wrap (x9 - x1.at_)), x10, x11⟩ : Token)]) (A2 := (some ⟨g84, 0, none⟩)) (c2 := 1) (z := .agg #[.int .i64 0, .int .i64 0, .int .i64 0, .slice none 0 0, .int .i64 0]) (bytes := 56) S92 Try.underlying27 (by kernel_rfl) rfl (by decide) (by kernel_rfl) rfl (by kernel_rfl) h6 (elsO_one1 (st37_mkO (x := (⟨x8, x1.at_, (IntKind.i64.wrap (x9 - x1.at_)), x10, x11⟩ : Token)) h76)) (.inr (blk_news b85 rfl)) (show (x1.tokens_.length + [(⟨x8, x1.at_, (IntKind.i64.wrap (x9 - x1.at_)), x10, x11⟩ : Token)].length) * 56 ≤ _ by first | omega | (simp only [List.length_cons, List.length_nil]; omega)) (by decide)) ?_
    rintro hc100 _ w93 ⟨A94, c95, F96, rfl, h97, S98, K99⟩
    replace b3 := K99.blk 1 rfl b3
    refine ⟨⟨S98.inv, (fun q_ => (fun b_ h_ => (K99.at 1 rfl b_ h_).trans ((hs89.2 (by decide +kernel)) b_ h_)))⟩, fun hs101 => ?_⟩
    refine xone (i := 22) (by kernel_rfl) hc100 ?_
    refine yo (i := 22) (d := 53) rfl rfl (wanted_none rfl _) (by kernel_rfl) (by kernel_rfl) (fun L_ w_ => by simp only [getD_set_ne true (show (22 : Nat) ≠ 24 by decide)]) hs101 (eN ⟨g2, 0, none⟩) ?_; intro hc102 hs103
    refine xone (i := 23) (by kernel_rfl) hc102 ?_
    refine yo (i := 23) (d := 54) rfl rfl (wanted_none rfl _) (by kernel_rfl) (by kernel_rfl) (fun L_ w_ => by simp only [getD_set_ne true (show (23 : Nat) ≠ 24 by decide)]) hs103 (eD g2 0 2 1 Try.underlying42) ?_; intro hc104 hs105
    have S106 := S98.pull (F := (is g2)) (Fr := [F96, (is g84)]) 2 rfl rfl
    refine xone (i := 24) (by kernel_rfl) hc104 ?_
    refine ys (i := 24) rfl rfl (wanted_none rfl _) (by kernel_rfl) (by kernel_rfl) (eS g2 (0 + 2) (.slice A94 ((x1.tokens_ ++ [(⟨x8, x1.at_, (IntKind.i64.wrap (x9 - x1.at_)), x10, x11⟩ : Token)]).length) c95) #[str x1.s_, .int .i64 x1.at_, .slice A94 ((x1.tokens_ ++ [(⟨x8, x1.at_, (IntKind.i64.wrap (x9 - x1.at_)), x10, x11⟩ : Token)]).length) c95, .int .i64 x1.code_, .int .i64 x1.place_] [.slice A94 ((x1.tokens_ ++ [(⟨x8, x1.at_, (IntKind.i64.wrap (x9 - x1.at_)), x10, x11⟩ : Token)]).length) c95] S106 b3) ?_
    rintro hc111 w107 ⟨b108, S109, K110⟩
    replace h97 := h97.move (K110.at 0 rfl)
    refine ⟨⟨S109.inv, (fun q_ => absurd q_ (by decide +kernel))⟩, fun hs112 => ?_⟩
    clear b3
    refine xn (by kernel_rfl) ?_ _
    refine then_n (wp_region_lit (lV 55 (eM (.pointer (some ⟨g2, 0, none⟩))) (lV 56 (eM (.int .i64 x9)) (lV 57 (eN ⟨g2, 0, none⟩) (lV 58 (eD g2 0 1 1 Try.underlying42) ?_)))))
    refine lE (eS g2 (0 + 1) (.int .i64 x9) #[str x1.s_, .int .i64 x9, .slice A94 ((x1.tokens_ ++ [(⟨x8, x1.at_, (IntKind.i64.wrap (x9 - x1.at_)), x10, x11⟩ : Token)]).length) c95, .int .i64 x1.code_, .int .i64 x1.place_] [.int .i64 x9] S109 b108) ?_
    rintro w113 ⟨b114, S115, K116⟩
    replace h97 := h97.move (K116.at 0 rfl)
    clear b108
    refine wpList_nil ?_
    obtain rfl := Option.some.inj M
    have S117 := S115.pull (F := F96) (Fr := [(is g2), (is g84)]) 1 rfl rfl
    have S118 := S117.pull (F := (is g2)) (Fr := [F96, (is g84)]) 1 rfl rfl
    have S119 := St.first (Fa := [(is g2), F96]) (Fr := [(is g84)]) S118
    exact end0 rfl ⟨A94, c95, F96, H, rfl, h97, b114, S119⟩
  replace M := ifn q12 M
  refine lG 13 12 (bF q12) (eM (.int .i64 x8)) (lG 14 12 (bF q12) (eEq .i64 x8 2) (lV 15 (eF (.bool (decide (x8 = 2))) (bF q12)) (lV 16 (eM (.bool (decide (x8 = 2)))) ?_)))
  by_cases q120 : x8 = 2
  · replace M := ifp q120 M
    refine lK 16 true (bT q120) ?_
    refine lK 16 true (bT q120) ?_
    refine lV 19 (eT (.bool true) (bT q120)) (lV 20 (eM (.bool true)) (lH 21 20 (eM (str x10)) (lH 22 20 (e_slen (p := x10) Try.underlying9 (by kernel_rfl)) (lH 23 20 (e_gtr (k := .i64) (a := (x10.length : Int)) (b := 100) (by kernel_rfl) rfl) (lV 24 (eT (.bool (decide ((x10.length : Int) > 100)))) (wpList_nil (then_n ?_)))))))
    by_cases q121 : (x10.length : Int) > 100
    · replace M := ifp q121 M
      refine cT (bT q121) (wp_seq (wp_region_lit (lV 25 (eM (.pointer (some ⟨g2, 0, none⟩))) (lV 26 (eM (.pointer (some ⟨g2, 0, none⟩))) (lV 27 (eN ⟨g2, 0, none⟩) (lV 28 (eD g2 0 1 1 Try.underlying42) (lV 29 (eL ⟨g2, 0 + 1, none⟩ (.int .i64 x1.at_) Try.underlying3 (blk_cell b3 rfl)) ?_)))))))
      have S122 := S0_.pull (F := (is g2)) (Fr := [F7]) 1 rfl rfl
      have S123 := S122.pull (F := F7) (Fr := [(is g2)]) 1 rfl rfl
      obtain ⟨t124, u125, M⟩ := bnd M
      refine lC 30 (eC [.tmp 25, .const (.int .i64 3), .tmp 29] [.pointer (some ⟨g2, 0, none⟩), .int .i64 3, .int .i64 x1.at_] Try.func37) (impl_lexer_fault.calls w H x1 g2 A4 c5 F7 3 x1.at_ h6 b3 (St.own' (Fa := [F7, (is g2)]) (Fr := []) S123) t124 u125) ?_
      rintro _ w126 ⟨A129, c130, F132, H127, rfl, h131, b133, T128⟩
      refine ⟨_, rfl, ?_⟩
      obtain ⟨S134, K135⟩ := St.call (Fa := [F7, (is g2)]) (Fr := []) S123 T128
      have E136 := T128.ext
      refine wpList_nil (then_n (wp_ret (then_r ?_)))
      obtain rfl := Option.some.inj M
      exact Go.Sy.ret0 rfl ⟨A129, c130, F132, H127, rfl, h131, b133, S134⟩
    replace M := ifn q121 M
    refine cF (bF q121) (wp_skip (then_n (wp_seq ?_)))
    refine region_mix (S := (fun (L_ : Array Bool) (w_ : World) => Ext H (hp w_) ∧ (L_.getD 24 true = false → (∀ b_, (is g2) b_ → hp w_ b_ = hp w b_)))) (by kernel_rfl) S0_ ?_
    intro w137 S138 K139 hc140
    have o141 := b3
    have hs142 : (fun (L_ : Array Bool) (w_ : World) => Ext H (hp w_) ∧ (L_.getD 24 true = false → (∀ b_, (is g2) b_ → hp w_ b_ = hp w b_))) (Array.replicate 25 false) w137 := ⟨S138.inv, (fun _ => (fun b_ h_ => K139.at 1 rfl b_ h_))⟩
    replace h6 := h6.move (K139.at 0 rfl)
    replace b3 := K139.blk 1 rfl b3
    refine xv (i := 0) (d := 31) rfl rfl rfl (by kernel_rfl) (by kernel_rfl) (fun L_ w_ => by simp only [getD_set_ne true (show (0 : Nat) ≠ 24 by decide)]) hc140 hs142 (fun L_ w_ hc_ hu_ hs_ => eM (.pointer (some ⟨g2, 0, none⟩))) ?_; intro hc143 hs144
    refine xv (i := 1) (d := 32) rfl rfl rfl (by kernel_rfl) (by kernel_rfl) (fun L_ w_ => by simp only [getD_set_ne true (show (1 : Nat) ≠ 24 by decide)]) hc143 hs144 (fun L_ w_ hc_ hu_ hs_ => eM (.pointer (some ⟨g2, 0, none⟩))) ?_; intro hc145 hs146
    refine xv (i := 2) (d := 33) rfl rfl rfl (by kernel_rfl) (by kernel_rfl) (fun L_ w_ => by simp only [getD_set_ne true (show (2 : Nat) ≠ 24 by decide)]) hc145 hs146 (fun L_ w_ hc_ hu_ hs_ => eN ⟨g2, 0, none⟩) ?_; intro hc147 hs148
    refine xv (i := 3) (d := 34) rfl rfl rfl (by kernel_rfl) (by kernel_rfl) (fun L_ w_ => by simp only [getD_set_ne true (show (3 : Nat) ≠ 24 by decide)]) hc147 hs148 (fun L_ w_ hc_ hu_ hs_ => eD g2 0 2 1 Try.underlying42) ?_; intro hc149 hs150
    refine xv (i := 4) (d := 35) rfl rfl rfl (by kernel_rfl) (by kernel_rfl) (fun L_ w_ => by simp only [getD_set_ne true (show (4 : Nat) ≠ 24 by decide)]) hc149 hs150 (fun L_ w_ hc_ hu_ hs_ => eL ⟨g2, 0 + 2, none⟩ (.slice A4 x1.tokens_.length c5) Try.underlying27 (blk_cell (((hs_.2 (unl 9 24 4 hc_ hu_ (by kernel_rfl))) _ rfl).trans o141) rfl)) ?_; intro hc151 hs152
    refine xv (i := 5) (d := 36) rfl rfl rfl (by kernel_rfl) (by kernel_rfl) (fun L_ w_ => by simp only [getD_set_ne true (show (5 : Nat) ≠ 24 by decide)]) hc151 hs152 (fun L_ w_ hc_ hu_ hs_ => eM (.int .i64 x8)) ?_; intro hc153 hs154
    refine xv (i := 6) (d := 37) rfl rfl rfl (by kernel_rfl) (by kernel_rfl) (fun L_ w_ => by simp only [getD_set_ne true (show (6 : Nat) ≠ 24 by decide)]) hc153 hs154 (fun L_ w_ hc_ hu_ hs_ => eM (.pointer (some ⟨g2, 0, none⟩))) ?_; intro hc155 hs156
    refine xv (i := 7) (d := 38) rfl rfl rfl (by kernel_rfl) (by kernel_rfl) (fun L_ w_ => by simp only [getD_set_ne true (show (7 : Nat) ≠ 24 by decide)]) hc155 hs156 (fun L_ w_ hc_ hu_ hs_ => eN ⟨g2, 0, none⟩) ?_; intro hc157 hs158
    refine xv (i := 8) (d := 39) rfl rfl rfl (by kernel_rfl) (by kernel_rfl) (fun L_ w_ => by simp only [getD_set_ne true (show (8 : Nat) ≠ 24 by decide)]) hc157 hs158 (fun L_ w_ hc_ hu_ hs_ => eD g2 0 1 1 Try.underlying42) ?_; intro hc159 hs160
    refine xv (i := 9) (d := 40) rfl rfl rfl (by kernel_rfl) (by kernel_rfl) (fun L_ w_ => by simp only [getD_set_ne true (show (9 : Nat) ≠ 24 by decide)]) hc159 hs160 (fun L_ w_ hc_ hu_ hs_ => eL ⟨g2, 0 + 1, none⟩ (.int .i64 x1.at_) Try.underlying3 (blk_cell (((hs_.2 (unl 9 24 9 hc_ hu_ (by kernel_rfl))) _ rfl).trans o141) rfl)) ?_; intro hc161 hs162
    refine xv (i := 10) (d := 41) rfl rfl rfl (by kernel_rfl) (by kernel_rfl) (fun L_ w_ => by simp only [getD_set_ne true (show (10 : Nat) ≠ 24 by decide)]) hc161 hs162 (fun L_ w_ hc_ hu_ hs_ => eM (.int .i64 x9)) ?_; intro hc163 hs164
    refine xv (i := 11) (d := 42) rfl rfl rfl (by kernel_rfl) (by kernel_rfl) (fun L_ w_ => by simp only [getD_set_ne true (show (11 : Nat) ≠ 24 by decide)]) hc163 hs164 (fun L_ w_ hc_ hu_ hs_ => eM (.pointer (some ⟨g2, 0, none⟩))) ?_; intro hc165 hs166
    refine xv (i := 12) (d := 43) rfl rfl rfl (by kernel_rfl) (by kernel_rfl) (fun L_ w_ => by simp only [getD_set_ne true (show (12 : Nat) ≠ 24 by decide)]) hc165 hs166 (fun L_ w_ hc_ hu_ hs_ => eN ⟨g2, 0, none⟩) ?_; intro hc167 hs168
    refine xv (i := 13) (d := 44) rfl rfl rfl (by kernel_rfl) (by kernel_rfl) (fun L_ w_ => by simp only [getD_set_ne true (show (13 : Nat) ≠ 24 by decide)]) hc167 hs168 (fun L_ w_ hc_ hu_ hs_ => eD g2 0 1 1 Try.underlying42) ?_; intro hc169 hs170
    refine xv (i := 14) (d := 45) rfl rfl rfl (by kernel_rfl) (by kernel_rfl) (fun L_ w_ => by simp only [getD_set_ne true (show (14 : Nat) ≠ 24 by decide)]) hc169 hs170 (fun L_ w_ hc_ hu_ hs_ => eL ⟨g2, 0 + 1, none⟩ (.int .i64 x1.at_) Try.underlying3 (blk_cell (((hs_.2 (unl 9 24 14 hc_ hu_ (by kernel_rfl))) _ rfl).trans o141) rfl)) ?_; intro hc171 hs172
    refine xv (i := 15) (d := 46) rfl rfl rfl (by kernel_rfl) (by kernel_rfl) (fun L_ w_ => by simp only [getD_set_ne true (show (15 : Nat) ≠ 24 by decide)]) hc171 hs172 (fun L_ w_ hc_ hu_ hs_ => e_sub (k := .i64) (a := x9) (b := x1.at_) (by kernel_rfl) (by kernel_rfl)) ?_; intro hc173 hs174
    refine xv (i := 16) (d := 47) rfl rfl rfl (by kernel_rfl) (by kernel_rfl) (fun L_ w_ => by simp only [getD_set_ne true (show (16 : Nat) ≠ 24 by decide)]) hc173 hs174 (fun L_ w_ hc_ hu_ hs_ => eM (str x10)) ?_; intro hc175 hs176
    refine xv (i := 18) (d := 49) rfl rfl rfl (by kernel_rfl) (by kernel_rfl) (fun L_ w_ => by simp only [getD_set_ne true (show (18 : Nat) ≠ 24 by decide)]) hc175 hs176 (fun L_ w_ hc_ hu_ hs_ => eM (.int .i64 x11)) ?_; intro hc177 hs178
    obtain ⟨q179, M⟩ := chk M
    refine xone (i := 17) (by kernel_rfl) hc177 ?_
    refine ye (i := 17) (d := 48) rfl rfl (wanted_none rfl _) (by kernel_rfl) (by kernel_rfl) (e_conv_sb (xs := x10) S138 Try.underlying9 Try.underlying23 Try.underlying5 (by kernel_rfl) q179) ?_
    rintro hc187 _ w180 ⟨A181, c182, F183, rfl, h184, S185, K186⟩
    replace h6 := h6.move (K186.at 0 rfl)
    replace b3 := K186.blk 1 rfl b3
    refine ⟨⟨S185.inv, (fun q_ => (fun b_ h_ => (K186.at 1 rfl b_ h_).trans ((hs178.2 (by decide +kernel)) b_ h_)))⟩, fun hs188 => ?_⟩
    refine xone (i := 19) (by kernel_rfl) hc187 ?_
    refine yo (i := 19) (d := 50) rfl rfl (wanted_none rfl _) (by kernel_rfl) (by kernel_rfl) (fun L_ w_ => by simp only [getD_set_ne true (show (19 : Nat) ≠ 24 by decide)]) hs188 (show _ = Result.ok (Next.value (.agg #[.int .i64 x8, .int .i64 x1.at_, .int .i64 (IntKind.i64.wrap (x9 - x1.at_)), .slice A181 x10.length c182, .int .i64 x11])) w180 from by kernel_rfl) ?_; intro hc189 hs190
    refine xone (i := 20) (by kernel_rfl) hc189 ?_
    refine ye (i := 20) (d := 51) rfl rfl (wanted_none rfl _) (by kernel_rfl) (by kernel_rfl) (new_blk (v := fun g_ => .slice (some ⟨g_, 0, none⟩) 1 1) (cs := #[.int .i64 x8, .int .i64 x1.at_, .int .i64 (IntKind.i64.wrap (x9 - x1.at_)), .slice A181 x10.length c182, .int .i64 x11]) (t := 37) S185 (by kernel_rfl)) ?_
    rintro hc196 _ w191 ⟨g192, rfl, b193, S194, K195⟩
    replace h184 := h184.move (K195.at 0 rfl)
    replace h6 := h6.move (K195.at 1 rfl)
    replace b3 := K195.blk 2 rfl b3
    refine ⟨⟨S194.inv, (fun q_ => (fun b_ h_ => (K195.at 2 rfl b_ h_).trans ((hs190.2 (by decide +kernel)) b_ h_)))⟩, fun hs197 => ?_⟩
    obtain ⟨q198, M⟩ := chk M
    have S199 := S194.pull (F := F183) (Fr := [(is g192), F7, (is g2)]) 1 rfl rfl
    have S200 := S199.pull (F := F7) (Fr := [F183, (is g192), (is g2)]) 2 rfl rfl
    refine xone (i := 21) (by kernel_rfl) hc196 ?_
    refine ye (i := 21) (d := 52) rfl rfl (wanted_none rfl _) (by kernel_rfl) (by kernel_rfl) (e_append (d := st37) (n := x1.tokens_.length) (xs := x1.tokens_) (cap := c5) (A := A4) (ys := [(⟨x8, x1.at_, (IntKind.i64.wrap (x9 - x1.at_)), x10, x11⟩ : Token)]) (A2 := (some ⟨g192, 0, none⟩)) (c2 := 1) (z := .agg #[.int .i64 0, .int .i64 0, .int .i64 0, .slice none 0 0, .int .i64 0]) (bytes := 56) S200 Try.underlying27 (by kernel_rfl) rfl (by decide) (by kernel_rfl) rfl (by kernel_rfl) h6 (elsO_one1 (st37_mkO (x := (⟨x8, x1.at_, (IntKind.i64.wrap (x9 - x1.at_)), x10, x11⟩ : Token)) h184)) (.inr (blk_news b193 rfl)) (show (x1.tokens_.length + [(⟨x8, x1.at_, (IntKind.i64.wrap (x9 - x1.at_)), x10, x11⟩ : Token)].length) * 56 ≤ _ by first | omega | (simp only [List.length_cons, List.length_nil]; omega)) (by decide)) ?_
    rintro hc208 _ w201 ⟨A202, c203, F204, rfl, h205, S206, K207⟩
    replace b3 := K207.blk 1 rfl b3
    refine ⟨⟨S206.inv, (fun q_ => (fun b_ h_ => (K207.at 1 rfl b_ h_).trans ((hs197.2 (by decide +kernel)) b_ h_)))⟩, fun hs209 => ?_⟩
    refine xone (i := 22) (by kernel_rfl) hc208 ?_
    refine yo (i := 22) (d := 53) rfl rfl (wanted_none rfl _) (by kernel_rfl) (by kernel_rfl) (fun L_ w_ => by simp only [getD_set_ne true (show (22 : Nat) ≠ 24 by decide)]) hs209 (eN ⟨g2, 0, none⟩) ?_; intro hc210 hs211
    refine xone (i := 23) (by kernel_rfl) hc210 ?_
    refine yo (i := 23) (d := 54) rfl rfl (wanted_none rfl _) (by kernel_rfl) (by kernel_rfl) (fun L_ w_ => by simp only [getD_set_ne true (show (23 : Nat) ≠ 24 by decide)]) hs211 (eD g2 0 2 1 Try.underlying42) ?_; intro hc212 hs213
    have S214 := S206.pull (F := (is g2)) (Fr := [F204, (is g192)]) 2 rfl rfl
    refine xone (i := 24) (by kernel_rfl) hc212 ?_
    refine ys (i := 24) rfl rfl (wanted_none rfl _) (by kernel_rfl) (by kernel_rfl) (eS g2 (0 + 2) (.slice A202 ((x1.tokens_ ++ [(⟨x8, x1.at_, (IntKind.i64.wrap (x9 - x1.at_)), x10, x11⟩ : Token)]).length) c203) #[str x1.s_, .int .i64 x1.at_, .slice A202 ((x1.tokens_ ++ [(⟨x8, x1.at_, (IntKind.i64.wrap (x9 - x1.at_)), x10, x11⟩ : Token)]).length) c203, .int .i64 x1.code_, .int .i64 x1.place_] [.slice A202 ((x1.tokens_ ++ [(⟨x8, x1.at_, (IntKind.i64.wrap (x9 - x1.at_)), x10, x11⟩ : Token)]).length) c203] S214 b3) ?_
    rintro hc219 w215 ⟨b216, S217, K218⟩
    replace h205 := h205.move (K218.at 0 rfl)
    refine ⟨⟨S217.inv, (fun q_ => absurd q_ (by decide +kernel))⟩, fun hs220 => ?_⟩
    clear b3
    refine xn (by kernel_rfl) ?_ _
    refine then_n (wp_region_lit (lV 55 (eM (.pointer (some ⟨g2, 0, none⟩))) (lV 56 (eM (.int .i64 x9)) (lV 57 (eN ⟨g2, 0, none⟩) (lV 58 (eD g2 0 1 1 Try.underlying42) ?_)))))
    refine lE (eS g2 (0 + 1) (.int .i64 x9) #[str x1.s_, .int .i64 x9, .slice A202 ((x1.tokens_ ++ [(⟨x8, x1.at_, (IntKind.i64.wrap (x9 - x1.at_)), x10, x11⟩ : Token)]).length) c203, .int .i64 x1.code_, .int .i64 x1.place_] [.int .i64 x9] S217 b216) ?_
    rintro w221 ⟨b222, S223, K224⟩
    replace h205 := h205.move (K224.at 0 rfl)
    clear b216
    refine wpList_nil ?_
    obtain rfl := Option.some.inj M
    have S225 := S223.pull (F := F204) (Fr := [(is g2), (is g192)]) 1 rfl rfl
    have S226 := S225.pull (F := (is g2)) (Fr := [F204, (is g192)]) 1 rfl rfl
    have S227 := St.first (Fa := [(is g2), F204]) (Fr := [(is g192)]) S226
    exact end0 rfl ⟨A202, c203, F204, H, rfl, h205, b222, S227⟩
  replace M := ifn q120 M
  refine lG 17 16 (bF q120) (eM (.int .i64 x8)) (lG 18 16 (bF q120) (eEq .i64 x8 4) (lV 19 (eF (.bool (decide (x8 = 4))) (bF q120)) (lV 20 (eM (.bool (decide (x8 = 4)))) ?_)))
  by_cases q228 : x8 = 4
  · replace M := ifp q228 M
    refine lG 21 20 (bT q228) (eM (str x10)) (lG 22 20 (bT q228) (e_slen (p := x10) Try.underlying9 (by kernel_rfl)) (lG 23 20 (bT q228) (e_gtr (k := .i64) (a := (x10.length : Int)) (b := 100) (by kernel_rfl) rfl) (lV 24 (eT (.bool (decide ((x10.length : Int) > 100))) (bT q228)) (wpList_nil (then_n ?_)))))
    by_cases q229 : (x10.length : Int) > 100
    · replace M := ifp q229 M
      refine cT (bT q229) (wp_seq (wp_region_lit (lV 25 (eM (.pointer (some ⟨g2, 0, none⟩))) (lV 26 (eM (.pointer (some ⟨g2, 0, none⟩))) (lV 27 (eN ⟨g2, 0, none⟩) (lV 28 (eD g2 0 1 1 Try.underlying42) (lV 29 (eL ⟨g2, 0 + 1, none⟩ (.int .i64 x1.at_) Try.underlying3 (blk_cell b3 rfl)) ?_)))))))
      have S230 := S0_.pull (F := (is g2)) (Fr := [F7]) 1 rfl rfl
      have S231 := S230.pull (F := F7) (Fr := [(is g2)]) 1 rfl rfl
      obtain ⟨t232, u233, M⟩ := bnd M
      refine lC 30 (eC [.tmp 25, .const (.int .i64 3), .tmp 29] [.pointer (some ⟨g2, 0, none⟩), .int .i64 3, .int .i64 x1.at_] Try.func37) (impl_lexer_fault.calls w H x1 g2 A4 c5 F7 3 x1.at_ h6 b3 (St.own' (Fa := [F7, (is g2)]) (Fr := []) S231) t232 u233) ?_
      rintro _ w234 ⟨A237, c238, F240, H235, rfl, h239, b241, T236⟩
      refine ⟨_, rfl, ?_⟩
      obtain ⟨S242, K243⟩ := St.call (Fa := [F7, (is g2)]) (Fr := []) S231 T236
      have E244 := T236.ext
      refine wpList_nil (then_n (wp_ret (then_r ?_)))
      obtain rfl := Option.some.inj M
      exact Go.Sy.ret0 rfl ⟨A237, c238, F240, H235, rfl, h239, b241, S242⟩
    replace M := ifn q229 M
    refine cF (bF q229) (wp_skip (then_n (wp_seq ?_)))
    refine region_mix (S := (fun (L_ : Array Bool) (w_ : World) => Ext H (hp w_) ∧ (L_.getD 24 true = false → (∀ b_, (is g2) b_ → hp w_ b_ = hp w b_)))) (by kernel_rfl) S0_ ?_
    intro w245 S246 K247 hc248
    have o249 := b3
    have hs250 : (fun (L_ : Array Bool) (w_ : World) => Ext H (hp w_) ∧ (L_.getD 24 true = false → (∀ b_, (is g2) b_ → hp w_ b_ = hp w b_))) (Array.replicate 25 false) w245 := ⟨S246.inv, (fun _ => (fun b_ h_ => K247.at 1 rfl b_ h_))⟩
    replace h6 := h6.move (K247.at 0 rfl)
    replace b3 := K247.blk 1 rfl b3
    refine xv (i := 0) (d := 31) rfl rfl rfl (by kernel_rfl) (by kernel_rfl) (fun L_ w_ => by simp only [getD_set_ne true (show (0 : Nat) ≠ 24 by decide)]) hc248 hs250 (fun L_ w_ hc_ hu_ hs_ => eM (.pointer (some ⟨g2, 0, none⟩))) ?_; intro hc251 hs252
    refine xv (i := 1) (d := 32) rfl rfl rfl (by kernel_rfl) (by kernel_rfl) (fun L_ w_ => by simp only [getD_set_ne true (show (1 : Nat) ≠ 24 by decide)]) hc251 hs252 (fun L_ w_ hc_ hu_ hs_ => eM (.pointer (some ⟨g2, 0, none⟩))) ?_; intro hc253 hs254
    refine xv (i := 2) (d := 33) rfl rfl rfl (by kernel_rfl) (by kernel_rfl) (fun L_ w_ => by simp only [getD_set_ne true (show (2 : Nat) ≠ 24 by decide)]) hc253 hs254 (fun L_ w_ hc_ hu_ hs_ => eN ⟨g2, 0, none⟩) ?_; intro hc255 hs256
    refine xv (i := 3) (d := 34) rfl rfl rfl (by kernel_rfl) (by kernel_rfl) (fun L_ w_ => by simp only [getD_set_ne true (show (3 : Nat) ≠ 24 by decide)]) hc255 hs256 (fun L_ w_ hc_ hu_ hs_ => eD g2 0 2 1 Try.underlying42) ?_; intro hc257 hs258
    refine xv (i := 4) (d := 35) rfl rfl rfl (by kernel_rfl) (by kernel_rfl) (fun L_ w_ => by simp only [getD_set_ne true (show (4 : Nat) ≠ 24 by decide)]) hc257 hs258 (fun L_ w_ hc_ hu_ hs_ => eL ⟨g2, 0 + 2, none⟩ (.slice A4 x1.tokens_.length c5) Try.underlying27 (blk_cell (((hs_.2 (unl 9 24 4 hc_ hu_ (by kernel_rfl))) _ rfl).trans o249) rfl)) ?_; intro hc259 hs260
    refine xv (i := 5) (d := 36) rfl rfl rfl (by kernel_rfl) (by kernel_rfl) (fun L_ w_ => by simp only [getD_set_ne true (show (5 : Nat) ≠ 24 by decide)]) hc259 hs260 (fun L_ w_ hc_ hu_ hs_ => eM (.int .i64 x8)) ?_; intro hc261 hs262
    refine xv (i := 6) (d := 37) rfl rfl rfl (by kernel_rfl) (by kernel_rfl) (fun L_ w_ => by simp only [getD_set_ne true (show (6 : Nat) ≠ 24 by decide)]) hc261 hs262 (fun L_ w_ hc_ hu_ hs_ => eM (.pointer (some ⟨g2, 0, none⟩))) ?_; intro hc263 hs264
    refine xv (i := 7) (d := 38) rfl rfl rfl (by kernel_rfl) (by kernel_rfl) (fun L_ w_ => by simp only [getD_set_ne true (show (7 : Nat) ≠ 24 by decide)]) hc263 hs264 (fun L_ w_ hc_ hu_ hs_ => eN ⟨g2, 0, none⟩) ?_; intro hc265 hs266
    refine xv (i := 8) (d := 39) rfl rfl rfl (by kernel_rfl) (by kernel_rfl) (fun L_ w_ => by simp only [getD_set_ne true (show (8 : Nat) ≠ 24 by decide)]) hc265 hs266 (fun L_ w_ hc_ hu_ hs_ => eD g2 0 1 1 Try.underlying42) ?_; intro hc267 hs268
    refine xv (i := 9) (d := 40) rfl rfl rfl (by kernel_rfl) (by kernel_rfl) (fun L_ w_ => by simp only [getD_set_ne true (show (9 : Nat) ≠ 24 by decide)]) hc267 hs268 (fun L_ w_ hc_ hu_ hs_ => eL ⟨g2, 0 + 1, none⟩ (.int .i64 x1.at_) Try.underlying3 (blk_cell (((hs_.2 (unl 9 24 9 hc_ hu_ (by kernel_rfl))) _ rfl).trans o249) rfl)) ?_; intro hc269 hs270
    refine xv (i := 10) (d := 41) rfl rfl rfl (by kernel_rfl) (by kernel_rfl) (fun L_ w_ => by simp only [getD_set_ne true (show (10 : Nat) ≠ 24 by decide)]) hc269 hs270 (fun L_ w_ hc_ hu_ hs_ => eM (.int .i64 x9)) ?_; intro hc271 hs272
    refine xv (i := 11) (d := 42) rfl rfl rfl (by kernel_rfl) (by kernel_rfl) (fun L_ w_ => by simp only [getD_set_ne true (show (11 : Nat) ≠ 24 by decide)]) hc271 hs272 (fun L_ w_ hc_ hu_ hs_ => eM (.pointer (some ⟨g2, 0, none⟩))) ?_; intro hc273 hs274
    refine xv (i := 12) (d := 43) rfl rfl rfl (by kernel_rfl) (by kernel_rfl) (fun L_ w_ => by simp only [getD_set_ne true (show (12 : Nat) ≠ 24 by decide)]) hc273 hs274 (fun L_ w_ hc_ hu_ hs_ => eN ⟨g2, 0, none⟩) ?_; intro hc275 hs276
    refine xv (i := 13) (d := 44) rfl rfl rfl (by kernel_rfl) (by kernel_rfl) (fun L_ w_ => by simp only [getD_set_ne true (show (13 : Nat) ≠ 24 by decide)]) hc275 hs276 (fun L_ w_ hc_ hu_ hs_ => eD g2 0 1 1 Try.underlying42) ?_; intro hc277 hs278
    refine xv (i := 14) (d := 45) rfl rfl rfl (by kernel_rfl) (by kernel_rfl) (fun L_ w_ => by simp only [getD_set_ne true (show (14 : Nat) ≠ 24 by decide)]) hc277 hs278 (fun L_ w_ hc_ hu_ hs_ => eL ⟨g2, 0 + 1, none⟩ (.int .i64 x1.at_) Try.underlying3 (blk_cell (((hs_.2 (unl 9 24 14 hc_ hu_ (by kernel_rfl))) _ rfl).trans o249) rfl)) ?_; intro hc279 hs280
    refine xv (i := 15) (d := 46) rfl rfl rfl (by kernel_rfl) (by kernel_rfl) (fun L_ w_ => by simp only [getD_set_ne true (show (15 : Nat) ≠ 24 by decide)]) hc279 hs280 (fun L_ w_ hc_ hu_ hs_ => e_sub (k := .i64) (a := x9) (b := x1.at_) (by kernel_rfl) (by kernel_rfl)) ?_; intro hc281 hs282
    refine xv (i := 16) (d := 47) rfl rfl rfl (by kernel_rfl) (by kernel_rfl) (fun L_ w_ => by simp only [getD_set_ne true (show (16 : Nat) ≠ 24 by decide)]) hc281 hs282 (fun L_ w_ hc_ hu_ hs_ => eM (str x10)) ?_; intro hc283 hs284
    refine xv (i := 18) (d := 49) rfl rfl rfl (by kernel_rfl) (by kernel_rfl) (fun L_ w_ => by simp only [getD_set_ne true (show (18 : Nat) ≠ 24 by decide)]) hc283 hs284 (fun L_ w_ hc_ hu_ hs_ => eM (.int .i64 x11)) ?_; intro hc285 hs286
    obtain ⟨q287, M⟩ := chk M
    refine xone (i := 17) (by kernel_rfl) hc285 ?_
    refine ye (i := 17) (d := 48) rfl rfl (wanted_none rfl _) (by kernel_rfl) (by kernel_rfl) (e_conv_sb (xs := x10) S246 Try.underlying9 Try.underlying23 Try.underlying5 (by kernel_rfl) q287) ?_
    rintro hc295 _ w288 ⟨A289, c290, F291, rfl, h292, S293, K294⟩
    replace h6 := h6.move (K294.at 0 rfl)
    replace b3 := K294.blk 1 rfl b3
    refine ⟨⟨S293.inv, (fun q_ => (fun b_ h_ => (K294.at 1 rfl b_ h_).trans ((hs286.2 (by decide +kernel)) b_ h_)))⟩, fun hs296 => ?_⟩
    refine xone (i := 19) (by kernel_rfl) hc295 ?_
    refine yo (i := 19) (d := 50) rfl rfl (wanted_none rfl _) (by kernel_rfl) (by kernel_rfl) (fun L_ w_ => by simp only [getD_set_ne true (show (19 : Nat) ≠ 24 by decide)]) hs296 (show _ = Result.ok (Next.value (.agg #[.int .i64 x8, .int .i64 x1.at_, .int .i64 (IntKind.i64.wrap (x9 - x1.at_)), .slice A289 x10.length c290, .int .i64 x11])) w288 from by kernel_rfl) ?_; intro hc297 hs298
    refine xone (i := 20) (by kernel_rfl) hc297 ?_
    refine ye (i := 20) (d := 51) rfl rfl (wanted_none rfl _) (by kernel_rfl) (by kernel_rfl) (new_blk (v := fun g_ => .slice (some ⟨g_, 0, none⟩) 1 1) (cs := #[.int .i64 x8, .int .i64 x1.at_, .int .i64 (IntKind.i64.wrap (x9 - x1.at_)), .slice A289 x10.length c290, .int .i64 x11]) (t := 37) S293 (by kernel_rfl)) ?_
    rintro hc304 _ w299 ⟨g300, rfl, b301, S302, K303⟩
    replace h292 := h292.move (K303.at 0 rfl)
    replace h6 := h6.move (K303.at 1 rfl)
    replace b3 := K303.blk 2 rfl b3
    refine ⟨⟨S302.inv, (fun q_ => (fun b_ h_ => (K303.at 2 rfl b_ h_).trans ((hs298.2 (by decide +kernel)) b_ h_)))⟩, fun hs305 => ?_⟩
    obtain ⟨q306, M⟩ := chk M
    have S307 := S302.pull (F := F291) (Fr := [(is g300), F7, (is g2)]) 1 rfl rfl
    have S308 := S307.pull (F := F7) (Fr := [F291, (is g300), (is g2)]) 2 rfl rfl
    refine xone (i := 21) (by kernel_rfl) hc304 ?_
    refine ye (i := 21) (d := 52) rfl rfl (wanted_none rfl _) (by kernel_rfl) (by kernel_rfl) (e_append (d := st37) (n := x1.tokens_.length) (xs := x1.tokens_) (cap := c5) (A := A4) (ys := [(⟨x8, x1.at_, (IntKind.i64.wrap (x9 - x1.at_)), x10, x11⟩ : Token)]) (A2 := (some ⟨g300, 0, none⟩)) (c2 := 1) (z := .agg #[.int .i64 0, .int .i64 0, .int .i64 0, .slice none 0 0, .int .i64 0]) (bytes := 56) S308 Try.underlying27 (by kernel_rfl) rfl (by decide) (by kernel_rfl) rfl (by kernel_rfl) h6 (elsO_one1 (st37_mkO (x := (⟨x8, x1.at_, (IntKind.i64.wrap (x9 - x1.at_)), x10, x11⟩ : Token)) h292)) (.inr (blk_news b301 rfl)) (show (x1.tokens_.length + [(⟨x8, x1.at_, (IntKind.i64.wrap (x9 - x1.at_)), x10, x11⟩ : Token)].length) * 56 ≤ _ by first | omega | (simp only [List.length_cons, List.length_nil]; omega)) (by decide)) ?_
    rintro hc316 _ w309 ⟨A310, c311, F312, rfl, h313, S314, K315⟩
    replace b3 := K315.blk 1 rfl b3
    refine ⟨⟨S314.inv, (fun q_ => (fun b_ h_ => (K315.at 1 rfl b_ h_).trans ((hs305.2 (by decide +kernel)) b_ h_)))⟩, fun hs317 => ?_⟩
    refine xone (i := 22) (by kernel_rfl) hc316 ?_
    refine yo (i := 22) (d := 53) rfl rfl (wanted_none rfl _) (by kernel_rfl) (by kernel_rfl) (fun L_ w_ => by simp only [getD_set_ne true (show (22 : Nat) ≠ 24 by decide)]) hs317 (eN ⟨g2, 0, none⟩) ?_; intro hc318 hs319
    refine xone (i := 23) (by kernel_rfl) hc318 ?_
    refine yo (i := 23) (d := 54) rfl rfl (wanted_none rfl _) (by kernel_rfl) (by kernel_rfl) (fun L_ w_ => by simp only [getD_set_ne true (show (23 : Nat) ≠ 24 by decide)]) hs319 (eD g2 0 2 1 Try.underlying42) ?_; intro hc320 hs321
    have S322 := S314.pull (F := (is g2)) (Fr := [F312, (is g300)]) 2 rfl rfl
    refine xone (i := 24) (by kernel_rfl) hc320 ?_
    refine ys (i := 24) rfl rfl (wanted_none rfl _) (by kernel_rfl) (by kernel_rfl) (eS g2 (0 + 2) (.slice A310 ((x1.tokens_ ++ [(⟨x8, x1.at_, (IntKind.i64.wrap (x9 - x1.at_)), x10, x11⟩ : Token)]).length) c311) #[str x1.s_, .int .i64 x1.at_, .slice A310 ((x1.tokens_ ++ [(⟨x8, x1.at_, (IntKind.i64.wrap (x9 - x1.at_)), x10, x11⟩ : Token)]).length) c311, .int .i64 x1.code_, .int .i64 x1.place_] [.slice A310 ((x1.tokens_ ++ [(⟨x8, x1.at_, (IntKind.i64.wrap (x9 - x1.at_)), x10, x11⟩ : Token)]).length) c311] S322 b3) ?_
    rintro hc327 w323 ⟨b324, S325, K326⟩
    replace h313 := h313.move (K326.at 0 rfl)
    refine ⟨⟨S325.inv, (fun q_ => absurd q_ (by decide +kernel))⟩, fun hs328 => ?_⟩
    clear b3
    refine xn (by kernel_rfl) ?_ _
    refine then_n (wp_region_lit (lV 55 (eM (.pointer (some ⟨g2, 0, none⟩))) (lV 56 (eM (.int .i64 x9)) (lV 57 (eN ⟨g2, 0, none⟩) (lV 58 (eD g2 0 1 1 Try.underlying42) ?_)))))
    refine lE (eS g2 (0 + 1) (.int .i64 x9) #[str x1.s_, .int .i64 x9, .slice A310 ((x1.tokens_ ++ [(⟨x8, x1.at_, (IntKind.i64.wrap (x9 - x1.at_)), x10, x11⟩ : Token)]).length) c311, .int .i64 x1.code_, .int .i64 x1.place_] [.int .i64 x9] S325 b324) ?_
    rintro w329 ⟨b330, S331, K332⟩
    replace h313 := h313.move (K332.at 0 rfl)
    clear b324
    refine wpList_nil ?_
    obtain rfl := Option.some.inj M
    have S333 := S331.pull (F := F312) (Fr := [(is g2), (is g300)]) 1 rfl rfl
    have S334 := S333.pull (F := (is g2)) (Fr := [F312, (is g300)]) 1 rfl rfl
    have S335 := St.first (Fa := [(is g2), F312]) (Fr := [(is g300)]) S334
    exact end0 rfl ⟨A310, c311, F312, H, rfl, h313, b330, S335⟩
  replace M := ifn q228 M
  refine lK 20 false (bF q228) ?_
  refine lK 20 false (bF q228) ?_
  refine lK 20 false (bF q228) ?_
  refine lV 24 (eF (.bool false) (bF q228)) (wpList_nil (then_n (cond_f rfl (by kernel_rfl) (wp_skip (then_n (wp_seq ?_))))))
  refine region_mix (S := (fun (L_ : Array Bool) (w_ : World) => Ext H (hp w_) ∧ (L_.getD 24 true = false → (∀ b_, (is g2) b_ → hp w_ b_ = hp w b_)))) (by kernel_rfl) S0_ ?_
  intro w336 S337 K338 hc339
  have o340 := b3
  have hs341 : (fun (L_ : Array Bool) (w_ : World) => Ext H (hp w_) ∧ (L_.getD 24 true = false → (∀ b_, (is g2) b_ → hp w_ b_ = hp w b_))) (Array.replicate 25 false) w336 := ⟨S337.inv, (fun _ => (fun b_ h_ => K338.at 1 rfl b_ h_))⟩
  replace h6 := h6.move (K338.at 0 rfl)
  replace b3 := K338.blk 1 rfl b3
  refine xv (i := 0) (d := 31) rfl rfl rfl (by kernel_rfl) (by kernel_rfl) (fun L_ w_ => by simp only [getD_set_ne true (show (0 : Nat) ≠ 24 by decide)]) hc339 hs341 (fun L_ w_ hc_ hu_ hs_ => eM (.pointer (some ⟨g2, 0, none⟩))) ?_; intro hc342 hs343
  refine xv (i := 1) (d := 32) rfl rfl rfl (by kernel_rfl) (by kernel_rfl) (fun L_ w_ => by simp only [getD_set_ne true (show (1 : Nat) ≠ 24 by decide)]) hc342 hs343 (fun L_ w_ hc_ hu_ hs_ => eM (.pointer (some ⟨g2, 0, none⟩))) ?_; intro hc344 hs345
  refine xv (i := 2) (d := 33) rfl rfl rfl (by kernel_rfl) (by kernel_rfl) (fun L_ w_ => by simp only [getD_set_ne true (show (2 : Nat) ≠ 24 by decide)]) hc344 hs345 (fun L_ w_ hc_ hu_ hs_ => eN ⟨g2, 0, none⟩) ?_; intro hc346 hs347
  refine xv (i := 3) (d := 34) rfl rfl rfl (by kernel_rfl) (by kernel_rfl) (fun L_ w_ => by simp only [getD_set_ne true (show (3 : Nat) ≠ 24 by decide)]) hc346 hs347 (fun L_ w_ hc_ hu_ hs_ => eD g2 0 2 1 Try.underlying42) ?_; intro hc348 hs349
  refine xv (i := 4) (d := 35) rfl rfl rfl (by kernel_rfl) (by kernel_rfl) (fun L_ w_ => by simp only [getD_set_ne true (show (4 : Nat) ≠ 24 by decide)]) hc348 hs349 (fun L_ w_ hc_ hu_ hs_ => eL ⟨g2, 0 + 2, none⟩ (.slice A4 x1.tokens_.length c5) Try.underlying27 (blk_cell (((hs_.2 (unl 9 24 4 hc_ hu_ (by kernel_rfl))) _ rfl).trans o340) rfl)) ?_; intro hc350 hs351
  refine xv (i := 5) (d := 36) rfl rfl rfl (by kernel_rfl) (by kernel_rfl) (fun L_ w_ => by simp only [getD_set_ne true (show (5 : Nat) ≠ 24 by decide)]) hc350 hs351 (fun L_ w_ hc_ hu_ hs_ => eM (.int .i64 x8)) ?_; intro hc352 hs353
  refine xv (i := 6) (d := 37) rfl rfl rfl (by kernel_rfl) (by kernel_rfl) (fun L_ w_ => by simp only [getD_set_ne true (show (6 : Nat) ≠ 24 by decide)]) hc352 hs353 (fun L_ w_ hc_ hu_ hs_ => eM (.pointer (some ⟨g2, 0, none⟩))) ?_; intro hc354 hs355
  refine xv (i := 7) (d := 38) rfl rfl rfl (by kernel_rfl) (by kernel_rfl) (fun L_ w_ => by simp only [getD_set_ne true (show (7 : Nat) ≠ 24 by decide)]) hc354 hs355 (fun L_ w_ hc_ hu_ hs_ => eN ⟨g2, 0, none⟩) ?_; intro hc356 hs357
  refine xv (i := 8) (d := 39) rfl rfl rfl (by kernel_rfl) (by kernel_rfl) (fun L_ w_ => by simp only [getD_set_ne true (show (8 : Nat) ≠ 24 by decide)]) hc356 hs357 (fun L_ w_ hc_ hu_ hs_ => eD g2 0 1 1 Try.underlying42) ?_; intro hc358 hs359
  refine xv (i := 9) (d := 40) rfl rfl rfl (by kernel_rfl) (by kernel_rfl) (fun L_ w_ => by simp only [getD_set_ne true (show (9 : Nat) ≠ 24 by decide)]) hc358 hs359 (fun L_ w_ hc_ hu_ hs_ => eL ⟨g2, 0 + 1, none⟩ (.int .i64 x1.at_) Try.underlying3 (blk_cell (((hs_.2 (unl 9 24 9 hc_ hu_ (by kernel_rfl))) _ rfl).trans o340) rfl)) ?_; intro hc360 hs361
  refine xv (i := 10) (d := 41) rfl rfl rfl (by kernel_rfl) (by kernel_rfl) (fun L_ w_ => by simp only [getD_set_ne true (show (10 : Nat) ≠ 24 by decide)]) hc360 hs361 (fun L_ w_ hc_ hu_ hs_ => eM (.int .i64 x9)) ?_; intro hc362 hs363
  refine xv (i := 11) (d := 42) rfl rfl rfl (by kernel_rfl) (by kernel_rfl) (fun L_ w_ => by simp only [getD_set_ne true (show (11 : Nat) ≠ 24 by decide)]) hc362 hs363 (fun L_ w_ hc_ hu_ hs_ => eM (.pointer (some ⟨g2, 0, none⟩))) ?_; intro hc364 hs365
  refine xv (i := 12) (d := 43) rfl rfl rfl (by kernel_rfl) (by kernel_rfl) (fun L_ w_ => by simp only [getD_set_ne true (show (12 : Nat) ≠ 24 by decide)]) hc364 hs365 (fun L_ w_ hc_ hu_ hs_ => eN ⟨g2, 0, none⟩) ?_; intro hc366 hs367
  refine xv (i := 13) (d := 44) rfl rfl rfl (by kernel_rfl) (by kernel_rfl) (fun L_ w_ => by simp only [getD_set_ne true (show (13 : Nat) ≠ 24 by decide)]) hc366 hs367 (fun L_ w_ hc_ hu_ hs_ => eD g2 0 1 1 Try.underlying42) ?_; intro hc368 hs369
  refine xv (i := 14) (d := 45) rfl rfl rfl (by kernel_rfl) (by kernel_rfl) (fun L_ w_ => by simp only [getD_set_ne true (show (14 : Nat) ≠ 24 by decide)]) hc368 hs369 (fun L_ w_ hc_ hu_ hs_ => eL ⟨g2, 0 + 1, none⟩ (.int .i64 x1.at_) Try.underlying3 (blk_cell (((hs_.2 (unl 9 24 14 hc_ hu_ (by kernel_rfl))) _ rfl).trans o340) rfl)) ?_; intro hc370 hs371
  refine xv (i := 15) (d := 46) rfl rfl rfl (by kernel_rfl) (by kernel_rfl) (fun L_ w_ => by simp only [getD_set_ne true (show (15 : Nat) ≠ 24 by decide)]) hc370 hs371 (fun L_ w_ hc_ hu_ hs_ => e_sub (k := .i64) (a := x9) (b := x1.at_) (by kernel_rfl) (by kernel_rfl)) ?_; intro hc372 hs373
  refine xv (i := 16) (d := 47) rfl rfl rfl (by kernel_rfl) (by kernel_rfl) (fun L_ w_ => by simp only [getD_set_ne true (show (16 : Nat) ≠ 24 by decide)]) hc372 hs373 (fun L_ w_ hc_ hu_ hs_ => eM (str x10)) ?_; intro hc374 hs375
  refine xv (i := 18) (d := 49) rfl rfl rfl (by kernel_rfl) (by kernel_rfl) (fun L_ w_ => by simp only [getD_set_ne true (show (18 : Nat) ≠ 24 by decide)]) hc374 hs375 (fun L_ w_ hc_ hu_ hs_ => eM (.int .i64 x11)) ?_; intro hc376 hs377
  obtain ⟨q378, M⟩ := chk M
  refine xone (i := 17) (by kernel_rfl) hc376 ?_
  refine ye (i := 17) (d := 48) rfl rfl (wanted_none rfl _) (by kernel_rfl) (by kernel_rfl) (e_conv_sb (xs := x10) S337 Try.underlying9 Try.underlying23 Try.underlying5 (by kernel_rfl) q378) ?_
  rintro hc386 _ w379 ⟨A380, c381, F382, rfl, h383, S384, K385⟩
  replace h6 := h6.move (K385.at 0 rfl)
  replace b3 := K385.blk 1 rfl b3
  refine ⟨⟨S384.inv, (fun q_ => (fun b_ h_ => (K385.at 1 rfl b_ h_).trans ((hs377.2 (by decide +kernel)) b_ h_)))⟩, fun hs387 => ?_⟩
  refine xone (i := 19) (by kernel_rfl) hc386 ?_
  refine yo (i := 19) (d := 50) rfl rfl (wanted_none rfl _) (by kernel_rfl) (by kernel_rfl) (fun L_ w_ => by simp only [getD_set_ne true (show (19 : Nat) ≠ 24 by decide)]) hs387 (show _ = Result.ok (Next.value (.agg #[.int .i64 x8, .int .i64 x1.at_, .int .i64 (IntKind.i64.wrap (x9 - x1.at_)), .slice A380 x10.length c381, .int .i64 x11])) w379 from by kernel_rfl) ?_; intro hc388 hs389
  refine xone (i := 20) (by kernel_rfl) hc388 ?_
  refine ye (i := 20) (d := 51) rfl rfl (wanted_none rfl _) (by kernel_rfl) (by kernel_rfl) (new_blk (v := fun g_ => .slice (some ⟨g_, 0, none⟩) 1 1) (cs := #[.int .i64 x8, .int .i64 x1.at_, .int .i64 (IntKind.i64.wrap (x9 - x1.at_)), .slice A380 x10.length c381, .int .i64 x11]) (t := 37) S384 (by kernel_rfl)) ?_
  rintro hc395 _ w390 ⟨g391, rfl, b392, S393, K394⟩
  replace h383 := h383.move (K394.at 0 rfl)
  replace h6 := h6.move (K394.at 1 rfl)
  replace b3 := K394.blk 2 rfl b3
  refine ⟨⟨S393.inv, (fun q_ => (fun b_ h_ => (K394.at 2 rfl b_ h_).trans ((hs389.2 (by decide +kernel)) b_ h_)))⟩, fun hs396 => ?_⟩
  obtain ⟨q397, M⟩ := chk M
  have S398 := S393.pull (F := F382) (Fr := [(is g391), F7, (is g2)]) 1 rfl rfl
  have S399 := S398.pull (F := F7) (Fr := [F382, (is g391), (is g2)]) 2 rfl rfl
  refine xone (i := 21) (by kernel_rfl) hc395 ?_
  refine ye (i := 21) (d := 52) rfl rfl (wanted_none rfl _) (by kernel_rfl) (by kernel_rfl) (e_append (d := st37) (n := x1.tokens_.length) (xs := x1.tokens_) (cap := c5) (A := A4) (ys := [(⟨x8, x1.at_, (IntKind.i64.wrap (x9 - x1.at_)), x10, x11⟩ : Token)]) (A2 := (some ⟨g391, 0, none⟩)) (c2 := 1) (z := .agg #[.int .i64 0, .int .i64 0, .int .i64 0, .slice none 0 0, .int .i64 0]) (bytes := 56) S399 Try.underlying27 (by kernel_rfl) rfl (by decide) (by kernel_rfl) rfl (by kernel_rfl) h6 (elsO_one1 (st37_mkO (x := (⟨x8, x1.at_, (IntKind.i64.wrap (x9 - x1.at_)), x10, x11⟩ : Token)) h383)) (.inr (blk_news b392 rfl)) (show (x1.tokens_.length + [(⟨x8, x1.at_, (IntKind.i64.wrap (x9 - x1.at_)), x10, x11⟩ : Token)].length) * 56 ≤ _ by first | omega | (simp only [List.length_cons, List.length_nil]; omega)) (by decide)) ?_
  rintro hc407 _ w400 ⟨A401, c402, F403, rfl, h404, S405, K406⟩
  replace b3 := K406.blk 1 rfl b3
  refine ⟨⟨S405.inv, (fun q_ => (fun b_ h_ => (K406.at 1 rfl b_ h_).trans ((hs396.2 (by decide +kernel)) b_ h_)))⟩, fun hs408 => ?_⟩
  refine xone (i := 22) (by kernel_rfl) hc407 ?_
  refine yo (i := 22) (d := 53) rfl rfl (wanted_none rfl _) (by kernel_rfl) (by kernel_rfl) (fun L_ w_ => by simp only [getD_set_ne true (show (22 : Nat) ≠ 24 by decide)]) hs408 (eN ⟨g2, 0, none⟩) ?_; intro hc409 hs410
  refine xone (i := 23) (by kernel_rfl) hc409 ?_
  refine yo (i := 23) (d := 54) rfl rfl (wanted_none rfl _) (by kernel_rfl) (by kernel_rfl) (fun L_ w_ => by simp only [getD_set_ne true (show (23 : Nat) ≠ 24 by decide)]) hs410 (eD g2 0 2 1 Try.underlying42) ?_; intro hc411 hs412
  have S413 := S405.pull (F := (is g2)) (Fr := [F403, (is g391)]) 2 rfl rfl
  refine xone (i := 24) (by kernel_rfl) hc411 ?_
  refine ys (i := 24) rfl rfl (wanted_none rfl _) (by kernel_rfl) (by kernel_rfl) (eS g2 (0 + 2) (.slice A401 ((x1.tokens_ ++ [(⟨x8, x1.at_, (IntKind.i64.wrap (x9 - x1.at_)), x10, x11⟩ : Token)]).length) c402) #[str x1.s_, .int .i64 x1.at_, .slice A401 ((x1.tokens_ ++ [(⟨x8, x1.at_, (IntKind.i64.wrap (x9 - x1.at_)), x10, x11⟩ : Token)]).length) c402, .int .i64 x1.code_, .int .i64 x1.place_] [.slice A401 ((x1.tokens_ ++ [(⟨x8, x1.at_, (IntKind.i64.wrap (x9 - x1.at_)), x10, x11⟩ : Token)]).length) c402] S413 b3) ?_
  rintro hc418 w414 ⟨b415, S416, K417⟩
  replace h404 := h404.move (K417.at 0 rfl)
  refine ⟨⟨S416.inv, (fun q_ => absurd q_ (by decide +kernel))⟩, fun hs419 => ?_⟩
  clear b3
  refine xn (by kernel_rfl) ?_ _
  refine then_n (wp_region_lit (lV 55 (eM (.pointer (some ⟨g2, 0, none⟩))) (lV 56 (eM (.int .i64 x9)) (lV 57 (eN ⟨g2, 0, none⟩) (lV 58 (eD g2 0 1 1 Try.underlying42) ?_)))))
  refine lE (eS g2 (0 + 1) (.int .i64 x9) #[str x1.s_, .int .i64 x9, .slice A401 ((x1.tokens_ ++ [(⟨x8, x1.at_, (IntKind.i64.wrap (x9 - x1.at_)), x10, x11⟩ : Token)]).length) c402, .int .i64 x1.code_, .int .i64 x1.place_] [.int .i64 x9] S416 b415) ?_
  rintro w420 ⟨b421, S422, K423⟩
  replace h404 := h404.move (K423.at 0 rfl)
  clear b415
  refine wpList_nil ?_
  obtain rfl := Option.some.inj M
  have S424 := S422.pull (F := F403) (Fr := [(is g2), (is g391)]) 1 rfl rfl
  have S425 := S424.pull (F := (is g2)) (Fr := [F403, (is g391)]) 1 rfl rfl
  have S426 := St.first (Fa := [(is g2), F403]) (Fr := [(is g391)]) S425
  exact end0 rfl ⟨A401, c402, F403, H, rfl, h404, b421, S426⟩

/-! impl_lexer_run -/
def impl_lexer_run.l0 : Nat → GLexer → Int → Int → Option GLexer
  | 0, _, _, _ => none
  | k21 + 1, x1, x8, x11 => (if x11 < (x1.s_.length : Int) then (if 0 ≤ x11 then ((impl_isAlnum.f (x1.s_.getD (x11 : Int).toNat (0 : UInt8))).bind fun t24 => (if t24 = true then (impl_lexer_run.l0 k21 x1 x8 (IntKind.i64.wrap (x11 + 1))) else (if 0 ≤ x1.at_ then (if x1.at_ ≤ x11 then (if x11 ≤ (x1.s_.length : Int) then ((impl_lexer_put.f x1 x8 x11 ((x1.s_.drop (x1.at_ : Int).toNat).take ((x11 : Int).toNat - (x1.at_ : Int).toNat)) 0).bind fun t68 => some t68) else none) else none) else none))) else none) else (if 0 ≤ x1.at_ then (if x1.at_ ≤ x11 then (if x11 ≤ (x1.s_.length : Int) then ((impl_lexer_put.f x1 x8 x11 ((x1.s_.drop (x1.at_ : Int).toNat).take ((x11 : Int).toNat - (x1.at_ : Int).toNat)) 0).bind fun t120 => some t120) else none) else none) else none))
def impl_lexer_run.f (k : Nat) (x1 : GLexer) (x8 : Int) : Option GLexer := (impl_lexer_run.l0 k x1 x8 x1.at_)
theorem impl_lexer_run.calls (k : Nat) (w : World) (H : Hp) (x1 : GLexer) (g2 : Nat) (A4 : Option Addr) (c5 : Nat) (F7 : Foot) (x8 : Int) (h6 : Row st37 37 H (hp w) F7 A4 c5 x1.tokens_) (b3 : w.heap[g2]? = some (.cells #[str x1.s_, .int .i64 x1.at_, .slice A4 x1.tokens_.length c5, .int .i64 x1.code_, .int .i64 x1.place_] 42 (0, 0))) (S : Own [F7, (is g2)] H w) (r : GLexer) (M : impl_lexer_run.f k x1 x8 = some r) :
    Calls Try.prog 38 #[.pointer (some ⟨g2, 0, none⟩), .int .i64 x8, .func (.func 28) #[] #[]] w (fun e e_w => ∃ (A_1 : Option Addr) (c_1 : Nat) (F_1 : Foot) (H_ : Hp), e = .returned (.tuple #[]) ∧ Row st37 37 H_ (hp e_w) F_1 A_1 c_1 r.tokens_ ∧ e_w.heap[g2]? = some (.cells #[str r.s_, .int .i64 r.at_, .slice A_1 r.tokens_.length c_1, .int .i64 r.code_, .int .i64 r.place_] 42 (0, 0)) ∧ St (anyOf [F7, (is g2)]) H w [(is g2), F_1] H_ e_w) := by
  rw [impl_lexer_run.f] at M
  refine enter (l := [.pointer (some ⟨g2, 0, none⟩), .int .i64 x8, .func (.func 28) #[] #[]]) 44 Try.func38 rfl rfl rfl ?_
  have S0_ := S.st
  refine wp_seq (wp_region_lit (lV 7 (eM (.pointer (some ⟨g2, 0, none⟩))) (lV 8 (eN ⟨g2, 0, none⟩) (lV 9 (eD g2 0 1 1 Try.underlying42) (lV 10 (eL ⟨g2, 0 + 1, none⟩ (.int .i64 x1.at_) Try.underlying3 (blk_cell b3 rfl)) (lV 6 (eA (.int .i64 x1.at_)) (wpList_nil ?_)))))))
  refine then_n (wp_seq (wp_block ?_))
  refine wp_loop_g (fun k19 a20 w9 => ∃ (f10 : Nat → Value) (x11 : Int), a20 = mk 44 f10 ∧ f10 0 = .pointer (some ⟨g2, 0, none⟩) ∧ f10 1 = .int .i64 x8 ∧ f10 2 = .func (.func 28) #[] #[] ∧ f10 6 = .int .i64 x11 ∧ Row st37 37 H (hp w9) F7 A4 c5 x1.tokens_ ∧ w9.heap[g2]? = some (.cells #[str x1.s_, .int .i64 x1.at_, .slice A4 x1.tokens_.length c5, .int .i64 x1.code_, .int .i64 x1.place_] 42 (0, 0)) ∧ St (anyOf [F7, (is g2)]) H w [F7, (is g2)] H w9 ∧ impl_lexer_run.l0 k19 x1 x8 x11 = some r) k ⟨_, x1.at_, rfl, (by kernel_rfl), (by kernel_rfl), (by kernel_rfl), (by kernel_rfl), h6, b3, S0_, M⟩ ?_
  clear M
  rintro k19 a20 w9 ⟨f10, x11, rfl, e12, e13, e14, e15, h6, b3, S16, M⟩
  rcases k19 with _ | k21
  · rw [impl_lexer_run.l0] at M
    cases M
  rw [impl_lexer_run.l0] at M
  refine wp_seq (wp_seq (wp_region_lit (lV 11 (eM (.int .i64 x11) (by exact e15)) (lV 12 (eM (.pointer (some ⟨g2, 0, none⟩)) (by exact e12)) (lV 13 (eN ⟨g2, 0, none⟩) (lV 14 (eD g2 0 0 1 Try.underlying42) (lV 15 (eL ⟨g2, 0 + 0, none⟩ (str x1.s_) Try.underlying9 (blk_cell b3 rfl)) ?_)))))))
  refine lV 16 (e_slen (p := x1.s_) Try.underlying9 (by kernel_rfl)) (lV 17 (eLt .i64 x11 (x1.s_.length : Int)) (lV 18 (eM (.bool (decide (x11 < (x1.s_.length : Int))))) ?_))
  by_cases q22 : x11 < (x1.s_.length : Int)
  · replace M := ifp q22 M
    refine lG 19 18 (bT q22) (eM (.func (.func 28) #[] #[]) (by exact e14)) (lG 20 18 (bT q22) (eM (.pointer (some ⟨g2, 0, none⟩)) (by exact e12)) (lG 21 18 (bT q22) (eN ⟨g2, 0, none⟩) (lG 22 18 (bT q22) (eD g2 0 0 1 Try.underlying42) (lG 23 18 (bT q22) (eL ⟨g2, 0 + 0, none⟩ (str x1.s_) Try.underlying9 (blk_cell b3 rfl)) (lG 24 18 (bT q22) (eM (.int .i64 x11) (by exact e15)) ?_)))))
    obtain ⟨q23, M⟩ := chk M
    refine lG 25 18 (bT q22) (e_sindex (p := x1.s_) (i := x11) (k := .i64) Try.underlying9 (by kernel_rfl) (by kernel_rfl) q23 q22) ?_
    obtain ⟨t24, u25, M⟩ := bnd M
    refine lcallg (d := 26) (t := 18) rfl (by kernel_rfl) rfl (bT q22) rfl (by kernel_rfl) (e_callv (l := [.tmp 25]) (vs := [.int .u8 ((x1.s_.getD (x11 : Int).toNat (0 : UInt8)).toNat : Int)]) (cs := []) Try.func28 (by kernel_rfl) rfl (by kernel_rfl) (by kernel_rfl)) (impl_isAlnum.calls w9 H (x1.s_.getD (x11 : Int).toNat (0 : UInt8))  S16.own0 t24 u25) ?_
    rintro _ w26 ⟨rfl, C27⟩
    refine ⟨_, rfl, ?_⟩
    obtain ⟨S28, K29⟩ := S16.still C27
    replace h6 := h6.move (K29.at 0 rfl)
    replace b3 := K29.blk 1 rfl b3
    refine lV 27 (eT (.bool t24) (bT q22)) (wpList_nil (then_n ?_))
    by_cases q30 : t24 = true
    · replace M := ifp q30 M
      refine cT (bvt q30 (by kernel_rfl)) (wp_skip (then_n (wp_block (wp_region_lit (lV 28 (eM (.int .i64 x11) (by exact e15)) (lV 29 (eAdd .i64 x11 1) (lV 6 (eA (.int .i64 (IntKind.i64.wrap (x11 + 1)))) ?_)))))))
      refine wpList_nil (inb_n (then_n ?_))
      exact ⟨k21, (by omega), _, (IntKind.i64.wrap (x11 + 1)), rfl, (by exact e12), (by exact e13), (by exact e14), (by kernel_rfl), h6, b3, S28, M⟩
    replace M := ifn q30 M
    refine cF (bvf q30 (by kernel_rfl)) (wp_exit (then_e (then_e (inb_hit (then_n ?_)))))
    refine region_mix (S := (fun (L_ : Array Bool) (w_ : World) => Ext H (hp w_) ∧ (L_.getD 13 true = false → (∀ b_, (is g2) b_ → hp w_ b_ = hp w26 b_)))) (by kernel_rfl) S28 ?_
    intro w31 S32 K33 hc34
    have o35 := b3
    have hs36 : (fun (L_ : Array Bool) (w_ : World) => Ext H (hp w_) ∧ (L_.getD 13 true = false → (∀ b_, (is g2) b_ → hp w_ b_ = hp w26 b_))) (Array.replicate 14 false) w31 := ⟨S32.inv, (fun _ => (fun b_ h_ => K33.at 1 rfl b_ h_))⟩
    replace h6 := h6.move (K33.at 0 rfl)
    replace b3 := K33.blk 1 rfl b3
    refine xv (i := 0) (d := 30) rfl rfl rfl (by kernel_rfl) (by kernel_rfl) (fun L_ w_ => by simp only [getD_set_ne true (show (0 : Nat) ≠ 13 by decide)]) hc34 hs36 (fun L_ w_ hc_ hu_ hs_ => eM (.pointer (some ⟨g2, 0, none⟩)) (by exact e12)) ?_; intro hc37 hs38
    refine xv (i := 1) (d := 31) rfl rfl rfl (by kernel_rfl) (by kernel_rfl) (fun L_ w_ => by simp only [getD_set_ne true (show (1 : Nat) ≠ 13 by decide)]) hc37 hs38 (fun L_ w_ hc_ hu_ hs_ => eM (.int .i64 x8) (by exact e13)) ?_; intro hc39 hs40
    refine xv (i := 2) (d := 32) rfl rfl rfl (by kernel_rfl) (by kernel_rfl) (fun L_ w_ => by simp only [getD_set_ne true (show (2 : Nat) ≠ 13 by decide)]) hc39 hs40 (fun L_ w_ hc_ hu_ hs_ => eM (.int .i64 x11) (by exact e15)) ?_; intro hc41 hs42
    refine xv (i := 3) (d := 33) rfl rfl rfl (by kernel_rfl) (by kernel_rfl) (fun L_ w_ => by simp only [getD_set_ne true (show (3 : Nat) ≠ 13 by decide)]) hc41 hs42 (fun L_ w_ hc_ hu_ hs_ => eM (.pointer (some ⟨g2, 0, none⟩)) (by exact e12)) ?_; intro hc43 hs44
    refine xv (i := 4) (d := 34) rfl rfl rfl (by kernel_rfl) (by kernel_rfl) (fun L_ w_ => by simp only [getD_set_ne true (show (4 : Nat) ≠ 13 by decide)]) hc43 hs44 (fun L_ w_ hc_ hu_ hs_ => eN ⟨g2, 0, none⟩) ?_; intro hc45 hs46
    refine xv (i := 5) (d := 35) rfl rfl rfl (by kernel_rfl) (by kernel_rfl) (fun L_ w_ => by simp only [getD_set_ne true (show (5 : Nat) ≠ 13 by decide)]) hc45 hs46 (fun L_ w_ hc_ hu_ hs_ => eD g2 0 0 1 Try.underlying42) ?_; intro hc47 hs48
    refine xv (i := 6) (d := 36) rfl rfl rfl (by kernel_rfl) (by kernel_rfl) (fun L_ w_ => by simp only [getD_set_ne true (show (6 : Nat) ≠ 13 by decide)]) hc47 hs48 (fun L_ w_ hc_ hu_ hs_ => eL ⟨g2, 0 + 0, none⟩ (str x1.s_) Try.underlying9 (blk_cell (((hs_.2 (unl 9 13 6 hc_ hu_ (by kernel_rfl))) _ rfl).trans o35) rfl)) ?_; intro hc49 hs50
    refine xv (i := 7) (d := 37) rfl rfl rfl (by kernel_rfl) (by kernel_rfl) (fun L_ w_ => by simp only [getD_set_ne true (show (7 : Nat) ≠ 13 by decide)]) hc49 hs50 (fun L_ w_ hc_ hu_ hs_ => eM (.pointer (some ⟨g2, 0, none⟩)) (by exact e12)) ?_; intro hc51 hs52
    refine xv (i := 8) (d := 38) rfl rfl rfl (by kernel_rfl) (by kernel_rfl) (fun L_ w_ => by simp only [getD_set_ne true (show (8 : Nat) ≠ 13 by decide)]) hc51 hs52 (fun L_ w_ hc_ hu_ hs_ => eN ⟨g2, 0, none⟩) ?_; intro hc53 hs54
    refine xv (i := 9) (d := 39) rfl rfl rfl (by kernel_rfl) (by kernel_rfl) (fun L_ w_ => by simp only [getD_set_ne true (show (9 : Nat) ≠ 13 by decide)]) hc53 hs54 (fun L_ w_ hc_ hu_ hs_ => eD g2 0 1 1 Try.underlying42) ?_; intro hc55 hs56
    refine xv (i := 10) (d := 40) rfl rfl rfl (by kernel_rfl) (by kernel_rfl) (fun L_ w_ => by simp only [getD_set_ne true (show (10 : Nat) ≠ 13 by decide)]) hc55 hs56 (fun L_ w_ hc_ hu_ hs_ => eL ⟨g2, 0 + 1, none⟩ (.int .i64 x1.at_) Try.underlying3 (blk_cell (((hs_.2 (unl 9 13 10 hc_ hu_ (by kernel_rfl))) _ rfl).trans o35) rfl)) ?_; intro hc57 hs58
    refine xone (i := 11) (by kernel_rfl) hc57 ?_
    refine yo (i := 11) (d := 41) rfl rfl (wanted_none rfl _) (by kernel_rfl) (by kernel_rfl) (fun L_ w_ => by simp only [getD_set_ne true (show (11 : Nat) ≠ 13 by decide)]) hs58 (eM (.int .i64 x11) (by exact e15)) ?_; intro hc59 hs60
    obtain ⟨q61, M⟩ := chk M
    obtain ⟨q62, M⟩ := chk M
    obtain ⟨q63, M⟩ := chk M
    refine xone (i := 12) (by kernel_rfl) hc59 ?_
    refine yo (i := 12) (d := 42) rfl rfl (wanted_none rfl _) (by kernel_rfl) (by kernel_rfl) (fun L_ w_ => by simp only [getD_set_ne true (show (12 : Nat) ≠ 13 by decide)]) hs60 (e_sslice_lh (p := x1.s_) (a := x1.at_) (b := x11) (k := .i64) (k2 := .i64) Try.underlying9 (by kernel_rfl) (by kernel_rfl) (by kernel_rfl) q61 q62 q63) ?_; intro hc64 hs65
    have S66 := S32.pull (F := (is g2)) (Fr := [F7]) 1 rfl rfl
    have S67 := S66.pull (F := F7) (Fr := [(is g2)]) 1 rfl rfl
    obtain ⟨t68, u69, M⟩ := bnd M
    refine xone (i := 13) (by kernel_rfl) hc64 ?_
    refine yc (i := 13) rfl (wanted_none rfl _) (by kernel_rfl) (by kernel_rfl) (eC [.tmp 30, .tmp 31, .tmp 32, .tmp 42, .const (.int .i64 0)] [.pointer (some ⟨g2, 0, none⟩), .int .i64 x8, .int .i64 x11, str ((x1.s_.drop (x1.at_ : Int).toNat).take ((x11 : Int).toNat - (x1.at_ : Int).toNat)), .int .i64 0] Try.func42) (impl_lexer_put.calls w31 H x1 g2 A4 c5 F7 x8 x11 ((x1.s_.drop (x1.at_ : Int).toNat).take ((x11 : Int).toNat - (x1.at_ : Int).toNat)) 0 h6 b3 (St.own' (Fa := [F7, (is g2)]) (Fr := []) S67) t68 u69) ?_
    rintro hc78 _ w70 ⟨A73, c74, F76, H71, rfl, h75, b77, T72⟩
    refine ⟨_, rfl, ?_⟩
    obtain ⟨S79, K80⟩ := St.call (Fa := [F7, (is g2)]) (Fr := []) S67 T72
    have E81 := T72.ext
    refine ⟨⟨(Ext.trans E81 S79.inv), (fun q_ => absurd q_ (by decide +kernel))⟩, fun hs82 => ?_⟩
    refine xn (by kernel_rfl) ?_ _
    obtain rfl := Option.some.inj M
    exact end0 rfl ⟨A73, c74, F76, H71, rfl, h75, b77, S79⟩
  replace M := ifn q22 M
  refine lK 18 false (bF q22) ?_
  refine lK 18 false (bF q22) ?_
  refine lK 18 false (bF q22) ?_
  refine lK 18 false (bF q22) ?_
  refine lK 18 false (bF q22) ?_
  refine lK 18 false (bF q22) ?_
  refine lK 18 false (bF q22) ?_
  refine lK 18 false (bF q22) ?_
  refine lV 27 (eF (.bool false) (bF q22)) (wpList_nil (then_n (cond_f rfl (by kernel_rfl) (wp_exit (then_e (then_e (inb_hit ?_)))))))
  refine then_n ?_
  refine region_mix (S := (fun (L_ : Array Bool) (w_ : World) => Ext H (hp w_) ∧ (L_.getD 13 true = false → (∀ b_, (is g2) b_ → hp w_ b_ = hp w9 b_)))) (by kernel_rfl) S16 ?_
  intro w83 S84 K85 hc86
  have o87 := b3
  have hs88 : (fun (L_ : Array Bool) (w_ : World) => Ext H (hp w_) ∧ (L_.getD 13 true = false → (∀ b_, (is g2) b_ → hp w_ b_ = hp w9 b_))) (Array.replicate 14 false) w83 := ⟨S84.inv, (fun _ => (fun b_ h_ => K85.at 1 rfl b_ h_))⟩
  replace h6 := h6.move (K85.at 0 rfl)
  replace b3 := K85.blk 1 rfl b3
  refine xv (i := 0) (d := 30) rfl rfl rfl (by kernel_rfl) (by kernel_rfl) (fun L_ w_ => by simp only [getD_set_ne true (show (0 : Nat) ≠ 13 by decide)]) hc86 hs88 (fun L_ w_ hc_ hu_ hs_ => eM (.pointer (some ⟨g2, 0, none⟩)) (by exact e12)) ?_; intro hc89 hs90
  refine xv (i := 1) (d := 31) rfl rfl rfl (by kernel_rfl) (by kernel_rfl) (fun L_ w_ => by simp only [getD_set_ne true (show (1 : Nat) ≠ 13 by decide)]) hc89 hs90 (fun L_ w_ hc_ hu_ hs_ => eM (.int .i64 x8) (by exact e13)) ?_; intro hc91 hs92
  refine xv (i := 2) (d := 32) rfl rfl rfl (by kernel_rfl) (by kernel_rfl) (fun L_ w_ => by simp only [getD_set_ne true (show (2 : Nat) ≠ 13 by decide)]) hc91 hs92 (fun L_ w_ hc_ hu_ hs_ => eM (.int .i64 x11) (by exact e15)) ?_; intro hc93 hs94
  refine xv (i := 3) (d := 33) rfl rfl rfl (by kernel_rfl) (by kernel_rfl) (fun L_ w_ => by simp only [getD_set_ne true (show (3 : Nat) ≠ 13 by decide)]) hc93 hs94 (fun L_ w_ hc_ hu_ hs_ => eM (.pointer (some ⟨g2, 0, none⟩)) (by exact e12)) ?_; intro hc95 hs96
  refine xv (i := 4) (d := 34) rfl rfl rfl (by kernel_rfl) (by kernel_rfl) (fun L_ w_ => by simp only [getD_set_ne true (show (4 : Nat) ≠ 13 by decide)]) hc95 hs96 (fun L_ w_ hc_ hu_ hs_ => eN ⟨g2, 0, none⟩) ?_; intro hc97 hs98
  refine xv (i := 5) (d := 35) rfl rfl rfl (by kernel_rfl) (by kernel_rfl) (fun L_ w_ => by simp only [getD_set_ne true (show (5 : Nat) ≠ 13 by decide)]) hc97 hs98 (fun L_ w_ hc_ hu_ hs_ => eD g2 0 0 1 Try.underlying42) ?_; intro hc99 hs100
  refine xv (i := 6) (d := 36) rfl rfl rfl (by kernel_rfl) (by kernel_rfl) (fun L_ w_ => by simp only [getD_set_ne true (show (6 : Nat) ≠ 13 by decide)]) hc99 hs100 (fun L_ w_ hc_ hu_ hs_ => eL ⟨g2, 0 + 0, none⟩ (str x1.s_) Try.underlying9 (blk_cell (((hs_.2 (unl 9 13 6 hc_ hu_ (by kernel_rfl))) _ rfl).trans o87) rfl)) ?_; intro hc101 hs102
  refine xv (i := 7) (d := 37) rfl rfl rfl (by kernel_rfl) (by kernel_rfl) (fun L_ w_ => by simp only [getD_set_ne true (show (7 : Nat) ≠ 13 by decide)]) hc101 hs102 (fun L_ w_ hc_ hu_ hs_ => eM (.pointer (some ⟨g2, 0, none⟩)) (by exact e12)) ?_; intro hc103 hs104
  refine xv (i := 8) (d := 38) rfl rfl rfl (by kernel_rfl) (by kernel_rfl) (fun L_ w_ => by simp only [getD_set_ne true (show (8 : Nat) ≠ 13 by decide)]) hc103 hs104 (fun L_ w_ hc_ hu_ hs_ => eN ⟨g2, 0, none⟩) ?_; intro hc105 hs106
  refine xv (i := 9) (d := 39) rfl rfl rfl (by kernel_rfl) (by kernel_rfl) (fun L_ w_ => by simp only [getD_set_ne true (show (9 : Nat) ≠ 13 by decide)]) hc105 hs106 (fun L_ w_ hc_ hu_ hs_ => eD g2 0 1 1 Try.underlying42) ?_; intro hc107 hs108
  refine xv (i := 10) (d := 40) rfl rfl rfl (by kernel_rfl) (by kernel_rfl) (fun L_ w_ => by simp only [getD_set_ne true (show (10 : Nat) ≠ 13 by decide)]) hc107 hs108 (fun L_ w_ hc_ hu_ hs_ => eL ⟨g2, 0 + 1, none⟩ (.int .i64 x1.at_) Try.underlying3 (blk_cell (((hs_.2 (unl 9 13 10 hc_ hu_ (by kernel_rfl))) _ rfl).trans o87) rfl)) ?_; intro hc109 hs110
  refine xone (i := 11) (by kernel_rfl) hc109 ?_
  refine yo (i := 11) (d := 41) rfl rfl (wanted_none rfl _) (by kernel_rfl) (by kernel_rfl) (fun L_ w_ => by simp only [getD_set_ne true (show (11 : Nat) ≠ 13 by decide)]) hs110 (eM (.int .i64 x11) (by exact e15)) ?_; intro hc111 hs112
  obtain ⟨q113, M⟩ := chk M
  obtain ⟨q114, M⟩ := chk M
  obtain ⟨q115, M⟩ := chk M
  refine xone (i := 12) (by kernel_rfl) hc111 ?_
  refine yo (i := 12) (d := 42) rfl rfl (wanted_none rfl _) (by kernel_rfl) (by kernel_rfl) (fun L_ w_ => by simp only [getD_set_ne true (show (12 : Nat) ≠ 13 by decide)]) hs112 (e_sslice_lh (p := x1.s_) (a := x1.at_) (b := x11) (k := .i64) (k2 := .i64) Try.underlying9 (by kernel_rfl) (by kernel_rfl) (by kernel_rfl) q113 q114 q115) ?_; intro hc116 hs117
  have S118 := S84.pull (F := (is g2)) (Fr := [F7]) 1 rfl rfl
  have S119 := S118.pull (F := F7) (Fr := [(is g2)]) 1 rfl rfl
  obtain ⟨t120, u121, M⟩ := bnd M
  refine xone (i := 13) (by kernel_rfl) hc116 ?_
  refine yc (i := 13) rfl (wanted_none rfl _) (by kernel_rfl) (by kernel_rfl) (eC [.tmp 30, .tmp 31, .tmp 32, .tmp 42, .const (.int .i64 0)] [.pointer (some ⟨g2, 0, none⟩), .int .i64 x8, .int .i64 x11, str ((x1.s_.drop (x1.at_ : Int).toNat).take ((x11 : Int).toNat - (x1.at_ : Int).toNat)), .int .i64 0] Try.func42) (impl_lexer_put.calls w83 H x1 g2 A4 c5 F7 x8 x11 ((x1.s_.drop (x1.at_ : Int).toNat).take ((x11 : Int).toNat - (x1.at_ : Int).toNat)) 0 h6 b3 (St.own' (Fa := [F7, (is g2)]) (Fr := []) S119) t120 u121) ?_
  rintro hc130 _ w122 ⟨A125, c126, F128, H123, rfl, h127, b129, T124⟩
  refine ⟨_, rfl, ?_⟩
  obtain ⟨S131, K132⟩ := St.call (Fa := [F7, (is g2)]) (Fr := []) S119 T124
  have E133 := T124.ext
  refine ⟨⟨(Ext.trans E133 S131.inv), (fun q_ => absurd q_ (by decide +kernel))⟩, fun hs134 => ?_⟩
  refine xn (by kernel_rfl) ?_ _
  obtain rfl := Option.some.inj M
  exact end0 rfl ⟨A125, c126, F128, H123, rfl, h127, b129, S131⟩

/-! impl_hexValue -/
def impl_hexValue.f (x1 : UInt8) : Option Int := ((impl_isDigit.f x1).bind fun t2 => (if t2 = true then some ((b8 ((x1.toNat : Int) - 48)).toNat : Int) else (if (x1.toNat : Int) ≥ 97 then (if (x1.toNat : Int) ≤ 102 then some (IntKind.i64.wrap (((b8 ((x1.toNat : Int) - 97)).toNat : Int) + 10)) else (if (x1.toNat : Int) ≥ 65 then (if (x1.toNat : Int) ≤ 70 then some (IntKind.i64.wrap (((b8 ((x1.toNat : Int) - 65)).toNat : Int) + 10)) else some 99) else some 99)) else (if (x1.toNat : Int) ≥ 65 then (if (x1.toNat : Int) ≤ 70 then some (IntKind.i64.wrap (((b8 ((x1.toNat : Int) - 65)).toNat : Int) + 10)) else some 99) else some 99))))
theorem impl_hexValue.calls (w : World) (H : Hp) (x1 : UInt8) (S : Own [] H w) (r : Int) (M : impl_hexValue.f x1 = some r) :
    Calls Try.prog 49 #[.int .u8 (x1.toNat : Int)] w (fun e e_w => e = .returned (.int .i64 r) ∧ Chg no w e_w) := by
  rw [impl_hexValue.f] at M
  refine enter (l := [.int .u8 (x1.toNat : Int)]) 31 Try.func49 rfl rfl rfl ?_
  have S0_ := S.st
  refine wp_seq (wp_region_lit (lV 2 (eA (.int .i64 0)) (wpList_nil (then_n (wp_seq (wp_block (wp_seq ?_)))))))
  refine wp_region_lit (lV 4 (eM (.int .u8 (x1.toNat : Int))) ?_)
  obtain ⟨t2, u3, M⟩ := bnd M
  refine lC 5 (eC [.tmp 4] [.int .u8 (x1.toNat : Int)] Try.func40) (impl_isDigit.calls w H x1  S0_.own0 t2 u3) ?_
  rintro _ w4 ⟨rfl, C5⟩
  refine ⟨_, rfl, ?_⟩
  obtain ⟨S6, K7⟩ := S0_.still C5
  refine lV 3 (eA (.bool t2)) (wpList_nil (then_n ?_))
  by_cases q8 : t2 = true
  · replace M := ifp q8 M
    refine cT (bvt q8 (by kernel_rfl)) (wp_seq (wp_region_lit (lV 6 (eM (.int .u8 (x1.toNat : Int))) (lV 7 (e_sub8 (a := (x1.toNat : Int)) (b := 48) (by kernel_rfl) rfl) (lV 8 (e_conv_8i (a := (b8 ((x1.toNat : Int) - 48))) (by kernel_rfl) Try.underlying3 (by kernel_rfl)) (lV 2 (eA (.int .i64 ((b8 ((x1.toNat : Int) - 48)).toNat : Int))) (wpList_nil ?_)))))))
    refine then_n (wp_ret (inb_r (then_r ?_)))
    obtain rfl := Option.some.inj M
    exact ret1 rfl rfl  (show _ = .int .i64 ((b8 ((x1.toNat : Int) - 48)).toNat : Int) from (by kernel_rfl)) ⟨rfl, S6.chg⟩
  replace M := ifn q8 M
  refine cF (bvf q8 (by kernel_rfl)) (wp_seq (wp_region_lit (lV 10 (eM (.int .u8 (x1.toNat : Int))) (lV 11 (e_geq (k := .u8) (a := (x1.toNat : Int)) (b := 97) (by kernel_rfl) rfl) (lV 12 (eM (.bool (decide ((x1.toNat : Int) ≥ 97)))) ?_)))))
  by_cases q9 : (x1.toNat : Int) ≥ 97
  · replace M := ifp q9 M
    refine lG 13 12 (bT q9) (eM (.int .u8 (x1.toNat : Int))) (lG 14 12 (bT q9) (e_leq (k := .u8) (a := (x1.toNat : Int)) (b := 102) (by kernel_rfl) rfl) (lV 15 (eT (.bool (decide ((x1.toNat : Int) ≤ 102))) (bT q9)) (lV 9 (eA (.bool (decide ((x1.toNat : Int) ≤ 102)))) (wpList_nil (then_n ?_)))))
    by_cases q10 : (x1.toNat : Int) ≤ 102
    · replace M := ifp q10 M
      refine cT (bT q10) (wp_seq (wp_region_lit (lV 16 (eM (.int .u8 (x1.toNat : Int))) (lV 17 (e_sub8 (a := (x1.toNat : Int)) (b := 97) (by kernel_rfl) rfl) (lV 18 (e_conv_8i (a := (b8 ((x1.toNat : Int) - 97))) (by kernel_rfl) Try.underlying3 (by kernel_rfl)) (lV 19 (eAdd .i64 ((b8 ((x1.toNat : Int) - 97)).toNat : Int) 10) (lV 2 (eA (.int .i64 (IntKind.i64.wrap (((b8 ((x1.toNat : Int) - 97)).toNat : Int) + 10)))) ?_)))))))
      refine wpList_nil (then_n (wp_ret (inb_r (then_r ?_))))
      obtain rfl := Option.some.inj M
      exact ret1 rfl rfl  (show _ = .int .i64 (IntKind.i64.wrap (((b8 ((x1.toNat : Int) - 97)).toNat : Int) + 10)) from (by kernel_rfl)) ⟨rfl, S6.chg⟩
    replace M := ifn q10 M
    refine cF (bF q10) (wp_seq (wp_region_lit (lV 21 (eM (.int .u8 (x1.toNat : Int))) (lV 22 (e_geq (k := .u8) (a := (x1.toNat : Int)) (b := 65) (by kernel_rfl) rfl) (lV 23 (eM (.bool (decide ((x1.toNat : Int) ≥ 65)))) ?_)))))
    by_cases q11 : (x1.toNat : Int) ≥ 65
    · replace M := ifp q11 M
      refine lG 24 23 (bT q11) (eM (.int .u8 (x1.toNat : Int))) (lG 25 23 (bT q11) (e_leq (k := .u8) (a := (x1.toNat : Int)) (b := 70) (by kernel_rfl) rfl) (lV 26 (eT (.bool (decide ((x1.toNat : Int) ≤ 70))) (bT q11)) (lV 20 (eA (.bool (decide ((x1.toNat : Int) ≤ 70)))) (wpList_nil (then_n ?_)))))
      by_cases q12 : (x1.toNat : Int) ≤ 70
      · replace M := ifp q12 M
        refine cT (bT q12) (wp_seq (wp_region_lit (lV 27 (eM (.int .u8 (x1.toNat : Int))) (lV 28 (e_sub8 (a := (x1.toNat : Int)) (b := 65) (by kernel_rfl) rfl) (lV 29 (e_conv_8i (a := (b8 ((x1.toNat : Int) - 65))) (by kernel_rfl) Try.underlying3 (by kernel_rfl)) (lV 30 (eAdd .i64 ((b8 ((x1.toNat : Int) - 65)).toNat : Int) 10) (lV 2 (eA (.int .i64 (IntKind.i64.wrap (((b8 ((x1.toNat : Int) - 65)).toNat : Int) + 10)))) ?_)))))))
        refine wpList_nil (then_n (wp_ret (inb_r (then_r ?_))))
        obtain rfl := Option.some.inj M
        exact ret1 rfl rfl  (show _ = .int .i64 (IntKind.i64.wrap (((b8 ((x1.toNat : Int) - 65)).toNat : Int) + 10)) from (by kernel_rfl)) ⟨rfl, S6.chg⟩
      replace M := ifn q12 M
      refine cF (bF q12) (wp_skip (inb_n (then_n (wp_seq (wp_region_lit (lV 2 (eA (.int .i64 99)) (wpList_nil ?_)))))))
      refine then_n (wp_ret ?_)
      obtain rfl := Option.some.inj M
      exact ret1 rfl rfl  (show _ = .int .i64 99 from (by kernel_rfl)) ⟨rfl, S6.chg⟩
    replace M := ifn q11 M
    refine lK 23 false (bF q11) ?_
    refine lK 23 false (bF q11) ?_
    refine lV 26 (eF (.bool false) (bF q11)) (lV 20 (eA (.bool false)) (wpList_nil (then_n (cond_f rfl (by kernel_rfl) (wp_skip (inb_n (then_n ?_)))))))
    refine wp_seq (wp_region_lit (lV 2 (eA (.int .i64 99)) (wpList_nil (then_n (wp_ret ?_)))))
    obtain rfl := Option.some.inj M
    exact ret1 rfl rfl  (show _ = .int .i64 99 from (by kernel_rfl)) ⟨rfl, S6.chg⟩
  replace M := ifn q9 M
  refine lK 12 false (bF q9) ?_
  refine lK 12 false (bF q9) ?_
  refine lV 15 (eF (.bool false) (bF q9)) (lV 9 (eA (.bool false)) (wpList_nil (then_n (cond_f rfl (by kernel_rfl) (wp_seq (wp_region_lit (lV 21 (eM (.int .u8 (x1.toNat : Int))) ?_)))))))
  refine lV 22 (e_geq (k := .u8) (a := (x1.toNat : Int)) (b := 65) (by kernel_rfl) rfl) (lV 23 (eM (.bool (decide ((x1.toNat : Int) ≥ 65)))) ?_)
  by_cases q13 : (x1.toNat : Int) ≥ 65
  · replace M := ifp q13 M
    refine lG 24 23 (bT q13) (eM (.int .u8 (x1.toNat : Int))) (lG 25 23 (bT q13) (e_leq (k := .u8) (a := (x1.toNat : Int)) (b := 70) (by kernel_rfl) rfl) (lV 26 (eT (.bool (decide ((x1.toNat : Int) ≤ 70))) (bT q13)) (lV 20 (eA (.bool (decide ((x1.toNat : Int) ≤ 70)))) (wpList_nil (then_n ?_)))))
    by_cases q14 : (x1.toNat : Int) ≤ 70
    · replace M := ifp q14 M
      refine cT (bT q14) (wp_seq (wp_region_lit (lV 27 (eM (.int .u8 (x1.toNat : Int))) (lV 28 (e_sub8 (a := (x1.toNat : Int)) (b := 65) (by kernel_rfl) rfl) (lV 29 (e_conv_8i (a := (b8 ((x1.toNat : Int) - 65))) (by kernel_rfl) Try.underlying3 (by kernel_rfl)) (lV 30 (eAdd .i64 ((b8 ((x1.toNat : Int) - 65)).toNat : Int) 10) (lV 2 (eA (.int .i64 (IntKind.i64.wrap (((b8 ((x1.toNat : Int) - 65)).toNat : Int) + 10)))) ?_)))))))
      refine wpList_nil (then_n (wp_ret (inb_r (then_r ?_))))
      obtain rfl := Option.some.inj M
      exact ret1 rfl rfl  (show _ = .int .i64 (IntKind.i64.wrap (((b8 ((x1.toNat : Int) - 65)).toNat : Int) + 10)) from (by kernel_rfl)) ⟨rfl, S6.chg⟩
    replace M := ifn q14 M
    refine cF (bF q14) (wp_skip (inb_n (then_n (wp_seq (wp_region_lit (lV 2 (eA (.int .i64 99)) (wpList_nil ?_)))))))
    refine then_n (wp_ret ?_)
    obtain rfl := Option.some.inj M
    exact ret1 rfl rfl  (show _ = .int .i64 99 from (by kernel_rfl)) ⟨rfl, S6.chg⟩
  replace M := ifn q13 M
  refine lK 23 false (bF q13) ?_
  refine lK 23 false (bF q13) ?_
  refine lV 26 (eF (.bool false) (bF q13)) (lV 20 (eA (.bool false)) (wpList_nil (then_n (cond_f rfl (by kernel_rfl) (wp_skip (inb_n (then_n ?_)))))))
  refine wp_seq (wp_region_lit (lV 2 (eA (.int .i64 99)) (wpList_nil (then_n (wp_ret ?_)))))
  obtain rfl := Option.some.inj M
  exact ret1 rfl rfl  (show _ = .int .i64 99 from (by kernel_rfl)) ⟨rfl, S6.chg⟩

/-! impl_lexer_escape -/
def impl_lexer_escape.l1 : Nat → GLexer → Int → Int → Int → Option ((List UInt8) × Int × Bool)
  | 0, _, _, _, _ => none
  | k46 + 1, x1, x8, x35, x36 => (if x36 < (x1.s_.length : Int) then (if x36 < (IntKind.i64.wrap (x8 + 4)) then (if 0 ≤ x36 then ((impl_hexValue.f (x1.s_.getD (x36 : Int).toNat (0 : UInt8))).bind fun t50 => (if t50 < 16 then ((impl_hexValue.f (x1.s_.getD (x36 : Int).toNat (0 : UInt8))).bind fun t57 => (impl_lexer_escape.l1 k46 x1 x8 (IntKind.i64.wrap ((IntKind.i64.wrap (x35 * 16)) + t57)) (IntKind.i64.wrap (x36 + 1)))) else (if x36 = (IntKind.i64.wrap (x8 + 2)) then some (([] : List UInt8), 0, false) else (if x36 ≥ (x1.s_.length : Int) then some (([] : List UInt8), 0, false) else (if ((x1.s_.getD (x36 : Int).toNat (0 : UInt8)).toNat : Int) ≠ 92 then some (([] : List UInt8), 0, false) else some ([(b8 (x35))], (IntKind.i64.wrap (x36 + 1)), true)))))) else none) else (if x36 = (IntKind.i64.wrap (x8 + 2)) then some (([] : List UInt8), 0, false) else (if x36 ≥ (x1.s_.length : Int) then some (([] : List UInt8), 0, false) else (if 0 ≤ x36 then (if ((x1.s_.getD (x36 : Int).toNat (0 : UInt8)).toNat : Int) ≠ 92 then some (([] : List UInt8), 0, false) else some ([(b8 (x35))], (IntKind.i64.wrap (x36 + 1)), true)) else none)))) else (if x36 = (IntKind.i64.wrap (x8 + 2)) then some (([] : List UInt8), 0, false) else (if x36 ≥ (x1.s_.length : Int) then some (([] : List UInt8), 0, false) else (if 0 ≤ x36 then (if x36 < (x1.s_.length : Int) then (if ((x1.s_.getD (x36 : Int).toNat (0 : UInt8)).toNat : Int) ≠ 92 then some (([] : List UInt8), 0, false) else some ([(b8 (x35))], (IntKind.i64.wrap (x36 + 1)), true)) else none) else none))))
def impl_lexer_escape.l0 (k : Nat) (x1 : GLexer) (x8 : Int) (x14 : Bool) : Option ((List UInt8) × Int × Bool) := (if x14 = true then (if (IntKind.i64.wrap (x8 + 1)) ≤ (IntKind.i64.wrap (x8 + 2)) then (if (IntKind.i64.wrap (x8 + 2)) ≤ (x1.s_.length : Int) then some (((x1.s_.drop ((IntKind.i64.wrap (x8 + 1)) : Int).toNat).take (((IntKind.i64.wrap (x8 + 2)) : Int).toNat - ((IntKind.i64.wrap (x8 + 1)) : Int).toNat)), (IntKind.i64.wrap (x8 + 2)), true) else none) else none) else (if ((x1.s_.getD ((IntKind.i64.wrap (x8 + 1)) : Int).toNat (0 : UInt8)).toNat : Int) = 110 then some (([10] : List UInt8), (IntKind.i64.wrap (x8 + 2)), true) else (if ((x1.s_.getD ((IntKind.i64.wrap (x8 + 1)) : Int).toNat (0 : UInt8)).toNat : Int) = 116 then some (([9] : List UInt8), (IntKind.i64.wrap (x8 + 2)), true) else (if ((x1.s_.getD ((IntKind.i64.wrap (x8 + 1)) : Int).toNat (0 : UInt8)).toNat : Int) = 114 then some (([13] : List UInt8), (IntKind.i64.wrap (x8 + 2)), true) else (if ((x1.s_.getD ((IntKind.i64.wrap (x8 + 1)) : Int).toNat (0 : UInt8)).toNat : Int) = 10 then some (([] : List UInt8), (IntKind.i64.wrap (x8 + 2)), true) else (if ((x1.s_.getD ((IntKind.i64.wrap (x8 + 1)) : Int).toNat (0 : UInt8)).toNat : Int) = 120 then (impl_lexer_escape.l1 k x1 x8 0 (IntKind.i64.wrap (x8 + 2))) else some (([] : List UInt8), 0, false)))))))
def impl_lexer_escape.f (k : Nat) (x1 : GLexer) (x8 : Int) : Option ((List UInt8) × Int × Bool) := (if (IntKind.i64.wrap (x8 + 1)) ≥ (x1.s_.length : Int) then some (([] : List UInt8), 0, false) else (if 0 ≤ (IntKind.i64.wrap (x8 + 1)) then (if (IntKind.i64.wrap (x8 + 1)) < (x1.s_.length : Int) then (if ((x1.s_.getD ((IntKind.i64.wrap (x8 + 1)) : Int).toNat (0 : UInt8)).toNat : Int) = 92 then (impl_lexer_escape.l0 k x1 x8 (decide (((x1.s_.getD ((IntKind.i64.wrap (x8 + 1)) : Int).toNat (0 : UInt8)).toNat : Int) = 92))) else (if ((x1.s_.getD ((IntKind.i64.wrap (x8 + 1)) : Int).toNat (0 : UInt8)).toNat : Int) = 39 then (impl_lexer_escape.l0 k x1 x8 (decide (((x1.s_.getD ((IntKind.i64.wrap (x8 + 1)) : Int).toNat (0 : UInt8)).toNat : Int) = 39))) else (impl_lexer_escape.l0 k x1 x8 (decide (((x1.s_.getD ((IntKind.i64.wrap (x8 + 1)) : Int).toNat (0 : UInt8)).toNat : Int) = 34))))) else none) else none))
theorem impl_lexer_escape.calls (k : Nat) (w : World) (H : Hp) (x1 : GLexer) (g2 : Nat) (A4 : Option Addr) (c5 : Nat) (x8 : Int) (h6 : Rd st37 H A4 x1.tokens_) (l7 : x1.tokens_.length ≤ c5) (b3 : H g2 = some (.cells #[str x1.s_, .int .i64 x1.at_, .slice A4 x1.tokens_.length c5, .int .i64 x1.code_, .int .i64 x1.place_] 42 (0, 0))) (S : Own [] H w) (r : (List UInt8) × Int × Bool) (M : impl_lexer_escape.f k x1 x8 = some r) :
    Calls Try.prog 50 #[.pointer (some ⟨g2, 0, none⟩), .int .i64 x8] w (fun e e_w => e = .returned (.tuple #[str r.1, .int .i64 r.2.1, .bool r.2.2]) ∧ Chg no w e_w) := by
  rw [impl_lexer_escape.f] at M
  refine enter (l := [.pointer (some ⟨g2, 0, none⟩), .int .i64 x8]) 124 Try.func50 rfl rfl rfl ?_
  have S0_ := S.st
  refine wp_seq (wp_region_lit (lV 4 (eA (str ([] : List UInt8))) (lV 5 (eA (.int .i64 0)) (lV 6 (eA (.bool false)) (wpList_nil (then_n (wp_seq ?_)))))))
  refine wp_seq (wp_region_lit (lV 10 (eM (.int .i64 x8)) (lV 11 (eAdd .i64 x8 1) (lV 12 (eM (.pointer (some ⟨g2, 0, none⟩))) (lV 13 (eN ⟨g2, 0, none⟩) (lV 14 (eD g2 0 0 1 Try.underlying42) (lV 15 (eL ⟨g2, 0 + 0, none⟩ (str x1.s_) Try.underlying9 (blk_cell (S0_.inv _ _ b3) rfl)) ?_)))))))
  refine lV 16 (e_slen (p := x1.s_) Try.underlying9 (by kernel_rfl)) (lV 17 (e_geq (k := .i64) (a := (IntKind.i64.wrap (x8 + 1))) (b := (x1.s_.length : Int)) (by kernel_rfl) (by kernel_rfl)) (wpList_nil (then_n ?_)))
  by_cases q9 : (IntKind.i64.wrap (x8 + 1)) ≥ (x1.s_.length : Int)
  · replace M := ifp q9 M
    refine cT (bT q9) (wp_seq (wp_region_lit (lV 4 (eA (str ([] : List UInt8))) (lV 5 (eA (.int .i64 0)) (lV 6 (eA (.bool false)) (wpList_nil (then_n ?_)))))))
    refine wp_ret (then_r ?_)
    obtain rfl := Option.some.inj M
    exact ret3 rfl rfl rfl rfl (show _ = str ([] : List UInt8) from (by kernel_rfl)) (show _ = .int .i64 0 from (by kernel_rfl)) (show _ = .bool false from (by kernel_rfl)) ⟨rfl, S0_.chg⟩
  replace M := ifn q9 M
  refine cF (bF q9) (wp_skip (then_n (wp_seq (wp_seq (wp_region_lit (lV 18 (eM (.pointer (some ⟨g2, 0, none⟩))) (lV 19 (eN ⟨g2, 0, none⟩) ?_)))))))
  refine lV 20 (eD g2 0 0 1 Try.underlying42) (lV 21 (eL ⟨g2, 0 + 0, none⟩ (str x1.s_) Try.underlying9 (blk_cell (S0_.inv _ _ b3) rfl)) (lV 22 (eM (.int .i64 x8)) (lV 23 (eAdd .i64 x8 1) ?_)))
  obtain ⟨q10, M⟩ := chk M
  obtain ⟨q11, M⟩ := chk M
  refine lV 24 (e_sindex (p := x1.s_) (i := (IntKind.i64.wrap (x8 + 1))) (k := .i64) Try.underlying9 (by kernel_rfl) (by kernel_rfl) q10 q11) (lV 7 (eA (.int .u8 ((x1.s_.getD ((IntKind.i64.wrap (x8 + 1)) : Int).toNat (0 : UInt8)).toNat : Int))) (wpList_nil (then_n (wp_seq (wp_region_lit (lV 25 (eM (.int .u8 ((x1.s_.getD ((IntKind.i64.wrap (x8 + 1)) : Int).toNat (0 : UInt8)).toNat : Int))) (wpList_nil ?_)))))))
  refine then_n (wp_block ?_)
  refine wp_seq_cut (fun a22 w12 => ∃ (f13 : Nat → Value) (x14 : Bool), a22 = mk 124 f13 ∧ f13 0 = .pointer (some ⟨g2, 0, none⟩) ∧ f13 1 = .int .i64 x8 ∧ f13 25 = .int .u8 ((x1.s_.getD ((IntKind.i64.wrap (x8 + 1)) : Int).toNat (0 : UInt8)).toNat : Int) ∧ f13 26 = .bool x14 ∧ St (anyOf []) H w [] H w12 ∧ impl_lexer_escape.l0 k x1 x8 x14 = some r) ?_ ?_
  · refine wp_seq (wp_region_lit (lV 27 (eEq .u8 ((x1.s_.getD ((IntKind.i64.wrap (x8 + 1)) : Int).toNat (0 : UInt8)).toNat : Int) 92) (lV 26 (eA (.bool (decide (((x1.s_.getD ((IntKind.i64.wrap (x8 + 1)) : Int).toNat (0 : UInt8)).toNat : Int) = 92)))) (wpList_nil (then_n ?_)))))
    by_cases q23 : ((x1.s_.getD ((IntKind.i64.wrap (x8 + 1)) : Int).toNat (0 : UInt8)).toNat : Int) = 92
    · replace M := ifp q23 M
      refine cT (bT q23) (wp_skip (then_n ?_))
      exact ⟨_, (decide (((x1.s_.getD ((IntKind.i64.wrap (x8 + 1)) : Int).toNat (0 : UInt8)).toNat : Int) = 92)), rfl, (by kernel_rfl), (by kernel_rfl), (by kernel_rfl), (by kernel_rfl), S0_, M⟩
    replace M := ifn q23 M
    refine cF (bF q23) (wp_seq (wp_region_lit (lV 28 (eEq .u8 ((x1.s_.getD ((IntKind.i64.wrap (x8 + 1)) : Int).toNat (0 : UInt8)).toNat : Int) 39) (lV 26 (eA (.bool (decide (((x1.s_.getD ((IntKind.i64.wrap (x8 + 1)) : Int).toNat (0 : UInt8)).toNat : Int) = 39)))) (wpList_nil (then_n ?_))))))
    by_cases q24 : ((x1.s_.getD ((IntKind.i64.wrap (x8 + 1)) : Int).toNat (0 : UInt8)).toNat : Int) = 39
    · replace M := ifp q24 M
      refine cT (bT q24) (wp_skip (then_n ?_))
      exact ⟨_, (decide (((x1.s_.getD ((IntKind.i64.wrap (x8 + 1)) : Int).toNat (0 : UInt8)).toNat : Int) = 39)), rfl, (by kernel_rfl), (by kernel_rfl), (by kernel_rfl), (by kernel_rfl), S0_, M⟩
    replace M := ifn q24 M
    refine cF (bF q24) (wp_region_lit (lV 29 (eEq .u8 ((x1.s_.getD ((IntKind.i64.wrap (x8 + 1)) : Int).toNat (0 : UInt8)).toNat : Int) 34) (lV 26 (eA (.bool (decide (((x1.s_.getD ((IntKind.i64.wrap (x8 + 1)) : Int).toNat (0 : UInt8)).toNat : Int) = 34)))) (wpList_nil (then_n ?_)))))
    exact ⟨_, (decide (((x1.s_.getD ((IntKind.i64.wrap (x8 + 1)) : Int).toNat (0 : UInt8)).toNat : Int) = 34)), rfl, (by kernel_rfl), (by kernel_rfl), (by kernel_rfl), (by kernel_rfl), S0_, M⟩
  clear M
  rintro a22 w12 ⟨f13, x14, rfl, e15, e16, e17, e18, S19, M⟩
  rw [impl_lexer_escape.l0] at M
  by_cases q25 : x14 = true
  · replace M := ifp q25 M
    refine cT (bvt q25 (by exact e18)) (wp_seq (wp_region_lit (lV 30 (eM (.pointer (some ⟨g2, 0, none⟩)) (by exact e15)) (lV 31 (eN ⟨g2, 0, none⟩) (lV 32 (eD g2 0 0 1 Try.underlying42) (lV 33 (eL ⟨g2, 0 + 0, none⟩ (str x1.s_) Try.underlying9 (blk_cell (S19.inv _ _ b3) rfl)) (lV 34 (eM (.int .i64 x8) (by exact e16)) ?_)))))))
    refine lV 35 (eAdd .i64 x8 1) (lV 36 (eM (.int .i64 x8) (by exact e16)) (lV 37 (eAdd .i64 x8 2) ?_))
    obtain ⟨q26, M⟩ := chk M
    obtain ⟨q27, M⟩ := chk M
    refine lV 38 (e_sslice_lh (p := x1.s_) (a := (IntKind.i64.wrap (x8 + 1))) (b := (IntKind.i64.wrap (x8 + 2))) (k := .i64) (k2 := .i64) Try.underlying9 (by kernel_rfl) (by kernel_rfl) (by kernel_rfl) q10 q26 q27) (lV 39 (eM (.int .i64 x8) (by exact e16)) (lV 40 (eAdd .i64 x8 2) (lV 4 (eA (str ((x1.s_.drop ((IntKind.i64.wrap (x8 + 1)) : Int).toNat).take (((IntKind.i64.wrap (x8 + 2)) : Int).toNat - ((IntKind.i64.wrap (x8 + 1)) : Int).toNat)))) (lV 5 (eA (.int .i64 (IntKind.i64.wrap (x8 + 2)))) (lV 6 (eA (.bool true)) (wpList_nil (then_n ?_)))))))
    refine wp_ret (inb_r (then_r ?_))
    obtain rfl := Option.some.inj M
    exact ret3 rfl rfl rfl rfl (show _ = str ((x1.s_.drop ((IntKind.i64.wrap (x8 + 1)) : Int).toNat).take (((IntKind.i64.wrap (x8 + 2)) : Int).toNat - ((IntKind.i64.wrap (x8 + 1)) : Int).toNat)) from (by kernel_rfl)) (show _ = .int .i64 (IntKind.i64.wrap (x8 + 2)) from (by kernel_rfl)) (show _ = .bool true from (by kernel_rfl)) ⟨rfl, S19.chg⟩
  replace M := ifn q25 M
  refine cF (bvf q25 (by exact e18)) (wp_seq (wp_region_lit (lV 42 (eEq .u8 ((x1.s_.getD ((IntKind.i64.wrap (x8 + 1)) : Int).toNat (0 : UInt8)).toNat : Int) 110 (by exact e17)) (lV 41 (eA (.bool (decide (((x1.s_.getD ((IntKind.i64.wrap (x8 + 1)) : Int).toNat (0 : UInt8)).toNat : Int) = 110)))) (wpList_nil (then_n ?_))))))
  by_cases q28 : ((x1.s_.getD ((IntKind.i64.wrap (x8 + 1)) : Int).toNat (0 : UInt8)).toNat : Int) = 110
  · replace M := ifp q28 M
    refine cT (bT q28) (wp_seq (wp_region_lit (lV 43 (eM (.int .i64 x8) (by exact e16)) (lV 44 (eAdd .i64 x8 2) (lV 4 (eA (str ([10] : List UInt8))) (lV 5 (eA (.int .i64 (IntKind.i64.wrap (x8 + 2)))) (lV 6 (eA (.bool true)) ?_)))))))
    refine wpList_nil (then_n (wp_ret (inb_r (then_r ?_))))
    obtain rfl := Option.some.inj M
    exact ret3 rfl rfl rfl rfl (show _ = str ([10] : List UInt8) from (by kernel_rfl)) (show _ = .int .i64 (IntKind.i64.wrap (x8 + 2)) from (by kernel_rfl)) (show _ = .bool true from (by kernel_rfl)) ⟨rfl, S19.chg⟩
  replace M := ifn q28 M
  refine cF (bF q28) (wp_seq (wp_region_lit (lV 46 (eEq .u8 ((x1.s_.getD ((IntKind.i64.wrap (x8 + 1)) : Int).toNat (0 : UInt8)).toNat : Int) 116 (by exact e17)) (lV 45 (eA (.bool (decide (((x1.s_.getD ((IntKind.i64.wrap (x8 + 1)) : Int).toNat (0 : UInt8)).toNat : Int) = 116)))) (wpList_nil (then_n ?_))))))
  by_cases q29 : ((x1.s_.getD ((IntKind.i64.wrap (x8 + 1)) : Int).toNat (0 : UInt8)).toNat : Int) = 116
  · replace M := ifp q29 M
    refine cT (bT q29) (wp_seq (wp_region_lit (lV 47 (eM (.int .i64 x8) (by exact e16)) (lV 48 (eAdd .i64 x8 2) (lV 4 (eA (str ([9] : List UInt8))) (lV 5 (eA (.int .i64 (IntKind.i64.wrap (x8 + 2)))) (lV 6 (eA (.bool true)) ?_)))))))
    refine wpList_nil (then_n (wp_ret (inb_r (then_r ?_))))
    obtain rfl := Option.some.inj M
    exact ret3 rfl rfl rfl rfl (show _ = str ([9] : List UInt8) from (by kernel_rfl)) (show _ = .int .i64 (IntKind.i64.wrap (x8 + 2)) from (by kernel_rfl)) (show _ = .bool true from (by kernel_rfl)) ⟨rfl, S19.chg⟩
  replace M := ifn q29 M
  refine cF (bF q29) (wp_seq (wp_region_lit (lV 50 (eEq .u8 ((x1.s_.getD ((IntKind.i64.wrap (x8 + 1)) : Int).toNat (0 : UInt8)).toNat : Int) 114 (by exact e17)) (lV 49 (eA (.bool (decide (((x1.s_.getD ((IntKind.i64.wrap (x8 + 1)) : Int).toNat (0 : UInt8)).toNat : Int) = 114)))) (wpList_nil (then_n ?_))))))
  by_cases q30 : ((x1.s_.getD ((IntKind.i64.wrap (x8 + 1)) : Int).toNat (0 : UInt8)).toNat : Int) = 114
  · replace M := ifp q30 M
    refine cT (bT q30) (wp_seq (wp_region_lit (lV 51 (eM (.int .i64 x8) (by exact e16)) (lV 52 (eAdd .i64 x8 2) (lV 4 (eA (str ([13] : List UInt8))) (lV 5 (eA (.int .i64 (IntKind.i64.wrap (x8 + 2)))) (lV 6 (eA (.bool true)) ?_)))))))
    refine wpList_nil (then_n (wp_ret (inb_r (then_r ?_))))
    obtain rfl := Option.some.inj M
    exact ret3 rfl rfl rfl rfl (show _ = str ([13] : List UInt8) from (by kernel_rfl)) (show _ = .int .i64 (IntKind.i64.wrap (x8 + 2)) from (by kernel_rfl)) (show _ = .bool true from (by kernel_rfl)) ⟨rfl, S19.chg⟩
  replace M := ifn q30 M
  refine cF (bF q30) (wp_seq (wp_region_lit (lV 54 (eEq .u8 ((x1.s_.getD ((IntKind.i64.wrap (x8 + 1)) : Int).toNat (0 : UInt8)).toNat : Int) 10 (by exact e17)) (lV 53 (eA (.bool (decide (((x1.s_.getD ((IntKind.i64.wrap (x8 + 1)) : Int).toNat (0 : UInt8)).toNat : Int) = 10)))) (wpList_nil (then_n ?_))))))
  by_cases q31 : ((x1.s_.getD ((IntKind.i64.wrap (x8 + 1)) : Int).toNat (0 : UInt8)).toNat : Int) = 10
  · replace M := ifp q31 M
    refine cT (bT q31) (wp_seq (wp_region_lit (lV 55 (eM (.int .i64 x8) (by exact e16)) (lV 56 (eAdd .i64 x8 2) (lV 4 (eA (str ([] : List UInt8))) (lV 5 (eA (.int .i64 (IntKind.i64.wrap (x8 + 2)))) (lV 6 (eA (.bool true)) ?_)))))))
    refine wpList_nil (then_n (wp_ret (inb_r (then_r ?_))))
    obtain rfl := Option.some.inj M
    exact ret3 rfl rfl rfl rfl (show _ = str ([] : List UInt8) from (by kernel_rfl)) (show _ = .int .i64 (IntKind.i64.wrap (x8 + 2)) from (by kernel_rfl)) (show _ = .bool true from (by kernel_rfl)) ⟨rfl, S19.chg⟩
  replace M := ifn q31 M
  refine cF (bF q31) (wp_seq (wp_region_lit (lV 58 (eEq .u8 ((x1.s_.getD ((IntKind.i64.wrap (x8 + 1)) : Int).toNat (0 : UInt8)).toNat : Int) 120 (by exact e17)) (lV 57 (eA (.bool (decide (((x1.s_.getD ((IntKind.i64.wrap (x8 + 1)) : Int).toNat (0 : UInt8)).toNat : Int) = 120)))) (wpList_nil (then_n ?_))))))
  by_cases q32 : ((x1.s_.getD ((IntKind.i64.wrap (x8 + 1)) : Int).toNat (0 : UInt8)).toNat : Int) = 120
  · replace M := ifp q32 M
    refine cT (bT q32) (wp_seq (wp_region_lit (lV 59 (eM (.int .i64 x8) (by exact e16)) (lV 60 (eAdd .i64 x8 2) (lV 8 (eA (.int .i64 0)) (lV 9 (eA (.int .i64 (IntKind.i64.wrap (x8 + 2)))) (wpList_nil ?_)))))))
    refine then_n (wp_seq (wp_block ?_))
    refine wp_loop_g (fun k44 a45 w33 => ∃ (f34 : Nat → Value) (x35 : Int) (x36 : Int), a45 = mk 124 f34 ∧ f34 0 = .pointer (some ⟨g2, 0, none⟩) ∧ f34 1 = .int .i64 x8 ∧ f34 8 = .int .i64 x35 ∧ f34 9 = .int .i64 x36 ∧ St (anyOf []) H w [] H w33 ∧ impl_lexer_escape.l1 k44 x1 x8 x35 x36 = some r) k ⟨_, 0, (IntKind.i64.wrap (x8 + 2)), rfl, (by exact e15), (by exact e16), (by kernel_rfl), (by kernel_rfl), S19, M⟩ ?_
    clear M
    rintro k44 a45 w33 ⟨f34, x35, x36, rfl, e37, e38, e39, e40, S41, M⟩
    rcases k44 with _ | k46
    · rw [impl_lexer_escape.l1] at M
      cases M
    rw [impl_lexer_escape.l1] at M
    refine wp_seq (wp_seq (wp_region_lit (lV 61 (eM (.int .i64 x36) (by exact e40)) (lV 62 (eM (.pointer (some ⟨g2, 0, none⟩)) (by exact e37)) (lV 63 (eN ⟨g2, 0, none⟩) (lV 64 (eD g2 0 0 1 Try.underlying42) (lV 65 (eL ⟨g2, 0 + 0, none⟩ (str x1.s_) Try.underlying9 (blk_cell (S41.inv _ _ b3) rfl)) ?_)))))))
    refine lV 66 (e_slen (p := x1.s_) Try.underlying9 (by kernel_rfl)) (lV 67 (eLt .i64 x36 (x1.s_.length : Int)) (lV 68 (eM (.bool (decide (x36 < (x1.s_.length : Int))))) ?_))
    by_cases q47 : x36 < (x1.s_.length : Int)
    · replace M := ifp q47 M
      refine lG 69 68 (bT q47) (eM (.int .i64 x36) (by exact e40)) (lG 70 68 (bT q47) (eM (.int .i64 x8) (by exact e38)) (lG 71 68 (bT q47) (eAdd .i64 x8 4) (lG 72 68 (bT q47) (eLt .i64 x36 (IntKind.i64.wrap (x8 + 4))) (lV 73 (eT (.bool (decide (x36 < (IntKind.i64.wrap (x8 + 4))))) (bT q47)) (lV 74 (eM (.bool (decide (x36 < (IntKind.i64.wrap (x8 + 4)))))) ?_)))))
      by_cases q48 : x36 < (IntKind.i64.wrap (x8 + 4))
      · replace M := ifp q48 M
        refine lG 75 74 (bT q48) (eM (.pointer (some ⟨g2, 0, none⟩)) (by exact e37)) (lG 76 74 (bT q48) (eN ⟨g2, 0, none⟩) (lG 77 74 (bT q48) (eD g2 0 0 1 Try.underlying42) (lG 78 74 (bT q48) (eL ⟨g2, 0 + 0, none⟩ (str x1.s_) Try.underlying9 (blk_cell (S41.inv _ _ b3) rfl)) (lG 79 74 (bT q48) (eM (.int .i64 x36) (by exact e40)) ?_))))
        obtain ⟨q49, M⟩ := chk M
        refine lG 80 74 (bT q48) (e_sindex (p := x1.s_) (i := x36) (k := .i64) Try.underlying9 (by kernel_rfl) (by kernel_rfl) q49 q47) ?_
        obtain ⟨t50, u51, M⟩ := bnd M
        refine lcallg (d := 81) (t := 74) rfl (by kernel_rfl) rfl (bT q48) rfl (by kernel_rfl) (eC [.tmp 80] [.int .u8 ((x1.s_.getD (x36 : Int).toNat (0 : UInt8)).toNat : Int)] Try.func49) (impl_hexValue.calls w33 H (x1.s_.getD (x36 : Int).toNat (0 : UInt8))  S41.own0 t50 u51) ?_
        rintro _ w52 ⟨rfl, C53⟩
        refine ⟨_, rfl, ?_⟩
        obtain ⟨S54, K55⟩ := S41.still C53
        refine lG 82 74 (bT q48) (eLt .i64 t50 16) (lV 83 (eT (.bool (decide (t50 < 16))) (bT q48)) (wpList_nil (then_n ?_)))
        by_cases q56 : t50 < 16
        · replace M := ifp q56 M
          refine cT (bT q56) (wp_skip (then_n (wp_block (wp_seq (wp_region_lit (lV 84 (eM (.int .i64 x35) (by exact e39)) (lV 85 (e_mul (k := .i64) (a := x35) (b := 16) (by kernel_rfl) rfl) ?_)))))))
          refine lV 86 (eM (.pointer (some ⟨g2, 0, none⟩)) (by exact e37)) (lV 87 (eN ⟨g2, 0, none⟩) (lV 88 (eD g2 0 0 1 Try.underlying42) (lV 89 (eL ⟨g2, 0 + 0, none⟩ (str x1.s_) Try.underlying9 (blk_cell (S54.inv _ _ b3) rfl)) (lV 90 (eM (.int .i64 x36) (by exact e40)) (lV 91 (e_sindex (p := x1.s_) (i := x36) (k := .i64) Try.underlying9 (by kernel_rfl) (by kernel_rfl) q49 q47) ?_)))))
          obtain ⟨t57, u58, M⟩ := bnd M
          refine lC 92 (eC [.tmp 91] [.int .u8 ((x1.s_.getD (x36 : Int).toNat (0 : UInt8)).toNat : Int)] Try.func49) (impl_hexValue.calls w52 H (x1.s_.getD (x36 : Int).toNat (0 : UInt8))  S54.own0 t57 u58) ?_
          rintro _ w59 ⟨rfl, C60⟩
          refine ⟨_, rfl, ?_⟩
          obtain ⟨S61, K62⟩ := S54.still C60
          refine lV 93 (eAdd .i64 (IntKind.i64.wrap (x35 * 16)) t57) (lV 8 (eA (.int .i64 (IntKind.i64.wrap ((IntKind.i64.wrap (x35 * 16)) + t57)))) (wpList_nil (then_n (wp_region_lit (lV 94 (eM (.int .i64 x36) (by exact e40)) (lV 95 (eAdd .i64 x36 1) (lV 9 (eA (.int .i64 (IntKind.i64.wrap (x36 + 1)))) ?_)))))))
          refine wpList_nil (inb_n (then_n ?_))
          exact ⟨k46, (by omega), _, (IntKind.i64.wrap ((IntKind.i64.wrap (x35 * 16)) + t57)), (IntKind.i64.wrap (x36 + 1)), rfl, (by exact e37), (by exact e38), (by kernel_rfl), (by kernel_rfl), S61, M⟩
        replace M := ifn q56 M
        refine cF (bF q56) (wp_exit (then_e (then_e (inb_hit (then_n (wp_seq (wp_seq ?_)))))))
        refine wp_region_lit (lV 96 (eM (.int .i64 x36) (by exact e40)) (lV 97 (eM (.int .i64 x8) (by exact e38)) (lV 98 (eAdd .i64 x8 2) (lV 99 (eEq .i64 x36 (IntKind.i64.wrap (x8 + 2))) (lV 100 (eM (.bool (decide (x36 = (IntKind.i64.wrap (x8 + 2)))))) ?_)))))
        by_cases q63 : x36 = (IntKind.i64.wrap (x8 + 2))
        · replace M := ifp q63 M
          refine lK 100 true (bT q63) ?_
          refine lK 100 true (bT q63) ?_
          refine lK 100 true (bT q63) ?_
          refine lK 100 true (bT q63) ?_
          refine lK 100 true (bT q63) ?_
          refine lK 100 true (bT q63) ?_
          refine lK 100 true (bT q63) ?_
          refine lV 108 (eT (.bool true) (bT q63)) (lV 109 (eM (.bool true)) ?_)
          refine lJ 109 true ?_
          refine lJ 109 true ?_
          refine lJ 109 true ?_
          refine lJ 109 true ?_
          refine lJ 109 true ?_
          refine lJ 109 true ?_
          refine lJ 109 true ?_
          refine lV 117 (eT (.bool true)) (wpList_nil (then_n (cond_t rfl (by kernel_rfl) (wp_seq (wp_region_lit (lV 4 (eA (str ([] : List UInt8))) (lV 5 (eA (.int .i64 0)) ?_)))))))
          refine lV 6 (eA (.bool false)) (wpList_nil (then_n (wp_ret (then_r (inb_r (then_r ?_))))))
          obtain rfl := Option.some.inj M
          exact ret3 rfl rfl rfl rfl (show _ = str ([] : List UInt8) from (by kernel_rfl)) (show _ = .int .i64 0 from (by kernel_rfl)) (show _ = .bool false from (by kernel_rfl)) ⟨rfl, S54.chg⟩
        replace M := ifn q63 M
        refine lG 101 100 (bF q63) (eM (.int .i64 x36) (by exact e40)) (lG 102 100 (bF q63) (eM (.pointer (some ⟨g2, 0, none⟩)) (by exact e37)) (lG 103 100 (bF q63) (eN ⟨g2, 0, none⟩) (lG 104 100 (bF q63) (eD g2 0 0 1 Try.underlying42) (lG 105 100 (bF q63) (eL ⟨g2, 0 + 0, none⟩ (str x1.s_) Try.underlying9 (blk_cell (S54.inv _ _ b3) rfl)) (lG 106 100 (bF q63) (e_slen (p := x1.s_) Try.underlying9 (by kernel_rfl)) (lG 107 100 (bF q63) (e_geq (k := .i64) (a := x36) (b := (x1.s_.length : Int)) (by kernel_rfl) (by kernel_rfl)) (lV 108 (eF (.bool (decide (x36 ≥ (x1.s_.length : Int)))) (bF q63)) ?_)))))))
        refine lV 109 (eM (.bool (decide (x36 ≥ (x1.s_.length : Int))))) ?_
        by_cases q64 : x36 ≥ (x1.s_.length : Int)
        · replace M := ifp q64 M
          refine lK 109 true (bT q64) ?_
          refine lK 109 true (bT q64) ?_
          refine lK 109 true (bT q64) ?_
          refine lK 109 true (bT q64) ?_
          refine lK 109 true (bT q64) ?_
          refine lK 109 true (bT q64) ?_
          refine lK 109 true (bT q64) ?_
          refine lV 117 (eT (.bool true) (bT q64)) (wpList_nil (then_n (cond_t rfl (by kernel_rfl) (wp_seq (wp_region_lit (lV 4 (eA (str ([] : List UInt8))) (lV 5 (eA (.int .i64 0)) ?_)))))))
          refine lV 6 (eA (.bool false)) (wpList_nil (then_n (wp_ret (then_r (inb_r (then_r ?_))))))
          obtain rfl := Option.some.inj M
          exact ret3 rfl rfl rfl rfl (show _ = str ([] : List UInt8) from (by kernel_rfl)) (show _ = .int .i64 0 from (by kernel_rfl)) (show _ = .bool false from (by kernel_rfl)) ⟨rfl, S54.chg⟩
        replace M := ifn q64 M
        refine lG 110 109 (bF q64) (eM (.pointer (some ⟨g2, 0, none⟩)) (by exact e37)) (lG 111 109 (bF q64) (eN ⟨g2, 0, none⟩) (lG 112 109 (bF q64) (eD g2 0 0 1 Try.underlying42) (lG 113 109 (bF q64) (eL ⟨g2, 0 + 0, none⟩ (str x1.s_) Try.underlying9 (blk_cell (S54.inv _ _ b3) rfl)) (lG 114 109 (bF q64) (eM (.int .i64 x36) (by exact e40)) (lG 115 109 (bF q64) (e_sindex (p := x1.s_) (i := x36) (k := .i64) Try.underlying9 (by kernel_rfl) (by kernel_rfl) q49 q47) (lG 116 109 (bF q64) (eNe .u8 ((x1.s_.getD (x36 : Int).toNat (0 : UInt8)).toNat : Int) 92) (lV 117 (eF (.bool (decide (((x1.s_.getD (x36 : Int).toNat (0 : UInt8)).toNat : Int) ≠ 92))) (bF q64)) ?_)))))))
        refine wpList_nil (then_n ?_)
        by_cases q65 : ((x1.s_.getD (x36 : Int).toNat (0 : UInt8)).toNat : Int) ≠ 92
        · replace M := ifp q65 M
          refine cT (bT q65) (wp_seq (wp_region_lit (lV 4 (eA (str ([] : List UInt8))) (lV 5 (eA (.int .i64 0)) (lV 6 (eA (.bool false)) (wpList_nil (then_n ?_)))))))
          refine wp_ret (then_r (inb_r (then_r ?_)))
          obtain rfl := Option.some.inj M
          exact ret3 rfl rfl rfl rfl (show _ = str ([] : List UInt8) from (by kernel_rfl)) (show _ = .int .i64 0 from (by kernel_rfl)) (show _ = .bool false from (by kernel_rfl)) ⟨rfl, S54.chg⟩
        replace M := ifn q65 M
        refine cF (bF q65) (wp_skip (then_n (wp_seq (wp_region_lit (lV 118 (eM (.int .i64 x35) (by exact e39)) (lV 119 (e_conv_i8 (k := .i64) (a := x35) (by kernel_rfl) Try.underlying5 (by kernel_rfl)) ?_))))))
        refine lve (d := 120) rfl rfl (by kernel_rfl) (new_blk (v := fun g_ => .slice (some ⟨g_, 0, none⟩) 1 1) (cs := #[.int .u8 ((b8 (x35)).toNat : Int)]) (t := 5) S54 (by kernel_rfl)) ?_
        rintro _ w66 ⟨g67, rfl, b68, S69, K70⟩
        have S71 := S69.unit
        have S72 := S71.pull (F := (is g67)) (Fr := [no]) 1 rfl rfl
        obtain ⟨h73, S74⟩ := row_lit (d := tByte) (xs := [(b8 (x35))]) S72 b68 rfl (elsO_one1 rfl) (Nat.le_of_ble_eq_true rfl)
        refine lV 121 (e_conv_bs (A := (some ⟨g67, 0, none⟩)) (n := 1) (c := 1) (xs := [(b8 (x35))]) Try.underlying23 Try.underlying5 Try.underlying9 (by kernel_rfl) rfl (Row.bytes h73)) (lV 122 (eM (.int .i64 x36) (by exact e40)) (lV 123 (eAdd .i64 x36 1) (lV 4 (eA (str [(b8 (x35))])) (lV 5 (eA (.int .i64 (IntKind.i64.wrap (x36 + 1)))) (lV 6 (eA (.bool true)) (wpList_nil (then_n ?_)))))))
        refine wp_ret (inb_r (then_r ?_))
        obtain rfl := Option.some.inj M
        exact ret3 rfl rfl rfl rfl (show _ = str [(b8 (x35))] from (by kernel_rfl)) (show _ = .int .i64 (IntKind.i64.wrap (x36 + 1)) from (by kernel_rfl)) (show _ = .bool true from (by kernel_rfl)) ⟨rfl, S74.chg⟩
      replace M := ifn q48 M
      refine lK 74 false (bF q48) ?_
      refine lK 74 false (bF q48) ?_
      refine lK 74 false (bF q48) ?_
      refine lK 74 false (bF q48) ?_
      refine lK 74 false (bF q48) ?_
      refine lK 74 false (bF q48) ?_
      refine lK 74 false (bF q48) ?_
      refine lK 74 false (bF q48) ?_
      refine lV 83 (eF (.bool false) (bF q48)) (wpList_nil (then_n (cond_f rfl (by kernel_rfl) (wp_exit (then_e (then_e (inb_hit ?_)))))))
      refine then_n (wp_seq (wp_seq (wp_region_lit (lV 96 (eM (.int .i64 x36) (by exact e40)) (lV 97 (eM (.int .i64 x8) (by exact e38)) (lV 98 (eAdd .i64 x8 2) (lV 99 (eEq .i64 x36 (IntKind.i64.wrap (x8 + 2))) ?_)))))))
      refine lV 100 (eM (.bool (decide (x36 = (IntKind.i64.wrap (x8 + 2)))))) ?_
      by_cases q75 : x36 = (IntKind.i64.wrap (x8 + 2))
      · replace M := ifp q75 M
        refine lK 100 true (bT q75) ?_
        refine lK 100 true (bT q75) ?_
        refine lK 100 true (bT q75) ?_
        refine lK 100 true (bT q75) ?_
        refine lK 100 true (bT q75) ?_
        refine lK 100 true (bT q75) ?_
        refine lK 100 true (bT q75) ?_
        refine lV 108 (eT (.bool true) (bT q75)) (lV 109 (eM (.bool true)) ?_)
        refine lJ 109 true ?_
        refine lJ 109 true ?_
        refine lJ 109 true ?_
        refine lJ 109 true ?_
        refine lJ 109 true ?_
        refine lJ 109 true ?_
        refine lJ 109 true ?_
        refine lV 117 (eT (.bool true)) (wpList_nil (then_n (cond_t rfl (by kernel_rfl) (wp_seq (wp_region_lit (lV 4 (eA (str ([] : List UInt8))) (lV 5 (eA (.int .i64 0)) ?_)))))))
        refine lV 6 (eA (.bool false)) (wpList_nil (then_n (wp_ret (then_r (inb_r (then_r ?_))))))
        obtain rfl := Option.some.inj M
        exact ret3 rfl rfl rfl rfl (show _ = str ([] : List UInt8) from (by kernel_rfl)) (show _ = .int .i64 0 from (by kernel_rfl)) (show _ = .bool false from (by kernel_rfl)) ⟨rfl, S41.chg⟩
      replace M := ifn q75 M
      refine lG 101 100 (bF q75) (eM (.int .i64 x36) (by exact e40)) (lG 102 100 (bF q75) (eM (.pointer (some ⟨g2, 0, none⟩)) (by exact e37)) (lG 103 100 (bF q75) (eN ⟨g2, 0, none⟩) (lG 104 100 (bF q75) (eD g2 0 0 1 Try.underlying42) (lG 105 100 (bF q75) (eL ⟨g2, 0 + 0, none⟩ (str x1.s_) Try.underlying9 (blk_cell (S41.inv _ _ b3) rfl)) (lG 106 100 (bF q75) (e_slen (p := x1.s_) Try.underlying9 (by kernel_rfl)) (lG 107 100 (bF q75) (e_geq (k := .i64) (a := x36) (b := (x1.s_.length : Int)) (by kernel_rfl) (by kernel_rfl)) (lV 108 (eF (.bool (decide (x36 ≥ (x1.s_.length : Int)))) (bF q75)) ?_)))))))
      refine lV 109 (eM (.bool (decide (x36 ≥ (x1.s_.length : Int))))) ?_
      by_cases q76 : x36 ≥ (x1.s_.length : Int)
      · replace M := ifp q76 M
        refine lK 109 true (bT q76) ?_
        refine lK 109 true (bT q76) ?_
        refine lK 109 true (bT q76) ?_
        refine lK 109 true (bT q76) ?_
        refine lK 109 true (bT q76) ?_
        refine lK 109 true (bT q76) ?_
        refine lK 109 true (bT q76) ?_
        refine lV 117 (eT (.bool true) (bT q76)) (wpList_nil (then_n (cond_t rfl (by kernel_rfl) (wp_seq (wp_region_lit (lV 4 (eA (str ([] : List UInt8))) (lV 5 (eA (.int .i64 0)) ?_)))))))
        refine lV 6 (eA (.bool false)) (wpList_nil (then_n (wp_ret (then_r (inb_r (then_r ?_))))))
        obtain rfl := Option.some.inj M
        exact ret3 rfl rfl rfl rfl (show _ = str ([] : List UInt8) from (by kernel_rfl)) (show _ = .int .i64 0 from (by kernel_rfl)) (show _ = .bool false from (by kernel_rfl)) ⟨rfl, S41.chg⟩
      replace M := ifn q76 M
      refine lG 110 109 (bF q76) (eM (.pointer (some ⟨g2, 0, none⟩)) (by exact e37)) (lG 111 109 (bF q76) (eN ⟨g2, 0, none⟩) (lG 112 109 (bF q76) (eD g2 0 0 1 Try.underlying42) (lG 113 109 (bF q76) (eL ⟨g2, 0 + 0, none⟩ (str x1.s_) Try.underlying9 (blk_cell (S41.inv _ _ b3) rfl)) (lG 114 109 (bF q76) (eM (.int .i64 x36) (by exact e40)) ?_))))
      obtain ⟨q77, M⟩ := chk M
      refine lG 115 109 (bF q76) (e_sindex (p := x1.s_) (i := x36) (k := .i64) Try.underlying9 (by kernel_rfl) (by kernel_rfl) q77 q47) (lG 116 109 (bF q76) (eNe .u8 ((x1.s_.getD (x36 : Int).toNat (0 : UInt8)).toNat : Int) 92) (lV 117 (eF (.bool (decide (((x1.s_.getD (x36 : Int).toNat (0 : UInt8)).toNat : Int) ≠ 92))) (bF q76)) (wpList_nil (then_n ?_))))
      by_cases q78 : ((x1.s_.getD (x36 : Int).toNat (0 : UInt8)).toNat : Int) ≠ 92
      · replace M := ifp q78 M
        refine cT (bT q78) (wp_seq (wp_region_lit (lV 4 (eA (str ([] : List UInt8))) (lV 5 (eA (.int .i64 0)) (lV 6 (eA (.bool false)) (wpList_nil (then_n ?_)))))))
        refine wp_ret (then_r (inb_r (then_r ?_)))
        obtain rfl := Option.some.inj M
        exact ret3 rfl rfl rfl rfl (show _ = str ([] : List UInt8) from (by kernel_rfl)) (show _ = .int .i64 0 from (by kernel_rfl)) (show _ = .bool false from (by kernel_rfl)) ⟨rfl, S41.chg⟩
      replace M := ifn q78 M
      refine cF (bF q78) (wp_skip (then_n (wp_seq (wp_region_lit (lV 118 (eM (.int .i64 x35) (by exact e39)) (lV 119 (e_conv_i8 (k := .i64) (a := x35) (by kernel_rfl) Try.underlying5 (by kernel_rfl)) ?_))))))
      refine lve (d := 120) rfl rfl (by kernel_rfl) (new_blk (v := fun g_ => .slice (some ⟨g_, 0, none⟩) 1 1) (cs := #[.int .u8 ((b8 (x35)).toNat : Int)]) (t := 5) S41 (by kernel_rfl)) ?_
      rintro _ w79 ⟨g80, rfl, b81, S82, K83⟩
      have S84 := S82.unit
      have S85 := S84.pull (F := (is g80)) (Fr := [no]) 1 rfl rfl
      obtain ⟨h86, S87⟩ := row_lit (d := tByte) (xs := [(b8 (x35))]) S85 b81 rfl (elsO_one1 rfl) (Nat.le_of_ble_eq_true rfl)
      refine lV 121 (e_conv_bs (A := (some ⟨g80, 0, none⟩)) (n := 1) (c := 1) (xs := [(b8 (x35))]) Try.underlying23 Try.underlying5 Try.underlying9 (by kernel_rfl) rfl (Row.bytes h86)) (lV 122 (eM (.int .i64 x36) (by exact e40)) (lV 123 (eAdd .i64 x36 1) (lV 4 (eA (str [(b8 (x35))])) (lV 5 (eA (.int .i64 (IntKind.i64.wrap (x36 + 1)))) (lV 6 (eA (.bool true)) (wpList_nil (then_n ?_)))))))
      refine wp_ret (inb_r (then_r ?_))
      obtain rfl := Option.some.inj M
      exact ret3 rfl rfl rfl rfl (show _ = str [(b8 (x35))] from (by kernel_rfl)) (show _ = .int .i64 (IntKind.i64.wrap (x36 + 1)) from (by kernel_rfl)) (show _ = .bool true from (by kernel_rfl)) ⟨rfl, S87.chg⟩
    replace M := ifn q47 M
    refine lK 68 false (bF q47) ?_
    refine lK 68 false (bF q47) ?_
    refine lK 68 false (bF q47) ?_
    refine lK 68 false (bF q47) ?_
    refine lV 73 (eF (.bool false) (bF q47)) (lV 74 (eM (.bool false)) ?_)
    refine lJ 74 false ?_
    refine lJ 74 false ?_
    refine lJ 74 false ?_
    refine lJ 74 false ?_
    refine lJ 74 false ?_
    refine lJ 74 false ?_
    refine lJ 74 false ?_
    refine lJ 74 false ?_
    refine lV 83 (eF (.bool false)) (wpList_nil (then_n (cond_f rfl (by kernel_rfl) (wp_exit (then_e (then_e (inb_hit ?_)))))))
    refine then_n (wp_seq (wp_seq (wp_region_lit (lV 96 (eM (.int .i64 x36) (by exact e40)) (lV 97 (eM (.int .i64 x8) (by exact e38)) (lV 98 (eAdd .i64 x8 2) (lV 99 (eEq .i64 x36 (IntKind.i64.wrap (x8 + 2))) ?_)))))))
    refine lV 100 (eM (.bool (decide (x36 = (IntKind.i64.wrap (x8 + 2)))))) ?_
    by_cases q88 : x36 = (IntKind.i64.wrap (x8 + 2))
    · replace M := ifp q88 M
      refine lK 100 true (bT q88) ?_
      refine lK 100 true (bT q88) ?_
      refine lK 100 true (bT q88) ?_
      refine lK 100 true (bT q88) ?_
      refine lK 100 true (bT q88) ?_
      refine lK 100 true (bT q88) ?_
      refine lK 100 true (bT q88) ?_
      refine lV 108 (eT (.bool true) (bT q88)) (lV 109 (eM (.bool true)) ?_)
      refine lJ 109 true ?_
      refine lJ 109 true ?_
      refine lJ 109 true ?_
      refine lJ 109 true ?_
      refine lJ 109 true ?_
      refine lJ 109 true ?_
      refine lJ 109 true ?_
      refine lV 117 (eT (.bool true)) (wpList_nil (then_n (cond_t rfl (by kernel_rfl) (wp_seq (wp_region_lit (lV 4 (eA (str ([] : List UInt8))) (lV 5 (eA (.int .i64 0)) ?_)))))))
      refine lV 6 (eA (.bool false)) (wpList_nil (then_n (wp_ret (then_r (inb_r (then_r ?_))))))
      obtain rfl := Option.some.inj M
      exact ret3 rfl rfl rfl rfl (show _ = str ([] : List UInt8) from (by kernel_rfl)) (show _ = .int .i64 0 from (by kernel_rfl)) (show _ = .bool false from (by kernel_rfl)) ⟨rfl, S41.chg⟩
    replace M := ifn q88 M
    refine lG 101 100 (bF q88) (eM (.int .i64 x36) (by exact e40)) (lG 102 100 (bF q88) (eM (.pointer (some ⟨g2, 0, none⟩)) (by exact e37)) (lG 103 100 (bF q88) (eN ⟨g2, 0, none⟩) (lG 104 100 (bF q88) (eD g2 0 0 1 Try.underlying42) (lG 105 100 (bF q88) (eL ⟨g2, 0 + 0, none⟩ (str x1.s_) Try.underlying9 (blk_cell (S41.inv _ _ b3) rfl)) (lG 106 100 (bF q88) (e_slen (p := x1.s_) Try.underlying9 (by kernel_rfl)) (lG 107 100 (bF q88) (e_geq (k := .i64) (a := x36) (b := (x1.s_.length : Int)) (by kernel_rfl) (by kernel_rfl)) (lV 108 (eF (.bool (decide (x36 ≥ (x1.s_.length : Int)))) (bF q88)) ?_)))))))
    refine lV 109 (eM (.bool (decide (x36 ≥ (x1.s_.length : Int))))) ?_
    by_cases q89 : x36 ≥ (x1.s_.length : Int)
    · replace M := ifp q89 M
      refine lK 109 true (bT q89) ?_
      refine lK 109 true (bT q89) ?_
      refine lK 109 true (bT q89) ?_
      refine lK 109 true (bT q89) ?_
      refine lK 109 true (bT q89) ?_
      refine lK 109 true (bT q89) ?_
      refine lK 109 true (bT q89) ?_
      refine lV 117 (eT (.bool true) (bT q89)) (wpList_nil (then_n (cond_t rfl (by kernel_rfl) (wp_seq (wp_region_lit (lV 4 (eA (str ([] : List UInt8))) (lV 5 (eA (.int .i64 0)) ?_)))))))
      refine lV 6 (eA (.bool false)) (wpList_nil (then_n (wp_ret (then_r (inb_r (then_r ?_))))))
      obtain rfl := Option.some.inj M
      exact ret3 rfl rfl rfl rfl (show _ = str ([] : List UInt8) from (by kernel_rfl)) (show _ = .int .i64 0 from (by kernel_rfl)) (show _ = .bool false from (by kernel_rfl)) ⟨rfl, S41.chg⟩
    replace M := ifn q89 M
    refine lG 110 109 (bF q89) (eM (.pointer (some ⟨g2, 0, none⟩)) (by exact e37)) (lG 111 109 (bF q89) (eN ⟨g2, 0, none⟩) (lG 112 109 (bF q89) (eD g2 0 0 1 Try.underlying42) (lG 113 109 (bF q89) (eL ⟨g2, 0 + 0, none⟩ (str x1.s_) Try.underlying9 (blk_cell (S41.inv _ _ b3) rfl)) (lG 114 109 (bF q89) (eM (.int .i64 x36) (by exact e40)) ?_))))
    obtain ⟨q90, M⟩ := chk M
    obtain ⟨q91, M⟩ := chk M
    refine lG 115 109 (bF q89) (e_sindex (p := x1.s_) (i := x36) (k := .i64) Try.underlying9 (by kernel_rfl) (by kernel_rfl) q90 q91) (lG 116 109 (bF q89) (eNe .u8 ((x1.s_.getD (x36 : Int).toNat (0 : UInt8)).toNat : Int) 92) (lV 117 (eF (.bool (decide (((x1.s_.getD (x36 : Int).toNat (0 : UInt8)).toNat : Int) ≠ 92))) (bF q89)) (wpList_nil (then_n ?_))))
    by_cases q92 : ((x1.s_.getD (x36 : Int).toNat (0 : UInt8)).toNat : Int) ≠ 92
    · replace M := ifp q92 M
      refine cT (bT q92) (wp_seq (wp_region_lit (lV 4 (eA (str ([] : List UInt8))) (lV 5 (eA (.int .i64 0)) (lV 6 (eA (.bool false)) (wpList_nil (then_n ?_)))))))
      refine wp_ret (then_r (inb_r (then_r ?_)))
      obtain rfl := Option.some.inj M
      exact ret3 rfl rfl rfl rfl (show _ = str ([] : List UInt8) from (by kernel_rfl)) (show _ = .int .i64 0 from (by kernel_rfl)) (show _ = .bool false from (by kernel_rfl)) ⟨rfl, S41.chg⟩
    replace M := ifn q92 M
    refine cF (bF q92) (wp_skip (then_n (wp_seq (wp_region_lit (lV 118 (eM (.int .i64 x35) (by exact e39)) (lV 119 (e_conv_i8 (k := .i64) (a := x35) (by kernel_rfl) Try.underlying5 (by kernel_rfl)) ?_))))))
    refine lve (d := 120) rfl rfl (by kernel_rfl) (new_blk (v := fun g_ => .slice (some ⟨g_, 0, none⟩) 1 1) (cs := #[.int .u8 ((b8 (x35)).toNat : Int)]) (t := 5) S41 (by kernel_rfl)) ?_
    rintro _ w93 ⟨g94, rfl, b95, S96, K97⟩
    have S98 := S96.unit
    have S99 := S98.pull (F := (is g94)) (Fr := [no]) 1 rfl rfl
    obtain ⟨h100, S101⟩ := row_lit (d := tByte) (xs := [(b8 (x35))]) S99 b95 rfl (elsO_one1 rfl) (Nat.le_of_ble_eq_true rfl)
    refine lV 121 (e_conv_bs (A := (some ⟨g94, 0, none⟩)) (n := 1) (c := 1) (xs := [(b8 (x35))]) Try.underlying23 Try.underlying5 Try.underlying9 (by kernel_rfl) rfl (Row.bytes h100)) (lV 122 (eM (.int .i64 x36) (by exact e40)) (lV 123 (eAdd .i64 x36 1) (lV 4 (eA (str [(b8 (x35))])) (lV 5 (eA (.int .i64 (IntKind.i64.wrap (x36 + 1)))) (lV 6 (eA (.bool true)) (wpList_nil (then_n ?_)))))))
    refine wp_ret (inb_r (then_r ?_))
    obtain rfl := Option.some.inj M
    exact ret3 rfl rfl rfl rfl (show _ = str [(b8 (x35))] from (by kernel_rfl)) (show _ = .int .i64 (IntKind.i64.wrap (x36 + 1)) from (by kernel_rfl)) (show _ = .bool true from (by kernel_rfl)) ⟨rfl, S101.chg⟩
  replace M := ifn q32 M
  refine cF (bF q32) (wp_skip (inb_n (then_n (wp_seq (wp_region_lit (lV 4 (eA (str ([] : List UInt8))) (lV 5 (eA (.int .i64 0)) ?_)))))))
  refine lV 6 (eA (.bool false)) (wpList_nil (then_n (wp_ret ?_)))
  obtain rfl := Option.some.inj M
  exact ret3 rfl rfl rfl rfl (show _ = str ([] : List UInt8) from (by kernel_rfl)) (show _ = .int .i64 0 from (by kernel_rfl)) (show _ = .bool false from (by kernel_rfl)) ⟨rfl, S19.chg⟩

/-! impl_isPrint -/
def impl_isPrint.f (x1 : UInt8) : Option Bool := (if (x1.toNat : Int) ≥ 32 then some (decide ((x1.toNat : Int) ≠ 127)) else some false)
theorem impl_isPrint.calls (w : World) (H : Hp) (x1 : UInt8) (S : Own [] H w) (r : Bool) (M : impl_isPrint.f x1 = some r) :
    Calls Try.prog 51 #[.int .u8 (x1.toNat : Int)] w (fun e e_w => e = .returned (.bool r) ∧ Chg no w e_w) := by
  rw [impl_isPrint.f] at M
  refine enter (l := [.int .u8 (x1.toNat : Int)]) 9 Try.func51 rfl rfl rfl ?_
  have S0_ := S.st
  refine wp_seq (wp_region_lit (lV 2 (eA (.bool false)) (wpList_nil (then_n (wp_seq (wp_region_lit (lV 3 (eM (.int .u8 (x1.toNat : Int))) ?_)))))))
  refine lV 4 (e_geq (k := .u8) (a := (x1.toNat : Int)) (b := 32) (by kernel_rfl) rfl) (lV 5 (eM (.bool (decide ((x1.toNat : Int) ≥ 32)))) ?_)
  by_cases q2 : (x1.toNat : Int) ≥ 32
  · replace M := ifp q2 M
    refine lG 6 5 (bT q2) (eM (.int .u8 (x1.toNat : Int))) (lG 7 5 (bT q2) (eNe .u8 (x1.toNat : Int) 127) (lV 8 (eT (.bool (decide ((x1.toNat : Int) ≠ 127))) (bT q2)) (lV 2 (eA (.bool (decide ((x1.toNat : Int) ≠ 127)))) (wpList_nil (then_n (wp_ret ?_))))))
    obtain rfl := Option.some.inj M
    exact ret1 rfl rfl  (show _ = .bool (decide ((x1.toNat : Int) ≠ 127)) from (by kernel_rfl)) ⟨rfl, S0_.chg⟩
  replace M := ifn q2 M
  refine lK 5 false (bF q2) ?_
  refine lK 5 false (bF q2) ?_
  refine lV 8 (eF (.bool false) (bF q2)) (lV 2 (eA (.bool false)) (wpList_nil (then_n (wp_ret ?_))))
  obtain rfl := Option.some.inj M
  exact ret1 rfl rfl  (show _ = .bool false from (by kernel_rfl)) ⟨rfl, S0_.chg⟩

/-! impl_lexer_number_c1 -/
def impl_lexer_number_c1.l0 : Nat → Int → GLexer → Int → Int → Option (Int × Int)
  | 0, _, _, _, _ => none
  | k30 + 1, x1, x5, x19, x20 => (if x19 < (x5.s_.length : Int) then (if 0 ≤ x19 then ((impl_hexValue.f (x5.s_.getD (x19 : Int).toNat (0 : UInt8))).bind fun t33 => (if t33 < x1 then (if x20 ≤ 1000000000000000 then ((impl_hexValue.f (x5.s_.getD (x19 : Int).toNat (0 : UInt8))).bind fun t67 => (impl_lexer_number_c1.l0 k30 x1 x5 (IntKind.i64.wrap (x19 + 1)) (IntKind.i64.wrap ((IntKind.i64.wrap (x20 * x1)) + t67)))) else (impl_lexer_number_c1.l0 k30 x1 x5 (IntKind.i64.wrap (x19 + 1)) x20)) else some (x19, x20))) else none) else some (x19, x20))
def impl_lexer_number_c1.f (k : Nat) (x1 : Int) (x2 : Int) (x5 : GLexer) (x14 : Int) : Option (Int × Int) := (impl_lexer_number_c1.l0 k x1 x5 x2 x14)
theorem impl_lexer_number_c1.calls (k : Nat) (w : World) (H : Hp) (x1 : Int) (x2 : Int) (g3 : Nat) (x5 : GLexer) (g6 : Nat) (A8 : Option Addr) (c9 : Nat) (F11 : Foot) (g12 : Nat) (x14 : Int) (g15 : Nat) (b4 : w.heap[g3]? = some (.cells #[.int .i64 x2] 3 (0, 0))) (h10 : Row st37 37 H (hp w) F11 A8 c9 x5.tokens_) (b7 : w.heap[g6]? = some (.cells #[str x5.s_, .int .i64 x5.at_, .slice A8 x5.tokens_.length c9, .int .i64 x5.code_, .int .i64 x5.place_] 42 (0, 0))) (b13 : w.heap[g12]? = some (.cells #[.pointer (some ⟨g6, 0, none⟩)] 40 (0, 0))) (b16 : w.heap[g15]? = some (.cells #[.int .i64 x14] 3 (0, 0))) (S : Own [(is g3), F11, (is g6), (is g12), (is g15)] H w) (r : Int × Int) (M : impl_lexer_number_c1.f k x1 x2 x5 x14 = some r) :
    Calls Try.prog 48 #[.int .i64 x1, .pointer (some ⟨g3, 0, none⟩), .pointer (some ⟨g12, 0, none⟩), .pointer (some ⟨g15, 0, none⟩)] w (fun e e_w => ∃ (H_ : Hp), e = .returned (.tuple #[]) ∧ e_w.heap[g3]? = some (.cells #[.int .i64 r.1] 3 (0, 0)) ∧ Row st37 37 H_ (hp e_w) F11 A8 c9 x5.tokens_ ∧ e_w.heap[g6]? = some (.cells #[str x5.s_, .int .i64 x5.at_, .slice A8 x5.tokens_.length c9, .int .i64 x5.code_, .int .i64 x5.place_] 42 (0, 0)) ∧ e_w.heap[g12]? = some (.cells #[.pointer (some ⟨g6, 0, none⟩)] 40 (0, 0)) ∧ e_w.heap[g15]? = some (.cells #[.int .i64 r.2] 3 (0, 0)) ∧ St (anyOf [(is g3), F11, (is g6), (is g12), (is g15)]) H w [(is g3), F11, (is g6), (is g12), (is g15)] H_ e_w) := by
  rw [impl_lexer_number_c1.f] at M
  refine enter (l := [.int .i64 x1, .pointer (some ⟨g3, 0, none⟩), .pointer (some ⟨g12, 0, none⟩), .pointer (some ⟨g15, 0, none⟩)]) 38 Try.func48 rfl rfl rfl ?_
  have S0_ := S.st
  refine wp_block ?_
  refine wp_loop_g (fun k28 a29 w17 => ∃ (f18 : Nat → Value) (x19 : Int) (x20 : Int), a29 = mk 38 f18 ∧ f18 0 = .int .i64 x1 ∧ f18 1 = .pointer (some ⟨g3, 0, none⟩) ∧ f18 2 = .pointer (some ⟨g12, 0, none⟩) ∧ f18 3 = .pointer (some ⟨g15, 0, none⟩) ∧ w17.heap[g3]? = some (.cells #[.int .i64 x19] 3 (0, 0)) ∧ Row st37 37 H (hp w17) F11 A8 c9 x5.tokens_ ∧ w17.heap[g6]? = some (.cells #[str x5.s_, .int .i64 x5.at_, .slice A8 x5.tokens_.length c9, .int .i64 x5.code_, .int .i64 x5.place_] 42 (0, 0)) ∧ w17.heap[g12]? = some (.cells #[.pointer (some ⟨g6, 0, none⟩)] 40 (0, 0)) ∧ w17.heap[g15]? = some (.cells #[.int .i64 x20] 3 (0, 0)) ∧ St (anyOf [(is g3), F11, (is g6), (is g12), (is g15)]) H w [(is g3), F11, (is g6), (is g12), (is g15)] H w17 ∧ impl_lexer_number_c1.l0 k28 x1 x5 x19 x20 = some r) k ⟨_, x2, x14, rfl, (by kernel_rfl), (by kernel_rfl), (by kernel_rfl), (by kernel_rfl), b4, h10, b7, b13, b16, S0_, M⟩ ?_
  clear M
  rintro k28 a29 w17 ⟨f18, x19, x20, rfl, e21, e22, e23, e24, b4, h10, b7, b13, b16, S25, M⟩
  rcases k28 with _ | k30
  · rw [impl_lexer_number_c1.l0] at M
    cases M
  rw [impl_lexer_number_c1.l0] at M
  refine wp_seq (wp_seq ?_)
  refine region_quiet (by kernel_rfl) (by kernel_rfl) ?_
  refine qV 5 (fun wq_ hq_ => eL ⟨g3, 0, none⟩ (.int .i64 x19) Try.underlying3 (blk_cell ((S25.still hq_).2.blk 0 rfl b4) rfl) (by exact e22)) ?_
  refine qV 6 (fun wq_ hq_ => eL ⟨g12, 0, none⟩ (.pointer (some ⟨g6, 0, none⟩)) Try.underlying40 (blk_cell ((S25.still hq_).2.blk 3 rfl b13) rfl) (by exact e23)) ?_
  refine qV 7 (fun wq_ hq_ => eN ⟨g6, 0, none⟩) ?_
  refine qV 8 (fun wq_ hq_ => eD g6 0 0 1 Try.underlying42) ?_
  refine qV 9 (fun wq_ hq_ => eL ⟨g6, 0 + 0, none⟩ (str x5.s_) Try.underlying9 (blk_cell ((S25.still hq_).2.blk 2 rfl b7) rfl)) ?_
  refine qV 10 (fun wq_ hq_ => e_slen (p := x5.s_) Try.underlying9 (by kernel_rfl)) ?_
  refine qV 11 (fun wq_ hq_ => eLt .i64 x19 (x5.s_.length : Int)) ?_
  refine qV 12 (fun wq_ hq_ => eM (.bool (decide (x19 < (x5.s_.length : Int))))) ?_
  by_cases q31 : x19 < (x5.s_.length : Int)
  · replace M := ifp q31 M
    refine qG 13 12 (bT q31) (fun wq_ hq_ => eL ⟨g12, 0, none⟩ (.pointer (some ⟨g6, 0, none⟩)) Try.underlying40 (blk_cell ((S25.still hq_).2.blk 3 rfl b13) rfl) (by exact e23)) ?_
    refine qG 14 12 (bT q31) (fun wq_ hq_ => eN ⟨g6, 0, none⟩) ?_
    refine qG 15 12 (bT q31) (fun wq_ hq_ => eD g6 0 0 1 Try.underlying42) ?_
    refine qG 16 12 (bT q31) (fun wq_ hq_ => eL ⟨g6, 0 + 0, none⟩ (str x5.s_) Try.underlying9 (blk_cell ((S25.still hq_).2.blk 2 rfl b7) rfl)) ?_
    refine qG 17 12 (bT q31) (fun wq_ hq_ => eL ⟨g3, 0, none⟩ (.int .i64 x19) Try.underlying3 (blk_cell ((S25.still hq_).2.blk 0 rfl b4) rfl) (by exact e22)) ?_
    obtain ⟨q32, M⟩ := chk M
    refine qG 18 12 (bT q31) (fun wq_ hq_ => e_sindex (p := x5.s_) (i := x19) (k := .i64) Try.underlying9 (by kernel_rfl) (by kernel_rfl) q32 q31) ?_
    obtain ⟨t33, u34, M⟩ := bnd M
    refine qcallg (v := .int .i64 t33) (d := 19) (t := 12) rfl (by kernel_rfl) rfl (bT q31) rfl (by kernel_rfl) (fun w_ => eC [.tmp 18] [.int .u8 ((x5.s_.getD (x19 : Int).toNat (0 : UInt8)).toNat : Int)] Try.func49) (fun wq_ hq_ => (by obtain ⟨S_, K_⟩ := S25.still hq_; replace b4 := K_.blk 0 rfl b4; replace h10 := h10.move (K_.at 1 rfl); replace b7 := K_.blk 2 rfl b7; replace b13 := K_.blk 3 rfl b13; replace b16 := K_.blk 4 rfl b16; exact (impl_hexValue.calls wq_ H (x5.s_.getD (x19 : Int).toNat (0 : UInt8))  S_.own0 t33 u34))) ?_
    refine qG 20 12 (bT q31) (fun wq_ hq_ => eM (.int .i64 x1) (by exact e21)) ?_
    refine qG 21 12 (bT q31) (fun wq_ hq_ => eLt .i64 t33 x1) ?_
    refine qV 22 (fun wq_ hq_ => eT (.bool (decide (t33 < x1))) (bT q31)) ?_
    refine wpQuiet_nil ?_
    intro w35 C38
    obtain ⟨S36, K37⟩ := S25.still C38
    replace b4 := K37.blk 0 rfl b4
    replace h10 := h10.move (K37.at 1 rfl)
    replace b7 := K37.blk 2 rfl b7
    replace b13 := K37.blk 3 rfl b13
    replace b16 := K37.blk 4 rfl b16
    refine then_n ?_
    by_cases q39 : t33 < x1
    · replace M := ifp q39 M
      refine cT (bT q39) (wp_skip (then_n (wp_block (wp_seq (wp_seq (wp_region_lit (lV 23 (eL ⟨g15, 0, none⟩ (.int .i64 x20) Try.underlying3 (blk_cell b16 rfl) (by exact e24)) ?_)))))))
      refine lV 24 (e_leq (k := .i64) (a := x20) (b := 1000000000000000) (by kernel_rfl) rfl) (wpList_nil (then_n ?_))
      by_cases q40 : x20 ≤ 1000000000000000
      · replace M := ifp q40 M
        refine cT (bT q40) ?_
        refine region_mix (S := (fun (L_ : Array Bool) (w_ : World) => Ext H (hp w_) ∧ (∀ b_, (is g6) b_ → hp w_ b_ = hp w35 b_) ∧ (∀ b_, (is g12) b_ → hp w_ b_ = hp w35 b_) ∧ (L_.getD 11 true = false → (∀ b_, (is g15) b_ → hp w_ b_ = hp w35 b_)))) (by kernel_rfl) S36 ?_
        intro w41 S42 K43 hc44
        have o45 := b7
        have o46 := b13
        have o47 := b16
        have hs48 : (fun (L_ : Array Bool) (w_ : World) => Ext H (hp w_) ∧ (∀ b_, (is g6) b_ → hp w_ b_ = hp w35 b_) ∧ (∀ b_, (is g12) b_ → hp w_ b_ = hp w35 b_) ∧ (L_.getD 11 true = false → (∀ b_, (is g15) b_ → hp w_ b_ = hp w35 b_))) (Array.replicate 12 false) w41 := ⟨S42.inv, (fun b_ h_ => K43.at 2 rfl b_ h_), (fun b_ h_ => K43.at 3 rfl b_ h_), (fun _ => (fun b_ h_ => K43.at 4 rfl b_ h_))⟩
        replace b4 := K43.blk 0 rfl b4
        replace h10 := h10.move (K43.at 1 rfl)
        replace b7 := K43.blk 2 rfl b7
        replace b13 := K43.blk 3 rfl b13
        replace b16 := K43.blk 4 rfl b16
        refine xv (i := 0) (d := 25) rfl rfl rfl (by kernel_rfl) (by kernel_rfl) (fun L_ w_ => by simp only [getD_set_ne true (show (0 : Nat) ≠ 11 by decide)]) hc44 hs48 (fun L_ w_ hc_ hu_ hs_ => eL ⟨g15, 0, none⟩ (.int .i64 x20) Try.underlying3 (blk_cell (((hs_.2.2.2 (unl 9 11 0 hc_ hu_ (by kernel_rfl))) _ rfl).trans o47) rfl) (by exact e24)) ?_; intro hc49 hs50
        refine xv (i := 1) (d := 26) rfl rfl rfl (by kernel_rfl) (by kernel_rfl) (fun L_ w_ => by simp only [getD_set_ne true (show (1 : Nat) ≠ 11 by decide)]) hc49 hs50 (fun L_ w_ hc_ hu_ hs_ => eM (.int .i64 x1) (by exact e21)) ?_; intro hc51 hs52
        refine xv (i := 2) (d := 27) rfl rfl rfl (by kernel_rfl) (by kernel_rfl) (fun L_ w_ => by simp only [getD_set_ne true (show (2 : Nat) ≠ 11 by decide)]) hc51 hs52 (fun L_ w_ hc_ hu_ hs_ => e_mul (k := .i64) (a := x20) (b := x1) (by kernel_rfl) (by kernel_rfl)) ?_; intro hc53 hs54
        refine xv (i := 3) (d := 28) rfl rfl rfl (by kernel_rfl) (by kernel_rfl) (fun L_ w_ => by simp only [getD_set_ne true (show (3 : Nat) ≠ 11 by decide)]) hc53 hs54 (fun L_ w_ hc_ hu_ hs_ => eL ⟨g12, 0, none⟩ (.pointer (some ⟨g6, 0, none⟩)) Try.underlying40 (blk_cell ((hs_.2.2.1 _ rfl).trans o46) rfl) (by exact e23)) ?_; intro hc55 hs56
        refine xv (i := 4) (d := 29) rfl rfl rfl (by kernel_rfl) (by kernel_rfl) (fun L_ w_ => by simp only [getD_set_ne true (show (4 : Nat) ≠ 11 by decide)]) hc55 hs56 (fun L_ w_ hc_ hu_ hs_ => eN ⟨g6, 0, none⟩) ?_; intro hc57 hs58
        refine xv (i := 5) (d := 30) rfl rfl rfl (by kernel_rfl) (by kernel_rfl) (fun L_ w_ => by simp only [getD_set_ne true (show (5 : Nat) ≠ 11 by decide)]) hc57 hs58 (fun L_ w_ hc_ hu_ hs_ => eD g6 0 0 1 Try.underlying42) ?_; intro hc59 hs60
        refine xv (i := 6) (d := 31) rfl rfl rfl (by kernel_rfl) (by kernel_rfl) (fun L_ w_ => by simp only [getD_set_ne true (show (6 : Nat) ≠ 11 by decide)]) hc59 hs60 (fun L_ w_ hc_ hu_ hs_ => eL ⟨g6, 0 + 0, none⟩ (str x5.s_) Try.underlying9 (blk_cell ((hs_.2.1 _ rfl).trans o45) rfl)) ?_; intro hc61 hs62
        refine xone (i := 7) (by kernel_rfl) hc61 ?_
        refine yo (i := 7) (d := 32) rfl rfl (wanted_none rfl _) (by kernel_rfl) (by kernel_rfl) (fun L_ w_ => by simp only [getD_set_ne true (show (7 : Nat) ≠ 11 by decide)]) hs62 (eL ⟨g3, 0, none⟩ (.int .i64 x19) Try.underlying3 (blk_cell b4 rfl) (by exact e22)) ?_; intro hc63 hs64
        refine xone (i := 8) (by kernel_rfl) hc63 ?_
        refine yo (i := 8) (d := 33) rfl rfl (wanted_none rfl _) (by kernel_rfl) (by kernel_rfl) (fun L_ w_ => by simp only [getD_set_ne true (show (8 : Nat) ≠ 11 by decide)]) hs64 (e_sindex (p := x5.s_) (i := x19) (k := .i64) Try.underlying9 (by kernel_rfl) (by kernel_rfl) q32 q31) ?_; intro hc65 hs66
        obtain ⟨t67, u68, M⟩ := bnd M
        refine xone (i := 9) (by kernel_rfl) hc65 ?_
        refine yc (i := 9) rfl (wanted_none rfl _) (by kernel_rfl) (by kernel_rfl) (eC [.tmp 33] [.int .u8 ((x5.s_.getD (x19 : Int).toNat (0 : UInt8)).toNat : Int)] Try.func49) (impl_hexValue.calls w41 H (x5.s_.getD (x19 : Int).toNat (0 : UInt8))  S42.own0 t67 u68) ?_
        rintro hc71 _ w69 ⟨rfl, C70⟩
        refine ⟨_, rfl, ?_⟩
        obtain ⟨S72, K73⟩ := S42.still C70
        replace b4 := K73.blk 0 rfl b4
        replace h10 := h10.move (K73.at 1 rfl)
        replace b7 := K73.blk 2 rfl b7
        replace b13 := K73.blk 3 rfl b13
        replace b16 := K73.blk 4 rfl b16
        refine ⟨⟨S72.inv, (fun b_ h_ => (K73.at 2 rfl b_ h_).trans (hs66.2.1 b_ h_)), (fun b_ h_ => (K73.at 3 rfl b_ h_).trans (hs66.2.2.1 b_ h_)), (fun q_ => (fun b_ h_ => (K73.at 4 rfl b_ h_).trans ((hs66.2.2.2 (by decide +kernel)) b_ h_)))⟩, fun hs74 => ?_⟩
        refine xone (i := 10) (by kernel_rfl) hc71 ?_
        refine yo (i := 10) (d := 35) rfl rfl (wanted_none rfl _) (by kernel_rfl) (by kernel_rfl) (fun L_ w_ => by simp only [getD_set_ne true (show (10 : Nat) ≠ 11 by decide)]) hs74 (eAdd .i64 (IntKind.i64.wrap (x20 * x1)) t67) ?_; intro hc75 hs76
        have S77 := S72.pull (F := (is g15)) (Fr := [(is g3), F11, (is g6), (is g12)]) 4 rfl rfl
        refine xone (i := 11) (by kernel_rfl) hc75 ?_
        refine ys (i := 11) rfl rfl (wanted_none rfl _) (by kernel_rfl) (by kernel_rfl) (eS g15 0 (.int .i64 (IntKind.i64.wrap ((IntKind.i64.wrap (x20 * x1)) + t67))) #[.int .i64 (IntKind.i64.wrap ((IntKind.i64.wrap (x20 * x1)) + t67))] [.int .i64 (IntKind.i64.wrap ((IntKind.i64.wrap (x20 * x1)) + t67))] S77 b16 (by exact e24)) ?_
        rintro hc82 w78 ⟨b79, S80, K81⟩
        replace b4 := K81.blk 0 rfl b4
        replace h10 := h10.move (K81.at 1 rfl)
        replace b7 := K81.blk 2 rfl b7
        replace b13 := K81.blk 3 rfl b13
        refine ⟨⟨S80.inv, (fun b_ h_ => (K81.at 2 rfl b_ h_).trans (hs76.2.1 b_ h_)), (fun b_ h_ => (K81.at 3 rfl b_ h_).trans (hs76.2.2.1 b_ h_)), (fun q_ => absurd q_ (by decide +kernel))⟩, fun hs83 => ?_⟩
        clear b16
        refine xn (by kernel_rfl) ?_ _
        refine then_n (wp_region_lit (lV 36 (eL ⟨g3, 0, none⟩ (.int .i64 x19) Try.underlying3 (blk_cell b4 rfl) (by exact e22)) (lV 37 (eAdd .i64 x19 1) ?_)))
        have S84 := S80.pull (F := (is g3)) (Fr := [(is g15), F11, (is g6), (is g12)]) 1 rfl rfl
        refine lE (eS g3 0 (.int .i64 (IntKind.i64.wrap (x19 + 1))) #[.int .i64 (IntKind.i64.wrap (x19 + 1))] [.int .i64 (IntKind.i64.wrap (x19 + 1))] S84 b4 (by exact e22)) ?_
        rintro w85 ⟨b86, S87, K88⟩
        replace b79 := K88.blk 0 rfl b79
        replace h10 := h10.move (K88.at 1 rfl)
        replace b7 := K88.blk 2 rfl b7
        replace b13 := K88.blk 3 rfl b13
        clear b4
        refine wpList_nil (inb_n (then_n ?_))
        have S89 := S87.pull (F := (is g15)) (Fr := [(is g3), F11, (is g6), (is g12)]) 1 rfl rfl
        have S90 := S89.pull (F := (is g12)) (Fr := [(is g15), (is g3), F11, (is g6)]) 4 rfl rfl
        have S91 := S90.pull (F := (is g6)) (Fr := [(is g12), (is g15), (is g3), F11]) 4 rfl rfl
        have S92 := S91.pull (F := F11) (Fr := [(is g6), (is g12), (is g15), (is g3)]) 4 rfl rfl
        have S93 := S92.pull (F := (is g3)) (Fr := [F11, (is g6), (is g12), (is g15)]) 4 rfl rfl
        exact ⟨k30, (by omega), _, (IntKind.i64.wrap (x19 + 1)), (IntKind.i64.wrap ((IntKind.i64.wrap (x20 * x1)) + t67)), rfl, (by exact e21), (by exact e22), (by exact e23), (by exact e24), b86, h10, b7, b13, b79, S93, M⟩
      replace M := ifn q40 M
      refine cF (bF q40) (wp_skip (then_n (wp_region_lit (lV 36 (eL ⟨g3, 0, none⟩ (.int .i64 x19) Try.underlying3 (blk_cell b4 rfl) (by exact e22)) (lV 37 (eAdd .i64 x19 1) ?_)))))
      refine lE (eS g3 0 (.int .i64 (IntKind.i64.wrap (x19 + 1))) #[.int .i64 (IntKind.i64.wrap (x19 + 1))] [.int .i64 (IntKind.i64.wrap (x19 + 1))] S36 b4 (by exact e22)) ?_
      rintro w94 ⟨b95, S96, K97⟩
      replace h10 := h10.move (K97.at 0 rfl)
      replace b7 := K97.blk 1 rfl b7
      replace b13 := K97.blk 2 rfl b13
      replace b16 := K97.blk 3 rfl b16
      clear b4
      refine wpList_nil (inb_n (then_n ?_))
      exact ⟨k30, (by omega), _, (IntKind.i64.wrap (x19 + 1)), x20, rfl, (by exact e21), (by exact e22), (by exact e23), (by exact e24), b95, h10, b7, b13, b16, S96, M⟩
    replace M := ifn q39 M
    refine cF (bF q39) (wp_exit (then_e (then_e (inb_hit ?_))))
    obtain rfl := Option.some.inj M
    exact end0 rfl ⟨H, rfl, b4, h10, b7, b13, b16, S36⟩
  replace M := ifn q31 M
  refine qK 12 false (bF q31) ?_
  refine qK 12 false (bF q31) ?_
  refine qK 12 false (bF q31) ?_
  refine qK 12 false (bF q31) ?_
  refine qK 12 false (bF q31) ?_
  refine qK 12 false (bF q31) ?_
  refine qK 12 false (bF q31) ?_
  refine qK 12 false (bF q31) ?_
  refine qK 12 false (bF q31) ?_
  refine qV 22 (fun wq_ hq_ => eF (.bool false) (bF q31)) ?_
  refine wpQuiet_nil ?_
  intro w98 C101
  obtain ⟨S99, K100⟩ := S25.still C101
  replace b4 := K100.blk 0 rfl b4
  replace h10 := h10.move (K100.at 1 rfl)
  replace b7 := K100.blk 2 rfl b7
  replace b13 := K100.blk 3 rfl b13
  replace b16 := K100.blk 4 rfl b16
  refine then_n (cond_f rfl (by kernel_rfl) (wp_exit (then_e (then_e (inb_hit ?_)))))
  obtain rfl := Option.some.inj M
  exact end0 rfl ⟨H, rfl, b4, h10, b7, b13, b16, S99⟩
end Go.Proofs.Ytdkbfcmekppnmaa
