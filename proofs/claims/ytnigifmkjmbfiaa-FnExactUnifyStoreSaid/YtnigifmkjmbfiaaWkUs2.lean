import Derived.Test.YtnigifmkjmbfiaaWkUs1
namespace Go.Proofs.Ytnigifmkjmbfiaa
open Go.Sx Go.Sy
attribute [local irreducible] Go.wpList Go.wpStill Go.wpQuiet Go.Code.wp
set_option maxRecDepth 100000
set_option maxHeartbeats 1000000
set_option linter.unusedVariables false
set_option linter.unusedSimpArgs false

/-! spec_l10deref -/
def spec_l10deref.l0 : Nat → GL10heap → Int → Int → (List UInt8) → Option Cell
  | 0, _, _, _, _ => none
  | k44 + 1, x1, x29, x30, x31 => (if x29 = 0 then (if 0 ≤ x30 then (if x30 < (x1.cells_.length : Int) then (if ((x1.cells_.getD ((x30).toNat) z36).kind) = 0 then (if ((x1.cells_.getD ((x30).toNat) z36).n) = x30 then some (⟨x29, x30, x31⟩ : Cell) else (spec_l10deref.l0 k44 x1 ((x1.cells_.getD ((x30).toNat) z36).kind) ((x1.cells_.getD ((x30).toNat) z36).n) ((x1.cells_.getD ((x30).toNat) z36).text))) else (spec_l10deref.l0 k44 x1 ((x1.cells_.getD ((x30).toNat) z36).kind) ((x1.cells_.getD ((x30).toNat) z36).n) ((x1.cells_.getD ((x30).toNat) z36).text))) else none) else none) else some (⟨x29, x30, x31⟩ : Cell))
def spec_l10deref.f (k : Nat) (x1 : GL10heap) (x12 : Cell) : Option Cell := (spec_l10deref.l0 k x1 x12.kind x12.n x12.text)
theorem spec_l10deref.calls (k : Nat) (w : World) (H : Hp) (x1 : GL10heap) (g2 : Nat) (A4 : Option Addr) (c5 : Nat) (F7 : Foot) (A8 : Option Addr) (c9 : Nat) (F11 : Foot) (x12 : Cell) (A13 : Option Addr) (c14 : Nat) (h6 : Row (ro st36) 36 H (hp w) F7 A4 c5 x1.cells_) (h10 : Row tInt 3 H (hp w) F11 A8 c9 x1.trail_) (b3 : w.heap[g2]? = some (.cells #[.slice A4 x1.cells_.length c5, .slice A8 x1.trail_.length c9, .int .i64 x1.pairs_] 91 (0, 0))) (h15 : Rd tByte H A13 x12.text) (l16 : x12.text.length ≤ c14) (S : Own [F7, F11, (is g2)] H w) (r : Cell) (M : spec_l10deref.f k x1 x12 = some r) :
    Calls Try.prog 46 #[.pointer (some ⟨g2, 0, none⟩), .agg #[.int .i64 x12.kind, .int .i64 x12.n, .slice A13 x12.text.length c14]] w (fun e e_w => ∃ (A_1 : Option Addr) (c_1 : Nat) (H_ : Hp), e = .returned (.agg #[.int .i64 r.kind, .int .i64 r.n, .slice A_1 r.text.length c_1]) ∧ Row (ro st36) 36 H_ (hp e_w) F7 A4 c5 x1.cells_ ∧ Row tInt 3 H_ (hp e_w) F11 A8 c9 x1.trail_ ∧ e_w.heap[g2]? = some (.cells #[.slice A4 x1.cells_.length c5, .slice A8 x1.trail_.length c9, .int .i64 x1.pairs_] 91 (0, 0)) ∧ Rd tByte H_ A_1 r.text ∧ r.text.length ≤ c_1 ∧ St (anyOf [F7, F11, (is g2)]) H w [F7, F11, (is g2)] H_ e_w) := by
  rw [spec_l10deref.f] at M
  refine enter (l := [.pointer (some ⟨g2, 0, none⟩), .agg #[.int .i64 x12.kind, .int .i64 x12.n, .slice A13 x12.text.length c14]]) 30 Try.func46 rfl rfl rfl ?_
  have S0_ := S.st
  refine wp_seq (wR ?_)
  refine lW 3 (nB #[.int .i64 x12.kind, .int .i64 x12.n, .slice A13 x12.text.length c14] 36 S0_) ?_
  rintro _ w17 ⟨g18, rfl, b19, S20, K21⟩
  replace h6 := h6.move (K21.at 0 rfl)
  replace h10 := h10.move (K21.at 1 rfl)
  replace b3 := K21.blk 2 rfl b3
  refine lW 4 (nB #[.int .i64 0, .int .i64 0, .slice none 0 0] 36 S20) ?_
  rintro _ w22 ⟨g23, rfl, b24, S25, K26⟩
  replace b19 := K26.blk 0 rfl b19
  replace h6 := h6.move (K26.at 1 rfl)
  replace h10 := h10.move (K26.at 2 rfl)
  replace b3 := K26.blk 3 rfl b3
  refine wN (then_n (wp_seq (wp_block ?_)))
  refine wp_loop_g (fun k42 a43 w27 => ∃ (f28 : Nat → Value) (x29 : Int) (x30 : Int) (x31 : List UInt8) (A32 : Option Addr) (c33 : Nat), a43 = mk 30 f28 ∧ f28 0 = .pointer (some ⟨g2, 0, none⟩) ∧ f28 3 = .pointer (some ⟨g18, 0, none⟩) ∧ f28 4 = .pointer (some ⟨g23, 0, none⟩) ∧ w27.heap[g23]? = some (.cells #[.int .i64 0, .int .i64 0, .slice none 0 0] 36 (0, 0)) ∧ w27.heap[g18]? = some (.cells #[.int .i64 x29, .int .i64 x30, .slice A32 x31.length c33] 36 (0, 0)) ∧ Row (ro st36) 36 H (hp w27) F7 A4 c5 x1.cells_ ∧ Row tInt 3 H (hp w27) F11 A8 c9 x1.trail_ ∧ w27.heap[g2]? = some (.cells #[.slice A4 x1.cells_.length c5, .slice A8 x1.trail_.length c9, .int .i64 x1.pairs_] 91 (0, 0)) ∧ Rd tByte H A32 x31 ∧ x31.length ≤ c33 ∧ St (anyOf [F7, F11, (is g2)]) H w [(is g23), (is g18), F7, F11, (is g2)] H w27 ∧ spec_l10deref.l0 k42 x1 x29 x30 x31 = some r) k ⟨_, x12.kind, x12.n, x12.text, A13, c14, rfl, (by kernel_rfl), (by kernel_rfl), (by kernel_rfl), b24, b19, h6, h10, b3, h15, l16, S25, M⟩ ?_
  clear M
  rintro k42 a43 w27 ⟨f28, x29, x30, x31, A32, c33, rfl, e36, e37, e38, b24, b19, h6, h10, b3, h34, l35, S39, M⟩
  rcases k42 with _ | k44
  · rw [spec_l10deref.l0] at M
    cases M
  rw [spec_l10deref.l0] at M
  refine wp_seq (wp_seq (wR (lV 6 (eD g18 0 0 1 Try.underlying36 (by exact e37)) (lV 7 (eL ⟨g18, 0 + 0, none⟩ (.int .i64 x29) Try.underlying3 (blk_cell b19 rfl)) (lV 8 (eEq .i64 x29 0) (wN (then_n ?_)))))))
  by_cases q45 : x29 = 0
  · replace M := ifp q45 M
    refine cT (bT q45) (wp_skip (then_n (wp_block (wp_seq ?_))))
    refine region_mix (S := (fun (L_ : Array Bool) (w_ : World) => Ext H (hp w_) ∧ (∀ b_, (is g18) b_ → hp w_ b_ = hp w27 b_) ∧ (∀ b_, F7 b_ → hp w_ b_ = hp w27 b_) ∧ (∀ b_, (is g2) b_ → hp w_ b_ = hp w27 b_))) (by kernel_rfl) S39 ?_
    intro w46 S47 K48 hc49
    have o50 := b19
    have o51 := h6
    have o52 := b3
    have hs53 : (fun (L_ : Array Bool) (w_ : World) => Ext H (hp w_) ∧ (∀ b_, (is g18) b_ → hp w_ b_ = hp w27 b_) ∧ (∀ b_, F7 b_ → hp w_ b_ = hp w27 b_) ∧ (∀ b_, (is g2) b_ → hp w_ b_ = hp w27 b_)) (Array.replicate 10 false) w46 := ⟨S47.inv, (fun b_ h_ => K48.at 1 rfl b_ h_), (fun b_ h_ => K48.at 2 rfl b_ h_), (fun b_ h_ => K48.at 4 rfl b_ h_)⟩
    replace b24 := K48.blk 0 rfl b24
    replace b19 := K48.blk 1 rfl b19
    replace h6 := h6.move (K48.at 2 rfl)
    replace h10 := h10.move (K48.at 3 rfl)
    replace b3 := K48.blk 4 rfl b3
    refine xV 0 9 rfl hc49 hs53 (fun L_ w_ hc_ hu_ hs_ => eM (.pointer (some ⟨g2, 0, none⟩)) (by exact e36)) ?_; intro hc54 hs55
    refine xV 1 10 rfl hc54 hs55 (fun L_ w_ hc_ hu_ hs_ => eN ⟨g2, 0, none⟩) ?_; intro hc56 hs57
    refine xV 2 11 rfl hc56 hs57 (fun L_ w_ hc_ hu_ hs_ => eD g2 0 0 1 Try.underlying91) ?_; intro hc58 hs59
    refine xV 3 12 rfl hc58 hs59 (fun L_ w_ hc_ hu_ hs_ => eL ⟨g2, 0 + 0, none⟩ (.slice A4 x1.cells_.length c5) Try.underlying32 (blk_cell ((hs_.2.2.2 _ rfl).trans o52) rfl)) ?_; intro hc60 hs61
    refine xV 4 13 rfl hc60 hs61 (fun L_ w_ hc_ hu_ hs_ => eD g18 0 1 1 Try.underlying36 (by exact e37)) ?_; intro hc62 hs63
    refine xV 5 14 rfl hc62 hs63 (fun L_ w_ hc_ hu_ hs_ => eL ⟨g18, 0 + 1, none⟩ (.int .i64 x30) Try.underlying3 (blk_cell ((hs_.2.1 _ rfl).trans o50) rfl)) ?_; intro hc64 hs65
    obtain ⟨q66, M⟩ := chk M
    obtain ⟨q67, M⟩ := chk M
    obtain ⟨b68, e70⟩ := Row.addr h6 (show (x30).toNat < x1.cells_.length by omega)
    refine xV 6 15 rfl hc64 hs65 (fun L_ w_ hc_ hu_ hs_ => eI b68 0 x1.cells_.length c5 3 x30 .i64 Try.underlying32 e70 q66 q67) ?_; intro hc71 hs72
    obtain ⟨y73, F74, r75, s76, k77⟩ := Row.at o51 e70 (getD_some z36 (show (x30).toNat < x1.cells_.length by omega))
    obtain ⟨A78, c79, rfl, l80, h81⟩ := st36_open r75
    refine xV 7 16 rfl hc71 hs72 (fun L_ w_ hc_ hu_ hs_ => e_loadS (b := b68) (off := 0 + (x30 : Int).toNat * 3) (cs := [.int .i64 ((x1.cells_.getD ((x30).toNat) z36).kind), .int .i64 ((x1.cells_.getD ((x30).toNat) z36).n), .slice A78 ((x1.cells_.getD ((x30).toNat) z36).text).length c79]) Try.underlying36 rfl (by kernel_rfl) (by kernel_rfl) (fun j_ u_ e_ => (hpx (cell_same (hs_.2.2.1 _ (Row.foot o51 e70)) (k77 j_ u_ e_))))) ?_; intro hc82 hs83
    refine xO 8 hc82 ?_
    refine yE 8 5 rfl (nB #[.int .i64 0, .int .i64 0, .slice none 0 0] 36 S47) ?_
    rintro hc89 _ w84 ⟨g85, rfl, b86, S87, K88⟩
    replace b24 := K88.blk 0 rfl b24
    replace b19 := K88.blk 1 rfl b19
    replace h6 := h6.move (K88.at 2 rfl)
    replace h10 := h10.move (K88.at 3 rfl)
    replace b3 := K88.blk 4 rfl b3
    refine ⟨⟨S87.inv, (fun b_ h_ => (K88.at 1 rfl b_ h_).trans (hs83.2.1 b_ h_)), (fun b_ h_ => (K88.at 2 rfl b_ h_).trans (hs83.2.2.1 b_ h_)), (fun b_ h_ => (K88.at 4 rfl b_ h_).trans (hs83.2.2.2 b_ h_))⟩, fun hs90 => ?_⟩
    refine xO 9 hc89 ?_
    refine yS 9 rfl (eSa g85 0 [.int .i64 ((x1.cells_.getD ((x30).toNat) z36).kind), .int .i64 ((x1.cells_.getD ((x30).toNat) z36).n), .slice A78 ((x1.cells_.getD ((x30).toNat) z36).text).length c79] S87 b86) ?_
    rintro hc95 w91 ⟨b92, S93, K94⟩
    replace b24 := K94.blk 0 rfl b24
    replace b19 := K94.blk 1 rfl b19
    replace h6 := h6.move (K94.at 2 rfl)
    replace h10 := h10.move (K94.at 3 rfl)
    replace b3 := K94.blk 4 rfl b3
    refine ⟨⟨S93.inv, (fun b_ h_ => (K94.at 1 rfl b_ h_).trans (hs90.2.1 b_ h_)), (fun b_ h_ => (K94.at 2 rfl b_ h_).trans (hs90.2.2.1 b_ h_)), (fun b_ h_ => (K94.at 4 rfl b_ h_).trans (hs90.2.2.2 b_ h_))⟩, fun hs96 => ?_⟩
    clear b86
    refine xn (by kernel_rfl) ?_ _
    refine then_n (wp_seq (wp_seq (wR (lV 17 (eD g85 0 0 1 Try.underlying36) (lV 18 (eL ⟨g85, 0 + 0, none⟩ (.int .i64 ((x1.cells_.getD ((x30).toNat) z36).kind)) Try.underlying3 (blk_cell b92 rfl)) (lV 19 (eEq .i64 (x1.cells_.getD ((x30).toNat) z36).kind 0) (lV 20 (eM (.bool (decide (((x1.cells_.getD ((x30).toNat) z36).kind) = 0)))) ?_)))))))
    by_cases q97 : ((x1.cells_.getD ((x30).toNat) z36).kind) = 0
    · replace M := ifp q97 M
      refine lG 21 20 (bT q97) (eD g85 0 1 1 Try.underlying36) (lG 22 20 (bT q97) (eL ⟨g85, 0 + 1, none⟩ (.int .i64 ((x1.cells_.getD ((x30).toNat) z36).n)) Try.underlying3 (blk_cell b92 rfl)) (lG 23 20 (bT q97) (eD g18 0 1 1 Try.underlying36 (by exact e37)) (lG 24 20 (bT q97) (eL ⟨g18, 0 + 1, none⟩ (.int .i64 x30) Try.underlying3 (blk_cell b19 rfl)) (lG 25 20 (bT q97) (eEq .i64 (x1.cells_.getD ((x30).toNat) z36).n x30) (lV 26 (eT (.bool (decide (((x1.cells_.getD ((x30).toNat) z36).n) = x30))) (bT q97)) (wN (then_n ?_)))))))
      by_cases q98 : ((x1.cells_.getD ((x30).toNat) z36).n) = x30
      · replace M := ifp q98 M
        refine cT (bT q98) (wp_seq (wR (lV 27 (e_loadS (b := g18) (off := 0) (cs := [.int .i64 x29, .int .i64 x30, .slice A32 x31.length c33]) Try.underlying36 rfl (by kernel_rfl) (by exact e37) (blk_cells b19 rfl)) ?_)))
        have S99 := S93.pulls [(is g23), (is g85), (is g18), F7, F11, (is g2)] [1] rfl
        refine lE (eSa g23 0 [.int .i64 x29, .int .i64 x30, .slice A32 x31.length c33] S99 b24 (by exact e38)) ?_
        rintro w100 ⟨b101, S102, K103⟩
        replace h6 := h6.move (K103.at 2 rfl)
        replace h10 := h10.move (K103.at 3 rfl)
        replace b3 := K103.blk 4 rfl b3
        clear b24
        refine wN (then_n (wp_ret (then_r (inb_r (then_r (inb_r (then_r ?_)))))))
        obtain rfl := Option.some.inj M
        have S106 := S102.pulls [F7, F11, (is g2), (is g23), (is g85), (is g18)] [5, 5, 5] rfl
        have S107 := St.first (Fa := [F7, F11, (is g2)]) (Fr := [(is g23), (is g85), (is g18)]) S106
        exact retS (ty := 36) (cur := #[.int .i64 x29, .int .i64 x30, .slice A32 x31.length c33]) rfl rfl (by exact e38) b101 Try.underlying36 rfl (by kernel_rfl) ⟨A32, c33, H, rfl, h6, h10, b3, h34, l35, S107⟩
      replace M := ifn q98 M
      refine cF (bF q98) (wp_skip (then_n (wR (lV 28 (e_loadS (b := g85) (off := 0) (cs := [.int .i64 ((x1.cells_.getD ((x30).toNat) z36).kind), .int .i64 ((x1.cells_.getD ((x30).toNat) z36).n), .slice A78 ((x1.cells_.getD ((x30).toNat) z36).text).length c79]) Try.underlying36 rfl (by kernel_rfl) (by kernel_rfl) (blk_cells b92 rfl)) ?_))))
      have S108 := S93.pulls [(is g18), (is g85), (is g23), F7, F11, (is g2)] [2] rfl
      refine lE (eSa g18 0 [.int .i64 ((x1.cells_.getD ((x30).toNat) z36).kind), .int .i64 ((x1.cells_.getD ((x30).toNat) z36).n), .slice A78 ((x1.cells_.getD ((x30).toNat) z36).text).length c79] S108 b19 (by exact e37)) ?_
      rintro w109 ⟨b110, S111, K112⟩
      replace b24 := K112.blk 1 rfl b24
      replace h6 := h6.move (K112.at 2 rfl)
      replace h10 := h10.move (K112.at 3 rfl)
      replace b3 := K112.blk 4 rfl b3
      clear b19
      refine wN (inb_n (then_n ?_))
      have S117 := S111.pulls [(is g23), (is g18), F7, F11, (is g2), (is g85)] [5, 5, 5, 3, 5] rfl
      have S118 := St.first (Fa := [(is g23), (is g18), F7, F11, (is g2)]) (Fr := [(is g85)]) S117
      exact ⟨k44, (by omega), _, ((x1.cells_.getD ((x30).toNat) z36).kind), ((x1.cells_.getD ((x30).toNat) z36).n), ((x1.cells_.getD ((x30).toNat) z36).text), A78, c79, rfl, (by exact e36), (by exact e37), (by exact e38), b24, b110, h6, h10, b3, h81, l80, S118, M⟩
    replace M := ifn q97 M
    refine lK 20 false (bF q97) ?_
    refine lK 20 false (bF q97) ?_
    refine lK 20 false (bF q97) ?_
    refine lK 20 false (bF q97) ?_
    refine lK 20 false (bF q97) ?_
    refine lV 26 (eF (.bool false) (bF q97)) (wN (then_n (cond_f rfl (by kernel_rfl) (wp_skip (then_n (wR (lV 28 (e_loadS (b := g85) (off := 0) (cs := [.int .i64 ((x1.cells_.getD ((x30).toNat) z36).kind), .int .i64 ((x1.cells_.getD ((x30).toNat) z36).n), .slice A78 ((x1.cells_.getD ((x30).toNat) z36).text).length c79]) Try.underlying36 rfl (by kernel_rfl) (by kernel_rfl) (blk_cells b92 rfl)) ?_)))))))
    have S119 := S93.pulls [(is g18), (is g85), (is g23), F7, F11, (is g2)] [2] rfl
    refine lE (eSa g18 0 [.int .i64 ((x1.cells_.getD ((x30).toNat) z36).kind), .int .i64 ((x1.cells_.getD ((x30).toNat) z36).n), .slice A78 ((x1.cells_.getD ((x30).toNat) z36).text).length c79] S119 b19 (by exact e37)) ?_
    rintro w120 ⟨b121, S122, K123⟩
    replace b24 := K123.blk 1 rfl b24
    replace h6 := h6.move (K123.at 2 rfl)
    replace h10 := h10.move (K123.at 3 rfl)
    replace b3 := K123.blk 4 rfl b3
    clear b19
    refine wN (inb_n (then_n ?_))
    have S128 := S122.pulls [(is g23), (is g18), F7, F11, (is g2), (is g85)] [5, 5, 5, 3, 5] rfl
    have S129 := St.first (Fa := [(is g23), (is g18), F7, F11, (is g2)]) (Fr := [(is g85)]) S128
    exact ⟨k44, (by omega), _, ((x1.cells_.getD ((x30).toNat) z36).kind), ((x1.cells_.getD ((x30).toNat) z36).n), ((x1.cells_.getD ((x30).toNat) z36).text), A78, c79, rfl, (by exact e36), (by exact e37), (by exact e38), b24, b121, h6, h10, b3, h81, l80, S129, M⟩
  replace M := ifn q45 M
  refine cF (bF q45) (wp_exit (then_e (then_e (inb_hit (then_n (wp_seq (wR ?_)))))))
  refine lV 29 (e_loadS (b := g18) (off := 0) (cs := [.int .i64 x29, .int .i64 x30, .slice A32 x31.length c33]) Try.underlying36 rfl (by kernel_rfl) (by exact e37) (blk_cells b19 rfl)) ?_
  refine lE (eSa g23 0 [.int .i64 x29, .int .i64 x30, .slice A32 x31.length c33] S39 b24 (by exact e38)) ?_
  rintro w130 ⟨b131, S132, K133⟩
  replace h6 := h6.move (K133.at 1 rfl)
  replace h10 := h10.move (K133.at 2 rfl)
  replace b3 := K133.blk 3 rfl b3
  clear b24
  refine wN (then_n (wp_ret ?_))
  obtain rfl := Option.some.inj M
  have S136 := S132.pulls [F7, F11, (is g2), (is g23), (is g18)] [4, 4, 4] rfl
  have S137 := St.first (Fa := [F7, F11, (is g2)]) (Fr := [(is g23), (is g18)]) S136
  exact retS (ty := 36) (cur := #[.int .i64 x29, .int .i64 x30, .slice A32 x31.length c33]) rfl rfl (by exact e38) b131 Try.underlying36 rfl (by kernel_rfl) ⟨A32, c33, H, rfl, h6, h10, b3, h34, l35, S137⟩

/-! spec_l10ref -/
def spec_l10ref.f (x1 : Int) : Option Cell := some (⟨0, x1, []⟩ : Cell)
theorem spec_l10ref.calls (w : World) (H : Hp) (x1 : Int) (S : Own [] H w) (r : Cell) (M : spec_l10ref.f x1 = some r) :
    Calls Try.prog 68 #[.int .i64 x1] w (fun e e_w => ∃ (A_1 : Option Addr) (c_1 : Nat) (F_1 : Foot) (H_ : Hp), e = .returned (.agg #[.int .i64 r.kind, .int .i64 r.n, .slice A_1 r.text.length c_1]) ∧ Row tByte 5 H_ (hp e_w) F_1 A_1 c_1 r.text ∧ St (anyOf []) H w [F_1] H_ e_w) := by
  rw [spec_l10ref.f] at M
  refine enter (l := [.int .i64 x1]) 5 Try.func68 rfl rfl rfl ?_
  have S0_ := S.st
  refine wp_seq (wR ?_)
  refine lW 2 (nB #[.int .i64 0, .int .i64 0, .slice none 0 0] 36 S0_) ?_
  rintro _ w2 ⟨g3, rfl, b4, S5, K6⟩
  refine wN (then_n (wp_seq (wR (lV 3 (eM (.int .i64 x1)) (lV 4 (show _ = Result.ok (Next.value (.agg #[.int .i64 0, .int .i64 x1, .slice none 0 0])) w2 from by kernel_rfl) ?_)))))
  refine lE (eSa g3 0 [.int .i64 0, .int .i64 x1, .slice none 0 0] S5 b4) ?_
  rintro w7 ⟨b8, S9, K10⟩
  clear b4
  refine wN (then_n (wp_ret ?_))
  obtain rfl := Option.some.inj M
  have S11 := S9.unit
  have S12 := St.first (Fa := [no]) (Fr := [(is g3)]) S11
  exact retS (ty := 36) (cur := #[.int .i64 0, .int .i64 x1, .slice none 0 0]) rfl rfl (by kernel_rfl) b8 Try.underlying36 rfl (by kernel_rfl) ⟨none, 0, no, H, rfl, (Row.nil _ _ _ _ no), S12⟩

/-! spec_l10set -/
def spec_l10set_2.f (x1 : GL10heap) (x12 : Int) (x13 : Cell) : Option (Int × GL10heap) := (if (x1.trail_.length : Int) ≥ 20000 then some (10, x1) else (if 0 ≤ x12 then (if x12 < (x1.cells_.length : Int) then (if x1.trail_.length + 1 ≤ 17592186044416 then some (0, (⟨(x1.cells_.set ((x12).toNat) x13), (x1.trail_ ++ [x12]), x1.pairs_⟩ : GL10heap)) else none) else none) else none))
theorem spec_l10set_2.calls (w : World) (H : Hp) (x1 : GL10heap) (g2 : Nat) (A4 : Option Addr) (c5 : Nat) (F7 : Foot) (A8 : Option Addr) (c9 : Nat) (F11 : Foot) (x12 : Int) (x13 : Cell) (A14 : Option Addr) (c15 : Nat) (h6 : Row (ro st36) 36 H (hp w) F7 A4 c5 x1.cells_) (h10 : Row tInt 3 H (hp w) F11 A8 c9 x1.trail_) (b3 : w.heap[g2]? = some (.cells #[.slice A4 x1.cells_.length c5, .slice A8 x1.trail_.length c9, .int .i64 x1.pairs_] 91 (0, 0))) (h16 : Rd tByte H A14 x13.text) (l17 : x13.text.length ≤ c15) (S : Own [F7, F11, (is g2)] H w) (r : Int × GL10heap) (M : spec_l10set_2.f x1 x12 x13 = some r) :
    Calls Try.prog 70 #[.pointer (some ⟨g2, 0, none⟩), .int .i64 x12, .agg #[.int .i64 x13.kind, .int .i64 x13.n, .slice A14 x13.text.length c15]] w (fun e e_w => ∃ (A_1 : Option Addr) (c_1 : Nat) (F_1 : Foot) (A_2 : Option Addr) (c_2 : Nat) (F_2 : Foot) (H_ : Hp), e = .returned (.int .i64 r.1) ∧ Row (ro st36) 36 H_ (hp e_w) F_1 A_1 c_1 r.2.cells_ ∧ Row tInt 3 H_ (hp e_w) F_2 A_2 c_2 r.2.trail_ ∧ e_w.heap[g2]? = some (.cells #[.slice A_1 r.2.cells_.length c_1, .slice A_2 r.2.trail_.length c_2, .int .i64 r.2.pairs_] 91 (0, 0)) ∧ St (anyOf [F7, F11, (is g2)]) H w [(is g2), F_1, F_2] H_ e_w) := by
  rw [spec_l10set_2.f] at M
  refine enter (l := [.pointer (some ⟨g2, 0, none⟩), .int .i64 x12, .agg #[.int .i64 x13.kind, .int .i64 x13.n, .slice A14 x13.text.length c15]]) 30 Try.func70 rfl rfl rfl ?_
  have S0_ := S.st
  refine wp_seq (wR ?_)
  refine lW 5 (nB #[.int .i64 x13.kind, .int .i64 x13.n, .slice A14 x13.text.length c15] 36 S0_) ?_
  rintro _ w18 ⟨g19, rfl, b20, S21, K22⟩
  replace h6 := h6.move (K22.at 0 rfl)
  replace h10 := h10.move (K22.at 1 rfl)
  replace b3 := K22.blk 2 rfl b3
  refine lV 6 (eA (.int .i64 0)) (wN (then_n (wp_seq (wp_seq (wR (lV 7 (eM (.pointer (some ⟨g2, 0, none⟩))) (lV 8 (eN ⟨g2, 0, none⟩) ?_)))))))
  refine lV 9 (eD g2 0 1 1 Try.underlying91) (lV 10 (eL ⟨g2, 0 + 1, none⟩ (.slice A8 x1.trail_.length c9) Try.underlying23 (blk_cell b3 rfl)) (lV 11 (e_len (A := A8) (n := x1.trail_.length) (c := c9) Try.underlying23 (by kernel_rfl)) (lV 12 (e_geq (k := .i64) (a := (x1.trail_.length : Int)) (b := 20000) (by kernel_rfl) rfl) (wN (then_n ?_)))))
  by_cases q23 : (x1.trail_.length : Int) ≥ 20000
  · replace M := ifp q23 M
    refine cT (bT q23) (wp_seq (wR (lV 6 (eA (.int .i64 10)) (wN (then_n (wp_ret (then_r ?_)))))))
    obtain rfl := Option.some.inj M
    have S26 := S21.pulls [(is g2), F7, F11, (is g19)] [2, 2, 3] rfl
    have S27 := St.first (Fa := [(is g2), F7, F11]) (Fr := [(is g19)]) S26
    exact ret1 rfl rfl  (show _ = .int .i64 10 from (by kernel_rfl)) ⟨A4, c5, F7, A8, c9, F11, H, rfl, h6, h10, b3, S27⟩
  replace M := ifn q23 M
  refine cF (bF q23) (wp_skip (then_n (wp_seq ?_)))
  refine region_mix (S := (fun (L_ : Array Bool) (w_ : World) => Ext H (hp w_) ∧ (∀ b_, (is g2) b_ → hp w_ b_ = hp w18 b_))) (by kernel_rfl) S21 ?_
  intro w28 S29 K30 hc31
  have o32 := b3
  have hs33 : (fun (L_ : Array Bool) (w_ : World) => Ext H (hp w_) ∧ (∀ b_, (is g2) b_ → hp w_ b_ = hp w18 b_)) (Array.replicate 8 false) w28 := ⟨S29.inv, (fun b_ h_ => K30.at 3 rfl b_ h_)⟩
  replace b20 := K30.blk 0 rfl b20
  replace h6 := h6.move (K30.at 1 rfl)
  replace h10 := h10.move (K30.at 2 rfl)
  replace b3 := K30.blk 3 rfl b3
  refine xV 0 13 rfl hc31 hs33 (fun L_ w_ hc_ hu_ hs_ => eM (.pointer (some ⟨g2, 0, none⟩))) ?_; intro hc34 hs35
  refine xV 1 14 rfl hc34 hs35 (fun L_ w_ hc_ hu_ hs_ => eN ⟨g2, 0, none⟩) ?_; intro hc36 hs37
  refine xV 2 15 rfl hc36 hs37 (fun L_ w_ hc_ hu_ hs_ => eD g2 0 0 1 Try.underlying91) ?_; intro hc38 hs39
  refine xV 3 16 rfl hc38 hs39 (fun L_ w_ hc_ hu_ hs_ => eL ⟨g2, 0 + 0, none⟩ (.slice A4 x1.cells_.length c5) Try.underlying32 (blk_cell ((hs_.2 _ rfl).trans o32) rfl)) ?_; intro hc40 hs41
  refine xV 4 17 rfl hc40 hs41 (fun L_ w_ hc_ hu_ hs_ => eM (.int .i64 x12)) ?_; intro hc42 hs43
  refine xO 5 hc42 ?_
  refine yO 5 18 rfl hs43 (e_loadS (b := g19) (off := 0) (cs := [.int .i64 x13.kind, .int .i64 x13.n, .slice A14 x13.text.length c15]) Try.underlying36 rfl (by kernel_rfl) (by kernel_rfl) (blk_cells b20 rfl)) ?_; intro hc44 hs45
  obtain ⟨q46, M⟩ := chk M
  obtain ⟨q47, M⟩ := chk M
  obtain ⟨b48, e50⟩ := Row.addr h6 (show (x12).toNat < x1.cells_.length by omega)
  refine xO 6 hc44 ?_
  refine yO 6 19 rfl hs45 (eI b48 0 x1.cells_.length c5 3 x12 .i64 Try.underlying32 e50 q46 q47) ?_; intro hc51 hs52
  have S53 := S29.pulls [F7, (is g19), F11, (is g2)] [1] rfl
  have S54 := S53.unit
  have S55 := S54.pulls [F7, no, (is g19), F11, (is g2)] [1] rfl
  refine xO 7 hc51 ?_
  refine yS 7 rfl (e_setel (d := (ro st36)) (b := b48) (i := (x12).toNat) (v := .agg #[.int .i64 x13.kind, .int .i64 x13.n, .slice A14 x13.text.length c15]) (vs := [.int .i64 x13.kind, .int .i64 x13.n, .slice A14 x13.text.length c15]) (yv := x13) S55 (by kernel_rfl) e50 (by kernel_rfl) rfl (by kernel_rfl) h6 (show (x12).toNat < x1.cells_.length by omega) (st36_mkR (x := x13) l17 h16)) ?_
  rintro hc61 w56 ⟨F58, h57, S59, K60⟩
  replace h10 := h10.move (K60.at 1 rfl)
  replace b3 := K60.blk 2 rfl b3
  refine ⟨⟨S59.inv, (fun b_ h_ => (K60.at 2 rfl b_ h_).trans (hs52.2 b_ h_))⟩, fun hs62 => ?_⟩
  clear h6
  refine xn (by kernel_rfl) ?_ _
  refine then_n (wp_seq (wR (lV 20 (eM (.pointer (some ⟨g2, 0, none⟩))) (lV 21 (eM (.pointer (some ⟨g2, 0, none⟩))) (lV 22 (eN ⟨g2, 0, none⟩) (lV 23 (eD g2 0 1 1 Try.underlying91) (lV 24 (eL ⟨g2, 0 + 1, none⟩ (.slice A8 x1.trail_.length c9) Try.underlying23 (blk_cell b3 rfl)) ?_)))))))
  refine lV 25 (eM (.int .i64 x12)) ?_
  refine lW 26 (new_blk (v := fun g_ => .slice (some ⟨g_, 0, none⟩) 1 1) (cs := #[.int .i64 x12]) (t := 3) S59 (by kernel_rfl)) ?_
  rintro _ w63 ⟨g64, rfl, b65, S66, K67⟩
  replace h57 := h57.move (K67.at 0 rfl)
  replace h10 := h10.move (K67.at 2 rfl)
  replace b3 := K67.blk 3 rfl b3
  obtain ⟨q68, M⟩ := chk M
  have S69 := S66.pulls [F11, (is g64), F58, (is g19), (is g2)] [3] rfl
  have S70 := S69.unit
  have S71 := S70.pulls [F11, no, (is g64), F58, (is g19), (is g2)] [1] rfl
  refine lW 27 (e_append (d := tInt) (n := x1.trail_.length) (xs := x1.trail_) (cap := c9) (A := A8) (ys := [x12]) (A2 := (some ⟨g64, 0, none⟩)) (c2 := 1) (z := .int .i64 0) (bytes := 8) S71 Try.underlying23 (by kernel_rfl) rfl (by decide) (by kernel_rfl) rfl (by kernel_rfl) h10 (elsO_one1 rfl) (.inr (blk_news b65 rfl)) (show (x1.trail_.length + [x12].length) * 8 ≤ _ by first | omega | (simp only [List.length_cons, List.length_nil]; omega)) (by decide)) ?_
  rintro _ w72 ⟨A73, c74, F75, rfl, h76, S77, K78⟩
  replace h57 := h57.move (K78.at 1 rfl)
  replace b3 := K78.blk 3 rfl b3
  refine lV 28 (eN ⟨g2, 0, none⟩) (lV 29 (eD g2 0 1 1 Try.underlying91) ?_)
  have S79 := S77.pulls [(is g2), F75, (is g64), F58, (is g19)] [4] rfl
  refine lE (eS g2 (0 + 1) (.slice A73 ((x1.trail_ ++ [x12]).length) c74) #[.slice A4 x1.cells_.length c5, .slice A73 ((x1.trail_ ++ [x12]).length) c74, .int .i64 x1.pairs_] [.slice A73 ((x1.trail_ ++ [x12]).length) c74] S79 b3) ?_
  rintro w80 ⟨b81, S82, K83⟩
  replace h76 := h76.move (K83.at 0 rfl)
  replace h57 := h57.move (K83.at 2 rfl)
  clear b3
  refine wN (then_n (wp_seq (wR (lV 6 (eA (.int .i64 0)) (wN (then_n (wp_ret ?_)))))))
  obtain rfl := Option.some.inj M
  have S86 := S82.pulls [(is g2), F58, F75, (is g64), (is g19)] [1, 3, 2] rfl
  have S87 := St.first (Fa := [(is g2), F58, F75]) (Fr := [(is g64), (is g19)]) S86
  exact ret1 rfl rfl  (show _ = .int .i64 0 from (by kernel_rfl)) ⟨A4, c5, F58, A73, c74, F75, H, rfl, h57, h76, (by have q_ := b81; rw [← (show (x1.cells_.set ((x12).toNat) x13).length = x1.cells_.length from (List.length_set.trans rfl))] at q_; exact q_), S87⟩

/-! spec_l10deref -/
def spec_l10deref_2.l0 : Nat → GL10heap → Int → Int → (List UInt8) → Option Cell
  | 0, _, _, _, _ => none
  | k44 + 1, x1, x29, x30, x31 => (if x29 = 0 then (if 0 ≤ x30 then (if x30 < (x1.cells_.length : Int) then (if ((x1.cells_.getD ((x30).toNat) z36).kind) = 0 then (if ((x1.cells_.getD ((x30).toNat) z36).n) = x30 then some (⟨x29, x30, x31⟩ : Cell) else (spec_l10deref_2.l0 k44 x1 ((x1.cells_.getD ((x30).toNat) z36).kind) ((x1.cells_.getD ((x30).toNat) z36).n) ((x1.cells_.getD ((x30).toNat) z36).text))) else (spec_l10deref_2.l0 k44 x1 ((x1.cells_.getD ((x30).toNat) z36).kind) ((x1.cells_.getD ((x30).toNat) z36).n) ((x1.cells_.getD ((x30).toNat) z36).text))) else none) else none) else some (⟨x29, x30, x31⟩ : Cell))
def spec_l10deref_2.f (k : Nat) (x1 : GL10heap) (x12 : Cell) : Option Cell := (spec_l10deref_2.l0 k x1 x12.kind x12.n x12.text)
theorem spec_l10deref_2.calls (k : Nat) (w : World) (H : Hp) (x1 : GL10heap) (g2 : Nat) (A4 : Option Addr) (c5 : Nat) (A8 : Option Addr) (c9 : Nat) (x12 : Cell) (A13 : Option Addr) (c14 : Nat) (h6 : Rd st36 H A4 x1.cells_) (l7 : x1.cells_.length ≤ c5) (h10 : Rd tInt H A8 x1.trail_) (l11 : x1.trail_.length ≤ c9) (b3 : H g2 = some (.cells #[.slice A4 x1.cells_.length c5, .slice A8 x1.trail_.length c9, .int .i64 x1.pairs_] 91 (0, 0))) (h15 : Rd tByte H A13 x12.text) (l16 : x12.text.length ≤ c14) (S : Own [] H w) (r : Cell) (M : spec_l10deref_2.f k x1 x12 = some r) :
    Calls Try.prog 46 #[.pointer (some ⟨g2, 0, none⟩), .agg #[.int .i64 x12.kind, .int .i64 x12.n, .slice A13 x12.text.length c14]] w (fun e e_w => ∃ (A_1 : Option Addr) (c_1 : Nat) (H_ : Hp), e = .returned (.agg #[.int .i64 r.kind, .int .i64 r.n, .slice A_1 r.text.length c_1]) ∧ Rd tByte H_ A_1 r.text ∧ r.text.length ≤ c_1 ∧ St (anyOf []) H w [] H_ e_w) := by
  rw [spec_l10deref_2.f] at M
  refine enter (l := [.pointer (some ⟨g2, 0, none⟩), .agg #[.int .i64 x12.kind, .int .i64 x12.n, .slice A13 x12.text.length c14]]) 30 Try.func46 rfl rfl rfl ?_
  have S0_ := S.st
  refine wp_seq (wR ?_)
  refine lW 3 (nB #[.int .i64 x12.kind, .int .i64 x12.n, .slice A13 x12.text.length c14] 36 S0_) ?_
  rintro _ w17 ⟨g18, rfl, b19, S20, K21⟩
  refine lW 4 (nB #[.int .i64 0, .int .i64 0, .slice none 0 0] 36 S20) ?_
  rintro _ w22 ⟨g23, rfl, b24, S25, K26⟩
  replace b19 := K26.blk 0 rfl b19
  refine wN (then_n (wp_seq (wp_block ?_)))
  refine wp_loop_g (fun k42 a43 w27 => ∃ (f28 : Nat → Value) (x29 : Int) (x30 : Int) (x31 : List UInt8) (A32 : Option Addr) (c33 : Nat), a43 = mk 30 f28 ∧ f28 0 = .pointer (some ⟨g2, 0, none⟩) ∧ f28 3 = .pointer (some ⟨g18, 0, none⟩) ∧ f28 4 = .pointer (some ⟨g23, 0, none⟩) ∧ w27.heap[g23]? = some (.cells #[.int .i64 0, .int .i64 0, .slice none 0 0] 36 (0, 0)) ∧ w27.heap[g18]? = some (.cells #[.int .i64 x29, .int .i64 x30, .slice A32 x31.length c33] 36 (0, 0)) ∧ Rd tByte H A32 x31 ∧ x31.length ≤ c33 ∧ St (anyOf []) H w [(is g23), (is g18)] H w27 ∧ spec_l10deref_2.l0 k42 x1 x29 x30 x31 = some r) k ⟨_, x12.kind, x12.n, x12.text, A13, c14, rfl, (by kernel_rfl), (by kernel_rfl), (by kernel_rfl), b24, b19, h15, l16, S25, M⟩ ?_
  clear M
  rintro k42 a43 w27 ⟨f28, x29, x30, x31, A32, c33, rfl, e36, e37, e38, b24, b19, h34, l35, S39, M⟩
  rcases k42 with _ | k44
  · rw [spec_l10deref_2.l0] at M
    cases M
  rw [spec_l10deref_2.l0] at M
  refine wp_seq (wp_seq (wR (lV 6 (eD g18 0 0 1 Try.underlying36 (by exact e37)) (lV 7 (eL ⟨g18, 0 + 0, none⟩ (.int .i64 x29) Try.underlying3 (blk_cell b19 rfl)) (lV 8 (eEq .i64 x29 0) (wN (then_n ?_)))))))
  by_cases q45 : x29 = 0
  · replace M := ifp q45 M
    refine cT (bT q45) (wp_skip (then_n (wp_block (wp_seq ?_))))
    refine region_mix (S := (fun (L_ : Array Bool) (w_ : World) => Ext H (hp w_) ∧ (∀ b_, (is g18) b_ → hp w_ b_ = hp w27 b_))) (by kernel_rfl) S39 ?_
    intro w46 S47 K48 hc49
    have o50 := b19
    have hs51 : (fun (L_ : Array Bool) (w_ : World) => Ext H (hp w_) ∧ (∀ b_, (is g18) b_ → hp w_ b_ = hp w27 b_)) (Array.replicate 10 false) w46 := ⟨S47.inv, (fun b_ h_ => K48.at 1 rfl b_ h_)⟩
    replace b24 := K48.blk 0 rfl b24
    replace b19 := K48.blk 1 rfl b19
    refine xV 0 9 rfl hc49 hs51 (fun L_ w_ hc_ hu_ hs_ => eM (.pointer (some ⟨g2, 0, none⟩)) (by exact e36)) ?_; intro hc52 hs53
    refine xV 1 10 rfl hc52 hs53 (fun L_ w_ hc_ hu_ hs_ => eN ⟨g2, 0, none⟩) ?_; intro hc54 hs55
    refine xV 2 11 rfl hc54 hs55 (fun L_ w_ hc_ hu_ hs_ => eD g2 0 0 1 Try.underlying91) ?_; intro hc56 hs57
    refine xV 3 12 rfl hc56 hs57 (fun L_ w_ hc_ hu_ hs_ => eL ⟨g2, 0 + 0, none⟩ (.slice A4 x1.cells_.length c5) Try.underlying32 (blk_cell (hs_.1 _ _ b3) rfl)) ?_; intro hc58 hs59
    refine xV 4 13 rfl hc58 hs59 (fun L_ w_ hc_ hu_ hs_ => eD g18 0 1 1 Try.underlying36 (by exact e37)) ?_; intro hc60 hs61
    refine xV 5 14 rfl hc60 hs61 (fun L_ w_ hc_ hu_ hs_ => eL ⟨g18, 0 + 1, none⟩ (.int .i64 x30) Try.underlying3 (blk_cell ((hs_.2 _ rfl).trans o50) rfl)) ?_; intro hc62 hs63
    obtain ⟨q64, M⟩ := chk M
    obtain ⟨q65, M⟩ := chk M
    obtain ⟨b66, o67, e68⟩ := Rd.addr h6 (show (x30).toNat < x1.cells_.length by omega)
    obtain ⟨y69, r70, k71⟩ := Rd.at h6 e68 (getD_some z36 (show (x30).toNat < x1.cells_.length by omega))
    obtain ⟨A72, c73, rfl, l74, h75⟩ := st36_open r70
    refine xV 6 15 rfl hc62 hs63 (fun L_ w_ hc_ hu_ hs_ => eI b66 o67 x1.cells_.length c5 3 x30 .i64 Try.underlying32 e68 q64 q65) ?_; intro hc76 hs77
    refine xV 7 16 rfl hc76 hs77 (fun L_ w_ hc_ hu_ hs_ => e_loadS (b := b66) (off := o67 + (x30 : Int).toNat * 3) (cs := [.int .i64 ((x1.cells_.getD ((x30).toNat) z36).kind), .int .i64 ((x1.cells_.getD ((x30).toNat) z36).n), .slice A72 ((x1.cells_.getD ((x30).toNat) z36).text).length c73]) Try.underlying36 rfl (by kernel_rfl) (by kernel_rfl) (fun j_ u_ e_ => (hpx (hs_.1.cell (k71 j_ u_ e_))))) ?_; intro hc78 hs79
    refine xO 8 hc78 ?_
    refine yE 8 5 rfl (nB #[.int .i64 0, .int .i64 0, .slice none 0 0] 36 S47) ?_
    rintro hc85 _ w80 ⟨g81, rfl, b82, S83, K84⟩
    replace b24 := K84.blk 0 rfl b24
    replace b19 := K84.blk 1 rfl b19
    refine ⟨⟨S83.inv, (fun b_ h_ => (K84.at 1 rfl b_ h_).trans (hs79.2 b_ h_))⟩, fun hs86 => ?_⟩
    refine xO 9 hc85 ?_
    refine yS 9 rfl (eSa g81 0 [.int .i64 ((x1.cells_.getD ((x30).toNat) z36).kind), .int .i64 ((x1.cells_.getD ((x30).toNat) z36).n), .slice A72 ((x1.cells_.getD ((x30).toNat) z36).text).length c73] S83 b82) ?_
    rintro hc91 w87 ⟨b88, S89, K90⟩
    replace b24 := K90.blk 0 rfl b24
    replace b19 := K90.blk 1 rfl b19
    refine ⟨⟨S89.inv, (fun b_ h_ => (K90.at 1 rfl b_ h_).trans (hs86.2 b_ h_))⟩, fun hs92 => ?_⟩
    clear b82
    refine xn (by kernel_rfl) ?_ _
    refine then_n (wp_seq (wp_seq (wR (lV 17 (eD g81 0 0 1 Try.underlying36) (lV 18 (eL ⟨g81, 0 + 0, none⟩ (.int .i64 ((x1.cells_.getD ((x30).toNat) z36).kind)) Try.underlying3 (blk_cell b88 rfl)) (lV 19 (eEq .i64 (x1.cells_.getD ((x30).toNat) z36).kind 0) (lV 20 (eM (.bool (decide (((x1.cells_.getD ((x30).toNat) z36).kind) = 0)))) ?_)))))))
    by_cases q93 : ((x1.cells_.getD ((x30).toNat) z36).kind) = 0
    · replace M := ifp q93 M
      refine lG 21 20 (bT q93) (eD g81 0 1 1 Try.underlying36) (lG 22 20 (bT q93) (eL ⟨g81, 0 + 1, none⟩ (.int .i64 ((x1.cells_.getD ((x30).toNat) z36).n)) Try.underlying3 (blk_cell b88 rfl)) (lG 23 20 (bT q93) (eD g18 0 1 1 Try.underlying36 (by exact e37)) (lG 24 20 (bT q93) (eL ⟨g18, 0 + 1, none⟩ (.int .i64 x30) Try.underlying3 (blk_cell b19 rfl)) (lG 25 20 (bT q93) (eEq .i64 (x1.cells_.getD ((x30).toNat) z36).n x30) (lV 26 (eT (.bool (decide (((x1.cells_.getD ((x30).toNat) z36).n) = x30))) (bT q93)) (wN (then_n ?_)))))))
      by_cases q94 : ((x1.cells_.getD ((x30).toNat) z36).n) = x30
      · replace M := ifp q94 M
        refine cT (bT q94) (wp_seq (wR (lV 27 (e_loadS (b := g18) (off := 0) (cs := [.int .i64 x29, .int .i64 x30, .slice A32 x31.length c33]) Try.underlying36 rfl (by kernel_rfl) (by exact e37) (blk_cells b19 rfl)) ?_)))
        have S95 := S89.pulls [(is g23), (is g81), (is g18)] [1] rfl
        refine lE (eSa g23 0 [.int .i64 x29, .int .i64 x30, .slice A32 x31.length c33] S95 b24 (by exact e38)) ?_
        rintro w96 ⟨b97, S98, K99⟩
        clear b24
        refine wN (then_n (wp_ret (then_r (inb_r (then_r (inb_r (then_r ?_)))))))
        obtain rfl := Option.some.inj M
        have S100 := St.first (Fa := []) (Fr := [(is g23), (is g81), (is g18)]) S98
        exact retS (ty := 36) (cur := #[.int .i64 x29, .int .i64 x30, .slice A32 x31.length c33]) rfl rfl (by exact e38) b97 Try.underlying36 rfl (by kernel_rfl) ⟨A32, c33, H, rfl, h34, l35, S100⟩
      replace M := ifn q94 M
      refine cF (bF q94) (wp_skip (then_n (wR (lV 28 (e_loadS (b := g81) (off := 0) (cs := [.int .i64 ((x1.cells_.getD ((x30).toNat) z36).kind), .int .i64 ((x1.cells_.getD ((x30).toNat) z36).n), .slice A72 ((x1.cells_.getD ((x30).toNat) z36).text).length c73]) Try.underlying36 rfl (by kernel_rfl) (by kernel_rfl) (blk_cells b88 rfl)) ?_))))
      have S101 := S89.pulls [(is g18), (is g81), (is g23)] [2] rfl
      refine lE (eSa g18 0 [.int .i64 ((x1.cells_.getD ((x30).toNat) z36).kind), .int .i64 ((x1.cells_.getD ((x30).toNat) z36).n), .slice A72 ((x1.cells_.getD ((x30).toNat) z36).text).length c73] S101 b19 (by exact e37)) ?_
      rintro w102 ⟨b103, S104, K105⟩
      replace b24 := K105.blk 1 rfl b24
      clear b19
      refine wN (inb_n (then_n ?_))
      have S106 := S104.pulls [(is g23), (is g18), (is g81)] [2] rfl
      have S107 := St.first (Fa := [(is g23), (is g18)]) (Fr := [(is g81)]) S106
      exact ⟨k44, (by omega), _, ((x1.cells_.getD ((x30).toNat) z36).kind), ((x1.cells_.getD ((x30).toNat) z36).n), ((x1.cells_.getD ((x30).toNat) z36).text), A72, c73, rfl, (by exact e36), (by exact e37), (by exact e38), b24, b103, h75, l74, S107, M⟩
    replace M := ifn q93 M
    refine lK 20 false (bF q93) ?_
    refine lK 20 false (bF q93) ?_
    refine lK 20 false (bF q93) ?_
    refine lK 20 false (bF q93) ?_
    refine lK 20 false (bF q93) ?_
    refine lV 26 (eF (.bool false) (bF q93)) (wN (then_n (cond_f rfl (by kernel_rfl) (wp_skip (then_n (wR (lV 28 (e_loadS (b := g81) (off := 0) (cs := [.int .i64 ((x1.cells_.getD ((x30).toNat) z36).kind), .int .i64 ((x1.cells_.getD ((x30).toNat) z36).n), .slice A72 ((x1.cells_.getD ((x30).toNat) z36).text).length c73]) Try.underlying36 rfl (by kernel_rfl) (by kernel_rfl) (blk_cells b88 rfl)) ?_)))))))
    have S108 := S89.pulls [(is g18), (is g81), (is g23)] [2] rfl
    refine lE (eSa g18 0 [.int .i64 ((x1.cells_.getD ((x30).toNat) z36).kind), .int .i64 ((x1.cells_.getD ((x30).toNat) z36).n), .slice A72 ((x1.cells_.getD ((x30).toNat) z36).text).length c73] S108 b19 (by exact e37)) ?_
    rintro w109 ⟨b110, S111, K112⟩
    replace b24 := K112.blk 1 rfl b24
    clear b19
    refine wN (inb_n (then_n ?_))
    have S113 := S111.pulls [(is g23), (is g18), (is g81)] [2] rfl
    have S114 := St.first (Fa := [(is g23), (is g18)]) (Fr := [(is g81)]) S113
    exact ⟨k44, (by omega), _, ((x1.cells_.getD ((x30).toNat) z36).kind), ((x1.cells_.getD ((x30).toNat) z36).n), ((x1.cells_.getD ((x30).toNat) z36).text), A72, c73, rfl, (by exact e36), (by exact e37), (by exact e38), b24, b110, h75, l74, S114, M⟩
  replace M := ifn q45 M
  refine cF (bF q45) (wp_exit (then_e (then_e (inb_hit (then_n (wp_seq (wR ?_)))))))
  refine lV 29 (e_loadS (b := g18) (off := 0) (cs := [.int .i64 x29, .int .i64 x30, .slice A32 x31.length c33]) Try.underlying36 rfl (by kernel_rfl) (by exact e37) (blk_cells b19 rfl)) ?_
  refine lE (eSa g23 0 [.int .i64 x29, .int .i64 x30, .slice A32 x31.length c33] S39 b24 (by exact e38)) ?_
  rintro w115 ⟨b116, S117, K118⟩
  clear b24
  refine wN (then_n (wp_ret ?_))
  obtain rfl := Option.some.inj M
  have S119 := St.first (Fa := []) (Fr := [(is g23), (is g18)]) S117
  exact retS (ty := 36) (cur := #[.int .i64 x29, .int .i64 x30, .slice A32 x31.length c33]) rfl rfl (by exact e38) b116 Try.underlying36 rfl (by kernel_rfl) ⟨A32, c33, H, rfl, h34, l35, S119⟩

/-! spec_l10within -/
mutual
def spec_l10within.l0 : Nat → GL10heap → Int → (List Cell) → (List Bool) → Option Bool
  | 0, _, _, _, _ => none
  | k62 + 1, x1, x12, x45, x51 => (if (x45.length : Int) > 0 then (if 0 ≤ (IntKind.i64.wrap ((x45.length : Int) - 1)) then (if (IntKind.i64.wrap ((x45.length : Int) - 1)) < (x45.length : Int) then ((spec_l10deref_2.f k62 x1 (x45.getD (((IntKind.i64.wrap ((x45.length : Int) - 1))).toNat) z36)).bind fun t80 => (if (IntKind.i64.wrap ((x45.length : Int) - 1)) ≤ (x45.length : Int) then (if t80.kind = 0 then (if t80.n = x12 then some true else (if t80.kind ≠ 4 then (spec_l10within.l0 k62 x1 x12 (x45.take (((IntKind.i64.wrap ((x45.length : Int) - 1)) : Int).toNat)) x51) else (if 0 ≤ t80.n then (if t80.n < (((x1.cells_.length : Int)).toNat : Int) then (if (x51.getD ((t80.n).toNat) false) = true then (spec_l10within.l0 k62 x1 x12 (x45.take (((IntKind.i64.wrap ((x45.length : Int) - 1)) : Int).toNat)) x51) else (spec_l10within.l1 k62 x1 x12 x51 t80 (x45.take (((IntKind.i64.wrap ((x45.length : Int) - 1)) : Int).toNat)) 1)) else none) else none))) else (if t80.kind ≠ 4 then (spec_l10within.l0 k62 x1 x12 (x45.take (((IntKind.i64.wrap ((x45.length : Int) - 1)) : Int).toNat)) x51) else (if 0 ≤ t80.n then (if t80.n < (((x1.cells_.length : Int)).toNat : Int) then (if (x51.getD ((t80.n).toNat) false) = true then (spec_l10within.l0 k62 x1 x12 (x45.take (((IntKind.i64.wrap ((x45.length : Int) - 1)) : Int).toNat)) x51) else (spec_l10within.l2 k62 x1 x12 x51 t80 (x45.take (((IntKind.i64.wrap ((x45.length : Int) - 1)) : Int).toNat)) 1)) else none) else none))) else none)) else none) else none) else some false)
def spec_l10within.l1 : Nat → GL10heap → Int → (List Bool) → Cell → (List Cell) → Int → Option Bool
  | 0, _, _, _, _, _, _ => none
  | k157 + 1, x1, x12, x51, t80, x131, x136 => (if t80.n < (x1.cells_.length : Int) then (if x136 ≤ ((x1.cells_.getD ((t80.n).toNat) z36).n) then (if 0 ≤ (IntKind.i64.wrap (t80.n + x136)) then (if (IntKind.i64.wrap (t80.n + x136)) < (x1.cells_.length : Int) then (if x131.length + 1 ≤ 3518437208883 then (spec_l10within.l1 k157 x1 x12 x51 t80 (x131 ++ [(x1.cells_.getD (((IntKind.i64.wrap (t80.n + x136))).toNat) z36)]) (IntKind.i64.wrap (x136 + 1))) else none) else none) else none) else (spec_l10within.l0 k157 x1 x12 x131 (x51.set ((t80.n).toNat) true))) else none)
def spec_l10within.l2 : Nat → GL10heap → Int → (List Bool) → Cell → (List Cell) → Int → Option Bool
  | 0, _, _, _, _, _, _ => none
  | k289 + 1, x1, x12, x51, t80, x267, x272 => (if t80.n < (x1.cells_.length : Int) then (if x272 ≤ ((x1.cells_.getD ((t80.n).toNat) z36).n) then (if 0 ≤ (IntKind.i64.wrap (t80.n + x272)) then (if (IntKind.i64.wrap (t80.n + x272)) < (x1.cells_.length : Int) then (if x267.length + 1 ≤ 3518437208883 then (spec_l10within.l2 k289 x1 x12 x51 t80 (x267 ++ [(x1.cells_.getD (((IntKind.i64.wrap (t80.n + x272))).toNat) z36)]) (IntKind.i64.wrap (x272 + 1))) else none) else none) else none) else (spec_l10within.l0 k289 x1 x12 x267 (x51.set ((t80.n).toNat) true))) else none)
end
def spec_l10within.f (k : Nat) (x1 : GL10heap) (x12 : Int) (x13 : Cell) : Option Bool := (if 0 ≤ (x1.cells_.length : Int) then (if ((x1.cells_.length : Int)).toNat ≤ 281474976710656 then (spec_l10within.l0 k x1 x12 [x13] (List.replicate ((x1.cells_.length : Int)).toNat false)) else none) else none)
theorem spec_l10within.calls (k : Nat) (w : World) (H : Hp) (x1 : GL10heap) (g2 : Nat) (A4 : Option Addr) (c5 : Nat) (A8 : Option Addr) (c9 : Nat) (x12 : Int) (x13 : Cell) (A14 : Option Addr) (c15 : Nat) (h6 : Rd st36 H A4 x1.cells_) (l7 : x1.cells_.length ≤ c5) (h10 : Rd tInt H A8 x1.trail_) (l11 : x1.trail_.length ≤ c9) (b3 : H g2 = some (.cells #[.slice A4 x1.cells_.length c5, .slice A8 x1.trail_.length c9, .int .i64 x1.pairs_] 91 (0, 0))) (h16 : Rd tByte H A14 x13.text) (l17 : x13.text.length ≤ c15) (S : Own [] H w) (r : Bool) (M : spec_l10within.f k x1 x12 x13 = some r) :
    Calls Try.prog 71 #[.pointer (some ⟨g2, 0, none⟩), .int .i64 x12, .agg #[.int .i64 x13.kind, .int .i64 x13.n, .slice A14 x13.text.length c15]] w (fun e e_w => e = .returned (.bool r) ∧ Chg no w e_w) := by
  rw [spec_l10within.f] at M
  refine enter (l := [.pointer (some ⟨g2, 0, none⟩), .int .i64 x12, .agg #[.int .i64 x13.kind, .int .i64 x13.n, .slice A14 x13.text.length c15]]) 84 Try.func71 rfl rfl rfl ?_
  have S0_ := S.st
  refine wp_seq (wR ?_)
  refine lW 5 (nB #[.int .i64 x13.kind, .int .i64 x13.n, .slice A14 x13.text.length c15] 36 S0_) ?_
  rintro _ w18 ⟨g19, rfl, b20, S21, K22⟩
  refine lV 6 (eA (.bool false)) (wN (then_n (wp_seq (wR (lV 11 (eM (.pointer (some ⟨g2, 0, none⟩))) (lV 12 (eN ⟨g2, 0, none⟩) (lV 13 (eD g2 0 0 1 Try.underlying91) ?_)))))))
  refine lV 14 (eL ⟨g2, 0 + 0, none⟩ (.slice A4 x1.cells_.length c5) Try.underlying32 (blk_cell (S21.inv _ _ b3) rfl)) (lV 15 (e_len (A := A4) (n := x1.cells_.length) (c := c5) Try.underlying32 (by kernel_rfl)) ?_)
  obtain ⟨q23, M⟩ := chk M
  obtain ⟨q24, M⟩ := chk M
  refine lW 16 (e_make (d := tBool) (k := .i64) (k2 := .i64) (n := (x1.cells_.length : Int)) (z := .bool false) (zx := false) (bytes := 1) S21 Try.underlying99 (by kernel_rfl) rfl (by decide) (fun _ => rfl) (by kernel_rfl) (by kernel_rfl) q23 (by omega) (by omega)) ?_
  rintro _ w25 ⟨A26, c27, F28, rfl, h29, S30, K31⟩
  replace b20 := K31.blk 0 rfl b20
  refine lV 7 (eA (.slice A26 (((x1.cells_.length : Int)).toNat) c27)) (wN (then_n (wp_seq (wR (lV 17 (e_loadS (b := g19) (off := 0) (cs := [.int .i64 x13.kind, .int .i64 x13.n, .slice A14 x13.text.length c15]) Try.underlying36 rfl (by kernel_rfl) (by kernel_rfl) (blk_cells b20 rfl)) ?_)))))
  refine lW 18 (new_blk (v := fun g_ => .slice (some ⟨g_, 0, none⟩) 1 1) (cs := #[.int .i64 x13.kind, .int .i64 x13.n, .slice A14 x13.text.length c15]) (t := 36) S30 (by kernel_rfl)) ?_
  rintro _ w32 ⟨g33, rfl, b34, S35, K36⟩
  replace h29 := h29.move (K36.at 0 rfl)
  have S37 := S35.unit
  have S38 := S37.pulls [(is g33), no, F28, (is g19)] [1] rfl
  obtain ⟨h39, S40⟩ := row_lit (d := (ro st36)) (xs := [x13]) S38 b34 rfl (elsO_one1 (st36_mkR (x := x13) l17 h16)) (Nat.le_of_ble_eq_true rfl)
  refine lV 8 (eA (.slice (some ⟨g33, 0, none⟩) 1 1)) (wN (then_n (wp_seq (wp_block ?_))))
  have S63 := S40.pulls [F28, (or2 (is g33) no), (is g19)] [1] rfl
  have S64 := St.first (Fa := [F28, (or2 (is g33) no)]) (Fr := [(is g19)]) S63
  refine wp_loop_g (fun k60 a61 w41 => ∃ (f42 : Nat → Value) (H43 : Hp) (x45 : List Cell) (A46 : Option Addr) (c47 : Nat) (F48 : Foot) (F50 : Foot) (x51 : List Bool), a61 = mk 84 f42 ∧ f42 0 = .pointer (some ⟨g2, 0, none⟩) ∧ f42 1 = .int .i64 x12 ∧ f42 7 = .slice A26 (((x1.cells_.length : Int)).toNat) c27 ∧ f42 8 = .slice A46 x45.length c47 ∧ Row tBool 4 H43 (hp w41) F50 A26 c27 x51 ∧ Row (ro st36) 36 H43 (hp w41) F48 A46 c47 x45 ∧ x51.length = ((x1.cells_.length : Int)).toNat ∧ Ext H H43 ∧ St (anyOf []) H w [F50, F48] H43 w41 ∧ spec_l10within.l0 k60 x1 x12 x45 x51 = some r) k ⟨_, H, [x13], (some ⟨g33, 0, none⟩), 1, (or2 (is g33) no), F28, (List.replicate ((x1.cells_.length : Int)).toNat false), rfl, (by kernel_rfl), (by kernel_rfl), (by kernel_rfl), (by kernel_rfl), h29, h39, List.length_replicate, (Ext.refl _), S64, M⟩ ?_
  clear M
  rintro k60 a61 w41 ⟨f42, H43, x45, A46, c47, F48, F50, x51, rfl, e53, e54, e55, e56, h29, h49, n52, Y44, S57, M⟩
  rcases k60 with _ | k62
  · rw [spec_l10within.l0] at M
    cases M
  rw [spec_l10within.l0] at M
  refine wp_seq (wp_seq (wR (lV 19 (eM (.slice A46 x45.length c47) (by exact e56)) (lV 20 (e_len (A := A46) (n := x45.length) (c := c47) Try.underlying32 (by kernel_rfl)) (lV 21 (e_gtr (k := .i64) (a := (x45.length : Int)) (b := 0) (by kernel_rfl) rfl) (wN (then_n ?_)))))))
  by_cases q65 : (x45.length : Int) > 0
  · replace M := ifp q65 M
    refine cT (bT q65) (wp_skip (then_n (wp_block (wp_seq (wR (lV 22 (eM (.pointer (some ⟨g2, 0, none⟩)) (by exact e53)) (lV 23 (eM (.slice A46 x45.length c47) (by exact e56)) ?_)))))))
    refine lV 24 (eM (.slice A46 x45.length c47) (by exact e56)) (lV 25 (e_len (A := A46) (n := x45.length) (c := c47) Try.underlying32 (by kernel_rfl)) (lV 26 (e_sub (k := .i64) (a := (x45.length : Int)) (b := 1) (by kernel_rfl) rfl) ?_))
    obtain ⟨q66, M⟩ := chk M
    obtain ⟨q67, M⟩ := chk M
    obtain ⟨b68, e70⟩ := Row.addr h49 (show ((IntKind.i64.wrap ((x45.length : Int) - 1))).toNat < x45.length by omega)
    refine lV 27 (eI b68 0 x45.length c47 3 (IntKind.i64.wrap ((x45.length : Int) - 1)) .i64 Try.underlying32 e70 q66 q67) ?_
    obtain ⟨y71, F72, r73, s74, k75⟩ := Row.at h49 e70 (getD_some z36 (show ((IntKind.i64.wrap ((x45.length : Int) - 1))).toNat < x45.length by omega))
    obtain ⟨A76, c77, rfl, l78, h79⟩ := st36_open r73
    refine lV 28 (e_loadS (b := b68) (off := 0 + ((IntKind.i64.wrap ((x45.length : Int) - 1)) : Int).toNat * 3) (cs := [.int .i64 ((x45.getD (((IntKind.i64.wrap ((x45.length : Int) - 1))).toNat) z36).kind), .int .i64 ((x45.getD (((IntKind.i64.wrap ((x45.length : Int) - 1))).toNat) z36).n), .slice A76 ((x45.getD (((IntKind.i64.wrap ((x45.length : Int) - 1))).toNat) z36).text).length c77]) Try.underlying36 rfl (by kernel_rfl) (by kernel_rfl) (fun j_ u_ e_ => (hpx (k75 j_ u_ e_)))) ?_
    obtain ⟨t80, u81, M⟩ := bnd M
    refine lC 29 (eC [.tmp 22, .tmp 28] [.pointer (some ⟨g2, 0, none⟩), .agg #[.int .i64 ((x45.getD (((IntKind.i64.wrap ((x45.length : Int) - 1))).toNat) z36).kind), .int .i64 ((x45.getD (((IntKind.i64.wrap ((x45.length : Int) - 1))).toNat) z36).n), .slice A76 ((x45.getD (((IntKind.i64.wrap ((x45.length : Int) - 1))).toNat) z36).text).length c77]] Try.func46) (spec_l10deref_2.calls k62 w41 H43 x1 g2 A4 c5 A8 c9 (x45.getD (((IntKind.i64.wrap ((x45.length : Int) - 1))).toNat) z36) A76 c77 (h6.ext Y44) l7 (h10.ext Y44) l11 (Y44 _ _ b3) h79 l78 (St.own' (Fa := []) (Fr := [F50, F48]) S57) t80 u81) ?_
    rintro _ w82 ⟨A85, c86, H83, rfl, h87, l88, T84⟩
    refine ⟨_, rfl, ?_⟩
    obtain ⟨S89, K90⟩ := St.call (Fa := []) (Fr := [F50, F48]) S57 T84
    replace h29 := h29.move (K90.at 0 rfl)
    replace h49 := h49.move (K90.at 1 rfl)
    have E91 := T84.ext
    replace h29 := h29.ext E91
    replace h49 := h49.ext E91
    refine lW 9 (nB #[.int .i64 0, .int .i64 0, .slice none 0 0] 36 S89) ?_
    rintro _ w92 ⟨g93, rfl, b94, S95, K96⟩
    replace h29 := h29.move (K96.at 0 rfl)
    replace h49 := h49.move (K96.at 1 rfl)
    refine lE (eSa g93 0 [.int .i64 t80.kind, .int .i64 t80.n, .slice A85 t80.text.length c86] S95 b94) ?_
    rintro w97 ⟨b98, S99, K100⟩
    replace h29 := h29.move (K100.at 0 rfl)
    replace h49 := h49.move (K100.at 1 rfl)
    clear b94
    refine wN (then_n (wp_seq (wR (lV 30 (eM (.slice A46 x45.length c47) (by exact e56)) (lV 31 (eM (.slice A46 x45.length c47) (by exact e56)) (lV 32 (e_len (A := A46) (n := x45.length) (c := c47) Try.underlying32 (by kernel_rfl)) (lV 33 (e_sub (k := .i64) (a := (x45.length : Int)) (b := 1) (by kernel_rfl) rfl) ?_)))))))
    obtain ⟨q101, M⟩ := chk M
    refine lV 34 (e_slice_h (xs := x45) (n := x45.length) (m := 3) (cap := c47) (A := A46) (b := (IntKind.i64.wrap ((x45.length : Int) - 1))) (k2 := .i64) Try.underlying32 (by kernel_rfl) (by kernel_rfl) (by kernel_rfl) q66 q101 (by have := h49.le; have := (rfl : x45.length = x45.length); omega) (take_len q66 q101 rfl)) ?_
    have h102 := h49.cut (n := ((IntKind.i64.wrap ((x45.length : Int) - 1)) : Int).toNat) (by have := (rfl : x45.length = x45.length); omega)
    clear h49
    refine lV 8 (eA (.slice A46 ((x45.take (((IntKind.i64.wrap ((x45.length : Int) - 1)) : Int).toNat)).length) c47)) (wN (then_n (wp_seq (wp_seq (wR (lV 35 (eD g93 0 0 1 Try.underlying36) (lV 36 (eL ⟨g93, 0 + 0, none⟩ (.int .i64 t80.kind) Try.underlying3 (blk_cell b98 rfl)) ?_)))))))
    refine lV 37 (eEq .i64 t80.kind 0) (lV 38 (eM (.bool (decide (t80.kind = 0)))) ?_)
    by_cases q103 : t80.kind = 0
    · replace M := ifp q103 M
      refine lG 39 38 (bT q103) (eD g93 0 1 1 Try.underlying36) (lG 40 38 (bT q103) (eL ⟨g93, 0 + 1, none⟩ (.int .i64 t80.n) Try.underlying3 (blk_cell b98 rfl)) (lG 41 38 (bT q103) (eM (.int .i64 x12) (by exact e54)) (lG 42 38 (bT q103) (eEq .i64 t80.n x12) (lV 43 (eT (.bool (decide (t80.n = x12))) (bT q103)) (wN (then_n ?_))))))
      by_cases q104 : t80.n = x12
      · replace M := ifp q104 M
        refine cT (bT q104) (wp_seq (wR (lV 6 (eA (.bool true)) (wN (then_n (wp_ret (then_r ?_)))))))
        refine inb_r (then_r (inb_r (then_r ?_)))
        obtain rfl := Option.some.inj M
        exact ret1 rfl rfl  (show _ = .bool true from (by kernel_rfl)) ⟨rfl, S99.chg⟩
      replace M := ifn q104 M
      refine cF (bF q104) (wp_skip (then_n (wp_seq (wp_seq (wR (lV 44 (eD g93 0 0 1 Try.underlying36) (lV 45 (eL ⟨g93, 0 + 0, none⟩ (.int .i64 t80.kind) Try.underlying3 (blk_cell b98 rfl)) ?_)))))))
      refine lV 46 (eNe .i64 t80.kind 4) (lV 47 (eM (.bool (decide (t80.kind ≠ 4)))) ?_)
      by_cases q105 : t80.kind ≠ 4
      · replace M := ifp q105 M
        refine lK 47 true (bT q105) ?_
        refine lK 47 true (bT q105) ?_
        refine lK 47 true (bT q105) ?_
        refine lK 47 true (bT q105) ?_
        refine lK 47 true (bT q105) ?_
        refine lV 53 (eT (.bool true) (bT q105)) (wN (then_n (cond_t rfl (by kernel_rfl) (wp_exit (then_e (inb_hit (then_n ?_)))))))
        have S107 := S99.pulls [F50, F48, (is g93)] [2, 2] rfl
        have S108 := St.first (Fa := [F50, F48]) (Fr := [(is g93)]) S107
        exact ⟨k62, (by omega), _, H83, (x45.take (((IntKind.i64.wrap ((x45.length : Int) - 1)) : Int).toNat)), A46, c47, F48, F50, x51, rfl, (by exact e53), (by exact e54), (by exact e55), (by kernel_rfl), h29, h102, n52, (Y44.trans E91), S108, M⟩
      replace M := ifn q105 M
      refine lG 48 47 (bF q105) (eM (.slice A26 (((x1.cells_.length : Int)).toNat) c27) (by exact e55)) (lG 49 47 (bF q105) (eD g93 0 1 1 Try.underlying36) (lG 50 47 (bF q105) (eL ⟨g93, 0 + 1, none⟩ (.int .i64 t80.n) Try.underlying3 (blk_cell b98 rfl)) ?_))
      obtain ⟨q109, M⟩ := chk M
      obtain ⟨q110, M⟩ := chk M
      obtain ⟨b111, e113⟩ := Row.addr h29 (show (t80.n).toNat < x51.length by have : x51.length = ((x1.cells_.length : Int)).toNat := n52; omega)
      refine lG 51 47 (bF q105) (eI b111 0 ((x1.cells_.length : Int)).toNat c27 1 t80.n .i64 Try.underlying99 e113 q109 q110) (lG 52 47 (bF q105) (eL ⟨b111, 0 + (t80.n : Int).toNat * 1, none⟩ (.bool (x51.getD ((t80.n).toNat) false)) Try.underlying4 (hpx (Row.pick (j := 0) (u := .bool (x51.getD ((t80.n).toNat) false)) h29 e113 (getD_some false (show (t80.n).toNat < x51.length by have : x51.length = ((x1.cells_.length : Int)).toNat := n52; omega)) (fun _ _ o_ => by rw [show _ = _ from o_]; rfl)))) (lV 53 (eF (.bool (x51.getD ((t80.n).toNat) false)) (bF q105)) (wN (then_n ?_))))
      by_cases q114 : (x51.getD ((t80.n).toNat) false) = true
      · replace M := ifp q114 M
        refine cT (bvt q114 (by kernel_rfl)) (wp_exit (then_e (inb_hit (then_n ?_))))
        have S116 := S99.pulls [F50, F48, (is g93)] [2, 2] rfl
        have S117 := St.first (Fa := [F50, F48]) (Fr := [(is g93)]) S116
        exact ⟨k62, (by omega), _, H83, (x45.take (((IntKind.i64.wrap ((x45.length : Int) - 1)) : Int).toNat)), A46, c47, F48, F50, x51, rfl, (by exact e53), (by exact e54), (by exact e55), (by kernel_rfl), h29, h102, n52, (Y44.trans E91), S117, M⟩
      replace M := ifn q114 M
      refine cF (bvf q114 (by kernel_rfl)) (wp_skip (then_n (wp_seq (wR (lV 54 (eM (.slice A26 (((x1.cells_.length : Int)).toNat) c27) (by exact e55)) (lV 55 (eD g93 0 1 1 Try.underlying36) (lV 56 (eL ⟨g93, 0 + 1, none⟩ (.int .i64 t80.n) Try.underlying3 (blk_cell b98 rfl)) ?_)))))))
      obtain ⟨b118, e120⟩ := Row.addr h29 (show (t80.n).toNat < x51.length by have : x51.length = ((x1.cells_.length : Int)).toNat := n52; omega)
      refine lV 57 (eI b118 0 ((x1.cells_.length : Int)).toNat c27 1 t80.n .i64 Try.underlying99 e120 q109 q110) ?_
      have S121 := S99.pulls [F50, (is g93), F48] [1] rfl
      have S122 := S121.unit
      have S123 := S122.pulls [F50, no, (is g93), F48] [1] rfl
      refine lE (e_setel (d := tBool) (b := b118) (i := (t80.n).toNat) (v := .bool true) (vs := [.bool true]) (yv := true) S123 (by kernel_rfl) e120 rfl rfl (by kernel_rfl) h29 (show (t80.n).toNat < x51.length by have : x51.length = ((x1.cells_.length : Int)).toNat := n52; omega) rfl) ?_
      rintro w124 ⟨F126, h125, S127, K128⟩
      replace b98 := K128.blk 0 rfl b98
      replace h102 := h102.move (K128.at 1 rfl)
      clear h29
      refine wN (then_n (wp_seq (wR (lV 10 (eA (.int .i64 1)) (wN (then_n (wp_block ?_)))))))
      refine wp_loop_g (fun k155 a156 w129 => ∃ (f130 : Nat → Value) (x131 : List Cell) (A132 : Option Addr) (c133 : Nat) (F134 : Foot) (x136 : Int), k155 ≤ k62 ∧ a156 = mk 84 f130 ∧ f130 0 = .pointer (some ⟨g2, 0, none⟩) ∧ f130 1 = .int .i64 x12 ∧ f130 7 = .slice A26 (((x1.cells_.length : Int)).toNat) c27 ∧ f130 8 = .slice A132 x131.length c133 ∧ f130 9 = .pointer (some ⟨g93, 0, none⟩) ∧ f130 10 = .int .i64 x136 ∧ f130 39 = .pointer (some ⟨g93, 0 + 1, none⟩) ∧ f130 40 = .int .i64 t80.n ∧ f130 41 = .int .i64 x12 ∧ f130 42 = .bool (decide (t80.n = x12)) ∧ f130 48 = .slice A26 (((x1.cells_.length : Int)).toNat) c27 ∧ f130 49 = .pointer (some ⟨g93, 0 + 1, none⟩) ∧ f130 50 = .int .i64 t80.n ∧ f130 51 = .pointer (some ⟨b111, 0 + (t80.n : Int).toNat * 1, none⟩) ∧ f130 52 = .bool (x51.getD ((t80.n).toNat) false) ∧ Row tBool 4 H83 (hp w129) F126 A26 c27 (x51.set ((t80.n).toNat) true) ∧ w129.heap[g93]? = some (.cells #[.int .i64 t80.kind, .int .i64 t80.n, .slice A85 t80.text.length c86] 36 (0, 0)) ∧ Row (ro st36) 36 H83 (hp w129) F134 A132 c133 x131 ∧ St (anyOf []) H w [F126, (is g93), F134] H83 w129 ∧ spec_l10within.l1 k155 x1 x12 x51 t80 x131 x136 = some r) k62 ⟨_, (x45.take (((IntKind.i64.wrap ((x45.length : Int) - 1)) : Int).toNat)), A46, c47, F48, 1, (by omega), rfl, (by exact e53), (by exact e54), (by exact e55), (by kernel_rfl), (by kernel_rfl), (by kernel_rfl), (by kernel_rfl), (by kernel_rfl), (by kernel_rfl), (by kernel_rfl), (by kernel_rfl), (by kernel_rfl), (by kernel_rfl), (by kernel_rfl), (by kernel_rfl), h125, b98, h102, S127, M⟩ ?_
      clear M
      rintro k155 a156 w129 ⟨f130, x131, A132, c133, F134, x136, z154, rfl, e137, e138, e139, e140, e141, e142, e143, e144, e145, e146, e147, e148, e149, e150, e151, h125, b98, h135, S152, M⟩
      rcases k155 with _ | k157
      · rw [spec_l10within.l1] at M
        cases M
      rw [spec_l10within.l1] at M
      refine wp_seq (wp_seq ?_)
      refine region_still (by kernel_rfl) (by kernel_rfl) S152 ?_
      intro w158 S159 K160
      replace h125 := h125.move (K160.at 0 rfl)
      replace b98 := K160.blk 1 rfl b98
      replace h135 := h135.move (K160.at 2 rfl)
      refine sV 58 (eM (.int .i64 x136) (by exact e142)) (sV 59 (eM (.pointer (some ⟨g2, 0, none⟩)) (by exact e137)) (sV 60 (eN ⟨g2, 0, none⟩) (sV 61 (eD g2 0 0 1 Try.underlying91) (sV 62 (eL ⟨g2, 0 + 0, none⟩ (.slice A4 x1.cells_.length c5) Try.underlying32 (blk_cell (S159.inv _ _ ((Y44.trans E91) _ _ b3)) rfl)) (sV 63 (eD g93 0 1 1 Try.underlying36 (by exact e141)) (sV 64 (eL ⟨g93, 0 + 1, none⟩ (.int .i64 t80.n) Try.underlying3 (blk_cell b98 rfl)) ?_))))))
      obtain ⟨q161, M⟩ := chk M
      obtain ⟨b162, o163, e164⟩ := Rd.addr h6 (show (t80.n).toNat < x1.cells_.length by omega)
      obtain ⟨y165, r166, k167⟩ := Rd.at h6 e164 (getD_some z36 (show (t80.n).toNat < x1.cells_.length by omega))
      obtain ⟨A168, c169, rfl, l170, h171⟩ := st36_open r166
      refine sV 65 (eI b162 o163 x1.cells_.length c5 3 t80.n .i64 Try.underlying32 e164 q109 q161) (sV 66 (eD b162 (o163 + (t80.n : Int).toNat * 3) 1 1 Try.underlying36) (sV 67 (eL ⟨b162, o163 + (t80.n : Int).toNat * 3 + 1, none⟩ (.int .i64 ((x1.cells_.getD ((t80.n).toNat) z36).n)) Try.underlying3 (hpx (S159.inv.cell ((Y44.trans E91).cell (k167 1 _ rfl))))) (sV 68 (e_leq (k := .i64) (a := x136) (b := (x1.cells_.getD ((t80.n).toNat) z36).n) (by kernel_rfl) (by kernel_rfl)) (wpStill_nil (then_n ?_)))))
      by_cases q172 : x136 ≤ ((x1.cells_.getD ((t80.n).toNat) z36).n)
      · replace M := ifp q172 M
        refine cT (bT q172) (wp_skip (then_n (wp_seq (wp_block ?_))))
        refine region_mix (S := (fun (L_ : Array Bool) (w_ : World) => Ext H83 (hp w_) ∧ (∀ b_, (is g93) b_ → hp w_ b_ = hp w158 b_))) (by kernel_rfl) S159 ?_
        intro w173 S174 K175 hc176
        have o177 := b98
        have hs178 : (fun (L_ : Array Bool) (w_ : World) => Ext H83 (hp w_) ∧ (∀ b_, (is g93) b_ → hp w_ b_ = hp w158 b_)) (Array.replicate 14 false) w173 := ⟨S174.inv, (fun b_ h_ => K175.at 1 rfl b_ h_)⟩
        replace h125 := h125.move (K175.at 0 rfl)
        replace b98 := K175.blk 1 rfl b98
        replace h135 := h135.move (K175.at 2 rfl)
        refine xV 0 71 rfl hc176 hs178 (fun L_ w_ hc_ hu_ hs_ => eM (.slice A132 x131.length c133) (by exact e140)) ?_; intro hc179 hs180
        refine xV 1 72 rfl hc179 hs180 (fun L_ w_ hc_ hu_ hs_ => eM (.pointer (some ⟨g2, 0, none⟩)) (by exact e137)) ?_; intro hc181 hs182
        refine xV 2 73 rfl hc181 hs182 (fun L_ w_ hc_ hu_ hs_ => eN ⟨g2, 0, none⟩) ?_; intro hc183 hs184
        refine xV 3 74 rfl hc183 hs184 (fun L_ w_ hc_ hu_ hs_ => eD g2 0 0 1 Try.underlying91) ?_; intro hc185 hs186
        refine xV 4 75 rfl hc185 hs186 (fun L_ w_ hc_ hu_ hs_ => eL ⟨g2, 0 + 0, none⟩ (.slice A4 x1.cells_.length c5) Try.underlying32 (blk_cell (hs_.1 _ _ ((Y44.trans E91) _ _ b3)) rfl)) ?_; intro hc187 hs188
        refine xV 5 76 rfl hc187 hs188 (fun L_ w_ hc_ hu_ hs_ => eD g93 0 1 1 Try.underlying36 (by exact e141)) ?_; intro hc189 hs190
        refine xV 6 77 rfl hc189 hs190 (fun L_ w_ hc_ hu_ hs_ => eL ⟨g93, 0 + 1, none⟩ (.int .i64 t80.n) Try.underlying3 (blk_cell ((hs_.2 _ rfl).trans o177) rfl)) ?_; intro hc191 hs192
        refine xO 7 hc191 ?_
        refine yO 7 78 rfl hs192 (eM (.int .i64 x136) (by exact e142)) ?_; intro hc193 hs194
        refine xO 8 hc193 ?_
        refine yO 8 79 rfl hs194 (eAdd .i64 t80.n x136) ?_; intro hc195 hs196
        obtain ⟨q197, M⟩ := chk M
        obtain ⟨q198, M⟩ := chk M
        obtain ⟨b199, o200, e201⟩ := Rd.addr h6 (show ((IntKind.i64.wrap (t80.n + x136))).toNat < x1.cells_.length by omega)
        obtain ⟨y202, r203, k204⟩ := Rd.at h6 e201 (getD_some z36 (show ((IntKind.i64.wrap (t80.n + x136))).toNat < x1.cells_.length by omega))
        obtain ⟨A205, c206, rfl, l207, h208⟩ := st36_open r203
        refine xO 9 hc195 ?_
        refine yO 9 80 rfl hs196 (eI b199 o200 x1.cells_.length c5 3 (IntKind.i64.wrap (t80.n + x136)) .i64 Try.underlying32 e201 q197 q198) ?_; intro hc209 hs210
        refine xO 10 hc209 ?_
        refine yO 10 81 rfl hs210 (e_loadS (b := b199) (off := o200 + ((IntKind.i64.wrap (t80.n + x136)) : Int).toNat * 3) (cs := [.int .i64 ((x1.cells_.getD (((IntKind.i64.wrap (t80.n + x136))).toNat) z36).kind), .int .i64 ((x1.cells_.getD (((IntKind.i64.wrap (t80.n + x136))).toNat) z36).n), .slice A205 ((x1.cells_.getD (((IntKind.i64.wrap (t80.n + x136))).toNat) z36).text).length c206]) Try.underlying36 rfl (by kernel_rfl) (by kernel_rfl) (fun j_ u_ e_ => (hpx (S174.inv.cell ((Y44.trans E91).cell (k204 j_ u_ e_)))))) ?_; intro hc211 hs212
        refine xO 11 hc211 ?_
        refine yE 11 82 rfl (new_blk (v := fun g_ => .slice (some ⟨g_, 0, none⟩) 1 1) (cs := #[.int .i64 ((x1.cells_.getD (((IntKind.i64.wrap (t80.n + x136))).toNat) z36).kind), .int .i64 ((x1.cells_.getD (((IntKind.i64.wrap (t80.n + x136))).toNat) z36).n), .slice A205 ((x1.cells_.getD (((IntKind.i64.wrap (t80.n + x136))).toNat) z36).text).length c206]) (t := 36) S174 (by kernel_rfl)) ?_
        rintro hc218 _ w213 ⟨g214, rfl, b215, S216, K217⟩
        replace h125 := h125.move (K217.at 0 rfl)
        replace b98 := K217.blk 1 rfl b98
        replace h135 := h135.move (K217.at 2 rfl)
        refine ⟨⟨S216.inv, (fun b_ h_ => (K217.at 1 rfl b_ h_).trans (hs212.2 b_ h_))⟩, fun hs219 => ?_⟩
        obtain ⟨q220, M⟩ := chk M
        have S221 := S216.pulls [F134, (is g214), F126, (is g93)] [3] rfl
        have S222 := S221.unit
        have S223 := S222.pulls [F134, no, (is g214), F126, (is g93)] [1] rfl
        refine xO 12 hc218 ?_
        refine yE 12 83 rfl (e_append (d := (ro st36)) (n := x131.length) (xs := x131) (cap := c133) (A := A132) (ys := [(x1.cells_.getD (((IntKind.i64.wrap (t80.n + x136))).toNat) z36)]) (A2 := (some ⟨g214, 0, none⟩)) (c2 := 1) (z := .agg #[.int .i64 0, .int .i64 0, .slice none 0 0]) (bytes := 40) S223 Try.underlying32 (by kernel_rfl) rfl (by decide) (by kernel_rfl) rfl (by kernel_rfl) h135 (elsO_one1 (st36_mkR (x := (x1.cells_.getD (((IntKind.i64.wrap (t80.n + x136))).toNat) z36)) l207 (h208.ext (Y44.trans E91)))) (.inr (blk_news b215 rfl)) (show (x131.length + [(x1.cells_.getD (((IntKind.i64.wrap (t80.n + x136))).toNat) z36)].length) * 40 ≤ _ by first | omega | (simp only [List.length_cons, List.length_nil]; omega)) (by decide)) ?_
        rintro hc231 _ w224 ⟨A225, c226, F227, rfl, h228, S229, K230⟩
        replace h125 := h125.move (K230.at 1 rfl)
        replace b98 := K230.blk 2 rfl b98
        refine ⟨⟨S229.inv, (fun b_ h_ => (K230.at 2 rfl b_ h_).trans (hs219.2 b_ h_))⟩, fun hs232 => ?_⟩
        refine xO 13 hc231 ?_
        refine yO 13 8 rfl hs232 (eA (.slice A225 ((x131 ++ [(x1.cells_.getD (((IntKind.i64.wrap (t80.n + x136))).toNat) z36)]).length) c226)) ?_; intro hc233 hs234
        refine xn (by kernel_rfl) ?_ _
        refine inb_n (then_n (wR (lV 69 (eM (.int .i64 x136) (by exact e142)) (lV 70 (eAdd .i64 x136 1) (lV 10 (eA (.int .i64 (IntKind.i64.wrap (x136 + 1)))) (wN (then_n ?_)))))))
        have S236 := S229.pulls [F126, (is g93), F227, (is g214)] [3, 3] rfl
        have S237 := St.first (Fa := [F126, (is g93), F227]) (Fr := [(is g214)]) S236
        exact ⟨k157, (by omega), _, (x131 ++ [(x1.cells_.getD (((IntKind.i64.wrap (t80.n + x136))).toNat) z36)]), A225, c226, F227, (IntKind.i64.wrap (x136 + 1)), (by omega), rfl, (by exact e137), (by exact e138), (by exact e139), (by kernel_rfl), (by exact e141), (by kernel_rfl), (by exact e143), (by exact e144), (by exact e145), (by exact e146), (by exact e147), (by exact e148), (by exact e149), (by exact e150), (by exact e151), h125, b98, h228, S237, M⟩
      replace M := ifn q172 M
      refine cF (bF q172) (wp_exit (then_e (then_e (inb_hit (inb_n (then_n ?_))))))
      have S239 := S159.pulls [F126, F134, (is g93)] [2, 1] rfl
      have S240 := St.first (Fa := [F126, F134]) (Fr := [(is g93)]) S239
      exact ⟨k157, (by omega), _, H83, x131, A132, c133, F134, F126, (x51.set ((t80.n).toNat) true), rfl, (by exact e137), (by exact e138), (by exact e139), (by exact e140), h125, h135, (List.length_set.trans n52), (Y44.trans E91), S240, M⟩
    replace M := ifn q103 M
    refine lK 38 false (bF q103) ?_
    refine lK 38 false (bF q103) ?_
    refine lK 38 false (bF q103) ?_
    refine lK 38 false (bF q103) ?_
    refine lV 43 (eF (.bool false) (bF q103)) (wN (then_n (cond_f rfl (by kernel_rfl) (wp_skip (then_n (wp_seq (wp_seq ?_)))))))
    refine wR (lV 44 (eD g93 0 0 1 Try.underlying36) (lV 45 (eL ⟨g93, 0 + 0, none⟩ (.int .i64 t80.kind) Try.underlying3 (blk_cell b98 rfl)) (lV 46 (eNe .i64 t80.kind 4) (lV 47 (eM (.bool (decide (t80.kind ≠ 4)))) ?_))))
    by_cases q241 : t80.kind ≠ 4
    · replace M := ifp q241 M
      refine lK 47 true (bT q241) ?_
      refine lK 47 true (bT q241) ?_
      refine lK 47 true (bT q241) ?_
      refine lK 47 true (bT q241) ?_
      refine lK 47 true (bT q241) ?_
      refine lV 53 (eT (.bool true) (bT q241)) (wN (then_n (cond_t rfl (by kernel_rfl) (wp_exit (then_e (inb_hit (then_n ?_)))))))
      have S243 := S99.pulls [F50, F48, (is g93)] [2, 2] rfl
      have S244 := St.first (Fa := [F50, F48]) (Fr := [(is g93)]) S243
      exact ⟨k62, (by omega), _, H83, (x45.take (((IntKind.i64.wrap ((x45.length : Int) - 1)) : Int).toNat)), A46, c47, F48, F50, x51, rfl, (by exact e53), (by exact e54), (by exact e55), (by kernel_rfl), h29, h102, n52, (Y44.trans E91), S244, M⟩
    replace M := ifn q241 M
    refine lG 48 47 (bF q241) (eM (.slice A26 (((x1.cells_.length : Int)).toNat) c27) (by exact e55)) (lG 49 47 (bF q241) (eD g93 0 1 1 Try.underlying36) (lG 50 47 (bF q241) (eL ⟨g93, 0 + 1, none⟩ (.int .i64 t80.n) Try.underlying3 (blk_cell b98 rfl)) ?_))
    obtain ⟨q245, M⟩ := chk M
    obtain ⟨q246, M⟩ := chk M
    obtain ⟨b247, e249⟩ := Row.addr h29 (show (t80.n).toNat < x51.length by have : x51.length = ((x1.cells_.length : Int)).toNat := n52; omega)
    refine lG 51 47 (bF q241) (eI b247 0 ((x1.cells_.length : Int)).toNat c27 1 t80.n .i64 Try.underlying99 e249 q245 q246) (lG 52 47 (bF q241) (eL ⟨b247, 0 + (t80.n : Int).toNat * 1, none⟩ (.bool (x51.getD ((t80.n).toNat) false)) Try.underlying4 (hpx (Row.pick (j := 0) (u := .bool (x51.getD ((t80.n).toNat) false)) h29 e249 (getD_some false (show (t80.n).toNat < x51.length by have : x51.length = ((x1.cells_.length : Int)).toNat := n52; omega)) (fun _ _ o_ => by rw [show _ = _ from o_]; rfl)))) (lV 53 (eF (.bool (x51.getD ((t80.n).toNat) false)) (bF q241)) (wN (then_n ?_))))
    by_cases q250 : (x51.getD ((t80.n).toNat) false) = true
    · replace M := ifp q250 M
      refine cT (bvt q250 (by kernel_rfl)) (wp_exit (then_e (inb_hit (then_n ?_))))
      have S252 := S99.pulls [F50, F48, (is g93)] [2, 2] rfl
      have S253 := St.first (Fa := [F50, F48]) (Fr := [(is g93)]) S252
      exact ⟨k62, (by omega), _, H83, (x45.take (((IntKind.i64.wrap ((x45.length : Int) - 1)) : Int).toNat)), A46, c47, F48, F50, x51, rfl, (by exact e53), (by exact e54), (by exact e55), (by kernel_rfl), h29, h102, n52, (Y44.trans E91), S253, M⟩
    replace M := ifn q250 M
    refine cF (bvf q250 (by kernel_rfl)) (wp_skip (then_n (wp_seq (wR (lV 54 (eM (.slice A26 (((x1.cells_.length : Int)).toNat) c27) (by exact e55)) (lV 55 (eD g93 0 1 1 Try.underlying36) (lV 56 (eL ⟨g93, 0 + 1, none⟩ (.int .i64 t80.n) Try.underlying3 (blk_cell b98 rfl)) ?_)))))))
    obtain ⟨b254, e256⟩ := Row.addr h29 (show (t80.n).toNat < x51.length by have : x51.length = ((x1.cells_.length : Int)).toNat := n52; omega)
    refine lV 57 (eI b254 0 ((x1.cells_.length : Int)).toNat c27 1 t80.n .i64 Try.underlying99 e256 q245 q246) ?_
    have S257 := S99.pulls [F50, (is g93), F48] [1] rfl
    have S258 := S257.unit
    have S259 := S258.pulls [F50, no, (is g93), F48] [1] rfl
    refine lE (e_setel (d := tBool) (b := b254) (i := (t80.n).toNat) (v := .bool true) (vs := [.bool true]) (yv := true) S259 (by kernel_rfl) e256 rfl rfl (by kernel_rfl) h29 (show (t80.n).toNat < x51.length by have : x51.length = ((x1.cells_.length : Int)).toNat := n52; omega) rfl) ?_
    rintro w260 ⟨F262, h261, S263, K264⟩
    replace b98 := K264.blk 0 rfl b98
    replace h102 := h102.move (K264.at 1 rfl)
    clear h29
    refine wN (then_n (wp_seq (wR (lV 10 (eA (.int .i64 1)) (wN (then_n (wp_block ?_)))))))
    refine wp_loop_g (fun k287 a288 w265 => ∃ (f266 : Nat → Value) (x267 : List Cell) (A268 : Option Addr) (c269 : Nat) (F270 : Foot) (x272 : Int), k287 ≤ k62 ∧ a288 = mk 84 f266 ∧ f266 0 = .pointer (some ⟨g2, 0, none⟩) ∧ f266 1 = .int .i64 x12 ∧ f266 7 = .slice A26 (((x1.cells_.length : Int)).toNat) c27 ∧ f266 8 = .slice A268 x267.length c269 ∧ f266 9 = .pointer (some ⟨g93, 0, none⟩) ∧ f266 10 = .int .i64 x272 ∧ f266 48 = .slice A26 (((x1.cells_.length : Int)).toNat) c27 ∧ f266 49 = .pointer (some ⟨g93, 0 + 1, none⟩) ∧ f266 50 = .int .i64 t80.n ∧ f266 51 = .pointer (some ⟨b247, 0 + (t80.n : Int).toNat * 1, none⟩) ∧ f266 52 = .bool (x51.getD ((t80.n).toNat) false) ∧ Row tBool 4 H83 (hp w265) F262 A26 c27 (x51.set ((t80.n).toNat) true) ∧ w265.heap[g93]? = some (.cells #[.int .i64 t80.kind, .int .i64 t80.n, .slice A85 t80.text.length c86] 36 (0, 0)) ∧ Row (ro st36) 36 H83 (hp w265) F270 A268 c269 x267 ∧ St (anyOf []) H w [F262, (is g93), F270] H83 w265 ∧ spec_l10within.l2 k287 x1 x12 x51 t80 x267 x272 = some r) k62 ⟨_, (x45.take (((IntKind.i64.wrap ((x45.length : Int) - 1)) : Int).toNat)), A46, c47, F48, 1, (by omega), rfl, (by exact e53), (by exact e54), (by exact e55), (by kernel_rfl), (by kernel_rfl), (by kernel_rfl), (by kernel_rfl), (by kernel_rfl), (by kernel_rfl), (by kernel_rfl), (by kernel_rfl), h261, b98, h102, S263, M⟩ ?_
    clear M
    rintro k287 a288 w265 ⟨f266, x267, A268, c269, F270, x272, z286, rfl, e273, e274, e275, e276, e277, e278, e279, e280, e281, e282, e283, h261, b98, h271, S284, M⟩
    rcases k287 with _ | k289
    · rw [spec_l10within.l2] at M
      cases M
    rw [spec_l10within.l2] at M
    refine wp_seq (wp_seq ?_)
    refine region_still (by kernel_rfl) (by kernel_rfl) S284 ?_
    intro w290 S291 K292
    replace h261 := h261.move (K292.at 0 rfl)
    replace b98 := K292.blk 1 rfl b98
    replace h271 := h271.move (K292.at 2 rfl)
    refine sV 58 (eM (.int .i64 x272) (by exact e278)) (sV 59 (eM (.pointer (some ⟨g2, 0, none⟩)) (by exact e273)) (sV 60 (eN ⟨g2, 0, none⟩) (sV 61 (eD g2 0 0 1 Try.underlying91) (sV 62 (eL ⟨g2, 0 + 0, none⟩ (.slice A4 x1.cells_.length c5) Try.underlying32 (blk_cell (S291.inv _ _ ((Y44.trans E91) _ _ b3)) rfl)) (sV 63 (eD g93 0 1 1 Try.underlying36 (by exact e277)) (sV 64 (eL ⟨g93, 0 + 1, none⟩ (.int .i64 t80.n) Try.underlying3 (blk_cell b98 rfl)) ?_))))))
    obtain ⟨q293, M⟩ := chk M
    obtain ⟨b294, o295, e296⟩ := Rd.addr h6 (show (t80.n).toNat < x1.cells_.length by omega)
    obtain ⟨y297, r298, k299⟩ := Rd.at h6 e296 (getD_some z36 (show (t80.n).toNat < x1.cells_.length by omega))
    obtain ⟨A300, c301, rfl, l302, h303⟩ := st36_open r298
    refine sV 65 (eI b294 o295 x1.cells_.length c5 3 t80.n .i64 Try.underlying32 e296 q245 q293) (sV 66 (eD b294 (o295 + (t80.n : Int).toNat * 3) 1 1 Try.underlying36) (sV 67 (eL ⟨b294, o295 + (t80.n : Int).toNat * 3 + 1, none⟩ (.int .i64 ((x1.cells_.getD ((t80.n).toNat) z36).n)) Try.underlying3 (hpx (S291.inv.cell ((Y44.trans E91).cell (k299 1 _ rfl))))) (sV 68 (e_leq (k := .i64) (a := x272) (b := (x1.cells_.getD ((t80.n).toNat) z36).n) (by kernel_rfl) (by kernel_rfl)) (wpStill_nil (then_n ?_)))))
    by_cases q304 : x272 ≤ ((x1.cells_.getD ((t80.n).toNat) z36).n)
    · replace M := ifp q304 M
      refine cT (bT q304) (wp_skip (then_n (wp_seq (wp_block ?_))))
      refine region_mix (S := (fun (L_ : Array Bool) (w_ : World) => Ext H83 (hp w_) ∧ (∀ b_, (is g93) b_ → hp w_ b_ = hp w290 b_))) (by kernel_rfl) S291 ?_
      intro w305 S306 K307 hc308
      have o309 := b98
      have hs310 : (fun (L_ : Array Bool) (w_ : World) => Ext H83 (hp w_) ∧ (∀ b_, (is g93) b_ → hp w_ b_ = hp w290 b_)) (Array.replicate 14 false) w305 := ⟨S306.inv, (fun b_ h_ => K307.at 1 rfl b_ h_)⟩
      replace h261 := h261.move (K307.at 0 rfl)
      replace b98 := K307.blk 1 rfl b98
      replace h271 := h271.move (K307.at 2 rfl)
      refine xV 0 71 rfl hc308 hs310 (fun L_ w_ hc_ hu_ hs_ => eM (.slice A268 x267.length c269) (by exact e276)) ?_; intro hc311 hs312
      refine xV 1 72 rfl hc311 hs312 (fun L_ w_ hc_ hu_ hs_ => eM (.pointer (some ⟨g2, 0, none⟩)) (by exact e273)) ?_; intro hc313 hs314
      refine xV 2 73 rfl hc313 hs314 (fun L_ w_ hc_ hu_ hs_ => eN ⟨g2, 0, none⟩) ?_; intro hc315 hs316
      refine xV 3 74 rfl hc315 hs316 (fun L_ w_ hc_ hu_ hs_ => eD g2 0 0 1 Try.underlying91) ?_; intro hc317 hs318
      refine xV 4 75 rfl hc317 hs318 (fun L_ w_ hc_ hu_ hs_ => eL ⟨g2, 0 + 0, none⟩ (.slice A4 x1.cells_.length c5) Try.underlying32 (blk_cell (hs_.1 _ _ ((Y44.trans E91) _ _ b3)) rfl)) ?_; intro hc319 hs320
      refine xV 5 76 rfl hc319 hs320 (fun L_ w_ hc_ hu_ hs_ => eD g93 0 1 1 Try.underlying36 (by exact e277)) ?_; intro hc321 hs322
      refine xV 6 77 rfl hc321 hs322 (fun L_ w_ hc_ hu_ hs_ => eL ⟨g93, 0 + 1, none⟩ (.int .i64 t80.n) Try.underlying3 (blk_cell ((hs_.2 _ rfl).trans o309) rfl)) ?_; intro hc323 hs324
      refine xO 7 hc323 ?_
      refine yO 7 78 rfl hs324 (eM (.int .i64 x272) (by exact e278)) ?_; intro hc325 hs326
      refine xO 8 hc325 ?_
      refine yO 8 79 rfl hs326 (eAdd .i64 t80.n x272) ?_; intro hc327 hs328
      obtain ⟨q329, M⟩ := chk M
      obtain ⟨q330, M⟩ := chk M
      obtain ⟨b331, o332, e333⟩ := Rd.addr h6 (show ((IntKind.i64.wrap (t80.n + x272))).toNat < x1.cells_.length by omega)
      obtain ⟨y334, r335, k336⟩ := Rd.at h6 e333 (getD_some z36 (show ((IntKind.i64.wrap (t80.n + x272))).toNat < x1.cells_.length by omega))
      obtain ⟨A337, c338, rfl, l339, h340⟩ := st36_open r335
      refine xO 9 hc327 ?_
      refine yO 9 80 rfl hs328 (eI b331 o332 x1.cells_.length c5 3 (IntKind.i64.wrap (t80.n + x272)) .i64 Try.underlying32 e333 q329 q330) ?_; intro hc341 hs342
      refine xO 10 hc341 ?_
      refine yO 10 81 rfl hs342 (e_loadS (b := b331) (off := o332 + ((IntKind.i64.wrap (t80.n + x272)) : Int).toNat * 3) (cs := [.int .i64 ((x1.cells_.getD (((IntKind.i64.wrap (t80.n + x272))).toNat) z36).kind), .int .i64 ((x1.cells_.getD (((IntKind.i64.wrap (t80.n + x272))).toNat) z36).n), .slice A337 ((x1.cells_.getD (((IntKind.i64.wrap (t80.n + x272))).toNat) z36).text).length c338]) Try.underlying36 rfl (by kernel_rfl) (by kernel_rfl) (fun j_ u_ e_ => (hpx (S306.inv.cell ((Y44.trans E91).cell (k336 j_ u_ e_)))))) ?_; intro hc343 hs344
      refine xO 11 hc343 ?_
      refine yE 11 82 rfl (new_blk (v := fun g_ => .slice (some ⟨g_, 0, none⟩) 1 1) (cs := #[.int .i64 ((x1.cells_.getD (((IntKind.i64.wrap (t80.n + x272))).toNat) z36).kind), .int .i64 ((x1.cells_.getD (((IntKind.i64.wrap (t80.n + x272))).toNat) z36).n), .slice A337 ((x1.cells_.getD (((IntKind.i64.wrap (t80.n + x272))).toNat) z36).text).length c338]) (t := 36) S306 (by kernel_rfl)) ?_
      rintro hc350 _ w345 ⟨g346, rfl, b347, S348, K349⟩
      replace h261 := h261.move (K349.at 0 rfl)
      replace b98 := K349.blk 1 rfl b98
      replace h271 := h271.move (K349.at 2 rfl)
      refine ⟨⟨S348.inv, (fun b_ h_ => (K349.at 1 rfl b_ h_).trans (hs344.2 b_ h_))⟩, fun hs351 => ?_⟩
      obtain ⟨q352, M⟩ := chk M
      have S353 := S348.pulls [F270, (is g346), F262, (is g93)] [3] rfl
      have S354 := S353.unit
      have S355 := S354.pulls [F270, no, (is g346), F262, (is g93)] [1] rfl
      refine xO 12 hc350 ?_
      refine yE 12 83 rfl (e_append (d := (ro st36)) (n := x267.length) (xs := x267) (cap := c269) (A := A268) (ys := [(x1.cells_.getD (((IntKind.i64.wrap (t80.n + x272))).toNat) z36)]) (A2 := (some ⟨g346, 0, none⟩)) (c2 := 1) (z := .agg #[.int .i64 0, .int .i64 0, .slice none 0 0]) (bytes := 40) S355 Try.underlying32 (by kernel_rfl) rfl (by decide) (by kernel_rfl) rfl (by kernel_rfl) h271 (elsO_one1 (st36_mkR (x := (x1.cells_.getD (((IntKind.i64.wrap (t80.n + x272))).toNat) z36)) l339 (h340.ext (Y44.trans E91)))) (.inr (blk_news b347 rfl)) (show (x267.length + [(x1.cells_.getD (((IntKind.i64.wrap (t80.n + x272))).toNat) z36)].length) * 40 ≤ _ by first | omega | (simp only [List.length_cons, List.length_nil]; omega)) (by decide)) ?_
      rintro hc363 _ w356 ⟨A357, c358, F359, rfl, h360, S361, K362⟩
      replace h261 := h261.move (K362.at 1 rfl)
      replace b98 := K362.blk 2 rfl b98
      refine ⟨⟨S361.inv, (fun b_ h_ => (K362.at 2 rfl b_ h_).trans (hs351.2 b_ h_))⟩, fun hs364 => ?_⟩
      refine xO 13 hc363 ?_
      refine yO 13 8 rfl hs364 (eA (.slice A357 ((x267 ++ [(x1.cells_.getD (((IntKind.i64.wrap (t80.n + x272))).toNat) z36)]).length) c358)) ?_; intro hc365 hs366
      refine xn (by kernel_rfl) ?_ _
      refine inb_n (then_n (wR (lV 69 (eM (.int .i64 x272) (by exact e278)) (lV 70 (eAdd .i64 x272 1) (lV 10 (eA (.int .i64 (IntKind.i64.wrap (x272 + 1)))) (wN (then_n ?_)))))))
      have S368 := S361.pulls [F262, (is g93), F359, (is g346)] [3, 3] rfl
      have S369 := St.first (Fa := [F262, (is g93), F359]) (Fr := [(is g346)]) S368
      exact ⟨k289, (by omega), _, (x267 ++ [(x1.cells_.getD (((IntKind.i64.wrap (t80.n + x272))).toNat) z36)]), A357, c358, F359, (IntKind.i64.wrap (x272 + 1)), (by omega), rfl, (by exact e273), (by exact e274), (by exact e275), (by kernel_rfl), (by exact e277), (by kernel_rfl), (by exact e279), (by exact e280), (by exact e281), (by exact e282), (by exact e283), h261, b98, h360, S369, M⟩
    replace M := ifn q304 M
    refine cF (bF q304) (wp_exit (then_e (then_e (inb_hit (inb_n (then_n ?_))))))
    have S371 := S291.pulls [F262, F270, (is g93)] [2, 1] rfl
    have S372 := St.first (Fa := [F262, F270]) (Fr := [(is g93)]) S371
    exact ⟨k289, (by omega), _, H83, x267, A268, c269, F270, F262, (x51.set ((t80.n).toNat) true), rfl, (by exact e273), (by exact e274), (by exact e275), (by exact e276), h261, h271, (List.length_set.trans n52), (Y44.trans E91), S372, M⟩
  replace M := ifn q65 M
  refine cF (bF q65) (wp_exit (then_e (then_e (inb_hit (then_n (wp_seq (wR ?_)))))))
  refine lV 6 (eA (.bool false)) (wN (then_n (wp_ret ?_)))
  obtain rfl := Option.some.inj M
  exact ret1 rfl rfl  (show _ = .bool false from (by kernel_rfl)) ⟨rfl, S57.chg⟩

/-! spec_l10bind -/
def spec_l10bind_2.f (k : Nat) (x1 : GL10heap) (x12 : Int) (x13 : Cell) : Option (Int × GL10heap) := (if x13.kind = 0 then (if x13.n > x12 then ((spec_l10ref.f x12).bind fun t39 => ((spec_l10set_2.f x1 x13.n t39).bind fun t62 => some (t62.1, t62.2))) else ((spec_l10set_2.f x1 x12 x13).bind fun t90 => some (t90.1, t90.2))) else (if x13.kind = 4 then ((spec_l10within.f k x1 x12 x13).bind fun t112 => (if t112 = true then some (5, x1) else ((spec_l10set_2.f x1 x12 x13).bind fun t146 => some (t146.1, t146.2)))) else ((spec_l10set_2.f x1 x12 x13).bind fun t170 => some (t170.1, t170.2))))
theorem spec_l10bind_2.calls (k : Nat) (w : World) (H : Hp) (x1 : GL10heap) (g2 : Nat) (A4 : Option Addr) (c5 : Nat) (F7 : Foot) (A8 : Option Addr) (c9 : Nat) (F11 : Foot) (x12 : Int) (x13 : Cell) (A14 : Option Addr) (c15 : Nat) (h6 : Row (ro st36) 36 H (hp w) F7 A4 c5 x1.cells_) (h10 : Row tInt 3 H (hp w) F11 A8 c9 x1.trail_) (b3 : w.heap[g2]? = some (.cells #[.slice A4 x1.cells_.length c5, .slice A8 x1.trail_.length c9, .int .i64 x1.pairs_] 91 (0, 0))) (h16 : Rd tByte H A14 x13.text) (l17 : x13.text.length ≤ c15) (S : Own [F7, F11, (is g2)] H w) (r : Int × GL10heap) (M : spec_l10bind_2.f k x1 x12 x13 = some r) :
    Calls Try.prog 61 #[.pointer (some ⟨g2, 0, none⟩), .int .i64 x12, .agg #[.int .i64 x13.kind, .int .i64 x13.n, .slice A14 x13.text.length c15]] w (fun e e_w => ∃ (A_1 : Option Addr) (c_1 : Nat) (F_1 : Foot) (A_2 : Option Addr) (c_2 : Nat) (F_2 : Foot) (H_ : Hp), e = .returned (.int .i64 r.1) ∧ Row (ro st36) 36 H_ (hp e_w) F_1 A_1 c_1 r.2.cells_ ∧ Row tInt 3 H_ (hp e_w) F_2 A_2 c_2 r.2.trail_ ∧ e_w.heap[g2]? = some (.cells #[.slice A_1 r.2.cells_.length c_1, .slice A_2 r.2.trail_.length c_2, .int .i64 r.2.pairs_] 91 (0, 0)) ∧ St (anyOf [F7, F11, (is g2)]) H w [(is g2), F_1, F_2] H_ e_w) := by
  rw [spec_l10bind_2.f] at M
  refine enter (l := [.pointer (some ⟨g2, 0, none⟩), .int .i64 x12, .agg #[.int .i64 x13.kind, .int .i64 x13.n, .slice A14 x13.text.length c15]]) 37 Try.func61 rfl rfl rfl ?_
  have S0_ := S.st
  refine wp_seq (wR ?_)
  refine lW 5 (nB #[.int .i64 x13.kind, .int .i64 x13.n, .slice A14 x13.text.length c15] 36 S0_) ?_
  rintro _ w18 ⟨g19, rfl, b20, S21, K22⟩
  replace h6 := h6.move (K22.at 0 rfl)
  replace h10 := h10.move (K22.at 1 rfl)
  replace b3 := K22.blk 2 rfl b3
  refine lV 6 (eA (.int .i64 0)) (wN (then_n (wp_seq (wp_seq (wR (lV 7 (eD g19 0 0 1 Try.underlying36) (lV 8 (eL ⟨g19, 0 + 0, none⟩ (.int .i64 x13.kind) Try.underlying3 (blk_cell b20 rfl)) ?_)))))))
  refine lV 9 (eEq .i64 x13.kind 0) (wN (then_n ?_))
  by_cases q23 : x13.kind = 0
  · replace M := ifp q23 M
    refine cT (bT q23) (wp_seq (wp_seq (wR (lV 10 (eD g19 0 1 1 Try.underlying36) (lV 11 (eL ⟨g19, 0 + 1, none⟩ (.int .i64 x13.n) Try.underlying3 (blk_cell b20 rfl)) (lV 12 (eM (.int .i64 x12)) (lV 13 (e_gtr (k := .i64) (a := x13.n) (b := x12) (by kernel_rfl) (by kernel_rfl)) ?_)))))))
    refine wN (then_n ?_)
    by_cases q24 : x13.n > x12
    · replace M := ifp q24 M
      refine cT (bT q24) (wp_seq ?_)
      refine region_mix (S := (fun (L_ : Array Bool) (w_ : World) => Ext H (hp w_) ∧ (∀ b_, (is g19) b_ → hp w_ b_ = hp w18 b_))) (by kernel_rfl) S21 ?_
      intro w25 S26 K27 hc28
      have o29 := b20
      have hs30 : (fun (L_ : Array Bool) (w_ : World) => Ext H (hp w_) ∧ (∀ b_, (is g19) b_ → hp w_ b_ = hp w18 b_)) (Array.replicate 7 false) w25 := ⟨S26.inv, (fun b_ h_ => K27.at 0 rfl b_ h_)⟩
      replace h6 := h6.move (K27.at 1 rfl)
      replace h10 := h10.move (K27.at 2 rfl)
      replace b3 := K27.blk 3 rfl b3
      refine xV 0 14 rfl hc28 hs30 (fun L_ w_ hc_ hu_ hs_ => eM (.pointer (some ⟨g2, 0, none⟩))) ?_; intro hc31 hs32
      refine xV 1 15 rfl hc31 hs32 (fun L_ w_ hc_ hu_ hs_ => eD g19 0 1 1 Try.underlying36) ?_; intro hc33 hs34
      refine xV 2 16 rfl hc33 hs34 (fun L_ w_ hc_ hu_ hs_ => eL ⟨g19, 0 + 1, none⟩ (.int .i64 x13.n) Try.underlying3 (blk_cell ((hs_.2 _ rfl).trans o29) rfl)) ?_; intro hc35 hs36
      refine xO 3 hc35 ?_
      refine yO 3 17 rfl hs36 (eM (.int .i64 x12)) ?_; intro hc37 hs38
      obtain ⟨t39, u40, M⟩ := bnd M
      refine xO 4 hc37 ?_
      refine yC 4 rfl (eC [.tmp 17] [.int .i64 x12] Try.func68) (spec_l10ref.calls w25 H x12  (St.own' (Fa := []) (Fr := [(is g19), F7, F11, (is g2)]) S26) t39 u40) ?_
      rintro hc48 _ w41 ⟨A44, c45, F47, H42, rfl, h46, T43⟩
      refine ⟨_, rfl, ?_⟩
      obtain ⟨S49, K50⟩ := St.call (Fa := []) (Fr := [(is g19), F7, F11, (is g2)]) S26 T43
      replace h6 := h6.move (K50.at 1 rfl)
      replace h10 := h10.move (K50.at 2 rfl)
      replace b3 := K50.blk 3 rfl b3
      have E51 := T43.ext
      replace h6 := h6.ext E51
      replace h10 := h10.ext E51
      refine ⟨⟨(Ext.trans E51 S49.inv), (fun b_ h_ => (K50.at 0 rfl b_ h_).trans (hs38.2 b_ h_))⟩, fun hs52 => ?_⟩
      have l53 := h46.le
      obtain ⟨H54, S55, E56, h57, z58⟩ := S49.frzRow h46
      replace h6 := h6.ext E56
      replace h10 := h10.ext E56
      have S61 := S55.pulls [F7, F11, (is g2), (is g19)] [3, 3, 3] rfl
      obtain ⟨t62, u63, M⟩ := bnd M
      refine xO 5 hc48 ?_
      refine yC 5 rfl (eC [.tmp 14, .tmp 16, .tmp 18] [.pointer (some ⟨g2, 0, none⟩), .int .i64 x13.n, .agg #[.int .i64 t39.kind, .int .i64 t39.n, .slice A44 t39.text.length c45]] Try.func70) (spec_l10set_2.calls w41 H54 x1 g2 A4 c5 F7 A8 c9 F11 x13.n t39 A44 c45 h6 h10 b3 h57 l53 (St.own' (Fa := [F7, F11, (is g2)]) (Fr := [(is g19)]) S61) t62 u63) ?_
      rintro hc76 _ w64 ⟨A67, c68, F70, A71, c72, F74, H65, rfl, h69, h73, b75, T66⟩
      refine ⟨_, rfl, ?_⟩
      obtain ⟨S77, K78⟩ := St.call (Fa := [F7, F11, (is g2)]) (Fr := [(is g19)]) S61 T66
      have E79 := T66.ext
      refine ⟨⟨(Ext.trans ((E51.trans E56).trans E79) S77.inv), (fun b_ h_ => (K78.at 0 rfl b_ h_).trans (hs52.2 b_ h_))⟩, fun hs80 => ?_⟩
      refine xO 6 hc76 ?_
      refine yO 6 6 rfl hs80 (eA (.int .i64 t62.1)) ?_; intro hc81 hs82
      refine xn (by kernel_rfl) ?_ _
      refine then_n (wp_ret (then_r (then_r ?_)))
      obtain rfl := Option.some.inj M
      have S85 := S77.pulls [(is g2), F70, F74, (is g19)] [2, 2, 2] rfl
      have S86 := St.first (Fa := [(is g2), F70, F74]) (Fr := [(is g19)]) S85
      exact ret1 rfl rfl  (show _ = .int .i64 t62.1 from (by kernel_rfl)) ⟨A67, c68, F70, A71, c72, F74, H65, rfl, h69, h73, b75, S86⟩
    replace M := ifn q24 M
    refine cF (bF q24) (wp_skip (then_n (wp_seq (wR (lV 20 (eM (.pointer (some ⟨g2, 0, none⟩))) (lV 21 (eM (.int .i64 x12)) (lV 22 (e_loadS (b := g19) (off := 0) (cs := [.int .i64 x13.kind, .int .i64 x13.n, .slice A14 x13.text.length c15]) Try.underlying36 rfl (by kernel_rfl) (by kernel_rfl) (blk_cells b20 rfl)) ?_)))))))
    have S89 := S21.pulls [F7, F11, (is g2), (is g19)] [3, 3, 3] rfl
    obtain ⟨t90, u91, M⟩ := bnd M
    refine lC 23 (eC [.tmp 20, .tmp 21, .tmp 22] [.pointer (some ⟨g2, 0, none⟩), .int .i64 x12, .agg #[.int .i64 x13.kind, .int .i64 x13.n, .slice A14 x13.text.length c15]] Try.func70) (spec_l10set_2.calls w18 H x1 g2 A4 c5 F7 A8 c9 F11 x12 x13 A14 c15 h6 h10 b3 h16 l17 (St.own' (Fa := [F7, F11, (is g2)]) (Fr := [(is g19)]) S89) t90 u91) ?_
    rintro _ w92 ⟨A95, c96, F98, A99, c100, F102, H93, rfl, h97, h101, b103, T94⟩
    refine ⟨_, rfl, ?_⟩
    obtain ⟨S104, K105⟩ := St.call (Fa := [F7, F11, (is g2)]) (Fr := [(is g19)]) S89 T94
    have E106 := T94.ext
    refine lV 6 (eA (.int .i64 t90.1)) (wN (then_n (wp_ret (then_r ?_))))
    obtain rfl := Option.some.inj M
    have S109 := S104.pulls [(is g2), F98, F102, (is g19)] [2, 2, 2] rfl
    have S110 := St.first (Fa := [(is g2), F98, F102]) (Fr := [(is g19)]) S109
    exact ret1 rfl rfl  (show _ = .int .i64 t90.1 from (by kernel_rfl)) ⟨A95, c96, F98, A99, c100, F102, H93, rfl, h97, h101, b103, S110⟩
  replace M := ifn q23 M
  refine cF (bF q23) (wp_skip (then_n (wp_seq (wp_seq (wR (lV 24 (eD g19 0 0 1 Try.underlying36) (lV 25 (eL ⟨g19, 0 + 0, none⟩ (.int .i64 x13.kind) Try.underlying3 (blk_cell b20 rfl)) ?_)))))))
  refine lV 26 (eEq .i64 x13.kind 4) (lV 27 (eM (.bool (decide (x13.kind = 4)))) ?_)
  by_cases q111 : x13.kind = 4
  · replace M := ifp q111 M
    refine lG 28 27 (bT q111) (eM (.pointer (some ⟨g2, 0, none⟩))) (lG 29 27 (bT q111) (eM (.int .i64 x12)) (lG 30 27 (bT q111) (e_loadS (b := g19) (off := 0) (cs := [.int .i64 x13.kind, .int .i64 x13.n, .slice A14 x13.text.length c15]) Try.underlying36 rfl (by kernel_rfl) (by kernel_rfl) (blk_cells b20 rfl)) ?_))
    obtain ⟨t112, u113, M⟩ := bnd M
    refine lcallg (d := 31) (t := 27) rfl (by kernel_rfl) rfl (bT q111) rfl (by kernel_rfl) (eC [.tmp 28, .tmp 29, .tmp 30] [.pointer (some ⟨g2, 0, none⟩), .int .i64 x12, .agg #[.int .i64 x13.kind, .int .i64 x13.n, .slice A14 x13.text.length c15]] Try.func71) (by have l114 := h6.le; have S115 := S21.pull (F := F7) (Fr := [(is g19), F11, (is g2)]) 1 rfl rfl; obtain ⟨H116, S117, E118, h119, z120⟩ := S115.frzRow h6; replace h10 := h10.ext E118; replace h119 := h119.unro; have l121 := h10.le; have S122 := S117.pull (F := F11) (Fr := [(is g19), (is g2)]) 1 rfl rfl; obtain ⟨H123, S124, E125, h126, z127⟩ := S122.frzRow h10; have S128 := S124.pull (F := (is g2)) (Fr := [(is g19)]) 1 rfl rfl; obtain ⟨H129, S130, E131, h132, z133⟩ := S128.frzBlk b3; exact (spec_l10within.calls k w18 H129 x1 g2 A4 c5 A8 c9 x12 x13 A14 c15 (h119.ext (E125.trans E131)) l114 (h126.ext E131) l121 h132 (h16.ext ((E118.trans E125).trans E131)) l17 S130.own0 t112 u113)) ?_
    rintro _ w134 ⟨rfl, C135⟩
    refine ⟨_, rfl, ?_⟩
    obtain ⟨S136, K137⟩ := S21.still C135
    replace b20 := K137.blk 0 rfl b20
    replace h6 := h6.move (K137.at 1 rfl)
    replace h10 := h10.move (K137.at 2 rfl)
    replace b3 := K137.blk 3 rfl b3
    refine lV 32 (eT (.bool t112) (bT q111)) (wN (then_n ?_))
    by_cases q138 : t112 = true
    · replace M := ifp q138 M
      refine cT (bvt q138 (by kernel_rfl)) (wp_seq (wR (lV 6 (eA (.int .i64 5)) (wN (then_n (wp_ret (then_r ?_)))))))
      obtain rfl := Option.some.inj M
      have S141 := S136.pulls [(is g2), F7, F11, (is g19)] [2, 2, 3] rfl
      have S142 := St.first (Fa := [(is g2), F7, F11]) (Fr := [(is g19)]) S141
      exact ret1 rfl rfl  (show _ = .int .i64 5 from (by kernel_rfl)) ⟨A4, c5, F7, A8, c9, F11, H, rfl, h6, h10, b3, S142⟩
    replace M := ifn q138 M
    refine cF (bvf q138 (by kernel_rfl)) (wp_skip (then_n (wp_seq (wR (lV 33 (eM (.pointer (some ⟨g2, 0, none⟩))) (lV 34 (eM (.int .i64 x12)) (lV 35 (e_loadS (b := g19) (off := 0) (cs := [.int .i64 x13.kind, .int .i64 x13.n, .slice A14 x13.text.length c15]) Try.underlying36 rfl (by kernel_rfl) (by kernel_rfl) (blk_cells b20 rfl)) ?_)))))))
    have S145 := S136.pulls [F7, F11, (is g2), (is g19)] [3, 3, 3] rfl
    obtain ⟨t146, u147, M⟩ := bnd M
    refine lC 36 (eC [.tmp 33, .tmp 34, .tmp 35] [.pointer (some ⟨g2, 0, none⟩), .int .i64 x12, .agg #[.int .i64 x13.kind, .int .i64 x13.n, .slice A14 x13.text.length c15]] Try.func70) (spec_l10set_2.calls w134 H x1 g2 A4 c5 F7 A8 c9 F11 x12 x13 A14 c15 h6 h10 b3 h16 l17 (St.own' (Fa := [F7, F11, (is g2)]) (Fr := [(is g19)]) S145) t146 u147) ?_
    rintro _ w148 ⟨A151, c152, F154, A155, c156, F158, H149, rfl, h153, h157, b159, T150⟩
    refine ⟨_, rfl, ?_⟩
    obtain ⟨S160, K161⟩ := St.call (Fa := [F7, F11, (is g2)]) (Fr := [(is g19)]) S145 T150
    have E162 := T150.ext
    refine lV 6 (eA (.int .i64 t146.1)) (wN (then_n (wp_ret ?_)))
    obtain rfl := Option.some.inj M
    have S165 := S160.pulls [(is g2), F154, F158, (is g19)] [2, 2, 2] rfl
    have S166 := St.first (Fa := [(is g2), F154, F158]) (Fr := [(is g19)]) S165
    exact ret1 rfl rfl  (show _ = .int .i64 t146.1 from (by kernel_rfl)) ⟨A151, c152, F154, A155, c156, F158, H149, rfl, h153, h157, b159, S166⟩
  replace M := ifn q111 M
  refine lK 27 false (bF q111) ?_
  refine lK 27 false (bF q111) ?_
  refine lK 27 false (bF q111) ?_
  refine lK 27 false (bF q111) ?_
  refine lV 32 (eF (.bool false) (bF q111)) (wN (then_n (cond_f rfl (by kernel_rfl) (wp_skip (then_n (wp_seq (wR ?_)))))))
  refine lV 33 (eM (.pointer (some ⟨g2, 0, none⟩))) (lV 34 (eM (.int .i64 x12)) (lV 35 (e_loadS (b := g19) (off := 0) (cs := [.int .i64 x13.kind, .int .i64 x13.n, .slice A14 x13.text.length c15]) Try.underlying36 rfl (by kernel_rfl) (by kernel_rfl) (blk_cells b20 rfl)) ?_))
  have S169 := S21.pulls [F7, F11, (is g2), (is g19)] [3, 3, 3] rfl
  obtain ⟨t170, u171, M⟩ := bnd M
  refine lC 36 (eC [.tmp 33, .tmp 34, .tmp 35] [.pointer (some ⟨g2, 0, none⟩), .int .i64 x12, .agg #[.int .i64 x13.kind, .int .i64 x13.n, .slice A14 x13.text.length c15]] Try.func70) (spec_l10set_2.calls w18 H x1 g2 A4 c5 F7 A8 c9 F11 x12 x13 A14 c15 h6 h10 b3 h16 l17 (St.own' (Fa := [F7, F11, (is g2)]) (Fr := [(is g19)]) S169) t170 u171) ?_
  rintro _ w172 ⟨A175, c176, F178, A179, c180, F182, H173, rfl, h177, h181, b183, T174⟩
  refine ⟨_, rfl, ?_⟩
  obtain ⟨S184, K185⟩ := St.call (Fa := [F7, F11, (is g2)]) (Fr := [(is g19)]) S169 T174
  have E186 := T174.ext
  refine lV 6 (eA (.int .i64 t170.1)) (wN (then_n (wp_ret ?_)))
  obtain rfl := Option.some.inj M
  have S189 := S184.pulls [(is g2), F178, F182, (is g19)] [2, 2, 2] rfl
  have S190 := St.first (Fa := [(is g2), F178, F182]) (Fr := [(is g19)]) S189
  exact ret1 rfl rfl  (show _ = .int .i64 t170.1 from (by kernel_rfl)) ⟨A175, c176, F178, A179, c180, F182, H173, rfl, h177, h181, b183, S190⟩

/-! spec_l10unify -/
mutual
def spec_l10unify_2.l0 : Nat → GL10heap → Cell → Cell → Int → (List Cell) → (List Int) → Int → Option (Int × GL10heap)
  | 0, _, _, _, _, _, _, _ => none
  | k325 + 1, x1, t44, t67, x303, x304, x309, x314 => (if x303 ≤ ((x1.cells_.getD ((t44.n).toNat) z36).n) then (if 0 ≤ (IntKind.i64.wrap (t44.n + x303)) then (if (IntKind.i64.wrap (t44.n + x303)) < (x304.length : Int) then (if 0 ≤ (IntKind.i64.wrap (t67.n + x303)) then (if (IntKind.i64.wrap (t67.n + x303)) < (x304.length : Int) then ((spec_l10unify_2.f k325 (⟨x304, x309, x314⟩ : GL10heap) (x304.getD (((IntKind.i64.wrap (t44.n + x303))).toNat) z36) (x304.getD (((IntKind.i64.wrap (t67.n + x303))).toNat) z36)).bind fun t416 => (if t416.1 ≠ 0 then some (t416.1, t416.2) else (spec_l10unify_2.l0 k325 x1 t44 t67 (IntKind.i64.wrap (x303 + 1)) t416.2.cells_ t416.2.trail_ t416.2.pairs_))) else none) else none) else none) else none) else some (0, (⟨x304, x309, x314⟩ : GL10heap)))
def spec_l10unify_2.f : Nat → GL10heap → Cell → Cell → Option (Int × GL10heap)
  | 0, _, _, _ => none
  | k1_ + 1, x1, x12, x17 => (if x1.pairs_ ≥ 20000 then some (3, x1) else ((spec_l10deref.f k1_ (⟨x1.cells_, x1.trail_, (IntKind.i64.wrap (x1.pairs_ + 1))⟩ : GL10heap) x12).bind fun t44 => ((spec_l10deref.f k1_ (⟨x1.cells_, x1.trail_, (IntKind.i64.wrap (x1.pairs_ + 1))⟩ : GL10heap) x17).bind fun t67 => (if t44.kind = 0 then (if t67.kind = 0 then (if t67.n = t44.n then some (0, (⟨x1.cells_, x1.trail_, (IntKind.i64.wrap (x1.pairs_ + 1))⟩ : GL10heap)) else ((spec_l10bind_2.f k1_ (⟨x1.cells_, x1.trail_, (IntKind.i64.wrap (x1.pairs_ + 1))⟩ : GL10heap) t44.n t67).bind fun t97 => some (t97.1, t97.2))) else ((spec_l10bind_2.f k1_ (⟨x1.cells_, x1.trail_, (IntKind.i64.wrap (x1.pairs_ + 1))⟩ : GL10heap) t44.n t67).bind fun t121 => some (t121.1, t121.2))) else (if t67.kind = 0 then ((spec_l10bind_2.f k1_ (⟨x1.cells_, x1.trail_, (IntKind.i64.wrap (x1.pairs_ + 1))⟩ : GL10heap) t67.n t44).bind fun t146 => some (t146.1, t146.2)) else (if t44.kind ≠ t67.kind then some (4, (⟨x1.cells_, x1.trail_, (IntKind.i64.wrap (x1.pairs_ + 1))⟩ : GL10heap)) else (if t44.kind ≠ 4 then (if t44.n ≠ t67.n then some (4, (⟨x1.cells_, x1.trail_, (IntKind.i64.wrap (x1.pairs_ + 1))⟩ : GL10heap)) else (if t44.text ≠ t67.text then some (4, (⟨x1.cells_, x1.trail_, (IntKind.i64.wrap (x1.pairs_ + 1))⟩ : GL10heap)) else some (0, (⟨x1.cells_, x1.trail_, (IntKind.i64.wrap (x1.pairs_ + 1))⟩ : GL10heap)))) else (if 0 ≤ t44.n then (if t44.n < (x1.cells_.length : Int) then (if 0 ≤ t67.n then (if t67.n < (x1.cells_.length : Int) then (if ((x1.cells_.getD ((t44.n).toNat) z36).n) ≠ ((x1.cells_.getD ((t67.n).toNat) z36).n) then some (4, (⟨x1.cells_, x1.trail_, (IntKind.i64.wrap (x1.pairs_ + 1))⟩ : GL10heap)) else (if (x1.cells_.getD ((t44.n).toNat) z36).text ≠ (x1.cells_.getD ((t67.n).toNat) z36).text then some (4, (⟨x1.cells_, x1.trail_, (IntKind.i64.wrap (x1.pairs_ + 1))⟩ : GL10heap)) else (spec_l10unify_2.l0 k1_ x1 t44 t67 1 x1.cells_ x1.trail_ (IntKind.i64.wrap (x1.pairs_ + 1))))) else none) else none) else none) else none))))))))
end
theorem spec_l10unify_2.all : ∀ (K : Nat), (∀ (k : Nat), k < K → ∀ (w : World) (H : Hp) (x1 : GL10heap) (g2 : Nat) (A4 : Option Addr) (c5 : Nat) (F7 : Foot) (A8 : Option Addr) (c9 : Nat) (F11 : Foot) (x12 : Cell) (A13 : Option Addr) (c14 : Nat) (x17 : Cell) (A18 : Option Addr) (c19 : Nat) (h6 : Row (ro st36) 36 H (hp w) F7 A4 c5 x1.cells_) (h10 : Row tInt 3 H (hp w) F11 A8 c9 x1.trail_) (b3 : w.heap[g2]? = some (.cells #[.slice A4 x1.cells_.length c5, .slice A8 x1.trail_.length c9, .int .i64 x1.pairs_] 91 (0, 0))) (h15 : Rd tByte H A13 x12.text) (l16 : x12.text.length ≤ c14) (h20 : Rd tByte H A18 x17.text) (l21 : x17.text.length ≤ c19) (S : Own [F7, F11, (is g2)] H w) (r : Int × GL10heap) (M : spec_l10unify_2.f k x1 x12 x17 = some r), Calls Try.prog 63 #[.pointer (some ⟨g2, 0, none⟩), .agg #[.int .i64 x12.kind, .int .i64 x12.n, .slice A13 x12.text.length c14], .agg #[.int .i64 x17.kind, .int .i64 x17.n, .slice A18 x17.text.length c19]] w (fun e e_w => ∃ (A_1 : Option Addr) (c_1 : Nat) (F_1 : Foot) (A_2 : Option Addr) (c_2 : Nat) (F_2 : Foot) (H_ : Hp), e = .returned (.int .i64 r.1) ∧ Row (ro st36) 36 H_ (hp e_w) F_1 A_1 c_1 r.2.cells_ ∧ Row tInt 3 H_ (hp e_w) F_2 A_2 c_2 r.2.trail_ ∧ e_w.heap[g2]? = some (.cells #[.slice A_1 r.2.cells_.length c_1, .slice A_2 r.2.trail_.length c_2, .int .i64 r.2.pairs_] 91 (0, 0)) ∧ St (anyOf [F7, F11, (is g2)]) H w [(is g2), F_1, F_2] H_ e_w)) := by
  intro K
  induction K with
  | zero => intro k hk; omega
  | succ K ih =>
    intro k hk w H x1 g2 A4 c5 F7 A8 c9 F11 x12 A13 c14 x17 A18 c19 h6 h10 b3 h15 l16 h20 l21 S r M
    rcases k with _ | k1_
    · rw [spec_l10unify_2.f] at M
      cases M
    rw [spec_l10unify_2.f] at M
    refine enter (l := [.pointer (some ⟨g2, 0, none⟩), .agg #[.int .i64 x12.kind, .int .i64 x12.n, .slice A13 x12.text.length c14], .agg #[.int .i64 x17.kind, .int .i64 x17.n, .slice A18 x17.text.length c19]]) 138 Try.func63 rfl rfl rfl ?_
    have S0_ := S.st
    refine wp_seq (wR ?_)
    refine lW 4 (nB #[.int .i64 x12.kind, .int .i64 x12.n, .slice A13 x12.text.length c14] 36 S0_) ?_
    rintro _ w22 ⟨g23, rfl, b24, S25, K26⟩
    replace h6 := h6.move (K26.at 0 rfl)
    replace h10 := h10.move (K26.at 1 rfl)
    replace b3 := K26.blk 2 rfl b3
    refine lW 5 (nB #[.int .i64 x17.kind, .int .i64 x17.n, .slice A18 x17.text.length c19] 36 S25) ?_
    rintro _ w27 ⟨g28, rfl, b29, S30, K31⟩
    replace b24 := K31.blk 0 rfl b24
    replace h6 := h6.move (K31.at 1 rfl)
    replace h10 := h10.move (K31.at 2 rfl)
    replace b3 := K31.blk 3 rfl b3
    refine lV 6 (eA (.int .i64 0)) (wN (then_n (wp_seq (wp_seq (wR (lV 11 (eM (.pointer (some ⟨g2, 0, none⟩))) (lV 12 (eN ⟨g2, 0, none⟩) ?_)))))))
    refine lV 13 (eD g2 0 2 1 Try.underlying91) (lV 14 (eL ⟨g2, 0 + 2, none⟩ (.int .i64 x1.pairs_) Try.underlying3 (blk_cell b3 rfl)) (lV 15 (e_geq (k := .i64) (a := x1.pairs_) (b := 20000) (by kernel_rfl) rfl) (wN (then_n ?_))))
    by_cases q32 : x1.pairs_ ≥ 20000
    · replace M := ifp q32 M
      refine cT (bT q32) (wp_seq (wR (lV 6 (eA (.int .i64 3)) (wN (then_n (wp_ret (then_r ?_)))))))
      obtain rfl := Option.some.inj M
      have S35 := S30.pulls [(is g2), F7, F11, (is g28), (is g23)] [3, 3, 4] rfl
      have S36 := St.first (Fa := [(is g2), F7, F11]) (Fr := [(is g28), (is g23)]) S35
      exact ret1 rfl rfl  (show _ = .int .i64 3 from (by kernel_rfl)) ⟨A4, c5, F7, A8, c9, F11, H, rfl, h6, h10, b3, S36⟩
    replace M := ifn q32 M
    refine cF (bF q32) (wp_skip (then_n (wp_seq (wR (lV 16 (eM (.pointer (some ⟨g2, 0, none⟩))) (lV 17 (eN ⟨g2, 0, none⟩) (lV 18 (eD g2 0 2 1 Try.underlying91) ?_)))))))
    refine lV 19 (eL ⟨g2, 0 + 2, none⟩ (.int .i64 x1.pairs_) Try.underlying3 (blk_cell b3 rfl)) (lV 20 (eAdd .i64 x1.pairs_ 1) (lV 21 (eN ⟨g2, 0, none⟩) (lV 22 (eD g2 0 2 1 Try.underlying91) ?_)))
    have S37 := S30.pulls [(is g2), (is g28), (is g23), F7, F11] [4] rfl
    refine lE (eS g2 (0 + 2) (.int .i64 (IntKind.i64.wrap (x1.pairs_ + 1))) #[.slice A4 x1.cells_.length c5, .slice A8 x1.trail_.length c9, .int .i64 (IntKind.i64.wrap (x1.pairs_ + 1))] [.int .i64 (IntKind.i64.wrap (x1.pairs_ + 1))] S37 b3) ?_
    rintro w38 ⟨b39, S40, K41⟩
    replace b29 := K41.blk 0 rfl b29
    replace b24 := K41.blk 1 rfl b24
    replace h6 := h6.move (K41.at 2 rfl)
    replace h10 := h10.move (K41.at 3 rfl)
    clear b3
    refine wN (then_n (wp_seq (wR (lV 23 (eM (.pointer (some ⟨g2, 0, none⟩))) (lV 24 (e_loadS (b := g23) (off := 0) (cs := [.int .i64 x12.kind, .int .i64 x12.n, .slice A13 x12.text.length c14]) Try.underlying36 rfl (by kernel_rfl) (by kernel_rfl) (blk_cells b24 rfl)) ?_)))))
    have S43 := S40.pulls [F7, F11, (is g2), (is g28), (is g23)] [4, 4] rfl
    obtain ⟨t44, u45, M⟩ := bnd M
    refine lC 25 (eC [.tmp 23, .tmp 24] [.pointer (some ⟨g2, 0, none⟩), .agg #[.int .i64 x12.kind, .int .i64 x12.n, .slice A13 x12.text.length c14]] Try.func46) (spec_l10deref.calls k1_ w38 H (⟨x1.cells_, x1.trail_, (IntKind.i64.wrap (x1.pairs_ + 1))⟩ : GL10heap) g2 A4 c5 F7 A8 c9 F11 x12 A13 c14 h6 h10 b39 h15 l16 (St.own' (Fa := [F7, F11, (is g2)]) (Fr := [(is g28), (is g23)]) S43) t44 u45) ?_
    rintro _ w46 ⟨A52, c53, H47, rfl, h49, h50, b51, h54, l55, T48⟩
    refine ⟨_, rfl, ?_⟩
    obtain ⟨S56, K57⟩ := St.call (Fa := [F7, F11, (is g2)]) (Fr := [(is g28), (is g23)]) S43 T48
    replace b29 := K57.blk 0 rfl b29
    replace b24 := K57.blk 1 rfl b24
    have E58 := T48.ext
    have S59 := S56.pulls [(is g23), F7, F11, (is g2), (is g28)] [4] rfl
    refine lE (eSa g23 0 [.int .i64 t44.kind, .int .i64 t44.n, .slice A52 t44.text.length c53] S59 b24) ?_
    rintro w60 ⟨b61, S62, K63⟩
    replace h49 := h49.move (K63.at 0 rfl)
    replace h50 := h50.move (K63.at 1 rfl)
    replace b51 := K63.blk 2 rfl b51
    replace b29 := K63.blk 3 rfl b29
    clear b24
    refine wN (then_n (wp_seq (wR (lV 26 (eM (.pointer (some ⟨g2, 0, none⟩))) (lV 27 (e_loadS (b := g28) (off := 0) (cs := [.int .i64 x17.kind, .int .i64 x17.n, .slice A18 x17.text.length c19]) Try.underlying36 rfl (by kernel_rfl) (by kernel_rfl) (blk_cells b29 rfl)) ?_)))))
    have S66 := S62.pulls [F7, F11, (is g2), (is g23), (is g28)] [3, 3, 3] rfl
    obtain ⟨t67, u68, M⟩ := bnd M
    refine lC 28 (eC [.tmp 26, .tmp 27] [.pointer (some ⟨g2, 0, none⟩), .agg #[.int .i64 x17.kind, .int .i64 x17.n, .slice A18 x17.text.length c19]] Try.func46) (spec_l10deref.calls k1_ w60 H47 (⟨x1.cells_, x1.trail_, (IntKind.i64.wrap (x1.pairs_ + 1))⟩ : GL10heap) g2 A4 c5 F7 A8 c9 F11 x17 A18 c19 h49 h50 b51 (h20.ext E58) l21 (St.own' (Fa := [F7, F11, (is g2)]) (Fr := [(is g23), (is g28)]) S66) t67 u68) ?_
    rintro _ w69 ⟨A75, c76, H70, rfl, h72, h73, b74, h77, l78, T71⟩
    refine ⟨_, rfl, ?_⟩
    obtain ⟨S79, K80⟩ := St.call (Fa := [F7, F11, (is g2)]) (Fr := [(is g23), (is g28)]) S66 T71
    replace b61 := K80.blk 0 rfl b61
    replace b29 := K80.blk 1 rfl b29
    have E81 := T71.ext
    have S82 := S79.pulls [(is g28), F7, F11, (is g2), (is g23)] [4] rfl
    refine lE (eSa g28 0 [.int .i64 t67.kind, .int .i64 t67.n, .slice A75 t67.text.length c76] S82 b29) ?_
    rintro w83 ⟨b84, S85, K86⟩
    replace h72 := h72.move (K86.at 0 rfl)
    replace h73 := h73.move (K86.at 1 rfl)
    replace b74 := K86.blk 2 rfl b74
    replace b61 := K86.blk 3 rfl b61
    clear b29
    refine wN (then_n (wp_seq (wp_seq (wR (lV 29 (eD g23 0 0 1 Try.underlying36) (lV 30 (eL ⟨g23, 0 + 0, none⟩ (.int .i64 t44.kind) Try.underlying3 (blk_cell b61 rfl)) (lV 31 (eEq .i64 t44.kind 0) ?_)))))))
    refine wN (then_n ?_)
    by_cases q87 : t44.kind = 0
    · replace M := ifp q87 M
      refine cT (bT q87) (wp_seq (wp_seq (wR (lV 32 (eD g28 0 0 1 Try.underlying36) (lV 33 (eL ⟨g28, 0 + 0, none⟩ (.int .i64 t67.kind) Try.underlying3 (blk_cell b84 rfl)) (lV 34 (eEq .i64 t67.kind 0) (lV 35 (eM (.bool (decide (t67.kind = 0)))) ?_)))))))
      by_cases q88 : t67.kind = 0
      · replace M := ifp q88 M
        refine lG 36 35 (bT q88) (eD g28 0 1 1 Try.underlying36) (lG 37 35 (bT q88) (eL ⟨g28, 0 + 1, none⟩ (.int .i64 t67.n) Try.underlying3 (blk_cell b84 rfl)) (lG 38 35 (bT q88) (eD g23 0 1 1 Try.underlying36) (lG 39 35 (bT q88) (eL ⟨g23, 0 + 1, none⟩ (.int .i64 t44.n) Try.underlying3 (blk_cell b61 rfl)) (lG 40 35 (bT q88) (eEq .i64 t67.n t44.n) (lV 41 (eT (.bool (decide (t67.n = t44.n))) (bT q88)) (wN (then_n ?_)))))))
        by_cases q89 : t67.n = t44.n
        · replace M := ifp q89 M
          refine cT (bT q89) (wp_seq (wR (lV 6 (eA (.int .i64 0)) (wN (then_n (wp_ret (then_r ?_)))))))
          refine then_r ?_
          obtain rfl := Option.some.inj M
          have S92 := S85.pulls [(is g2), F7, F11, (is g28), (is g23)] [2, 2, 3] rfl
          have S93 := St.first (Fa := [(is g2), F7, F11]) (Fr := [(is g28), (is g23)]) S92
          exact ret1 rfl rfl  (show _ = .int .i64 0 from (by kernel_rfl)) ⟨A4, c5, F7, A8, c9, F11, H70, rfl, h72, h73, b74, S93⟩
        replace M := ifn q89 M
        refine cF (bF q89) (wp_skip (then_n (wp_seq (wR (lV 42 (eM (.pointer (some ⟨g2, 0, none⟩))) (lV 43 (eD g23 0 1 1 Try.underlying36) (lV 44 (eL ⟨g23, 0 + 1, none⟩ (.int .i64 t44.n) Try.underlying3 (blk_cell b61 rfl)) ?_)))))))
        refine lV 45 (e_loadS (b := g28) (off := 0) (cs := [.int .i64 t67.kind, .int .i64 t67.n, .slice A75 t67.text.length c76]) Try.underlying36 rfl (by kernel_rfl) (by kernel_rfl) (blk_cells b84 rfl)) ?_
        have S96 := S85.pulls [F7, F11, (is g2), (is g28), (is g23)] [3, 3, 3] rfl
        obtain ⟨t97, u98, M⟩ := bnd M
        refine lC 46 (eC [.tmp 42, .tmp 44, .tmp 45] [.pointer (some ⟨g2, 0, none⟩), .int .i64 t44.n, .agg #[.int .i64 t67.kind, .int .i64 t67.n, .slice A75 t67.text.length c76]] Try.func61) (spec_l10bind_2.calls k1_ w83 H70 (⟨x1.cells_, x1.trail_, (IntKind.i64.wrap (x1.pairs_ + 1))⟩ : GL10heap) g2 A4 c5 F7 A8 c9 F11 t44.n t67 A75 c76 h72 h73 b74 h77 l78 (St.own' (Fa := [F7, F11, (is g2)]) (Fr := [(is g28), (is g23)]) S96) t97 u98) ?_
        rintro _ w99 ⟨A102, c103, F105, A106, c107, F109, H100, rfl, h104, h108, b110, T101⟩
        refine ⟨_, rfl, ?_⟩
        obtain ⟨S111, K112⟩ := St.call (Fa := [F7, F11, (is g2)]) (Fr := [(is g28), (is g23)]) S96 T101
        have E113 := T101.ext
        refine lV 6 (eA (.int .i64 t97.1)) (wN (then_n (wp_ret (then_r ?_))))
        obtain rfl := Option.some.inj M
        have S116 := S111.pulls [(is g2), F105, F109, (is g28), (is g23)] [2, 2, 2] rfl
        have S117 := St.first (Fa := [(is g2), F105, F109]) (Fr := [(is g28), (is g23)]) S116
        exact ret1 rfl rfl  (show _ = .int .i64 t97.1 from (by kernel_rfl)) ⟨A102, c103, F105, A106, c107, F109, H100, rfl, h104, h108, b110, S117⟩
      replace M := ifn q88 M
      refine lK 35 false (bF q88) ?_
      refine lK 35 false (bF q88) ?_
      refine lK 35 false (bF q88) ?_
      refine lK 35 false (bF q88) ?_
      refine lK 35 false (bF q88) ?_
      refine lV 41 (eF (.bool false) (bF q88)) (wN (then_n (cond_f rfl (by kernel_rfl) (wp_skip (then_n (wp_seq (wR ?_)))))))
      refine lV 42 (eM (.pointer (some ⟨g2, 0, none⟩))) (lV 43 (eD g23 0 1 1 Try.underlying36) (lV 44 (eL ⟨g23, 0 + 1, none⟩ (.int .i64 t44.n) Try.underlying3 (blk_cell b61 rfl)) (lV 45 (e_loadS (b := g28) (off := 0) (cs := [.int .i64 t67.kind, .int .i64 t67.n, .slice A75 t67.text.length c76]) Try.underlying36 rfl (by kernel_rfl) (by kernel_rfl) (blk_cells b84 rfl)) ?_)))
      have S120 := S85.pulls [F7, F11, (is g2), (is g28), (is g23)] [3, 3, 3] rfl
      obtain ⟨t121, u122, M⟩ := bnd M
      refine lC 46 (eC [.tmp 42, .tmp 44, .tmp 45] [.pointer (some ⟨g2, 0, none⟩), .int .i64 t44.n, .agg #[.int .i64 t67.kind, .int .i64 t67.n, .slice A75 t67.text.length c76]] Try.func61) (spec_l10bind_2.calls k1_ w83 H70 (⟨x1.cells_, x1.trail_, (IntKind.i64.wrap (x1.pairs_ + 1))⟩ : GL10heap) g2 A4 c5 F7 A8 c9 F11 t44.n t67 A75 c76 h72 h73 b74 h77 l78 (St.own' (Fa := [F7, F11, (is g2)]) (Fr := [(is g28), (is g23)]) S120) t121 u122) ?_
      rintro _ w123 ⟨A126, c127, F129, A130, c131, F133, H124, rfl, h128, h132, b134, T125⟩
      refine ⟨_, rfl, ?_⟩
      obtain ⟨S135, K136⟩ := St.call (Fa := [F7, F11, (is g2)]) (Fr := [(is g28), (is g23)]) S120 T125
      have E137 := T125.ext
      refine lV 6 (eA (.int .i64 t121.1)) (wN (then_n (wp_ret (then_r ?_))))
      obtain rfl := Option.some.inj M
      have S140 := S135.pulls [(is g2), F129, F133, (is g28), (is g23)] [2, 2, 2] rfl
      have S141 := St.first (Fa := [(is g2), F129, F133]) (Fr := [(is g28), (is g23)]) S140
      exact ret1 rfl rfl  (show _ = .int .i64 t121.1 from (by kernel_rfl)) ⟨A126, c127, F129, A130, c131, F133, H124, rfl, h128, h132, b134, S141⟩
    replace M := ifn q87 M
    refine cF (bF q87) (wp_skip (then_n (wp_seq (wp_seq (wR (lV 47 (eD g28 0 0 1 Try.underlying36) (lV 48 (eL ⟨g28, 0 + 0, none⟩ (.int .i64 t67.kind) Try.underlying3 (blk_cell b84 rfl)) ?_)))))))
    refine lV 49 (eEq .i64 t67.kind 0) (wN (then_n ?_))
    by_cases q142 : t67.kind = 0
    · replace M := ifp q142 M
      refine cT (bT q142) (wp_seq (wR (lV 50 (eM (.pointer (some ⟨g2, 0, none⟩))) (lV 51 (eD g28 0 1 1 Try.underlying36) (lV 52 (eL ⟨g28, 0 + 1, none⟩ (.int .i64 t67.n) Try.underlying3 (blk_cell b84 rfl)) (lV 53 (e_loadS (b := g23) (off := 0) (cs := [.int .i64 t44.kind, .int .i64 t44.n, .slice A52 t44.text.length c53]) Try.underlying36 rfl (by kernel_rfl) (by kernel_rfl) (blk_cells b61 rfl)) ?_))))))
      have S145 := S85.pulls [F7, F11, (is g2), (is g28), (is g23)] [3, 3, 3] rfl
      obtain ⟨t146, u147, M⟩ := bnd M
      refine lC 54 (eC [.tmp 50, .tmp 52, .tmp 53] [.pointer (some ⟨g2, 0, none⟩), .int .i64 t67.n, .agg #[.int .i64 t44.kind, .int .i64 t44.n, .slice A52 t44.text.length c53]] Try.func61) (spec_l10bind_2.calls k1_ w83 H70 (⟨x1.cells_, x1.trail_, (IntKind.i64.wrap (x1.pairs_ + 1))⟩ : GL10heap) g2 A4 c5 F7 A8 c9 F11 t67.n t44 A52 c53 h72 h73 b74 (h54.ext E81) l55 (St.own' (Fa := [F7, F11, (is g2)]) (Fr := [(is g28), (is g23)]) S145) t146 u147) ?_
      rintro _ w148 ⟨A151, c152, F154, A155, c156, F158, H149, rfl, h153, h157, b159, T150⟩
      refine ⟨_, rfl, ?_⟩
      obtain ⟨S160, K161⟩ := St.call (Fa := [F7, F11, (is g2)]) (Fr := [(is g28), (is g23)]) S145 T150
      have E162 := T150.ext
      refine lV 6 (eA (.int .i64 t146.1)) (wN (then_n (wp_ret (then_r ?_))))
      obtain rfl := Option.some.inj M
      have S165 := S160.pulls [(is g2), F154, F158, (is g28), (is g23)] [2, 2, 2] rfl
      have S166 := St.first (Fa := [(is g2), F154, F158]) (Fr := [(is g28), (is g23)]) S165
      exact ret1 rfl rfl  (show _ = .int .i64 t146.1 from (by kernel_rfl)) ⟨A151, c152, F154, A155, c156, F158, H149, rfl, h153, h157, b159, S166⟩
    replace M := ifn q142 M
    refine cF (bF q142) (wp_skip (then_n (wp_seq (wp_seq (wR (lV 55 (eD g23 0 0 1 Try.underlying36) (lV 56 (eL ⟨g23, 0 + 0, none⟩ (.int .i64 t44.kind) Try.underlying3 (blk_cell b61 rfl)) ?_)))))))
    refine lV 57 (eD g28 0 0 1 Try.underlying36) (lV 58 (eL ⟨g28, 0 + 0, none⟩ (.int .i64 t67.kind) Try.underlying3 (blk_cell b84 rfl)) (lV 59 (eNe .i64 t44.kind t67.kind) (wN (then_n ?_))))
    by_cases q167 : t44.kind ≠ t67.kind
    · replace M := ifp q167 M
      refine cT (bT q167) (wp_seq (wR (lV 6 (eA (.int .i64 4)) (wN (then_n (wp_ret (then_r ?_)))))))
      obtain rfl := Option.some.inj M
      have S170 := S85.pulls [(is g2), F7, F11, (is g28), (is g23)] [2, 2, 3] rfl
      have S171 := St.first (Fa := [(is g2), F7, F11]) (Fr := [(is g28), (is g23)]) S170
      exact ret1 rfl rfl  (show _ = .int .i64 4 from (by kernel_rfl)) ⟨A4, c5, F7, A8, c9, F11, H70, rfl, h72, h73, b74, S171⟩
    replace M := ifn q167 M
    refine cF (bF q167) (wp_skip (then_n (wp_seq (wp_seq (wR (lV 60 (eD g23 0 0 1 Try.underlying36) (lV 61 (eL ⟨g23, 0 + 0, none⟩ (.int .i64 t44.kind) Try.underlying3 (blk_cell b61 rfl)) ?_)))))))
    refine lV 62 (eNe .i64 t44.kind 4) (wN (then_n ?_))
    by_cases q172 : t44.kind ≠ 4
    · replace M := ifp q172 M
      refine cT (bT q172) (wp_seq (wp_seq (wR (lV 63 (eD g23 0 1 1 Try.underlying36) (lV 64 (eL ⟨g23, 0 + 1, none⟩ (.int .i64 t44.n) Try.underlying3 (blk_cell b61 rfl)) (lV 65 (eD g28 0 1 1 Try.underlying36) (lV 66 (eL ⟨g28, 0 + 1, none⟩ (.int .i64 t67.n) Try.underlying3 (blk_cell b84 rfl)) ?_)))))))
      refine lV 67 (eNe .i64 t44.n t67.n) (lV 68 (eM (.bool (decide (t44.n ≠ t67.n)))) ?_)
      by_cases q173 : t44.n ≠ t67.n
      · replace M := ifp q173 M
        refine lK 68 true (bT q173) ?_
        refine lK 68 true (bT q173) ?_
        refine lK 68 true (bT q173) ?_
        refine lK 68 true (bT q173) ?_
        refine lK 68 true (bT q173) ?_
        refine lK 68 true (bT q173) ?_
        refine lK 68 true (bT q173) ?_
        refine lV 76 (eT (.bool true) (bT q173)) (wN (then_n (cond_t rfl (by kernel_rfl) (wp_seq (wR (lV 6 (eA (.int .i64 4)) (wN ?_)))))))
        refine then_n (wp_ret (then_r (then_r ?_)))
        obtain rfl := Option.some.inj M
        have S176 := S85.pulls [(is g2), F7, F11, (is g28), (is g23)] [2, 2, 3] rfl
        have S177 := St.first (Fa := [(is g2), F7, F11]) (Fr := [(is g28), (is g23)]) S176
        exact ret1 rfl rfl  (show _ = .int .i64 4 from (by kernel_rfl)) ⟨A4, c5, F7, A8, c9, F11, H70, rfl, h72, h73, b74, S177⟩
      replace M := ifn q173 M
      refine lG 69 68 (bF q173) (eD g23 0 2 1 Try.underlying36) (lG 70 68 (bF q173) (eL ⟨g23, 0 + 2, none⟩ (.slice A52 t44.text.length c53) Try.underlying26 (blk_cell b61 rfl)) (lG 71 68 (bF q173) (e_conv_bs (A := A52) (n := t44.text.length) (c := c53) (xs := t44.text) Try.underlying26 Try.underlying5 Try.underlying9 (by kernel_rfl) rfl (Rd.bytesE S85.inv (h54.ext E81))) (lG 72 68 (bF q173) (eD g28 0 2 1 Try.underlying36) (lG 73 68 (bF q173) (eL ⟨g28, 0 + 2, none⟩ (.slice A75 t67.text.length c76) Try.underlying26 (blk_cell b84 rfl)) (lG 74 68 (bF q173) (e_conv_bs (A := A75) (n := t67.text.length) (c := c76) (xs := t67.text) Try.underlying26 Try.underlying5 Try.underlying9 (by kernel_rfl) rfl (Rd.bytesE S85.inv h77)) (lG 75 68 (bF q173) (e_sneq (p := t44.text) (q := t67.text) (by kernel_rfl) (by kernel_rfl)) (lV 76 (eF (.bool (decide (t44.text ≠ t67.text))) (bF q173)) ?_)))))))
      refine wN (then_n ?_)
      by_cases q178 : t44.text ≠ t67.text
      · replace M := ifp q178 M
        refine cT (bT q178) (wp_seq (wR (lV 6 (eA (.int .i64 4)) (wN (then_n (wp_ret (then_r ?_)))))))
        refine then_r ?_
        obtain rfl := Option.some.inj M
        have S181 := S85.pulls [(is g2), F7, F11, (is g28), (is g23)] [2, 2, 3] rfl
        have S182 := St.first (Fa := [(is g2), F7, F11]) (Fr := [(is g28), (is g23)]) S181
        exact ret1 rfl rfl  (show _ = .int .i64 4 from (by kernel_rfl)) ⟨A4, c5, F7, A8, c9, F11, H70, rfl, h72, h73, b74, S182⟩
      replace M := ifn q178 M
      refine cF (bF q178) (wp_skip (then_n (wp_seq (wR (lV 6 (eA (.int .i64 0)) (wN (then_n ?_)))))))
      refine wp_ret (then_r ?_)
      obtain rfl := Option.some.inj M
      have S185 := S85.pulls [(is g2), F7, F11, (is g28), (is g23)] [2, 2, 3] rfl
      have S186 := St.first (Fa := [(is g2), F7, F11]) (Fr := [(is g28), (is g23)]) S185
      exact ret1 rfl rfl  (show _ = .int .i64 0 from (by kernel_rfl)) ⟨A4, c5, F7, A8, c9, F11, H70, rfl, h72, h73, b74, S186⟩
    replace M := ifn q172 M
    refine cF (bF q172) (wp_skip (then_n (wp_seq ?_)))
    refine region_mix (S := (fun (L_ : Array Bool) (w_ : World) => Ext H70 (hp w_) ∧ (∀ b_, F7 b_ → hp w_ b_ = hp w83 b_) ∧ (∀ b_, (is g2) b_ → hp w_ b_ = hp w83 b_) ∧ (∀ b_, (is g23) b_ → hp w_ b_ = hp w83 b_))) (by kernel_rfl) S85 ?_
    intro w187 S188 K189 hc190
    have o191 := h72
    have o192 := b74
    have o193 := b61
    have hs194 : (fun (L_ : Array Bool) (w_ : World) => Ext H70 (hp w_) ∧ (∀ b_, F7 b_ → hp w_ b_ = hp w83 b_) ∧ (∀ b_, (is g2) b_ → hp w_ b_ = hp w83 b_) ∧ (∀ b_, (is g23) b_ → hp w_ b_ = hp w83 b_)) (Array.replicate 10 false) w187 := ⟨S188.inv, (fun b_ h_ => K189.at 1 rfl b_ h_), (fun b_ h_ => K189.at 3 rfl b_ h_), (fun b_ h_ => K189.at 4 rfl b_ h_)⟩
    replace b84 := K189.blk 0 rfl b84
    replace h72 := h72.move (K189.at 1 rfl)
    replace h73 := h73.move (K189.at 2 rfl)
    replace b74 := K189.blk 3 rfl b74
    replace b61 := K189.blk 4 rfl b61
    refine xV 0 77 rfl hc190 hs194 (fun L_ w_ hc_ hu_ hs_ => eM (.pointer (some ⟨g2, 0, none⟩))) ?_; intro hc195 hs196
    refine xV 1 78 rfl hc195 hs196 (fun L_ w_ hc_ hu_ hs_ => eN ⟨g2, 0, none⟩) ?_; intro hc197 hs198
    refine xV 2 79 rfl hc197 hs198 (fun L_ w_ hc_ hu_ hs_ => eD g2 0 0 1 Try.underlying91) ?_; intro hc199 hs200
    refine xV 3 80 rfl hc199 hs200 (fun L_ w_ hc_ hu_ hs_ => eL ⟨g2, 0 + 0, none⟩ (.slice A4 x1.cells_.length c5) Try.underlying32 (blk_cell ((hs_.2.2.1 _ rfl).trans o192) rfl)) ?_; intro hc201 hs202
    refine xV 4 81 rfl hc201 hs202 (fun L_ w_ hc_ hu_ hs_ => eD g23 0 1 1 Try.underlying36) ?_; intro hc203 hs204
    refine xV 5 82 rfl hc203 hs204 (fun L_ w_ hc_ hu_ hs_ => eL ⟨g23, 0 + 1, none⟩ (.int .i64 t44.n) Try.underlying3 (blk_cell ((hs_.2.2.2 _ rfl).trans o193) rfl)) ?_; intro hc205 hs206
    obtain ⟨q207, M⟩ := chk M
    obtain ⟨q208, M⟩ := chk M
    obtain ⟨b209, e211⟩ := Row.addr h72 (show (t44.n).toNat < x1.cells_.length by omega)
    refine xV 6 83 rfl hc205 hs206 (fun L_ w_ hc_ hu_ hs_ => eI b209 0 x1.cells_.length c5 3 t44.n .i64 Try.underlying32 e211 q207 q208) ?_; intro hc212 hs213
    obtain ⟨y214, F215, r216, s217, k218⟩ := Row.at o191 e211 (getD_some z36 (show (t44.n).toNat < x1.cells_.length by omega))
    obtain ⟨A219, c220, rfl, l221, h222⟩ := st36_open r216
    refine xV 7 84 rfl hc212 hs213 (fun L_ w_ hc_ hu_ hs_ => e_loadS (b := b209) (off := 0 + (t44.n : Int).toNat * 3) (cs := [.int .i64 ((x1.cells_.getD ((t44.n).toNat) z36).kind), .int .i64 ((x1.cells_.getD ((t44.n).toNat) z36).n), .slice A219 ((x1.cells_.getD ((t44.n).toNat) z36).text).length c220]) Try.underlying36 rfl (by kernel_rfl) (by kernel_rfl) (fun j_ u_ e_ => (hpx (cell_same (hs_.2.1 _ (Row.foot o191 e211)) (k218 j_ u_ e_))))) ?_; intro hc223 hs224
    refine xO 8 hc223 ?_
    refine yE 8 7 rfl (nB #[.int .i64 0, .int .i64 0, .slice none 0 0] 36 S188) ?_
    rintro hc230 _ w225 ⟨g226, rfl, b227, S228, K229⟩
    replace b84 := K229.blk 0 rfl b84
    replace h72 := h72.move (K229.at 1 rfl)
    replace h73 := h73.move (K229.at 2 rfl)
    replace b74 := K229.blk 3 rfl b74
    replace b61 := K229.blk 4 rfl b61
    refine ⟨⟨S228.inv, (fun b_ h_ => (K229.at 1 rfl b_ h_).trans (hs224.2.1 b_ h_)), (fun b_ h_ => (K229.at 3 rfl b_ h_).trans (hs224.2.2.1 b_ h_)), (fun b_ h_ => (K229.at 4 rfl b_ h_).trans (hs224.2.2.2 b_ h_))⟩, fun hs231 => ?_⟩
    refine xO 9 hc230 ?_
    refine yS 9 rfl (eSa g226 0 [.int .i64 ((x1.cells_.getD ((t44.n).toNat) z36).kind), .int .i64 ((x1.cells_.getD ((t44.n).toNat) z36).n), .slice A219 ((x1.cells_.getD ((t44.n).toNat) z36).text).length c220] S228 b227) ?_
    rintro hc236 w232 ⟨b233, S234, K235⟩
    replace b84 := K235.blk 0 rfl b84
    replace h72 := h72.move (K235.at 1 rfl)
    replace h73 := h73.move (K235.at 2 rfl)
    replace b74 := K235.blk 3 rfl b74
    replace b61 := K235.blk 4 rfl b61
    refine ⟨⟨S234.inv, (fun b_ h_ => (K235.at 1 rfl b_ h_).trans (hs231.2.1 b_ h_)), (fun b_ h_ => (K235.at 3 rfl b_ h_).trans (hs231.2.2.1 b_ h_)), (fun b_ h_ => (K235.at 4 rfl b_ h_).trans (hs231.2.2.2 b_ h_))⟩, fun hs237 => ?_⟩
    clear b227
    refine xn (by kernel_rfl) ?_ _
    refine then_n (wp_seq ?_)
    refine region_mix (S := (fun (L_ : Array Bool) (w_ : World) => Ext H70 (hp w_) ∧ (∀ b_, (is g28) b_ → hp w_ b_ = hp w232 b_) ∧ (∀ b_, F7 b_ → hp w_ b_ = hp w232 b_) ∧ (∀ b_, (is g2) b_ → hp w_ b_ = hp w232 b_))) (by kernel_rfl) S234 ?_
    intro w238 S239 K240 hc241
    have o242 := b84
    have o243 := h72
    have o244 := b74
    have hs245 : (fun (L_ : Array Bool) (w_ : World) => Ext H70 (hp w_) ∧ (∀ b_, (is g28) b_ → hp w_ b_ = hp w232 b_) ∧ (∀ b_, F7 b_ → hp w_ b_ = hp w232 b_) ∧ (∀ b_, (is g2) b_ → hp w_ b_ = hp w232 b_)) (Array.replicate 10 false) w238 := ⟨S239.inv, (fun b_ h_ => K240.at 1 rfl b_ h_), (fun b_ h_ => K240.at 2 rfl b_ h_), (fun b_ h_ => K240.at 4 rfl b_ h_)⟩
    replace b233 := K240.blk 0 rfl b233
    replace b84 := K240.blk 1 rfl b84
    replace h72 := h72.move (K240.at 2 rfl)
    replace h73 := h73.move (K240.at 3 rfl)
    replace b74 := K240.blk 4 rfl b74
    replace b61 := K240.blk 5 rfl b61
    refine xV 0 85 rfl hc241 hs245 (fun L_ w_ hc_ hu_ hs_ => eM (.pointer (some ⟨g2, 0, none⟩))) ?_; intro hc246 hs247
    refine xV 1 86 rfl hc246 hs247 (fun L_ w_ hc_ hu_ hs_ => eN ⟨g2, 0, none⟩) ?_; intro hc248 hs249
    refine xV 2 87 rfl hc248 hs249 (fun L_ w_ hc_ hu_ hs_ => eD g2 0 0 1 Try.underlying91) ?_; intro hc250 hs251
    refine xV 3 88 rfl hc250 hs251 (fun L_ w_ hc_ hu_ hs_ => eL ⟨g2, 0 + 0, none⟩ (.slice A4 x1.cells_.length c5) Try.underlying32 (blk_cell ((hs_.2.2.2 _ rfl).trans o244) rfl)) ?_; intro hc252 hs253
    refine xV 4 89 rfl hc252 hs253 (fun L_ w_ hc_ hu_ hs_ => eD g28 0 1 1 Try.underlying36) ?_; intro hc254 hs255
    refine xV 5 90 rfl hc254 hs255 (fun L_ w_ hc_ hu_ hs_ => eL ⟨g28, 0 + 1, none⟩ (.int .i64 t67.n) Try.underlying3 (blk_cell ((hs_.2.1 _ rfl).trans o242) rfl)) ?_; intro hc256 hs257
    obtain ⟨q258, M⟩ := chk M
    obtain ⟨q259, M⟩ := chk M
    obtain ⟨b260, e262⟩ := Row.addr h72 (show (t67.n).toNat < x1.cells_.length by omega)
    refine xV 6 91 rfl hc256 hs257 (fun L_ w_ hc_ hu_ hs_ => eI b260 0 x1.cells_.length c5 3 t67.n .i64 Try.underlying32 e262 q258 q259) ?_; intro hc263 hs264
    obtain ⟨y265, F266, r267, s268, k269⟩ := Row.at o243 e262 (getD_some z36 (show (t67.n).toNat < x1.cells_.length by omega))
    obtain ⟨A270, c271, rfl, l272, h273⟩ := st36_open r267
    refine xV 7 92 rfl hc263 hs264 (fun L_ w_ hc_ hu_ hs_ => e_loadS (b := b260) (off := 0 + (t67.n : Int).toNat * 3) (cs := [.int .i64 ((x1.cells_.getD ((t67.n).toNat) z36).kind), .int .i64 ((x1.cells_.getD ((t67.n).toNat) z36).n), .slice A270 ((x1.cells_.getD ((t67.n).toNat) z36).text).length c271]) Try.underlying36 rfl (by kernel_rfl) (by kernel_rfl) (fun j_ u_ e_ => (hpx (cell_same (hs_.2.2.1 _ (Row.foot o243 e262)) (k269 j_ u_ e_))))) ?_; intro hc274 hs275
    refine xO 8 hc274 ?_
    refine yE 8 8 rfl (nB #[.int .i64 0, .int .i64 0, .slice none 0 0] 36 S239) ?_
    rintro hc281 _ w276 ⟨g277, rfl, b278, S279, K280⟩
    replace b233 := K280.blk 0 rfl b233
    replace b84 := K280.blk 1 rfl b84
    replace h72 := h72.move (K280.at 2 rfl)
    replace h73 := h73.move (K280.at 3 rfl)
    replace b74 := K280.blk 4 rfl b74
    replace b61 := K280.blk 5 rfl b61
    refine ⟨⟨S279.inv, (fun b_ h_ => (K280.at 1 rfl b_ h_).trans (hs275.2.1 b_ h_)), (fun b_ h_ => (K280.at 2 rfl b_ h_).trans (hs275.2.2.1 b_ h_)), (fun b_ h_ => (K280.at 4 rfl b_ h_).trans (hs275.2.2.2 b_ h_))⟩, fun hs282 => ?_⟩
    refine xO 9 hc281 ?_
    refine yS 9 rfl (eSa g277 0 [.int .i64 ((x1.cells_.getD ((t67.n).toNat) z36).kind), .int .i64 ((x1.cells_.getD ((t67.n).toNat) z36).n), .slice A270 ((x1.cells_.getD ((t67.n).toNat) z36).text).length c271] S279 b278) ?_
    rintro hc287 w283 ⟨b284, S285, K286⟩
    replace b233 := K286.blk 0 rfl b233
    replace b84 := K286.blk 1 rfl b84
    replace h72 := h72.move (K286.at 2 rfl)
    replace h73 := h73.move (K286.at 3 rfl)
    replace b74 := K286.blk 4 rfl b74
    replace b61 := K286.blk 5 rfl b61
    refine ⟨⟨S285.inv, (fun b_ h_ => (K286.at 1 rfl b_ h_).trans (hs282.2.1 b_ h_)), (fun b_ h_ => (K286.at 2 rfl b_ h_).trans (hs282.2.2.1 b_ h_)), (fun b_ h_ => (K286.at 4 rfl b_ h_).trans (hs282.2.2.2 b_ h_))⟩, fun hs288 => ?_⟩
    clear b278
    refine xn (by kernel_rfl) ?_ _
    refine then_n (wp_seq (wp_seq (wR (lV 93 (eD g226 0 1 1 Try.underlying36) (lV 94 (eL ⟨g226, 0 + 1, none⟩ (.int .i64 ((x1.cells_.getD ((t44.n).toNat) z36).n)) Try.underlying3 (blk_cell b233 rfl)) (lV 95 (eD g277 0 1 1 Try.underlying36) (lV 96 (eL ⟨g277, 0 + 1, none⟩ (.int .i64 ((x1.cells_.getD ((t67.n).toNat) z36).n)) Try.underlying3 (blk_cell b284 rfl)) ?_)))))))
    refine lV 97 (eNe .i64 (x1.cells_.getD ((t44.n).toNat) z36).n (x1.cells_.getD ((t67.n).toNat) z36).n) (lV 98 (eM (.bool (decide (((x1.cells_.getD ((t44.n).toNat) z36).n) ≠ ((x1.cells_.getD ((t67.n).toNat) z36).n))))) ?_)
    by_cases q289 : ((x1.cells_.getD ((t44.n).toNat) z36).n) ≠ ((x1.cells_.getD ((t67.n).toNat) z36).n)
    · replace M := ifp q289 M
      refine lK 98 true (bT q289) ?_
      refine lK 98 true (bT q289) ?_
      refine lK 98 true (bT q289) ?_
      refine lK 98 true (bT q289) ?_
      refine lK 98 true (bT q289) ?_
      refine lK 98 true (bT q289) ?_
      refine lK 98 true (bT q289) ?_
      refine lV 106 (eT (.bool true) (bT q289)) (wN (then_n (cond_t rfl (by kernel_rfl) (wp_seq (wR (lV 6 (eA (.int .i64 4)) (wN ?_)))))))
      refine then_n (wp_ret (then_r ?_))
      obtain rfl := Option.some.inj M
      have S292 := S285.pulls [(is g2), F7, F11, (is g277), (is g226), (is g28), (is g23)] [4, 4, 5] rfl
      have S293 := St.first (Fa := [(is g2), F7, F11]) (Fr := [(is g277), (is g226), (is g28), (is g23)]) S292
      exact ret1 rfl rfl  (show _ = .int .i64 4 from (by kernel_rfl)) ⟨A4, c5, F7, A8, c9, F11, H70, rfl, h72, h73, b74, S293⟩
    replace M := ifn q289 M
    refine lG 99 98 (bF q289) (eD g226 0 2 1 Try.underlying36) (lG 100 98 (bF q289) (eL ⟨g226, 0 + 2, none⟩ (.slice A219 ((x1.cells_.getD ((t44.n).toNat) z36).text).length c220) Try.underlying26 (blk_cell b233 rfl)) (lG 101 98 (bF q289) (e_conv_bs (A := A219) (n := ((x1.cells_.getD ((t44.n).toNat) z36).text).length) (c := c220) (xs := (x1.cells_.getD ((t44.n).toNat) z36).text) Try.underlying26 Try.underlying5 Try.underlying9 (by kernel_rfl) rfl (Rd.bytesE S285.inv h222)) (lG 102 98 (bF q289) (eD g277 0 2 1 Try.underlying36) (lG 103 98 (bF q289) (eL ⟨g277, 0 + 2, none⟩ (.slice A270 ((x1.cells_.getD ((t67.n).toNat) z36).text).length c271) Try.underlying26 (blk_cell b284 rfl)) (lG 104 98 (bF q289) (e_conv_bs (A := A270) (n := ((x1.cells_.getD ((t67.n).toNat) z36).text).length) (c := c271) (xs := (x1.cells_.getD ((t67.n).toNat) z36).text) Try.underlying26 Try.underlying5 Try.underlying9 (by kernel_rfl) rfl (Rd.bytesE S285.inv h273)) (lG 105 98 (bF q289) (e_sneq (p := (x1.cells_.getD ((t44.n).toNat) z36).text) (q := (x1.cells_.getD ((t67.n).toNat) z36).text) (by kernel_rfl) (by kernel_rfl)) (lV 106 (eF (.bool (decide ((x1.cells_.getD ((t44.n).toNat) z36).text ≠ (x1.cells_.getD ((t67.n).toNat) z36).text))) (bF q289)) ?_)))))))
    refine wN (then_n ?_)
    by_cases q294 : (x1.cells_.getD ((t44.n).toNat) z36).text ≠ (x1.cells_.getD ((t67.n).toNat) z36).text
    · replace M := ifp q294 M
      refine cT (bT q294) (wp_seq (wR (lV 6 (eA (.int .i64 4)) (wN (then_n (wp_ret (then_r ?_)))))))
      obtain rfl := Option.some.inj M
      have S297 := S285.pulls [(is g2), F7, F11, (is g277), (is g226), (is g28), (is g23)] [4, 4, 5] rfl
      have S298 := St.first (Fa := [(is g2), F7, F11]) (Fr := [(is g277), (is g226), (is g28), (is g23)]) S297
      exact ret1 rfl rfl  (show _ = .int .i64 4 from (by kernel_rfl)) ⟨A4, c5, F7, A8, c9, F11, H70, rfl, h72, h73, b74, S298⟩
    replace M := ifn q294 M
    refine cF (bF q294) (wp_skip (then_n (wp_seq (wp_seq (wR (lV 9 (eA (.int .i64 1)) (wN ?_)))))))
    refine then_n (wp_block ?_)
    have S331 := S285.pulls [(is g226), (is g28), (is g2), (is g23), F7, F11, (is g277)] [4, 4, 6, 6, 6, 6] rfl
    have S332 := St.first (Fa := [(is g226), (is g28), (is g2), (is g23), F7, F11]) (Fr := [(is g277)]) S331
    refine wp_loop_g (fun k323 a324 w299 => ∃ (f300 : Nat → Value) (H301 : Hp) (x303 : Int) (x304 : List Cell) (A305 : Option Addr) (c306 : Nat) (F307 : Foot) (x309 : List Int) (A310 : Option Addr) (c311 : Nat) (F312 : Foot) (x314 : Int), k323 < K ∧ a324 = mk 138 f300 ∧ f300 0 = .pointer (some ⟨g2, 0, none⟩) ∧ f300 4 = .pointer (some ⟨g23, 0, none⟩) ∧ f300 5 = .pointer (some ⟨g28, 0, none⟩) ∧ f300 7 = .pointer (some ⟨g226, 0, none⟩) ∧ f300 9 = .int .i64 x303 ∧ w299.heap[g226]? = some (.cells #[.int .i64 ((x1.cells_.getD ((t44.n).toNat) z36).kind), .int .i64 ((x1.cells_.getD ((t44.n).toNat) z36).n), .slice A219 ((x1.cells_.getD ((t44.n).toNat) z36).text).length c220] 36 (0, 0)) ∧ w299.heap[g28]? = some (.cells #[.int .i64 t67.kind, .int .i64 t67.n, .slice A75 t67.text.length c76] 36 (0, 0)) ∧ w299.heap[g2]? = some (.cells #[.slice A305 x304.length c306, .slice A310 x309.length c311, .int .i64 x314] 91 (0, 0)) ∧ w299.heap[g23]? = some (.cells #[.int .i64 t44.kind, .int .i64 t44.n, .slice A52 t44.text.length c53] 36 (0, 0)) ∧ Row (ro st36) 36 H301 (hp w299) F307 A305 c306 x304 ∧ Row tInt 3 H301 (hp w299) F312 A310 c311 x309 ∧ Ext H70 H301 ∧ St (anyOf [F7, F11, (is g2)]) H w [(is g226), (is g28), (is g2), (is g23), F307, F312] H301 w299 ∧ spec_l10unify_2.l0 k323 x1 t44 t67 x303 x304 x309 x314 = some r) k1_ ⟨_, H70, 1, x1.cells_, A4, c5, F7, x1.trail_, A8, c9, F11, (IntKind.i64.wrap (x1.pairs_ + 1)), (by omega), rfl, (by kernel_rfl), (by kernel_rfl), (by kernel_rfl), (by kernel_rfl), (by kernel_rfl), b233, b84, b74, b61, h72, h73, (Ext.refl _), S332, M⟩ ?_
    clear M
    rintro k323 a324 w299 ⟨f300, H301, x303, x304, A305, c306, F307, x309, A310, c311, F312, x314, z321, rfl, e315, e316, e317, e318, e319, b233, b84, b74, b61, h308, h313, Y302, S320, M⟩
    rcases k323 with _ | k325
    · rw [spec_l10unify_2.l0] at M
      cases M
    rw [spec_l10unify_2.l0] at M
    refine wp_seq (wp_seq (wR (lV 107 (eM (.int .i64 x303) (by exact e319)) (lV 108 (eD g226 0 1 1 Try.underlying36 (by exact e318)) (lV 109 (eL ⟨g226, 0 + 1, none⟩ (.int .i64 ((x1.cells_.getD ((t44.n).toNat) z36).n)) Try.underlying3 (blk_cell b233 rfl)) (lV 110 (e_leq (k := .i64) (a := x303) (b := (x1.cells_.getD ((t44.n).toNat) z36).n) (by kernel_rfl) (by kernel_rfl)) (wN ?_)))))))
    refine then_n ?_
    by_cases q333 : x303 ≤ ((x1.cells_.getD ((t44.n).toNat) z36).n)
    · replace M := ifp q333 M
      refine cT (bT q333) (wp_skip (then_n (wp_seq (wp_block (wp_seq ?_)))))
      refine region_mix (S := (fun (L_ : Array Bool) (w_ : World) => Ext H301 (hp w_) ∧ (∀ b_, (is g28) b_ → hp w_ b_ = hp w299 b_) ∧ (L_.getD 21 true = false → (∀ b_, (is g2) b_ → hp w_ b_ = hp w299 b_)) ∧ (∀ b_, (is g23) b_ → hp w_ b_ = hp w299 b_) ∧ (L_.getD 21 true = false → (∀ b_, F307 b_ → hp w_ b_ = hp w299 b_)))) (by kernel_rfl) S320 ?_
      intro w334 S335 K336 hc337
      have o338 := b84
      have o339 := b74
      have o340 := b61
      have o341 := h308
      have hs342 : (fun (L_ : Array Bool) (w_ : World) => Ext H301 (hp w_) ∧ (∀ b_, (is g28) b_ → hp w_ b_ = hp w299 b_) ∧ (L_.getD 21 true = false → (∀ b_, (is g2) b_ → hp w_ b_ = hp w299 b_)) ∧ (∀ b_, (is g23) b_ → hp w_ b_ = hp w299 b_) ∧ (L_.getD 21 true = false → (∀ b_, F307 b_ → hp w_ b_ = hp w299 b_))) (Array.replicate 23 false) w334 := ⟨S335.inv, (fun b_ h_ => K336.at 1 rfl b_ h_), (fun _ => (fun b_ h_ => K336.at 2 rfl b_ h_)), (fun b_ h_ => K336.at 3 rfl b_ h_), (fun _ => (fun b_ h_ => K336.at 4 rfl b_ h_))⟩
      replace b233 := K336.blk 0 rfl b233
      replace b84 := K336.blk 1 rfl b84
      replace b74 := K336.blk 2 rfl b74
      replace b61 := K336.blk 3 rfl b61
      replace h308 := h308.move (K336.at 4 rfl)
      replace h313 := h313.move (K336.at 5 rfl)
      refine xW 0 113 rfl (fun L_ w_ => by simp only [getD_set_ne true (show (0 : Nat) ≠ 21 by decide)]) hc337 hs342 (fun L_ w_ hc_ hu_ hs_ => eM (.pointer (some ⟨g2, 0, none⟩)) (by exact e315)) ?_; intro hc343 hs344
      refine xW 1 114 rfl (fun L_ w_ => by simp only [getD_set_ne true (show (1 : Nat) ≠ 21 by decide)]) hc343 hs344 (fun L_ w_ hc_ hu_ hs_ => eM (.pointer (some ⟨g2, 0, none⟩)) (by exact e315)) ?_; intro hc345 hs346
      refine xW 2 115 rfl (fun L_ w_ => by simp only [getD_set_ne true (show (2 : Nat) ≠ 21 by decide)]) hc345 hs346 (fun L_ w_ hc_ hu_ hs_ => eN ⟨g2, 0, none⟩) ?_; intro hc347 hs348
      refine xW 3 116 rfl (fun L_ w_ => by simp only [getD_set_ne true (show (3 : Nat) ≠ 21 by decide)]) hc347 hs348 (fun L_ w_ hc_ hu_ hs_ => eD g2 0 0 1 Try.underlying91) ?_; intro hc349 hs350
      refine xW 4 117 rfl (fun L_ w_ => by simp only [getD_set_ne true (show (4 : Nat) ≠ 21 by decide)]) hc349 hs350 (fun L_ w_ hc_ hu_ hs_ => eL ⟨g2, 0 + 0, none⟩ (.slice A305 x304.length c306) Try.underlying32 (blk_cell (((hs_.2.2.1 (unl 9 21 4 hc_ hu_ (by kernel_rfl))) _ rfl).trans o339) rfl)) ?_; intro hc351 hs352
      refine xW 5 118 rfl (fun L_ w_ => by simp only [getD_set_ne true (show (5 : Nat) ≠ 21 by decide)]) hc351 hs352 (fun L_ w_ hc_ hu_ hs_ => eD g23 0 1 1 Try.underlying36 (by exact e316)) ?_; intro hc353 hs354
      refine xW 6 119 rfl (fun L_ w_ => by simp only [getD_set_ne true (show (6 : Nat) ≠ 21 by decide)]) hc353 hs354 (fun L_ w_ hc_ hu_ hs_ => eL ⟨g23, 0 + 1, none⟩ (.int .i64 t44.n) Try.underlying3 (blk_cell ((hs_.2.2.2.1 _ rfl).trans o340) rfl)) ?_; intro hc355 hs356
      refine xW 7 120 rfl (fun L_ w_ => by simp only [getD_set_ne true (show (7 : Nat) ≠ 21 by decide)]) hc355 hs356 (fun L_ w_ hc_ hu_ hs_ => eM (.int .i64 x303) (by exact e319)) ?_; intro hc357 hs358
      refine xW 8 121 rfl (fun L_ w_ => by simp only [getD_set_ne true (show (8 : Nat) ≠ 21 by decide)]) hc357 hs358 (fun L_ w_ hc_ hu_ hs_ => eAdd .i64 t44.n x303) ?_; intro hc359 hs360
      obtain ⟨q361, M⟩ := chk M
      obtain ⟨q362, M⟩ := chk M
      obtain ⟨b363, e365⟩ := Row.addr h308 (show ((IntKind.i64.wrap (t44.n + x303))).toNat < x304.length by omega)
      refine xW 9 122 rfl (fun L_ w_ => by simp only [getD_set_ne true (show (9 : Nat) ≠ 21 by decide)]) hc359 hs360 (fun L_ w_ hc_ hu_ hs_ => eI b363 0 x304.length c306 3 (IntKind.i64.wrap (t44.n + x303)) .i64 Try.underlying32 e365 q361 q362) ?_; intro hc366 hs367
      obtain ⟨y368, F369, r370, s371, k372⟩ := Row.at o341 e365 (getD_some z36 (show ((IntKind.i64.wrap (t44.n + x303))).toNat < x304.length by omega))
      obtain ⟨A373, c374, rfl, l375, h376⟩ := st36_open r370
      refine xW 10 123 rfl (fun L_ w_ => by simp only [getD_set_ne true (show (10 : Nat) ≠ 21 by decide)]) hc366 hs367 (fun L_ w_ hc_ hu_ hs_ => e_loadS (b := b363) (off := 0 + ((IntKind.i64.wrap (t44.n + x303)) : Int).toNat * 3) (cs := [.int .i64 ((x304.getD (((IntKind.i64.wrap (t44.n + x303))).toNat) z36).kind), .int .i64 ((x304.getD (((IntKind.i64.wrap (t44.n + x303))).toNat) z36).n), .slice A373 ((x304.getD (((IntKind.i64.wrap (t44.n + x303))).toNat) z36).text).length c374]) Try.underlying36 rfl (by kernel_rfl) (by kernel_rfl) (fun j_ u_ e_ => (hpx (cell_same ((hs_.2.2.2.2 (unl 9 21 10 hc_ hu_ (by kernel_rfl))) _ (Row.foot o341 e365)) (k372 j_ u_ e_))))) ?_; intro hc377 hs378
      refine xW 11 124 rfl (fun L_ w_ => by simp only [getD_set_ne true (show (11 : Nat) ≠ 21 by decide)]) hc377 hs378 (fun L_ w_ hc_ hu_ hs_ => eM (.pointer (some ⟨g2, 0, none⟩)) (by exact e315)) ?_; intro hc379 hs380
      refine xW 12 125 rfl (fun L_ w_ => by simp only [getD_set_ne true (show (12 : Nat) ≠ 21 by decide)]) hc379 hs380 (fun L_ w_ hc_ hu_ hs_ => eN ⟨g2, 0, none⟩) ?_; intro hc381 hs382
      refine xW 13 126 rfl (fun L_ w_ => by simp only [getD_set_ne true (show (13 : Nat) ≠ 21 by decide)]) hc381 hs382 (fun L_ w_ hc_ hu_ hs_ => eD g2 0 0 1 Try.underlying91) ?_; intro hc383 hs384
      refine xW 14 127 rfl (fun L_ w_ => by simp only [getD_set_ne true (show (14 : Nat) ≠ 21 by decide)]) hc383 hs384 (fun L_ w_ hc_ hu_ hs_ => eL ⟨g2, 0 + 0, none⟩ (.slice A305 x304.length c306) Try.underlying32 (blk_cell (((hs_.2.2.1 (unl 9 21 14 hc_ hu_ (by kernel_rfl))) _ rfl).trans o339) rfl)) ?_; intro hc385 hs386
      refine xW 15 128 rfl (fun L_ w_ => by simp only [getD_set_ne true (show (15 : Nat) ≠ 21 by decide)]) hc385 hs386 (fun L_ w_ hc_ hu_ hs_ => eD g28 0 1 1 Try.underlying36 (by exact e317)) ?_; intro hc387 hs388
      refine xW 16 129 rfl (fun L_ w_ => by simp only [getD_set_ne true (show (16 : Nat) ≠ 21 by decide)]) hc387 hs388 (fun L_ w_ hc_ hu_ hs_ => eL ⟨g28, 0 + 1, none⟩ (.int .i64 t67.n) Try.underlying3 (blk_cell ((hs_.2.1 _ rfl).trans o338) rfl)) ?_; intro hc389 hs390
      refine xO 17 hc389 ?_
      refine yP 17 130 rfl (fun L_ w_ => by simp only [getD_set_ne true (show (17 : Nat) ≠ 21 by decide)]) hs390 (eM (.int .i64 x303) (by exact e319)) ?_; intro hc391 hs392
      refine xO 18 hc391 ?_
      refine yP 18 131 rfl (fun L_ w_ => by simp only [getD_set_ne true (show (18 : Nat) ≠ 21 by decide)]) hs392 (eAdd .i64 t67.n x303) ?_; intro hc393 hs394
      obtain ⟨q395, M⟩ := chk M
      obtain ⟨q396, M⟩ := chk M
      obtain ⟨b397, e399⟩ := Row.addr h308 (show ((IntKind.i64.wrap (t67.n + x303))).toNat < x304.length by omega)
      refine xO 19 hc393 ?_
      refine yP 19 132 rfl (fun L_ w_ => by simp only [getD_set_ne true (show (19 : Nat) ≠ 21 by decide)]) hs394 (eI b397 0 x304.length c306 3 (IntKind.i64.wrap (t67.n + x303)) .i64 Try.underlying32 e399 q395 q396) ?_; intro hc400 hs401
      obtain ⟨y402, F403, r404, s405, k406⟩ := Row.at h308 e399 (getD_some z36 (show ((IntKind.i64.wrap (t67.n + x303))).toNat < x304.length by omega))
      obtain ⟨A407, c408, rfl, l409, h410⟩ := st36_open r404
      refine xO 20 hc400 ?_
      refine yP 20 133 rfl (fun L_ w_ => by simp only [getD_set_ne true (show (20 : Nat) ≠ 21 by decide)]) hs401 (e_loadS (b := b397) (off := 0 + ((IntKind.i64.wrap (t67.n + x303)) : Int).toNat * 3) (cs := [.int .i64 ((x304.getD (((IntKind.i64.wrap (t67.n + x303))).toNat) z36).kind), .int .i64 ((x304.getD (((IntKind.i64.wrap (t67.n + x303))).toNat) z36).n), .slice A407 ((x304.getD (((IntKind.i64.wrap (t67.n + x303))).toNat) z36).text).length c408]) Try.underlying36 rfl (by kernel_rfl) (by kernel_rfl) (fun j_ u_ e_ => (hpx (k406 j_ u_ e_)))) ?_; intro hc411 hs412
      have S415 := S335.pulls [F307, F312, (is g2), (is g226), (is g28), (is g23)] [2, 5, 5] rfl
      obtain ⟨t416, u417, M⟩ := bnd M
      refine xO 21 hc411 ?_
      refine yC 21 rfl (eC [.tmp 113, .tmp 123, .tmp 133] [.pointer (some ⟨g2, 0, none⟩), .agg #[.int .i64 ((x304.getD (((IntKind.i64.wrap (t44.n + x303))).toNat) z36).kind), .int .i64 ((x304.getD (((IntKind.i64.wrap (t44.n + x303))).toNat) z36).n), .slice A373 ((x304.getD (((IntKind.i64.wrap (t44.n + x303))).toNat) z36).text).length c374], .agg #[.int .i64 ((x304.getD (((IntKind.i64.wrap (t67.n + x303))).toNat) z36).kind), .int .i64 ((x304.getD (((IntKind.i64.wrap (t67.n + x303))).toNat) z36).n), .slice A407 ((x304.getD (((IntKind.i64.wrap (t67.n + x303))).toNat) z36).text).length c408]] Try.func63) (ih k325 (by omega) w334 H301 (⟨x304, x309, x314⟩ : GL10heap) g2 A305 c306 F307 A310 c311 F312 (x304.getD (((IntKind.i64.wrap (t44.n + x303))).toNat) z36) A373 c374 (x304.getD (((IntKind.i64.wrap (t67.n + x303))).toNat) z36) A407 c408 h308 h313 b74 h376 l375 h410 l409 (St.own' (Fa := [F307, F312, (is g2)]) (Fr := [(is g226), (is g28), (is g23)]) S415) t416 u417) ?_
      rintro hc430 _ w418 ⟨A421, c422, F424, A425, c426, F428, H419, rfl, h423, h427, b429, T420⟩
      refine ⟨_, rfl, ?_⟩
      obtain ⟨S431, K432⟩ := St.call (Fa := [F307, F312, (is g2)]) (Fr := [(is g226), (is g28), (is g23)]) S415 T420
      replace b233 := K432.blk 0 rfl b233
      replace b84 := K432.blk 1 rfl b84
      replace b61 := K432.blk 2 rfl b61
      have E433 := T420.ext
      refine ⟨⟨(Ext.trans E433 S431.inv), (fun b_ h_ => (K432.at 1 rfl b_ h_).trans (hs412.2.1 b_ h_)), (fun q_ => absurd q_ (by decide +kernel)), (fun b_ h_ => (K432.at 2 rfl b_ h_).trans (hs412.2.2.2.1 b_ h_)), (fun q_ => absurd q_ (by decide +kernel))⟩, fun hs434 => ?_⟩
      refine xO 22 hc430 ?_
      refine yP 22 10 rfl (fun L_ w_ => by simp only [getD_set_ne true (show (22 : Nat) ≠ 21 by decide)]) hs434 (eA (.int .i64 t416.1)) ?_; intro hc435 hs436
      refine xn (by kernel_rfl) ?_ _
      refine then_n (wp_seq (wR (lV 135 (eM (.int .i64 t416.1)) (lV 136 (eNe .i64 t416.1 0) (wN (then_n ?_))))))
      by_cases q437 : t416.1 ≠ 0
      · replace M := ifp q437 M
        refine cT (bT q437) (wp_seq (wR (lV 137 (eM (.int .i64 t416.1)) (lV 6 (eA (.int .i64 t416.1)) (wN (then_n (wp_ret ?_)))))))
        refine inb_r (then_r (then_r (inb_r (then_r ?_))))
        obtain rfl := Option.some.inj M
        have S440 := S431.pulls [(is g2), F424, F428, (is g226), (is g28), (is g23)] [2, 2, 2] rfl
        have S441 := St.first (Fa := [(is g2), F424, F428]) (Fr := [(is g226), (is g28), (is g23)]) S440
        exact ret1 rfl rfl  (show _ = .int .i64 t416.1 from (by kernel_rfl)) ⟨A421, c422, F424, A425, c426, F428, H419, rfl, h423, h427, b429, S441⟩
      replace M := ifn q437 M
      refine cF (bF q437) (wp_skip (inb_n (then_n (wR (lV 111 (eM (.int .i64 x303) (by exact e319)) (lV 112 (eAdd .i64 x303 1) (lV 9 (eA (.int .i64 (IntKind.i64.wrap (x303 + 1)))) ?_)))))))
      refine wN (then_n ?_)
      have S447 := S431.pulls [(is g226), (is g28), (is g2), (is g23), F424, F428] [2, 2, 5, 3, 5, 5] rfl
      exact ⟨k325, (by omega), _, H419, (IntKind.i64.wrap (x303 + 1)), t416.2.cells_, A421, c422, F424, t416.2.trail_, A425, c426, F428, t416.2.pairs_, (by omega), rfl, (by exact e315), (by exact e316), (by exact e317), (by exact e318), (by kernel_rfl), b233, b84, b429, b61, h423, h427, (Y302.trans E433), S447, M⟩
    replace M := ifn q333 M
    refine cF (bF q333) (wp_exit (then_e (then_e (inb_hit (then_n (wp_seq (wR ?_)))))))
    refine lV 6 (eA (.int .i64 0)) (wN (then_n (wp_ret ?_)))
    obtain rfl := Option.some.inj M
    have S450 := S320.pulls [(is g2), F307, F312, (is g226), (is g28), (is g23)] [5, 5, 4] rfl
    have S451 := St.first (Fa := [(is g2), F307, F312]) (Fr := [(is g226), (is g28), (is g23)]) S450
    exact ret1 rfl rfl  (show _ = .int .i64 0 from (by kernel_rfl)) ⟨A305, c306, F307, A310, c311, F312, H301, rfl, h308, h313, b74, S451⟩
theorem spec_l10unify_2.calls (k : Nat) (w : World) (H : Hp) (x1 : GL10heap) (g2 : Nat) (A4 : Option Addr) (c5 : Nat) (F7 : Foot) (A8 : Option Addr) (c9 : Nat) (F11 : Foot) (x12 : Cell) (A13 : Option Addr) (c14 : Nat) (x17 : Cell) (A18 : Option Addr) (c19 : Nat) (h6 : Row (ro st36) 36 H (hp w) F7 A4 c5 x1.cells_) (h10 : Row tInt 3 H (hp w) F11 A8 c9 x1.trail_) (b3 : w.heap[g2]? = some (.cells #[.slice A4 x1.cells_.length c5, .slice A8 x1.trail_.length c9, .int .i64 x1.pairs_] 91 (0, 0))) (h15 : Rd tByte H A13 x12.text) (l16 : x12.text.length ≤ c14) (h20 : Rd tByte H A18 x17.text) (l21 : x17.text.length ≤ c19) (S : Own [F7, F11, (is g2)] H w) (r : Int × GL10heap) (M : spec_l10unify_2.f k x1 x12 x17 = some r) :
    Calls Try.prog 63 #[.pointer (some ⟨g2, 0, none⟩), .agg #[.int .i64 x12.kind, .int .i64 x12.n, .slice A13 x12.text.length c14], .agg #[.int .i64 x17.kind, .int .i64 x17.n, .slice A18 x17.text.length c19]] w (fun e e_w => ∃ (A_1 : Option Addr) (c_1 : Nat) (F_1 : Foot) (A_2 : Option Addr) (c_2 : Nat) (F_2 : Foot) (H_ : Hp), e = .returned (.int .i64 r.1) ∧ Row (ro st36) 36 H_ (hp e_w) F_1 A_1 c_1 r.2.cells_ ∧ Row tInt 3 H_ (hp e_w) F_2 A_2 c_2 r.2.trail_ ∧ e_w.heap[g2]? = some (.cells #[.slice A_1 r.2.cells_.length c_1, .slice A_2 r.2.trail_.length c_2, .int .i64 r.2.pairs_] 91 (0, 0)) ∧ St (anyOf [F7, F11, (is g2)]) H w [(is g2), F_1, F_2] H_ e_w) := (spec_l10unify_2.all (k + 1)) k (Nat.lt_succ_self k) w H x1 g2 A4 c5 F7 A8 c9 F11 x12 A13 c14 x17 A18 c19 h6 h10 b3 h15 l16 h20 l21 S r M

/-! spec_l1copy -/
def spec_l1copy.f (x1 : List UInt8) : Option (List UInt8) := (if 0 + x1.length ≤ 140737488355328 then some x1 else none)
theorem spec_l1copy.calls (w : World) (H : Hp) (x1 : List UInt8) (A2 : Option Addr) (c3 : Nat) (h4 : Rd tByte H A2 x1) (l5 : x1.length ≤ c3) (S : Own [] H w) (r : List UInt8) (M : spec_l1copy.f x1 = some r) :
    Calls Try.prog 48 #[.slice A2 x1.length c3] w (fun e e_w => ∃ (A_1 : Option Addr) (c_1 : Nat) (F_1 : Foot) (H_ : Hp), e = .returned (.slice A_1 r.length c_1) ∧ Row tByte 5 H_ (hp e_w) F_1 A_1 c_1 r ∧ St (anyOf []) H w [F_1] H_ e_w) := by
  rw [spec_l1copy.f] at M
  refine enter (l := [.slice A2 x1.length c3]) 7 Try.func48 rfl rfl rfl ?_
  have S0_ := S.st
  refine wp_seq (wR (lV 2 (eA (.slice none 0 0)) (wN (then_n (wp_seq (wR (lV 3 (eA (.slice none 0 0)) ?_)))))))
  refine wN (then_n (wp_seq (wR (lV 4 (eM (.slice none 0 0)) (lV 5 (eM (.slice A2 x1.length c3)) ?_)))))
  obtain ⟨y6, h7, h8⟩ := Rd.news (d := tByte) (ro_scal _ _) S0_ h4
  obtain ⟨q9, M⟩ := chk M
  have S10 := S0_.unit
  have S11 := S10.unit
  have S12 := S11.pulls [no, no] [1] rfl
  refine lW 6 (e_append (d := tByte) (n := 0) (xs := []) (cap := 0) (A := none) (ys := x1) (A2 := A2) (c2 := c3) (z := .int .u8 0) (bytes := 1) S12 Try.underlying26 (by kernel_rfl) rfl (by decide) (by kernel_rfl) rfl (by kernel_rfl) (Row.nil _ _ _ _ no) h7 h8 (show (0 + x1.length) * 1 ≤ _ by first | omega | (simp only [List.length_cons, List.length_nil]; omega)) (by decide)) ?_
  rintro _ w13 ⟨A14, c15, F16, rfl, h17, S18, K19⟩
  replace h17 : Row tByte 5 H (hp w13) F16 A14 c15 x1 := h17
  refine lV 2 (eA (.slice A14 x1.length c15)) (wN (then_n (wp_ret ?_)))
  obtain rfl := Option.some.inj M
  exact ret1 rfl rfl  (show _ = .slice A14 x1.length c15 from (by kernel_rfl)) ⟨A14, c15, F16, H, rfl, h17, S18⟩

/-! spec_l10close -/
def spec_l10close.l0 : Nat → GL10heap → Int → (List Cell) → Option Store
  | 0, _, _, _ => none
  | k41 + 1, x1, x26, x27 => (if x26 < (x1.cells_.length : Int) then (if 0 ≤ x26 then ((spec_l1copy.f ((x1.cells_.getD ((x26).toNat) z36).text)).bind fun t128 => (if x27.length + 1 ≤ 3518437208883 then (spec_l10close.l0 k41 x1 (IntKind.i64.wrap (x26 + 1)) (x27 ++ [(⟨(x1.cells_.getD ((x26).toNat) z36).kind, (x1.cells_.getD ((x26).toNat) z36).n, t128⟩ : Cell)])) else none)) else none) else (if 0 + x1.trail_.length ≤ 17592186044416 then some (⟨x27, x1.trail_⟩ : Store) else none))
def spec_l10close.f (k : Nat) (x1 : GL10heap) : Option Store := (spec_l10close.l0 k x1 0 [])
theorem spec_l10close.calls (k : Nat) (w : World) (H : Hp) (x1 : GL10heap) (g2 : Nat) (A4 : Option Addr) (c5 : Nat) (F7 : Foot) (A8 : Option Addr) (c9 : Nat) (F11 : Foot) (h6 : Row (ro st36) 36 H (hp w) F7 A4 c5 x1.cells_) (h10 : Row tInt 3 H (hp w) F11 A8 c9 x1.trail_) (b3 : w.heap[g2]? = some (.cells #[.slice A4 x1.cells_.length c5, .slice A8 x1.trail_.length c9, .int .i64 x1.pairs_] 91 (0, 0))) (S : Own [F7, F11, (is g2)] H w) (r : Store) (M : spec_l10close.f k x1 = some r) :
    Calls Try.prog 57 #[.pointer (some ⟨g2, 0, none⟩)] w (fun e e_w => ∃ (A_1 : Option Addr) (c_1 : Nat) (F_1 : Foot) (A_2 : Option Addr) (c_2 : Nat) (F_2 : Foot) (H_ : Hp), e = .returned (.agg #[.slice A_1 r.cells.length c_1, .slice A_2 r.trail.length c_2]) ∧ Row (ro st36) 36 H_ (hp e_w) F7 A4 c5 x1.cells_ ∧ Row tInt 3 H_ (hp e_w) F11 A8 c9 x1.trail_ ∧ e_w.heap[g2]? = some (.cells #[.slice A4 x1.cells_.length c5, .slice A8 x1.trail_.length c9, .int .i64 x1.pairs_] 91 (0, 0)) ∧ Row st36 36 H_ (hp e_w) F_1 A_1 c_1 r.cells ∧ Row tInt 3 H_ (hp e_w) F_2 A_2 c_2 r.trail ∧ St (anyOf [F7, F11, (is g2)]) H w [F7, F11, (is g2), F_1, F_2] H_ e_w) := by
  rw [spec_l10close.f] at M
  refine enter (l := [.pointer (some ⟨g2, 0, none⟩)]) 54 Try.func57 rfl rfl rfl ?_
  have S0_ := S.st
  refine wp_seq (wR ?_)
  refine lW 2 (nB #[.slice none 0 0, .slice none 0 0] 34 S0_) ?_
  rintro _ w12 ⟨g13, rfl, b14, S15, K16⟩
  replace h6 := h6.move (K16.at 0 rfl)
  replace h10 := h10.move (K16.at 1 rfl)
  replace b3 := K16.blk 2 rfl b3
  refine wN (then_n (wp_seq (wR ?_)))
  refine lW 3 (nB #[.slice none 0 0, .slice none 0 0] 34 S15) ?_
  rintro _ w17 ⟨g18, rfl, b19, S20, K21⟩
  replace b14 := K21.blk 0 rfl b14
  replace h6 := h6.move (K21.at 1 rfl)
  replace h10 := h10.move (K21.at 2 rfl)
  replace b3 := K21.blk 3 rfl b3
  refine wN (then_n (wp_seq (wp_seq (wR (lV 4 (eA (.int .i64 0)) (wN (then_n ?_)))))))
  refine wp_block ?_
  have S42 := S20.unit
  have S47 := S42.pulls [(is g18), (is g13), F7, F11, (is g2), no] [5, 5, 5, 5, 5] rfl
  refine wp_loop_g (fun k39 a40 w22 => ∃ (f23 : Nat → Value) (H24 : Hp) (x26 : Int) (x27 : List Cell) (A28 : Option Addr) (c29 : Nat) (F30 : Foot), a40 = mk 54 f23 ∧ f23 0 = .pointer (some ⟨g2, 0, none⟩) ∧ f23 2 = .pointer (some ⟨g13, 0, none⟩) ∧ f23 3 = .pointer (some ⟨g18, 0, none⟩) ∧ f23 4 = .int .i64 x26 ∧ w22.heap[g18]? = some (.cells #[.slice A28 x27.length c29, .slice none 0 0] 34 (0, 0)) ∧ w22.heap[g13]? = some (.cells #[.slice none 0 0, .slice none 0 0] 34 (0, 0)) ∧ Row (ro st36) 36 H24 (hp w22) F7 A4 c5 x1.cells_ ∧ Row tInt 3 H24 (hp w22) F11 A8 c9 x1.trail_ ∧ w22.heap[g2]? = some (.cells #[.slice A4 x1.cells_.length c5, .slice A8 x1.trail_.length c9, .int .i64 x1.pairs_] 91 (0, 0)) ∧ Row st36 36 H24 (hp w22) F30 A28 c29 x27 ∧ Ext H H24 ∧ St (anyOf [F7, F11, (is g2)]) H w [(is g18), (is g13), F7, F11, (is g2), F30] H24 w22 ∧ spec_l10close.l0 k39 x1 x26 x27 = some r) k ⟨_, H, 0, [], none, 0, no, rfl, (by kernel_rfl), (by kernel_rfl), (by kernel_rfl), (by kernel_rfl), b19, b14, h6, h10, b3, (Row.nil _ _ _ _ _), (Ext.refl _), S47, M⟩ ?_
  clear M
  rintro k39 a40 w22 ⟨f23, H24, x26, x27, A28, c29, F30, rfl, e32, e33, e34, e35, b19, b14, h6, h10, b3, h31, Y25, S36, M⟩
  rcases k39 with _ | k41
  · rw [spec_l10close.l0] at M
    cases M
  rw [spec_l10close.l0] at M
  refine wp_seq (wp_seq (wR (lV 5 (eM (.int .i64 x26) (by exact e35)) (lV 6 (eM (.pointer (some ⟨g2, 0, none⟩)) (by exact e32)) (lV 7 (eN ⟨g2, 0, none⟩) (lV 8 (eD g2 0 0 1 Try.underlying91) (lV 9 (eL ⟨g2, 0 + 0, none⟩ (.slice A4 x1.cells_.length c5) Try.underlying32 (blk_cell b3 rfl)) ?_)))))))
  refine lV 10 (e_len (A := A4) (n := x1.cells_.length) (c := c5) Try.underlying32 (by kernel_rfl)) (lV 11 (eLt .i64 x26 (x1.cells_.length : Int)) (wN (then_n ?_)))
  by_cases q48 : x26 < (x1.cells_.length : Int)
  · replace M := ifp q48 M
    refine cT (bT q48) (wp_skip (then_n (wp_seq (wp_block ?_))))
    refine region_mix (S := (fun (L_ : Array Bool) (w_ : World) => Ext H24 (hp w_) ∧ (L_.getD 31 true = false → (∀ b_, (is g18) b_ → hp w_ b_ = hp w22 b_)) ∧ (∀ b_, F7 b_ → hp w_ b_ = hp w22 b_) ∧ (∀ b_, (is g2) b_ → hp w_ b_ = hp w22 b_))) (by kernel_rfl) S36 ?_
    intro w49 S50 K51 hc52
    have o53 := b19
    have o54 := h6
    have o55 := b3
    have hs56 : (fun (L_ : Array Bool) (w_ : World) => Ext H24 (hp w_) ∧ (L_.getD 31 true = false → (∀ b_, (is g18) b_ → hp w_ b_ = hp w22 b_)) ∧ (∀ b_, F7 b_ → hp w_ b_ = hp w22 b_) ∧ (∀ b_, (is g2) b_ → hp w_ b_ = hp w22 b_)) (Array.replicate 32 false) w49 := ⟨S50.inv, (fun _ => (fun b_ h_ => K51.at 0 rfl b_ h_)), (fun b_ h_ => K51.at 2 rfl b_ h_), (fun b_ h_ => K51.at 4 rfl b_ h_)⟩
    replace b19 := K51.blk 0 rfl b19
    replace b14 := K51.blk 1 rfl b14
    replace h6 := h6.move (K51.at 2 rfl)
    replace h10 := h10.move (K51.at 3 rfl)
    replace b3 := K51.blk 4 rfl b3
    replace h31 := h31.move (K51.at 5 rfl)
    refine xW 0 14 rfl (fun L_ w_ => by simp only [getD_set_ne true (show (0 : Nat) ≠ 31 by decide)]) hc52 hs56 (fun L_ w_ hc_ hu_ hs_ => eD g18 0 0 1 Try.underlying34 (by exact e34)) ?_; intro hc57 hs58
    refine xW 1 15 rfl (fun L_ w_ => by simp only [getD_set_ne true (show (1 : Nat) ≠ 31 by decide)]) hc57 hs58 (fun L_ w_ hc_ hu_ hs_ => eL ⟨g18, 0 + 0, none⟩ (.slice A28 x27.length c29) Try.underlying32 (blk_cell (((hs_.2.1 (unl 9 31 1 hc_ hu_ (by kernel_rfl))) _ rfl).trans o53) rfl)) ?_; intro hc59 hs60
    refine xW 2 16 rfl (fun L_ w_ => by simp only [getD_set_ne true (show (2 : Nat) ≠ 31 by decide)]) hc59 hs60 (fun L_ w_ hc_ hu_ hs_ => eM (.pointer (some ⟨g2, 0, none⟩)) (by exact e32)) ?_; intro hc61 hs62
    refine xW 3 17 rfl (fun L_ w_ => by simp only [getD_set_ne true (show (3 : Nat) ≠ 31 by decide)]) hc61 hs62 (fun L_ w_ hc_ hu_ hs_ => eN ⟨g2, 0, none⟩) ?_; intro hc63 hs64
    refine xW 4 18 rfl (fun L_ w_ => by simp only [getD_set_ne true (show (4 : Nat) ≠ 31 by decide)]) hc63 hs64 (fun L_ w_ hc_ hu_ hs_ => eD g2 0 0 1 Try.underlying91) ?_; intro hc65 hs66
    refine xW 5 19 rfl (fun L_ w_ => by simp only [getD_set_ne true (show (5 : Nat) ≠ 31 by decide)]) hc65 hs66 (fun L_ w_ hc_ hu_ hs_ => eL ⟨g2, 0 + 0, none⟩ (.slice A4 x1.cells_.length c5) Try.underlying32 (blk_cell ((hs_.2.2.2 _ rfl).trans o55) rfl)) ?_; intro hc67 hs68
    refine xW 6 20 rfl (fun L_ w_ => by simp only [getD_set_ne true (show (6 : Nat) ≠ 31 by decide)]) hc67 hs68 (fun L_ w_ hc_ hu_ hs_ => eM (.int .i64 x26) (by exact e35)) ?_; intro hc69 hs70
    obtain ⟨q71, M⟩ := chk M
    obtain ⟨b72, e74⟩ := Row.addr h6 (show (x26).toNat < x1.cells_.length by omega)
    refine xW 7 21 rfl (fun L_ w_ => by simp only [getD_set_ne true (show (7 : Nat) ≠ 31 by decide)]) hc69 hs70 (fun L_ w_ hc_ hu_ hs_ => eI b72 0 x1.cells_.length c5 3 x26 .i64 Try.underlying32 e74 q71 q48) ?_; intro hc75 hs76
    refine xW 8 22 rfl (fun L_ w_ => by simp only [getD_set_ne true (show (8 : Nat) ≠ 31 by decide)]) hc75 hs76 (fun L_ w_ hc_ hu_ hs_ => eD b72 (0 + (x26 : Int).toNat * 3) 0 1 Try.underlying36) ?_; intro hc77 hs78
    refine xW 9 23 rfl (fun L_ w_ => by simp only [getD_set_ne true (show (9 : Nat) ≠ 31 by decide)]) hc77 hs78 (fun L_ w_ hc_ hu_ hs_ => eL ⟨b72, 0 + (x26 : Int).toNat * 3 + 0, none⟩ (.int .i64 ((x1.cells_.getD ((x26).toNat) z36).kind)) Try.underlying3 (hpx (Row.pick (j := 0) (u := .int .i64 ((x1.cells_.getD ((x26).toNat) z36).kind)) (o54.move hs_.2.2.1) e74 (getD_some z36 (show (x26).toNat < x1.cells_.length by omega)) (fun _ _ o_ => st36_r0 o_)))) ?_; intro hc79 hs80
    refine xW 10 24 rfl (fun L_ w_ => by simp only [getD_set_ne true (show (10 : Nat) ≠ 31 by decide)]) hc79 hs80 (fun L_ w_ hc_ hu_ hs_ => eM (.pointer (some ⟨g2, 0, none⟩)) (by exact e32)) ?_; intro hc81 hs82
    refine xW 11 25 rfl (fun L_ w_ => by simp only [getD_set_ne true (show (11 : Nat) ≠ 31 by decide)]) hc81 hs82 (fun L_ w_ hc_ hu_ hs_ => eN ⟨g2, 0, none⟩) ?_; intro hc83 hs84
    refine xW 12 26 rfl (fun L_ w_ => by simp only [getD_set_ne true (show (12 : Nat) ≠ 31 by decide)]) hc83 hs84 (fun L_ w_ hc_ hu_ hs_ => eD g2 0 0 1 Try.underlying91) ?_; intro hc85 hs86
    refine xW 13 27 rfl (fun L_ w_ => by simp only [getD_set_ne true (show (13 : Nat) ≠ 31 by decide)]) hc85 hs86 (fun L_ w_ hc_ hu_ hs_ => eL ⟨g2, 0 + 0, none⟩ (.slice A4 x1.cells_.length c5) Try.underlying32 (blk_cell ((hs_.2.2.2 _ rfl).trans o55) rfl)) ?_; intro hc87 hs88
    refine xW 14 28 rfl (fun L_ w_ => by simp only [getD_set_ne true (show (14 : Nat) ≠ 31 by decide)]) hc87 hs88 (fun L_ w_ hc_ hu_ hs_ => eM (.int .i64 x26) (by exact e35)) ?_; intro hc89 hs90
    obtain ⟨b91, e93⟩ := Row.addr h6 (show (x26).toNat < x1.cells_.length by omega)
    refine xW 15 29 rfl (fun L_ w_ => by simp only [getD_set_ne true (show (15 : Nat) ≠ 31 by decide)]) hc89 hs90 (fun L_ w_ hc_ hu_ hs_ => eI b91 0 x1.cells_.length c5 3 x26 .i64 Try.underlying32 e93 q71 q48) ?_; intro hc94 hs95
    refine xW 16 30 rfl (fun L_ w_ => by simp only [getD_set_ne true (show (16 : Nat) ≠ 31 by decide)]) hc94 hs95 (fun L_ w_ hc_ hu_ hs_ => eD b91 (0 + (x26 : Int).toNat * 3) 1 1 Try.underlying36) ?_; intro hc96 hs97
    refine xW 17 31 rfl (fun L_ w_ => by simp only [getD_set_ne true (show (17 : Nat) ≠ 31 by decide)]) hc96 hs97 (fun L_ w_ hc_ hu_ hs_ => eL ⟨b91, 0 + (x26 : Int).toNat * 3 + 1, none⟩ (.int .i64 ((x1.cells_.getD ((x26).toNat) z36).n)) Try.underlying3 (hpx (Row.pick (j := 1) (u := .int .i64 ((x1.cells_.getD ((x26).toNat) z36).n)) (o54.move hs_.2.2.1) e93 (getD_some z36 (show (x26).toNat < x1.cells_.length by omega)) (fun _ _ o_ => st36_r1 o_)))) ?_; intro hc98 hs99
    refine xW 18 32 rfl (fun L_ w_ => by simp only [getD_set_ne true (show (18 : Nat) ≠ 31 by decide)]) hc98 hs99 (fun L_ w_ hc_ hu_ hs_ => eM (.pointer (some ⟨g2, 0, none⟩)) (by exact e32)) ?_; intro hc100 hs101
    refine xW 19 33 rfl (fun L_ w_ => by simp only [getD_set_ne true (show (19 : Nat) ≠ 31 by decide)]) hc100 hs101 (fun L_ w_ hc_ hu_ hs_ => eN ⟨g2, 0, none⟩) ?_; intro hc102 hs103
    refine xW 20 34 rfl (fun L_ w_ => by simp only [getD_set_ne true (show (20 : Nat) ≠ 31 by decide)]) hc102 hs103 (fun L_ w_ hc_ hu_ hs_ => eD g2 0 0 1 Try.underlying91) ?_; intro hc104 hs105
    refine xW 21 35 rfl (fun L_ w_ => by simp only [getD_set_ne true (show (21 : Nat) ≠ 31 by decide)]) hc104 hs105 (fun L_ w_ hc_ hu_ hs_ => eL ⟨g2, 0 + 0, none⟩ (.slice A4 x1.cells_.length c5) Try.underlying32 (blk_cell ((hs_.2.2.2 _ rfl).trans o55) rfl)) ?_; intro hc106 hs107
    refine xO 22 hc106 ?_
    refine yP 22 36 rfl (fun L_ w_ => by simp only [getD_set_ne true (show (22 : Nat) ≠ 31 by decide)]) hs107 (eM (.int .i64 x26) (by exact e35)) ?_; intro hc108 hs109
    obtain ⟨b110, e112⟩ := Row.addr h6 (show (x26).toNat < x1.cells_.length by omega)
    refine xO 23 hc108 ?_
    refine yP 23 37 rfl (fun L_ w_ => by simp only [getD_set_ne true (show (23 : Nat) ≠ 31 by decide)]) hs109 (eI b110 0 x1.cells_.length c5 3 x26 .i64 Try.underlying32 e112 q71 q48) ?_; intro hc113 hs114
    refine xO 24 hc113 ?_
    refine yP 24 38 rfl (fun L_ w_ => by simp only [getD_set_ne true (show (24 : Nat) ≠ 31 by decide)]) hs114 (eD b110 (0 + (x26 : Int).toNat * 3) 2 1 Try.underlying36) ?_; intro hc115 hs116
    obtain ⟨y117, F118, r119, s120, k121⟩ := Row.at h6 e112 (getD_some z36 (show (x26).toNat < x1.cells_.length by omega))
    obtain ⟨A122, c123, rfl, l124, h125⟩ := st36_open r119
    refine xO 25 hc115 ?_
    refine yP 25 39 rfl (fun L_ w_ => by simp only [getD_set_ne true (show (25 : Nat) ≠ 31 by decide)]) hs116 (eL ⟨b110, 0 + (x26 : Int).toNat * 3 + 2, none⟩ (.slice A122 ((x1.cells_.getD ((x26).toNat) z36).text).length c123) Try.underlying26 (hpx (k121 2 _ rfl))) ?_; intro hc126 hs127
    obtain ⟨t128, u129, M⟩ := bnd M
    refine xO 26 hc126 ?_
    refine yC 26 rfl (eC [.tmp 39] [.slice A122 ((x1.cells_.getD ((x26).toNat) z36).text).length c123] Try.func48) (spec_l1copy.calls w49 H24 ((x1.cells_.getD ((x26).toNat) z36).text) A122 c123 h125 l124 (St.own' (Fa := []) (Fr := [(is g18), (is g13), F7, F11, (is g2), F30]) S50) t128 u129) ?_
    rintro hc137 _ w130 ⟨A133, c134, F136, H131, rfl, h135, T132⟩
    refine ⟨_, rfl, ?_⟩
    obtain ⟨S138, K139⟩ := St.call (Fa := []) (Fr := [(is g18), (is g13), F7, F11, (is g2), F30]) S50 T132
    replace b19 := K139.blk 0 rfl b19
    replace b14 := K139.blk 1 rfl b14
    replace h6 := h6.move (K139.at 2 rfl)
    replace h10 := h10.move (K139.at 3 rfl)
    replace b3 := K139.blk 4 rfl b3
    replace h31 := h31.move (K139.at 5 rfl)
    have E140 := T132.ext
    replace h6 := h6.ext E140
    replace h10 := h10.ext E140
    replace h31 := h31.ext E140
    refine ⟨⟨(Ext.trans E140 S138.inv), (fun q_ => (fun b_ h_ => (K139.at 0 rfl b_ h_).trans ((hs127.2.1 (by decide +kernel)) b_ h_))), (fun b_ h_ => (K139.at 2 rfl b_ h_).trans (hs127.2.2.1 b_ h_)), (fun b_ h_ => (K139.at 4 rfl b_ h_).trans (hs127.2.2.2 b_ h_))⟩, fun hs141 => ?_⟩
    refine xO 27 hc137 ?_
    refine yP 27 41 rfl (fun L_ w_ => by simp only [getD_set_ne true (show (27 : Nat) ≠ 31 by decide)]) hs141 (show _ = Result.ok (Next.value (.agg #[.int .i64 ((x1.cells_.getD ((x26).toNat) z36).kind), .int .i64 ((x1.cells_.getD ((x26).toNat) z36).n), .slice A133 t128.length c134])) w130 from by kernel_rfl) ?_; intro hc142 hs143
    refine xO 28 hc142 ?_
    refine yE 28 42 rfl (new_blk (v := fun g_ => .slice (some ⟨g_, 0, none⟩) 1 1) (cs := #[.int .i64 ((x1.cells_.getD ((x26).toNat) z36).kind), .int .i64 ((x1.cells_.getD ((x26).toNat) z36).n), .slice A133 t128.length c134]) (t := 36) S138 (by kernel_rfl)) ?_
    rintro hc149 _ w144 ⟨g145, rfl, b146, S147, K148⟩
    replace h135 := h135.move (K148.at 0 rfl)
    replace b19 := K148.blk 1 rfl b19
    replace b14 := K148.blk 2 rfl b14
    replace h6 := h6.move (K148.at 3 rfl)
    replace h10 := h10.move (K148.at 4 rfl)
    replace b3 := K148.blk 5 rfl b3
    replace h31 := h31.move (K148.at 6 rfl)
    refine ⟨⟨(Ext.trans E140 S147.inv), (fun q_ => (fun b_ h_ => (K148.at 1 rfl b_ h_).trans ((hs143.2.1 (by decide +kernel)) b_ h_))), (fun b_ h_ => (K148.at 3 rfl b_ h_).trans (hs143.2.2.1 b_ h_)), (fun b_ h_ => (K148.at 5 rfl b_ h_).trans (hs143.2.2.2 b_ h_))⟩, fun hs150 => ?_⟩
    obtain ⟨q151, M⟩ := chk M
    have S153 := S147.pulls [F30, F136, (is g145), (is g18), (is g13), F7, F11, (is g2)] [1, 7] rfl
    refine xO 29 hc149 ?_
    refine yE 29 43 rfl (e_append (d := st36) (n := x27.length) (xs := x27) (cap := c29) (A := A28) (ys := [(⟨(x1.cells_.getD ((x26).toNat) z36).kind, (x1.cells_.getD ((x26).toNat) z36).n, t128⟩ : Cell)]) (A2 := (some ⟨g145, 0, none⟩)) (c2 := 1) (z := .agg #[.int .i64 0, .int .i64 0, .slice none 0 0]) (bytes := 40) S153 Try.underlying32 (by kernel_rfl) rfl (by decide) (by kernel_rfl) rfl (by kernel_rfl) h31 (elsO_one1 (st36_mkO (x := (⟨(x1.cells_.getD ((x26).toNat) z36).kind, (x1.cells_.getD ((x26).toNat) z36).n, t128⟩ : Cell)) h135)) (.inr (blk_news b146 rfl)) (show (x27.length + [(⟨(x1.cells_.getD ((x26).toNat) z36).kind, (x1.cells_.getD ((x26).toNat) z36).n, t128⟩ : Cell)].length) * 40 ≤ _ by first | omega | (simp only [List.length_cons, List.length_nil]; omega)) (by decide)) ?_
    rintro hc161 _ w154 ⟨A155, c156, F157, rfl, h158, S159, K160⟩
    replace b19 := K160.blk 1 rfl b19
    replace b14 := K160.blk 2 rfl b14
    replace h6 := h6.move (K160.at 3 rfl)
    replace h10 := h10.move (K160.at 4 rfl)
    replace b3 := K160.blk 5 rfl b3
    refine ⟨⟨(Ext.trans E140 S159.inv), (fun q_ => (fun b_ h_ => (K160.at 1 rfl b_ h_).trans ((hs150.2.1 (by decide +kernel)) b_ h_))), (fun b_ h_ => (K160.at 3 rfl b_ h_).trans (hs150.2.2.1 b_ h_)), (fun b_ h_ => (K160.at 5 rfl b_ h_).trans (hs150.2.2.2 b_ h_))⟩, fun hs162 => ?_⟩
    refine xO 30 hc161 ?_
    refine yP 30 44 rfl (fun L_ w_ => by simp only [getD_set_ne true (show (30 : Nat) ≠ 31 by decide)]) hs162 (eD g18 0 0 1 Try.underlying34 (by exact e34)) ?_; intro hc163 hs164
    have S165 := S159.pulls [(is g18), F157, (is g145), (is g13), F7, F11, (is g2)] [2] rfl
    refine xO 31 hc163 ?_
    refine yS 31 rfl (eS g18 (0 + 0) (.slice A155 ((x27 ++ [(⟨(x1.cells_.getD ((x26).toNat) z36).kind, (x1.cells_.getD ((x26).toNat) z36).n, t128⟩ : Cell)]).length) c156) #[.slice A155 ((x27 ++ [(⟨(x1.cells_.getD ((x26).toNat) z36).kind, (x1.cells_.getD ((x26).toNat) z36).n, t128⟩ : Cell)]).length) c156, .slice none 0 0] [.slice A155 ((x27 ++ [(⟨(x1.cells_.getD ((x26).toNat) z36).kind, (x1.cells_.getD ((x26).toNat) z36).n, t128⟩ : Cell)]).length) c156] S165 b19) ?_
    rintro hc170 w166 ⟨b167, S168, K169⟩
    replace h158 := h158.move (K169.at 0 rfl)
    replace b14 := K169.blk 2 rfl b14
    replace h6 := h6.move (K169.at 3 rfl)
    replace h10 := h10.move (K169.at 4 rfl)
    replace b3 := K169.blk 5 rfl b3
    refine ⟨⟨(Ext.trans E140 S168.inv), (fun q_ => absurd q_ (by decide +kernel)), (fun b_ h_ => (K169.at 3 rfl b_ h_).trans (hs164.2.2.1 b_ h_)), (fun b_ h_ => (K169.at 5 rfl b_ h_).trans (hs164.2.2.2 b_ h_))⟩, fun hs171 => ?_⟩
    clear b19
    refine xn (by kernel_rfl) ?_ _
    refine inb_n (then_n (wR (lV 12 (eM (.int .i64 x26) (by exact e35)) (lV 13 (eAdd .i64 x26 1) (lV 4 (eA (.int .i64 (IntKind.i64.wrap (x26 + 1)))) (wN (then_n ?_)))))))
    have S177 := S168.pulls [(is g18), (is g13), F7, F11, (is g2), F157, (is g145)] [1, 6, 6, 6, 6, 5] rfl
    have S178 := St.first (Fa := [(is g18), (is g13), F7, F11, (is g2), F157]) (Fr := [(is g145)]) S177
    exact ⟨k41, (by omega), _, H131, (IntKind.i64.wrap (x26 + 1)), (x27 ++ [(⟨(x1.cells_.getD ((x26).toNat) z36).kind, (x1.cells_.getD ((x26).toNat) z36).n, t128⟩ : Cell)]), A155, c156, F157, rfl, (by exact e32), (by exact e33), (by exact e34), (by kernel_rfl), b167, b14, h6, h10, b3, h158, (Y25.trans E140), S178, M⟩
  replace M := ifn q48 M
  refine cF (bF q48) (wp_exit (then_e (then_e (inb_hit (then_n (wp_seq ?_))))))
  refine region_mix (S := (fun (L_ : Array Bool) (w_ : World) => Ext H24 (hp w_) ∧ (L_.getD 8 true = false → (∀ b_, (is g18) b_ → hp w_ b_ = hp w22 b_)))) (by kernel_rfl) S36 ?_
  intro w179 S180 K181 hc182
  have o183 := b19
  have hs184 : (fun (L_ : Array Bool) (w_ : World) => Ext H24 (hp w_) ∧ (L_.getD 8 true = false → (∀ b_, (is g18) b_ → hp w_ b_ = hp w22 b_))) (Array.replicate 9 false) w179 := ⟨S180.inv, (fun _ => (fun b_ h_ => K181.at 0 rfl b_ h_))⟩
  replace b19 := K181.blk 0 rfl b19
  replace b14 := K181.blk 1 rfl b14
  replace h6 := h6.move (K181.at 2 rfl)
  replace h10 := h10.move (K181.at 3 rfl)
  replace b3 := K181.blk 4 rfl b3
  replace h31 := h31.move (K181.at 5 rfl)
  refine xW 0 45 rfl (fun L_ w_ => by simp only [getD_set_ne true (show (0 : Nat) ≠ 8 by decide)]) hc182 hs184 (fun L_ w_ hc_ hu_ hs_ => eD g18 0 1 1 Try.underlying34 (by exact e34)) ?_; intro hc185 hs186
  refine xW 1 46 rfl (fun L_ w_ => by simp only [getD_set_ne true (show (1 : Nat) ≠ 8 by decide)]) hc185 hs186 (fun L_ w_ hc_ hu_ hs_ => eL ⟨g18, 0 + 1, none⟩ (.slice none 0 0) Try.underlying23 (blk_cell (((hs_.2 (unl 9 8 1 hc_ hu_ (by kernel_rfl))) _ rfl).trans o183) rfl)) ?_; intro hc187 hs188
  refine xO 2 hc187 ?_
  refine yP 2 47 rfl (fun L_ w_ => by simp only [getD_set_ne true (show (2 : Nat) ≠ 8 by decide)]) hs188 (eM (.pointer (some ⟨g2, 0, none⟩)) (by exact e32)) ?_; intro hc189 hs190
  refine xO 3 hc189 ?_
  refine yP 3 48 rfl (fun L_ w_ => by simp only [getD_set_ne true (show (3 : Nat) ≠ 8 by decide)]) hs190 (eN ⟨g2, 0, none⟩) ?_; intro hc191 hs192
  refine xO 4 hc191 ?_
  refine yP 4 49 rfl (fun L_ w_ => by simp only [getD_set_ne true (show (4 : Nat) ≠ 8 by decide)]) hs192 (eD g2 0 1 1 Try.underlying91) ?_; intro hc193 hs194
  refine xO 5 hc193 ?_
  refine yP 5 50 rfl (fun L_ w_ => by simp only [getD_set_ne true (show (5 : Nat) ≠ 8 by decide)]) hs194 (eL ⟨g2, 0 + 1, none⟩ (.slice A8 x1.trail_.length c9) Try.underlying23 (blk_cell b3 rfl)) ?_; intro hc195 hs196
  obtain ⟨y197, h198, h199⟩ := Row.news0 (d := tInt) (oo_scal _ _) h10
  obtain ⟨q200, M⟩ := chk M
  have S201 := S180.unit
  have S202 := S201.unit
  have S203 := S202.pulls [no, no, (is g18), (is g13), F7, F11, (is g2), F30] [1] rfl
  refine xO 6 hc195 ?_
  refine yE 6 51 rfl (e_append (d := tInt) (n := 0) (xs := []) (cap := 0) (A := none) (ys := x1.trail_) (A2 := A8) (c2 := c9) (z := .int .i64 0) (bytes := 8) S203 Try.underlying23 (by kernel_rfl) rfl (by decide) (by kernel_rfl) rfl (by kernel_rfl) (Row.nil _ _ _ _ no) h198 h199 (show (0 + x1.trail_.length) * 8 ≤ _ by first | omega | (simp only [List.length_cons, List.length_nil]; omega)) (by decide)) ?_
  rintro hc211 _ w204 ⟨A205, c206, F207, rfl, h208, S209, K210⟩
  replace b19 := K210.blk 0 rfl b19
  replace b14 := K210.blk 1 rfl b14
  replace h6 := h6.move (K210.at 2 rfl)
  replace h10 := h10.move (K210.at 3 rfl)
  replace b3 := K210.blk 4 rfl b3
  replace h31 := h31.move (K210.at 5 rfl)
  refine ⟨⟨S209.inv, (fun q_ => (fun b_ h_ => (K210.at 0 rfl b_ h_).trans ((hs196.2 (by decide +kernel)) b_ h_)))⟩, fun hs212 => ?_⟩
  replace h208 : Row tInt 3 H24 (hp w204) F207 A205 c206 x1.trail_ := h208
  refine xO 7 hc211 ?_
  refine yP 7 52 rfl (fun L_ w_ => by simp only [getD_set_ne true (show (7 : Nat) ≠ 8 by decide)]) hs212 (eD g18 0 1 1 Try.underlying34 (by exact e34)) ?_; intro hc213 hs214
  have S215 := S209.pulls [(is g18), F207, (is g13), F7, F11, (is g2), F30] [1] rfl
  refine xO 8 hc213 ?_
  refine yS 8 rfl (eS g18 (0 + 1) (.slice A205 x1.trail_.length c206) #[.slice A28 x27.length c29, .slice A205 x1.trail_.length c206] [.slice A205 x1.trail_.length c206] S215 b19) ?_
  rintro hc220 w216 ⟨b217, S218, K219⟩
  replace h208 := h208.move (K219.at 0 rfl)
  replace b14 := K219.blk 1 rfl b14
  replace h6 := h6.move (K219.at 2 rfl)
  replace h10 := h10.move (K219.at 3 rfl)
  replace b3 := K219.blk 4 rfl b3
  replace h31 := h31.move (K219.at 5 rfl)
  refine ⟨⟨S218.inv, (fun q_ => absurd q_ (by decide +kernel))⟩, fun hs221 => ?_⟩
  clear b19
  refine xn (by kernel_rfl) ?_ _
  refine then_n (wp_seq (wR (lV 53 (e_loadS (b := g18) (off := 0) (cs := [.slice A28 x27.length c29, .slice A205 x1.trail_.length c206]) Try.underlying34 rfl (by kernel_rfl) (by exact e34) (blk_cells b217 rfl)) ?_)))
  have S222 := S218.pulls [(is g13), (is g18), F207, F7, F11, (is g2), F30] [2] rfl
  refine lE (eSa g13 0 [.slice A28 x27.length c29, .slice A205 x1.trail_.length c206] S222 b14 (by exact e33)) ?_
  rintro w223 ⟨b224, S225, K226⟩
  replace h208 := h208.move (K226.at 1 rfl)
  replace h6 := h6.move (K226.at 2 rfl)
  replace h10 := h10.move (K226.at 3 rfl)
  replace b3 := K226.blk 4 rfl b3
  replace h31 := h31.move (K226.at 5 rfl)
  clear b14
  refine wN (then_n (wp_ret ?_))
  obtain rfl := Option.some.inj M
  have S231 := S225.pulls [F7, F11, (is g2), F30, F207, (is g13), (is g18)] [2, 6, 6, 6, 6] rfl
  have S232 := St.first (Fa := [F7, F11, (is g2), F30, F207]) (Fr := [(is g13), (is g18)]) S231
  exact retS (ty := 34) (cur := #[.slice A28 x27.length c29, .slice A205 x1.trail_.length c206]) rfl rfl (by exact e33) b224 Try.underlying34 rfl (by kernel_rfl) ⟨A28, c29, F30, A205, c206, F207, H24, rfl, h6, h10, b3, h31, h208, S232⟩

/-! spec_UnifyStore -/
def spec_UnifyStore.f (k : Nat) (x1 : Store) (x10 : Cell) (x15 : Cell) : Option (Store × Int) := ((spec_ValidStore.f k x1 x10).bind fun t40 => (if ¬ (t40 = true) then some ((⟨[], []⟩ : Store), 1) else ((spec_ValidStore.f k x1 x15).bind fun t55 => (if ¬ (t55 = true) then some ((⟨[], []⟩ : Store), 1) else ((spec_l10open.f x1).bind fun t70 => ((spec_l10unify_2.f k t70 x10 x15).bind fun t90 => ((spec_l10close.f k t90.2).bind fun t109 => some (t109, t90.1))))))))
theorem spec_UnifyStore.calls (k : Nat) (w : World) (H : Hp) (x1 : Store) (A2 : Option Addr) (c3 : Nat) (A6 : Option Addr) (c7 : Nat) (x10 : Cell) (A11 : Option Addr) (c12 : Nat) (x15 : Cell) (A16 : Option Addr) (c17 : Nat) (h4 : Rd st36 H A2 x1.cells) (l5 : x1.cells.length ≤ c3) (h8 : Rd tInt H A6 x1.trail) (l9 : x1.trail.length ≤ c7) (h13 : Rd tByte H A11 x10.text) (l14 : x10.text.length ≤ c12) (h18 : Rd tByte H A16 x15.text) (l19 : x15.text.length ≤ c17) (S : Own [] H w) (r : Store × Int) (M : spec_UnifyStore.f k x1 x10 x15 = some r) :
    Calls Try.prog 32 #[.agg #[.slice A2 x1.cells.length c3, .slice A6 x1.trail.length c7], .agg #[.int .i64 x10.kind, .int .i64 x10.n, .slice A11 x10.text.length c12], .agg #[.int .i64 x15.kind, .int .i64 x15.n, .slice A16 x15.text.length c17]] w (fun e e_w => ∃ (A_1 : Option Addr) (c_1 : Nat) (F_1 : Foot) (A_2 : Option Addr) (c_2 : Nat) (F_2 : Foot) (H_ : Hp), e = .returned (.tuple #[.agg #[.slice A_1 r.1.cells.length c_1, .slice A_2 r.1.trail.length c_2], .int .i64 r.2]) ∧ Row st36 36 H_ (hp e_w) F_1 A_1 c_1 r.1.cells ∧ Row tInt 3 H_ (hp e_w) F_2 A_2 c_2 r.1.trail ∧ St (anyOf []) H w [F_1, F_2] H_ e_w) := by
  rw [spec_UnifyStore.f] at M
  refine enter (l := [.agg #[.slice A2 x1.cells.length c3, .slice A6 x1.trail.length c7], .agg #[.int .i64 x10.kind, .int .i64 x10.n, .slice A11 x10.text.length c12], .agg #[.int .i64 x15.kind, .int .i64 x15.n, .slice A16 x15.text.length c17]]) 30 Try.func32 rfl rfl rfl ?_
  have S0_ := S.st
  refine wp_seq (wR ?_)
  refine lW 3 (nB #[.slice A2 x1.cells.length c3, .slice A6 x1.trail.length c7] 34 S0_) ?_
  rintro _ w20 ⟨g21, rfl, b22, S23, K24⟩
  refine lW 4 (nB #[.int .i64 x10.kind, .int .i64 x10.n, .slice A11 x10.text.length c12] 36 S23) ?_
  rintro _ w25 ⟨g26, rfl, b27, S28, K29⟩
  replace b22 := K29.blk 0 rfl b22
  refine lW 5 (nB #[.int .i64 x15.kind, .int .i64 x15.n, .slice A16 x15.text.length c17] 36 S28) ?_
  rintro _ w30 ⟨g31, rfl, b32, S33, K34⟩
  replace b27 := K34.blk 0 rfl b27
  replace b22 := K34.blk 1 rfl b22
  refine lW 6 (nB #[.slice none 0 0, .slice none 0 0] 34 S33) ?_
  rintro _ w35 ⟨g36, rfl, b37, S38, K39⟩
  replace b32 := K39.blk 0 rfl b32
  replace b27 := K39.blk 1 rfl b27
  replace b22 := K39.blk 2 rfl b22
  refine lV 7 (eA (.int .i64 0)) (wN (then_n (wp_seq (wp_seq (wR (lV 10 (e_loadS (b := g21) (off := 0) (cs := [.slice A2 x1.cells.length c3, .slice A6 x1.trail.length c7]) Try.underlying34 rfl (by kernel_rfl) (by kernel_rfl) (blk_cells b22 rfl)) (lV 11 (e_loadS (b := g26) (off := 0) (cs := [.int .i64 x10.kind, .int .i64 x10.n, .slice A11 x10.text.length c12]) Try.underlying36 rfl (by kernel_rfl) (by kernel_rfl) (blk_cells b27 rfl)) ?_)))))))
  obtain ⟨t40, u41, M⟩ := bnd M
  refine lC 12 (eC [.tmp 10, .tmp 11] [.agg #[.slice A2 x1.cells.length c3, .slice A6 x1.trail.length c7], .agg #[.int .i64 x10.kind, .int .i64 x10.n, .slice A11 x10.text.length c12]] Try.func11) (spec_ValidStore.calls k w35 H x1 A2 c3 A6 c7 x10 A11 c12 h4 l5 h8 l9 h13 l14 S38.own0 t40 u41) ?_
  rintro _ w42 ⟨rfl, C43⟩
  refine ⟨_, rfl, ?_⟩
  obtain ⟨S44, K45⟩ := S38.still C43
  replace b37 := K45.blk 0 rfl b37
  replace b32 := K45.blk 1 rfl b32
  replace b27 := K45.blk 2 rfl b27
  replace b22 := K45.blk 3 rfl b22
  refine lV 13 (e_notv (c := t40) (by kernel_rfl)) (lV 14 (eM (.bool (decide (¬ (t40 = true))))) ?_)
  by_cases q46 : ¬ (t40 = true)
  · replace M := ifp q46 M
    refine lK 14 true (bT q46) ?_
    refine lK 14 true (bT q46) ?_
    refine lK 14 true (bT q46) ?_
    refine lK 14 true (bT q46) ?_
    refine lV 19 (eT (.bool true) (bT q46)) (wN (then_n (cond_t rfl (by kernel_rfl) (wp_seq (wR (lV 20 (show _ = Result.ok (Next.value (.agg #[.slice none 0 0, .slice none 0 0])) w42 from by kernel_rfl) ?_))))))
    refine lE (eSa g36 0 [.slice none 0 0, .slice none 0 0] S44 b37) ?_
    rintro w47 ⟨b48, S49, K50⟩
    clear b37
    refine lV 7 (eA (.int .i64 1)) (wN (then_n (wp_ret (then_r ?_))))
    obtain rfl := Option.some.inj M
    have S51 := S49.unit
    have S52 := S51.unit
    have S53 := S52.pulls [no, no, (is g36), (is g31), (is g26), (is g21)] [1] rfl
    have S54 := St.first (Fa := [no, no]) (Fr := [(is g36), (is g31), (is g26), (is g21)]) S53
    exact retST (ty := 34) (cur := #[.slice none 0 0, .slice none 0 0]) rfl rfl rfl (by kernel_rfl) b48 Try.underlying34 rfl (by kernel_rfl) (show _ = .int .i64 1 from (by kernel_rfl)) ⟨none, 0, no, none, 0, no, H, rfl, (Row.nil _ _ _ _ no), (Row.nil _ _ _ _ no), S54⟩
  replace M := ifn q46 M
  refine lG 15 14 (bF q46) (e_loadS (b := g21) (off := 0) (cs := [.slice A2 x1.cells.length c3, .slice A6 x1.trail.length c7]) Try.underlying34 rfl (by kernel_rfl) (by kernel_rfl) (blk_cells b22 rfl)) (lG 16 14 (bF q46) (e_loadS (b := g31) (off := 0) (cs := [.int .i64 x15.kind, .int .i64 x15.n, .slice A16 x15.text.length c17]) Try.underlying36 rfl (by kernel_rfl) (by kernel_rfl) (blk_cells b32 rfl)) ?_)
  obtain ⟨t55, u56, M⟩ := bnd M
  refine lcallg (d := 17) (t := 14) rfl (by kernel_rfl) rfl (bF q46) rfl (by kernel_rfl) (eC [.tmp 15, .tmp 16] [.agg #[.slice A2 x1.cells.length c3, .slice A6 x1.trail.length c7], .agg #[.int .i64 x15.kind, .int .i64 x15.n, .slice A16 x15.text.length c17]] Try.func11) (spec_ValidStore.calls k w42 H x1 A2 c3 A6 c7 x15 A16 c17 h4 l5 h8 l9 h18 l19 S44.own0 t55 u56) ?_
  rintro _ w57 ⟨rfl, C58⟩
  refine ⟨_, rfl, ?_⟩
  obtain ⟨S59, K60⟩ := S44.still C58
  replace b37 := K60.blk 0 rfl b37
  replace b32 := K60.blk 1 rfl b32
  replace b27 := K60.blk 2 rfl b27
  replace b22 := K60.blk 3 rfl b22
  refine lG 18 14 (bF q46) (e_notv (c := t55) (by kernel_rfl)) (lV 19 (eF (.bool (decide (¬ (t55 = true)))) (bF q46)) (wN (then_n ?_)))
  by_cases q61 : ¬ (t55 = true)
  · replace M := ifp q61 M
    refine cT (bT q61) (wp_seq (wR (lV 20 (show _ = Result.ok (Next.value (.agg #[.slice none 0 0, .slice none 0 0])) w57 from by kernel_rfl) ?_)))
    refine lE (eSa g36 0 [.slice none 0 0, .slice none 0 0] S59 b37) ?_
    rintro w62 ⟨b63, S64, K65⟩
    clear b37
    refine lV 7 (eA (.int .i64 1)) (wN (then_n (wp_ret (then_r ?_))))
    obtain rfl := Option.some.inj M
    have S66 := S64.unit
    have S67 := S66.unit
    have S68 := S67.pulls [no, no, (is g36), (is g31), (is g26), (is g21)] [1] rfl
    have S69 := St.first (Fa := [no, no]) (Fr := [(is g36), (is g31), (is g26), (is g21)]) S68
    exact retST (ty := 34) (cur := #[.slice none 0 0, .slice none 0 0]) rfl rfl rfl (by kernel_rfl) b63 Try.underlying34 rfl (by kernel_rfl) (show _ = .int .i64 1 from (by kernel_rfl)) ⟨none, 0, no, none, 0, no, H, rfl, (Row.nil _ _ _ _ no), (Row.nil _ _ _ _ no), S69⟩
  replace M := ifn q61 M
  refine cF (bF q61) (wp_skip (then_n (wp_seq (wR (lV 21 (e_loadS (b := g21) (off := 0) (cs := [.slice A2 x1.cells.length c3, .slice A6 x1.trail.length c7]) Try.underlying34 rfl (by kernel_rfl) (by kernel_rfl) (blk_cells b22 rfl)) ?_)))))
  obtain ⟨t70, u71, M⟩ := bnd M
  refine lC 22 (eC [.tmp 21] [.agg #[.slice A2 x1.cells.length c3, .slice A6 x1.trail.length c7]] Try.func47) (spec_l10open.calls w57 H x1 A2 c3 A6 c7 h4 l5 h8 l9 (St.own' (Fa := []) (Fr := [(is g36), (is g31), (is g26), (is g21)]) S59) t70 u71) ?_
  rintro _ w72 ⟨g75, A77, c78, F80, A81, c82, F84, H73, rfl, h79, h83, b76, T74⟩
  refine ⟨_, rfl, ?_⟩
  obtain ⟨S85, K86⟩ := St.call (Fa := []) (Fr := [(is g36), (is g31), (is g26), (is g21)]) S59 T74
  replace b37 := K86.blk 0 rfl b37
  replace b32 := K86.blk 1 rfl b32
  replace b27 := K86.blk 2 rfl b27
  have E87 := T74.ext
  refine lV 8 (eA (.pointer (some ⟨g75, 0, none⟩))) (wN (then_n (wp_seq (wR (lV 23 (eM (.pointer (some ⟨g75, 0, none⟩))) (lV 24 (e_loadS (b := g26) (off := 0) (cs := [.int .i64 x10.kind, .int .i64 x10.n, .slice A11 x10.text.length c12]) Try.underlying36 rfl (by kernel_rfl) (by kernel_rfl) (blk_cells b27 rfl)) (lV 25 (e_loadS (b := g31) (off := 0) (cs := [.int .i64 x15.kind, .int .i64 x15.n, .slice A16 x15.text.length c17]) Try.underlying36 rfl (by kernel_rfl) (by kernel_rfl) (blk_cells b32 rfl)) ?_)))))))
  have S89 := S85.pulls [F80, F84, (is g75), (is g36), (is g31), (is g26), (is g21)] [2, 2] rfl
  obtain ⟨t90, u91, M⟩ := bnd M
  refine lC 26 (eC [.tmp 23, .tmp 24, .tmp 25] [.pointer (some ⟨g75, 0, none⟩), .agg #[.int .i64 x10.kind, .int .i64 x10.n, .slice A11 x10.text.length c12], .agg #[.int .i64 x15.kind, .int .i64 x15.n, .slice A16 x15.text.length c17]] Try.func63) (spec_l10unify_2.calls k w72 H73 t70 g75 A77 c78 F80 A81 c82 F84 x10 A11 c12 x15 A16 c17 h79 h83 b76 (h13.ext E87) l14 (h18.ext E87) l19 (St.own' (Fa := [F80, F84, (is g75)]) (Fr := [(is g36), (is g31), (is g26), (is g21)]) S89) t90 u91) ?_
  rintro _ w92 ⟨A95, c96, F98, A99, c100, F102, H93, rfl, h97, h101, b103, T94⟩
  refine ⟨_, rfl, ?_⟩
  obtain ⟨S104, K105⟩ := St.call (Fa := [F80, F84, (is g75)]) (Fr := [(is g36), (is g31), (is g26), (is g21)]) S89 T94
  replace b37 := K105.blk 0 rfl b37
  have E106 := T94.ext
  refine lV 9 (eA (.int .i64 t90.1)) (wN (then_n (wp_seq (wR (lV 27 (eM (.pointer (some ⟨g75, 0, none⟩))) ?_)))))
  have S108 := S104.pulls [F98, F102, (is g75), (is g36), (is g31), (is g26), (is g21)] [2, 2] rfl
  obtain ⟨t109, u110, M⟩ := bnd M
  refine lC 28 (eC [.tmp 27] [.pointer (some ⟨g75, 0, none⟩)] Try.func57) (spec_l10close.calls k w92 H93 t90.2 g75 A95 c96 F98 A99 c100 F102 h97 h101 b103 (St.own' (Fa := [F98, F102, (is g75)]) (Fr := [(is g36), (is g31), (is g26), (is g21)]) S108) t109 u110) ?_
  rintro _ w111 ⟨A117, c118, F120, A121, c122, F124, H112, rfl, h114, h115, b116, h119, h123, T113⟩
  refine ⟨_, rfl, ?_⟩
  obtain ⟨S125, K126⟩ := St.call (Fa := [F98, F102, (is g75)]) (Fr := [(is g36), (is g31), (is g26), (is g21)]) S108 T113
  replace b37 := K126.blk 0 rfl b37
  have E127 := T113.ext
  refine lV 29 (eM (.int .i64 t90.1)) ?_
  have S128 := S125.pulls [(is g36), F98, F102, (is g75), F120, F124, (is g31), (is g26), (is g21)] [5] rfl
  refine lE (eSa g36 0 [.slice A117 t109.cells.length c118, .slice A121 t109.trail.length c122] S128 b37) ?_
  rintro w129 ⟨b130, S131, K132⟩
  replace h119 := h119.move (K132.at 3 rfl)
  replace h123 := h123.move (K132.at 4 rfl)
  clear b37
  refine lV 7 (eA (.int .i64 t90.1)) (wN (then_n (wp_ret ?_)))
  obtain rfl := Option.some.inj M
  have S134 := S131.pulls [F120, F124, (is g36), F98, F102, (is g75), (is g31), (is g26), (is g21)] [5, 5] rfl
  have S135 := St.first (Fa := [F120, F124]) (Fr := [(is g36), F98, F102, (is g75), (is g31), (is g26), (is g21)]) S134
  exact retST (ty := 34) (cur := #[.slice A117 t109.cells.length c118, .slice A121 t109.trail.length c122]) rfl rfl rfl (by kernel_rfl) b130 Try.underlying34 rfl (by kernel_rfl) (show _ = .int .i64 t90.1 from (by kernel_rfl)) ⟨A117, c118, F120, A121, c122, F124, H112, rfl, h119, h123, S135⟩

/-! impl_wordOk -/
def impl_wordOk.l0 (_k : Nat) (x1 : Cell) (x13 : Bool) : Option Bool := (if x13 = true then some (decide ((x1.text.length : Int) = 0)) else (if x1.kind = 1 then (if x1.n ≥ (-1000000000000000) then (if x1.n ≤ 1000000000000000 then some (decide ((x1.text.length : Int) = 0)) else some false) else some false) else (if x1.kind = 2 then (if x1.n = 0 then some (decide ((x1.text.length : Int) ≤ 100)) else some false) else some false)))
def impl_wordOk.f (x1 : Cell) : Option Bool := (if x1.kind = 0 then (impl_wordOk.l0 0 x1 (decide (x1.kind = 0))) else (impl_wordOk.l0 0 x1 (decide (x1.kind = 4))))
theorem impl_wordOk.calls (w : World) (H : Hp) (x1 : Cell) (A2 : Option Addr) (c3 : Nat) (h4 : Rd tByte H A2 x1.text) (l5 : x1.text.length ≤ c3) (S : Own [] H w) (r : Bool) (M : impl_wordOk.f x1 = some r) :
    Calls Try.prog 67 #[.agg #[.int .i64 x1.kind, .int .i64 x1.n, .slice A2 x1.text.length c3]] w (fun e e_w => e = .returned (.bool r) ∧ Chg no w e_w) := by
  rw [impl_wordOk.f] at M
  refine enter (l := [.agg #[.int .i64 x1.kind, .int .i64 x1.n, .slice A2 x1.text.length c3]]) 39 Try.func67 rfl rfl rfl ?_
  have S0_ := S.st
  refine wp_seq (wR ?_)
  refine lW 1 (nB #[.int .i64 x1.kind, .int .i64 x1.n, .slice A2 x1.text.length c3] 36 S0_) ?_
  rintro _ w6 ⟨g7, rfl, b8, S9, K10⟩
  refine lV 2 (eA (.bool false)) (wN (then_n (wp_seq (wp_seq (wR (lV 3 (eD g7 0 0 1 Try.underlying36) (lV 4 (eL ⟨g7, 0 + 0, none⟩ (.int .i64 x1.kind) Try.underlying3 (blk_cell b8 rfl)) ?_)))))))
  refine wN (then_n (wp_block ?_))
  refine wp_seq_cut (fun a20 w11 => ∃ (f12 : Nat → Value) (x13 : Bool), a20 = mk 39 f12 ∧ f12 1 = .pointer (some ⟨g7, 0, none⟩) ∧ f12 4 = .int .i64 x1.kind ∧ f12 5 = .bool x13 ∧ w11.heap[g7]? = some (.cells #[.int .i64 x1.kind, .int .i64 x1.n, .slice A2 x1.text.length c3] 36 (0, 0)) ∧ St (anyOf []) H w [(is g7)] H w11 ∧ impl_wordOk.l0 0 x1 x13 = some r) ?_ ?_
  · refine wp_seq (wR (lV 6 (eEq .i64 x1.kind 0) (lV 5 (eA (.bool (decide (x1.kind = 0)))) (wN (then_n ?_)))))
    by_cases q21 : x1.kind = 0
    · replace M := ifp q21 M
      refine cT (bT q21) (wp_skip (then_n ?_))
      exact ⟨_, (decide (x1.kind = 0)), rfl, (by kernel_rfl), (by kernel_rfl), (by kernel_rfl), b8, S9, M⟩
    replace M := ifn q21 M
    refine cF (bF q21) (wR (lV 7 (eEq .i64 x1.kind 4) (lV 5 (eA (.bool (decide (x1.kind = 4)))) (wN (then_n ?_)))))
    exact ⟨_, (decide (x1.kind = 4)), rfl, (by kernel_rfl), (by kernel_rfl), (by kernel_rfl), b8, S9, M⟩
  clear M
  rintro a20 w11 ⟨f12, x13, rfl, e14, e15, e16, b8, S17, M⟩
  rw [impl_wordOk.l0] at M
  by_cases q22 : x13 = true
  · replace M := ifp q22 M
    refine cT (bvt q22 (by exact e16)) (wp_seq (wR (lV 8 (eD g7 0 2 1 Try.underlying36 (by exact e14)) (lV 9 (eL ⟨g7, 0 + 2, none⟩ (.slice A2 x1.text.length c3) Try.underlying26 (blk_cell b8 rfl)) (lV 10 (e_len (A := A2) (n := x1.text.length) (c := c3) Try.underlying26 (by kernel_rfl)) (lV 11 (eEq .i64 (x1.text.length : Int) 0) (lV 2 (eA (.bool (decide ((x1.text.length : Int) = 0)))) ?_)))))))
    refine wN (then_n (wp_ret (inb_r (then_r ?_))))
    obtain rfl := Option.some.inj M
    exact ret1 rfl rfl  (show _ = .bool (decide ((x1.text.length : Int) = 0)) from (by kernel_rfl)) ⟨rfl, S17.chg⟩
  replace M := ifn q22 M
  refine cF (bvf q22 (by exact e16)) (wp_seq (wR (lV 13 (eEq .i64 x1.kind 1 (by exact e15)) (lV 12 (eA (.bool (decide (x1.kind = 1)))) (wN (then_n ?_))))))
  by_cases q23 : x1.kind = 1
  · replace M := ifp q23 M
    refine cT (bT q23) (wp_seq (wR (lV 14 (eD g7 0 1 1 Try.underlying36 (by exact e14)) (lV 15 (eL ⟨g7, 0 + 1, none⟩ (.int .i64 x1.n) Try.underlying3 (blk_cell b8 rfl)) (lV 16 (e_geq (k := .i64) (a := x1.n) (b := (-1000000000000000)) (by kernel_rfl) rfl) (lV 17 (eM (.bool (decide (x1.n ≥ (-1000000000000000))))) ?_))))))
    by_cases q24 : x1.n ≥ (-1000000000000000)
    · replace M := ifp q24 M
      refine lG 18 17 (bT q24) (eD g7 0 1 1 Try.underlying36 (by exact e14)) (lG 19 17 (bT q24) (eL ⟨g7, 0 + 1, none⟩ (.int .i64 x1.n) Try.underlying3 (blk_cell b8 rfl)) (lG 20 17 (bT q24) (e_leq (k := .i64) (a := x1.n) (b := 1000000000000000) (by kernel_rfl) rfl) (lV 21 (eT (.bool (decide (x1.n ≤ 1000000000000000))) (bT q24)) (lV 22 (eM (.bool (decide (x1.n ≤ 1000000000000000)))) ?_))))
      by_cases q25 : x1.n ≤ 1000000000000000
      · replace M := ifp q25 M
        refine lG 23 22 (bT q25) (eD g7 0 2 1 Try.underlying36 (by exact e14)) (lG 24 22 (bT q25) (eL ⟨g7, 0 + 2, none⟩ (.slice A2 x1.text.length c3) Try.underlying26 (blk_cell b8 rfl)) (lG 25 22 (bT q25) (e_len (A := A2) (n := x1.text.length) (c := c3) Try.underlying26 (by kernel_rfl)) (lG 26 22 (bT q25) (eEq .i64 (x1.text.length : Int) 0) (lV 27 (eT (.bool (decide ((x1.text.length : Int) = 0))) (bT q25)) (lV 2 (eA (.bool (decide ((x1.text.length : Int) = 0)))) (wN (then_n ?_)))))))
        refine wp_ret (inb_r (then_r ?_))
        obtain rfl := Option.some.inj M
        exact ret1 rfl rfl  (show _ = .bool (decide ((x1.text.length : Int) = 0)) from (by kernel_rfl)) ⟨rfl, S17.chg⟩
      replace M := ifn q25 M
      refine lK 22 false (bF q25) ?_
      refine lK 22 false (bF q25) ?_
      refine lK 22 false (bF q25) ?_
      refine lK 22 false (bF q25) ?_
      refine lV 27 (eF (.bool false) (bF q25)) (lV 2 (eA (.bool false)) (wN (then_n (wp_ret (inb_r (then_r ?_))))))
      obtain rfl := Option.some.inj M
      exact ret1 rfl rfl  (show _ = .bool false from (by kernel_rfl)) ⟨rfl, S17.chg⟩
    replace M := ifn q24 M
    refine lK 17 false (bF q24) ?_
    refine lK 17 false (bF q24) ?_
    refine lK 17 false (bF q24) ?_
    refine lV 21 (eF (.bool false) (bF q24)) (lV 22 (eM (.bool false)) ?_)
    refine lJ 22 false ?_
    refine lJ 22 false ?_
    refine lJ 22 false ?_
    refine lJ 22 false ?_
    refine lV 27 (eF (.bool false)) (lV 2 (eA (.bool false)) (wN (then_n (wp_ret (inb_r (then_r ?_))))))
    obtain rfl := Option.some.inj M
    exact ret1 rfl rfl  (show _ = .bool false from (by kernel_rfl)) ⟨rfl, S17.chg⟩
  replace M := ifn q23 M
  refine cF (bF q23) (wp_seq (wR (lV 29 (eEq .i64 x1.kind 2 (by exact e15)) (lV 28 (eA (.bool (decide (x1.kind = 2)))) (wN (then_n ?_))))))
  by_cases q26 : x1.kind = 2
  · replace M := ifp q26 M
    refine cT (bT q26) (wp_seq (wR (lV 30 (eD g7 0 1 1 Try.underlying36 (by exact e14)) (lV 31 (eL ⟨g7, 0 + 1, none⟩ (.int .i64 x1.n) Try.underlying3 (blk_cell b8 rfl)) (lV 32 (eEq .i64 x1.n 0) (lV 33 (eM (.bool (decide (x1.n = 0)))) ?_))))))
    by_cases q27 : x1.n = 0
    · replace M := ifp q27 M
      refine lG 34 33 (bT q27) (eD g7 0 2 1 Try.underlying36 (by exact e14)) (lG 35 33 (bT q27) (eL ⟨g7, 0 + 2, none⟩ (.slice A2 x1.text.length c3) Try.underlying26 (blk_cell b8 rfl)) (lG 36 33 (bT q27) (e_len (A := A2) (n := x1.text.length) (c := c3) Try.underlying26 (by kernel_rfl)) (lG 37 33 (bT q27) (e_leq (k := .i64) (a := (x1.text.length : Int)) (b := 100) (by kernel_rfl) rfl) (lV 38 (eT (.bool (decide ((x1.text.length : Int) ≤ 100))) (bT q27)) (lV 2 (eA (.bool (decide ((x1.text.length : Int) ≤ 100)))) (wN (then_n ?_)))))))
      refine wp_ret (inb_r (then_r ?_))
      obtain rfl := Option.some.inj M
      exact ret1 rfl rfl  (show _ = .bool (decide ((x1.text.length : Int) ≤ 100)) from (by kernel_rfl)) ⟨rfl, S17.chg⟩
    replace M := ifn q27 M
    refine lK 33 false (bF q27) ?_
    refine lK 33 false (bF q27) ?_
    refine lK 33 false (bF q27) ?_
    refine lK 33 false (bF q27) ?_
    refine lV 38 (eF (.bool false) (bF q27)) (lV 2 (eA (.bool false)) (wN (then_n (wp_ret (inb_r (then_r ?_))))))
    obtain rfl := Option.some.inj M
    exact ret1 rfl rfl  (show _ = .bool false from (by kernel_rfl)) ⟨rfl, S17.chg⟩
  replace M := ifn q26 M
  refine cF (bF q26) (wp_skip (inb_n (then_n (wp_seq (wR (lV 2 (eA (.bool false)) (wN ?_)))))))
  refine then_n (wp_ret ?_)
  obtain rfl := Option.some.inj M
  exact ret1 rfl rfl  (show _ = .bool false from (by kernel_rfl)) ⟨rfl, S17.chg⟩
end Go.Proofs.Ytnigifmkjmbfiaa
