import Derived.Test.YtnigifmkjmbfiaaWkBc1
namespace Go.Proofs.Ytnigifmkjmbfiaa
open Go.Sx Go.Sy
attribute [local irreducible] Go.wpList Go.wpStill Go.wpQuiet Go.Code.wp
set_option maxRecDepth 100000
set_option maxHeartbeats 1000000
set_option linter.unusedVariables false
set_option linter.unusedSimpArgs false

/-! spec_l10deref -/
def spec_l10deref.l0 : Nat → GL10heap → Int → Int → (List UInt8) → Option Cell
  | 0, _, _, _, _ => none
  | k44 + 1, x1, x29, x30, x31 => (if x29 = 0 then (if 0 ≤ x30 then (if x30 < (x1.cells_.length : Int) then (if ((x1.cells_.getD ((x30).toNat) z36).kind) = 0 then (if ((x1.cells_.getD ((x30).toNat) z36).n) = x30 then some (⟨x29, x30, x31⟩ : Cell) else (spec_l10deref.l0 k44 x1 ((x1.cells_.getD ((x30).toNat) z36).kind) ((x1.cells_.getD ((x30).toNat) z36).n) ((x1.cells_.getD ((x30).toNat) z36).text))) else (spec_l10deref.l0 k44 x1 ((x1.cells_.getD ((x30).toNat) z36).kind) ((x1.cells_.getD ((x30).toNat) z36).n) ((x1.cells_.getD ((x30).toNat) z36).text))) else none) else none) else some (⟨x29, x30, x31⟩ : Cell))
def spec_l10deref.f (k : Nat) (x1 : GL10heap) (x12 : Cell) : Option Cell := (spec_l10deref.l0 k x1 x12.kind x12.n x12.text)
theorem spec_l10deref.calls (k : Nat) (w : World) (H : Hp) (x1 : GL10heap) (g2 : Nat) (A4 : Option Addr) (c5 : Nat) (F7 : Foot) (A8 : Option Addr) (c9 : Nat) (F11 : Foot) (x12 : Cell) (A13 : Option Addr) (c14 : Nat) (h6 : Row (ro st36) 36 H (hp w) F7 A4 c5 x1.cells_) (h10 : Row tInt 3 H (hp w) F11 A8 c9 x1.trail_) (b3 : w.heap[g2]? = some (.cells #[.slice A4 x1.cells_.length c5, .slice A8 x1.trail_.length c9, .int .i64 x1.pairs_] 91 (0, 0))) (h15 : Rd tByte H A13 x12.text) (l16 : x12.text.length ≤ c14) (S : Own [F7, F11, (is g2)] H w) (r : Cell) (M : spec_l10deref.f k x1 x12 = some r) :
    Calls Try.prog 46 #[.pointer (some ⟨g2, 0, none⟩), .agg #[.int .i64 x12.kind, .int .i64 x12.n, .slice A13 x12.text.length c14]] w (fun e e_w => ∃ (A_1 : Option Addr) (c_1 : Nat) (H_ : Hp), e = .returned (.agg #[.int .i64 r.kind, .int .i64 r.n, .slice A_1 r.text.length c_1]) ∧ Row (ro st36) 36 H_ (hp e_w) F7 A4 c5 x1.cells_ ∧ Row tInt 3 H_ (hp e_w) F11 A8 c9 x1.trail_ ∧ e_w.heap[g2]? = some (.cells #[.slice A4 x1.cells_.length c5, .slice A8 x1.trail_.length c9, .int .i64 x1.pairs_] 91 (0, 0)) ∧ Rd tByte H_ A_1 r.text ∧ r.text.length ≤ c_1 ∧ St (anyOf [F7, F11, (is g2)]) H w [F7, F11, (is g2)] H_ e_w) := by
  rw [spec_l10deref.f] at M
  refine enter (l := [.pointer (some ⟨g2, 0, none⟩), .agg #[.int .i64 x12.kind, .int .i64 x12.n, .slice A13 x12.text.length c14]]) 30 Try.func46 rfl rfl rfl ?_
  have S0_ := S.st
  refine wp_seq (wp_region_lit ?_)
  refine lve (d := 3) rfl rfl (by kernel_rfl) (new_blk (v := fun g_ => .pointer (some ⟨g_, 0, none⟩)) (cs := #[.int .i64 x12.kind, .int .i64 x12.n, .slice A13 x12.text.length c14]) (t := 36) S0_ (by kernel_rfl)) ?_
  rintro _ w17 ⟨g18, rfl, b19, S20, K21⟩
  replace h6 := h6.move (K21.at 0 rfl)
  replace h10 := h10.move (K21.at 1 rfl)
  replace b3 := K21.blk 2 rfl b3
  refine lve (d := 4) rfl rfl (by kernel_rfl) (new_blk (v := fun g_ => .pointer (some ⟨g_, 0, none⟩)) (cs := #[.int .i64 0, .int .i64 0, .slice none 0 0]) (t := 36) S20 (by kernel_rfl)) ?_
  rintro _ w22 ⟨g23, rfl, b24, S25, K26⟩
  replace b19 := K26.blk 0 rfl b19
  replace h6 := h6.move (K26.at 1 rfl)
  replace h10 := h10.move (K26.at 2 rfl)
  replace b3 := K26.blk 3 rfl b3
  refine wpList_nil (then_n (wp_seq (wp_block ?_)))
  refine wp_loop_g (fun k42 a43 w27 => ∃ (f28 : Nat → Value) (x29 : Int) (x30 : Int) (x31 : List UInt8) (A32 : Option Addr) (c33 : Nat), a43 = mk 30 f28 ∧ f28 0 = .pointer (some ⟨g2, 0, none⟩) ∧ f28 3 = .pointer (some ⟨g18, 0, none⟩) ∧ f28 4 = .pointer (some ⟨g23, 0, none⟩) ∧ w27.heap[g23]? = some (.cells #[.int .i64 0, .int .i64 0, .slice none 0 0] 36 (0, 0)) ∧ w27.heap[g18]? = some (.cells #[.int .i64 x29, .int .i64 x30, .slice A32 x31.length c33] 36 (0, 0)) ∧ Row (ro st36) 36 H (hp w27) F7 A4 c5 x1.cells_ ∧ Row tInt 3 H (hp w27) F11 A8 c9 x1.trail_ ∧ w27.heap[g2]? = some (.cells #[.slice A4 x1.cells_.length c5, .slice A8 x1.trail_.length c9, .int .i64 x1.pairs_] 91 (0, 0)) ∧ Rd tByte H A32 x31 ∧ x31.length ≤ c33 ∧ St (anyOf [F7, F11, (is g2)]) H w [(is g23), (is g18), F7, F11, (is g2)] H w27 ∧ spec_l10deref.l0 k42 x1 x29 x30 x31 = some r) k ⟨_, x12.kind, x12.n, x12.text, A13, c14, rfl, (by kernel_rfl), (by kernel_rfl), (by kernel_rfl), b24, b19, h6, h10, b3, h15, l16, S25, M⟩ ?_
  clear M
  rintro k42 a43 w27 ⟨f28, x29, x30, x31, A32, c33, rfl, e36, e37, e38, b24, b19, h6, h10, b3, h34, l35, S39, M⟩
  rcases k42 with _ | k44
  · rw [spec_l10deref.l0] at M
    cases M
  rw [spec_l10deref.l0] at M
  refine wp_seq (wp_seq (wp_region_lit (lv (d := 6) rfl rfl (by kernel_rfl) (e_fieldAddr (b := g18) (off := 0) (o := 0) Try.underlying36 rfl rfl (sz := 1) (by kernel_rfl) (by decide) (by exact e37)) (lv (d := 7) rfl rfl (by kernel_rfl) (e_load1 (ad := ⟨g18, 0 + 0, none⟩) (v := .int .i64 x29) Try.underlying3 rfl (by kernel_rfl) (blk_cell b19 rfl)) (lv (d := 8) rfl rfl (by kernel_rfl) (e_eql (k := .i64) (a := x29) (b := 0) (by kernel_rfl) rfl) (wpList_nil (then_n ?_)))))))
  by_cases q45 : x29 = 0
  · replace M := ifp q45 M
    refine cond_t rfl (bt q45 (by kernel_rfl)) (wp_skip (then_n (wp_block (wp_seq ?_))))
    refine region_mix (S := (fun (L_ : Array Bool) (w_ : World) => Ext H (hp w_) ∧ (∀ b_, (is g18) b_ → hp w_ b_ = hp w27 b_) ∧ (∀ b_, F7 b_ → hp w_ b_ = hp w27 b_) ∧ (∀ b_, (is g2) b_ → hp w_ b_ = hp w27 b_))) (by kernel_rfl) S39 ?_
    intro w46 S47 K48 hc49
    have o50 := b19
    have o51 := h6
    have o52 := b3
    have hs53 : (fun (L_ : Array Bool) (w_ : World) => Ext H (hp w_) ∧ (∀ b_, (is g18) b_ → hp w_ b_ = hp w27 b_) ∧ (∀ b_, F7 b_ → hp w_ b_ = hp w27 b_) ∧ (∀ b_, (is g2) b_ → hp w_ b_ = hp w27 b_)) (Array.replicate 10 false) w46 := ⟨S47.inv, (fun b_ h_ => K48.at 1 rfl b_ h_), (fun b_ h_ => K48.at 2 rfl b_ h_), (fun b_ h_ => K48.at 4 rfl b_ h_)⟩
    replace b24 := K48.blk 0 rfl b24
    replace b19 := K48.blk 1 rfl b19
    replace h6 := h6.move (K48.at 2 rfl)
    replace h10 := h10.move (K48.at 3 rfl)
    replace b3 := K48.blk 4 rfl b3
    refine xv (i := 0) (d := 9) rfl rfl rfl (by kernel_rfl) (by kernel_rfl) (fun _ _ => Iff.rfl) hc49 hs53 (fun L_ w_ hc_ hu_ hs_ => e_move (v := .pointer (some ⟨g2, 0, none⟩)) (by exact e36)) ?_; intro hc54 hs55
    refine xv (i := 1) (d := 10) rfl rfl rfl (by kernel_rfl) (by kernel_rfl) (fun _ _ => Iff.rfl) hc54 hs55 (fun L_ w_ hc_ hu_ hs_ => e_nilCheck (ad := ⟨g2, 0, none⟩) (by kernel_rfl)) ?_; intro hc56 hs57
    refine xv (i := 2) (d := 11) rfl rfl rfl (by kernel_rfl) (by kernel_rfl) (fun _ _ => Iff.rfl) hc56 hs57 (fun L_ w_ hc_ hu_ hs_ => e_fieldAddr (b := g2) (off := 0) (o := 0) Try.underlying91 rfl rfl (sz := 1) (by kernel_rfl) (by decide) (by kernel_rfl)) ?_; intro hc58 hs59
    refine xv (i := 3) (d := 12) rfl rfl rfl (by kernel_rfl) (by kernel_rfl) (fun _ _ => Iff.rfl) hc58 hs59 (fun L_ w_ hc_ hu_ hs_ => e_load1 (ad := ⟨g2, 0 + 0, none⟩) (v := .slice A4 x1.cells_.length c5) Try.underlying32 rfl (by kernel_rfl) (blk_cell ((hs_.2.2.2 _ rfl).trans o52) rfl)) ?_; intro hc60 hs61
    refine xv (i := 4) (d := 13) rfl rfl rfl (by kernel_rfl) (by kernel_rfl) (fun _ _ => Iff.rfl) hc60 hs61 (fun L_ w_ hc_ hu_ hs_ => e_fieldAddr (b := g18) (off := 0) (o := 1) Try.underlying36 rfl rfl (sz := 1) (by kernel_rfl) (by decide) (by exact e37)) ?_; intro hc62 hs63
    refine xv (i := 5) (d := 14) rfl rfl rfl (by kernel_rfl) (by kernel_rfl) (fun _ _ => Iff.rfl) hc62 hs63 (fun L_ w_ hc_ hu_ hs_ => e_load1 (ad := ⟨g18, 0 + 1, none⟩) (v := .int .i64 x30) Try.underlying3 rfl (by kernel_rfl) (blk_cell ((hs_.2.1 _ rfl).trans o50) rfl)) ?_; intro hc64 hs65
    obtain ⟨q66, M⟩ := chk M
    obtain ⟨q67, M⟩ := chk M
    obtain ⟨b68, e70⟩ := Row.addr h6 (show (x30).toNat < x1.cells_.length by omega)
    refine xv (i := 6) (d := 15) rfl rfl rfl (by kernel_rfl) (by kernel_rfl) (fun _ _ => Iff.rfl) hc64 hs65 (fun L_ w_ hc_ hu_ hs_ => e_indexAddr (b := b68) (off := 0) (n := x1.cells_.length) (c := c5) (sz := 3) (i := x30) (k := .i64) Try.underlying32 e70 (by kernel_rfl) (by kernel_rfl) (by kernel_rfl) q66 q67) ?_; intro hc71 hs72
    obtain ⟨y73, F74, r75, s76, k77⟩ := Row.at o51 e70 (getD_some z36 (show (x30).toNat < x1.cells_.length by omega))
    obtain ⟨A78, c79, rfl, l80, h81⟩ := st36_open r75
    refine xv (i := 7) (d := 16) rfl rfl rfl (by kernel_rfl) (by kernel_rfl) (fun _ _ => Iff.rfl) hc71 hs72 (fun L_ w_ hc_ hu_ hs_ => e_loadS (b := b68) (off := 0 + (x30 : Int).toNat * 3) (cs := [.int .i64 ((x1.cells_.getD ((x30).toNat) z36).kind), .int .i64 ((x1.cells_.getD ((x30).toNat) z36).n), .slice A78 ((x1.cells_.getD ((x30).toNat) z36).text).length c79]) Try.underlying36 rfl (by kernel_rfl) (by kernel_rfl) (fun j_ u_ e_ => (hpx (cell_same (hs_.2.2.1 _ (Row.foot o51 e70)) (k77 j_ u_ e_))))) ?_; intro hc82 hs83
    refine xone (i := 8) (by kernel_rfl) hc82 ?_
    refine ye (i := 8) (d := 5) rfl rfl (wanted_none rfl _) (by kernel_rfl) (by kernel_rfl) (new_blk (v := fun g_ => .pointer (some ⟨g_, 0, none⟩)) (cs := #[.int .i64 0, .int .i64 0, .slice none 0 0]) (t := 36) S47 (by kernel_rfl)) ?_
    rintro hc89 _ w84 ⟨g85, rfl, b86, S87, K88⟩
    replace b24 := K88.blk 0 rfl b24
    replace b19 := K88.blk 1 rfl b19
    replace h6 := h6.move (K88.at 2 rfl)
    replace h10 := h10.move (K88.at 3 rfl)
    replace b3 := K88.blk 4 rfl b3
    refine ⟨⟨S87.inv, (fun b_ h_ => (K88.at 1 rfl b_ h_).trans (hs83.2.1 b_ h_)), (fun b_ h_ => (K88.at 2 rfl b_ h_).trans (hs83.2.2.1 b_ h_)), (fun b_ h_ => (K88.at 4 rfl b_ h_).trans (hs83.2.2.2 b_ h_))⟩, fun hs90 => ?_⟩
    refine xone (i := 9) (by kernel_rfl) hc89 ?_
    refine ys (i := 9) rfl rfl (wanted_none rfl _) (by kernel_rfl) (by kernel_rfl) (e_store (g := g85) (o := 0) (v := .agg #[.int .i64 ((x1.cells_.getD ((x30).toNat) z36).kind), .int .i64 ((x1.cells_.getD ((x30).toNat) z36).n), .slice A78 ((x1.cells_.getD ((x30).toNat) z36).text).length c79]) (cur' := #[.int .i64 ((x1.cells_.getD ((x30).toNat) z36).kind), .int .i64 ((x1.cells_.getD ((x30).toNat) z36).n), .slice A78 ((x1.cells_.getD ((x30).toNat) z36).text).length c79]) (vs := [.int .i64 ((x1.cells_.getD ((x30).toNat) z36).kind), .int .i64 ((x1.cells_.getD ((x30).toNat) z36).n), .slice A78 ((x1.cells_.getD ((x30).toNat) z36).text).length c79]) S87 (by kernel_rfl) (by kernel_rfl) rfl (by kernel_rfl) b86 (Nat.le_of_ble_eq_true rfl) (List.forall_mem_cons.2 ⟨rfl, (List.forall_mem_cons.2 ⟨rfl, (List.forall_mem_cons.2 ⟨rfl, (fun _ h_ => by cases h_)⟩)⟩)⟩) rfl) ?_
    rintro hc95 w91 ⟨b92, S93, K94⟩
    replace b24 := K94.blk 0 rfl b24
    replace b19 := K94.blk 1 rfl b19
    replace h6 := h6.move (K94.at 2 rfl)
    replace h10 := h10.move (K94.at 3 rfl)
    replace b3 := K94.blk 4 rfl b3
    refine ⟨⟨S93.inv, (fun b_ h_ => (K94.at 1 rfl b_ h_).trans (hs90.2.1 b_ h_)), (fun b_ h_ => (K94.at 2 rfl b_ h_).trans (hs90.2.2.1 b_ h_)), (fun b_ h_ => (K94.at 4 rfl b_ h_).trans (hs90.2.2.2 b_ h_))⟩, fun hs96 => ?_⟩
    clear b86
    refine xn (by kernel_rfl) ?_ _
    refine then_n (wp_seq (wp_seq (wp_region_lit (lv (d := 17) rfl rfl (by kernel_rfl) (e_fieldAddr (b := g85) (off := 0) (o := 0) Try.underlying36 rfl rfl (sz := 1) (by kernel_rfl) (by decide) (by kernel_rfl)) (lv (d := 18) rfl rfl (by kernel_rfl) (e_load1 (ad := ⟨g85, 0 + 0, none⟩) (v := .int .i64 ((x1.cells_.getD ((x30).toNat) z36).kind)) Try.underlying3 rfl (by kernel_rfl) (blk_cell b92 rfl)) (lv (d := 19) rfl rfl (by kernel_rfl) (e_eql (k := .i64) (a := (x1.cells_.getD ((x30).toNat) z36).kind) (b := 0) (by kernel_rfl) rfl) (lv (d := 20) rfl rfl (by kernel_rfl) (e_move (v := .bool (decide (((x1.cells_.getD ((x30).toNat) z36).kind) = 0))) (by kernel_rfl)) ?_)))))))
    by_cases q97 : ((x1.cells_.getD ((x30).toNat) z36).kind) = 0
    · replace M := ifp q97 M
      refine lvg (d := 21) (t := 20) rfl (by kernel_rfl) rfl (bt q97 (by kernel_rfl)) rfl (by kernel_rfl) (e_fieldAddr (b := g85) (off := 0) (o := 1) Try.underlying36 rfl rfl (sz := 1) (by kernel_rfl) (by decide) (by kernel_rfl)) (lvg (d := 22) (t := 20) rfl (by kernel_rfl) rfl (bt q97 (by kernel_rfl)) rfl (by kernel_rfl) (e_load1 (ad := ⟨g85, 0 + 1, none⟩) (v := .int .i64 ((x1.cells_.getD ((x30).toNat) z36).n)) Try.underlying3 rfl (by kernel_rfl) (blk_cell b92 rfl)) (lvg (d := 23) (t := 20) rfl (by kernel_rfl) rfl (bt q97 (by kernel_rfl)) rfl (by kernel_rfl) (e_fieldAddr (b := g18) (off := 0) (o := 1) Try.underlying36 rfl rfl (sz := 1) (by kernel_rfl) (by decide) (by exact e37)) (lvg (d := 24) (t := 20) rfl (by kernel_rfl) rfl (bt q97 (by kernel_rfl)) rfl (by kernel_rfl) (e_load1 (ad := ⟨g18, 0 + 1, none⟩) (v := .int .i64 x30) Try.underlying3 rfl (by kernel_rfl) (blk_cell b19 rfl)) (lvg (d := 25) (t := 20) rfl (by kernel_rfl) rfl (bt q97 (by kernel_rfl)) rfl (by kernel_rfl) (e_eql (k := .i64) (a := (x1.cells_.getD ((x30).toNat) z36).n) (b := x30) (by kernel_rfl) (by kernel_rfl)) (lv (d := 26) rfl rfl (by kernel_rfl) (e_pick_t (v := .bool (decide (((x1.cells_.getD ((x30).toNat) z36).n) = x30))) (bt q97 (by kernel_rfl)) (by kernel_rfl)) (wpList_nil (then_n ?_)))))))
      by_cases q98 : ((x1.cells_.getD ((x30).toNat) z36).n) = x30
      · replace M := ifp q98 M
        refine cond_t rfl (bt q98 (by kernel_rfl)) (wp_seq (wp_region_lit (lv (d := 27) rfl rfl (by kernel_rfl) (e_loadS (b := g18) (off := 0) (cs := [.int .i64 x29, .int .i64 x30, .slice A32 x31.length c33]) Try.underlying36 rfl (by kernel_rfl) (by exact e37) (blk_cells b19 rfl)) ?_)))
        have S99 := S93.pull (F := (is g23)) (Fr := [(is g85), (is g18), F7, F11, (is g2)]) 1 rfl rfl
        refine lse rfl rfl (by kernel_rfl) (e_store (g := g23) (o := 0) (v := .agg #[.int .i64 x29, .int .i64 x30, .slice A32 x31.length c33]) (cur' := #[.int .i64 x29, .int .i64 x30, .slice A32 x31.length c33]) (vs := [.int .i64 x29, .int .i64 x30, .slice A32 x31.length c33]) S99 (by exact e38) (by kernel_rfl) rfl (by kernel_rfl) b24 (Nat.le_of_ble_eq_true rfl) (List.forall_mem_cons.2 ⟨rfl, (List.forall_mem_cons.2 ⟨rfl, (List.forall_mem_cons.2 ⟨rfl, (fun _ h_ => by cases h_)⟩)⟩)⟩) rfl) ?_
        rintro w100 ⟨b101, S102, K103⟩
        replace h6 := h6.move (K103.at 2 rfl)
        replace h10 := h10.move (K103.at 3 rfl)
        replace b3 := K103.blk 4 rfl b3
        clear b24
        refine wpList_nil (then_n (wp_ret (then_r (inb_r (then_r (inb_r (then_r ?_)))))))
        obtain rfl := Option.some.inj M
        have S104 := S102.pull (F := (is g2)) (Fr := [(is g23), (is g85), (is g18), F7, F11]) 5 rfl rfl
        have S105 := S104.pull (F := F11) (Fr := [(is g2), (is g23), (is g85), (is g18), F7]) 5 rfl rfl
        have S106 := S105.pull (F := F7) (Fr := [F11, (is g2), (is g23), (is g85), (is g18)]) 5 rfl rfl
        have S107 := St.first (Fa := [F7, F11, (is g2)]) (Fr := [(is g23), (is g85), (is g18)]) S106
        exact retS (ty := 36) (cur := #[.int .i64 x29, .int .i64 x30, .slice A32 x31.length c33]) rfl rfl (by exact e38) b101 Try.underlying36 rfl (by kernel_rfl) ⟨A32, c33, H, rfl, h6, h10, b3, h34, l35, S107⟩
      replace M := ifn q98 M
      refine cond_f rfl (bf q98 (by kernel_rfl)) (wp_skip (then_n (wp_region_lit (lv (d := 28) rfl rfl (by kernel_rfl) (e_loadS (b := g85) (off := 0) (cs := [.int .i64 ((x1.cells_.getD ((x30).toNat) z36).kind), .int .i64 ((x1.cells_.getD ((x30).toNat) z36).n), .slice A78 ((x1.cells_.getD ((x30).toNat) z36).text).length c79]) Try.underlying36 rfl (by kernel_rfl) (by kernel_rfl) (blk_cells b92 rfl)) ?_))))
      have S108 := S93.pull (F := (is g18)) (Fr := [(is g85), (is g23), F7, F11, (is g2)]) 2 rfl rfl
      refine lse rfl rfl (by kernel_rfl) (e_store (g := g18) (o := 0) (v := .agg #[.int .i64 ((x1.cells_.getD ((x30).toNat) z36).kind), .int .i64 ((x1.cells_.getD ((x30).toNat) z36).n), .slice A78 ((x1.cells_.getD ((x30).toNat) z36).text).length c79]) (cur' := #[.int .i64 ((x1.cells_.getD ((x30).toNat) z36).kind), .int .i64 ((x1.cells_.getD ((x30).toNat) z36).n), .slice A78 ((x1.cells_.getD ((x30).toNat) z36).text).length c79]) (vs := [.int .i64 ((x1.cells_.getD ((x30).toNat) z36).kind), .int .i64 ((x1.cells_.getD ((x30).toNat) z36).n), .slice A78 ((x1.cells_.getD ((x30).toNat) z36).text).length c79]) S108 (by exact e37) (by kernel_rfl) rfl (by kernel_rfl) b19 (Nat.le_of_ble_eq_true rfl) (List.forall_mem_cons.2 ⟨rfl, (List.forall_mem_cons.2 ⟨rfl, (List.forall_mem_cons.2 ⟨rfl, (fun _ h_ => by cases h_)⟩)⟩)⟩) rfl) ?_
      rintro w109 ⟨b110, S111, K112⟩
      replace b24 := K112.blk 1 rfl b24
      replace h6 := h6.move (K112.at 2 rfl)
      replace h10 := h10.move (K112.at 3 rfl)
      replace b3 := K112.blk 4 rfl b3
      clear b19
      refine wpList_nil (inb_n (then_n ?_))
      have S113 := S111.pull (F := (is g2)) (Fr := [(is g18), (is g85), (is g23), F7, F11]) 5 rfl rfl
      have S114 := S113.pull (F := F11) (Fr := [(is g2), (is g18), (is g85), (is g23), F7]) 5 rfl rfl
      have S115 := S114.pull (F := F7) (Fr := [F11, (is g2), (is g18), (is g85), (is g23)]) 5 rfl rfl
      have S116 := S115.pull (F := (is g18)) (Fr := [F7, F11, (is g2), (is g85), (is g23)]) 3 rfl rfl
      have S117 := S116.pull (F := (is g23)) (Fr := [(is g18), F7, F11, (is g2), (is g85)]) 5 rfl rfl
      have S118 := St.first (Fa := [(is g23), (is g18), F7, F11, (is g2)]) (Fr := [(is g85)]) S117
      exact ⟨k44, (by omega), _, ((x1.cells_.getD ((x30).toNat) z36).kind), ((x1.cells_.getD ((x30).toNat) z36).n), ((x1.cells_.getD ((x30).toNat) z36).text), A78, c79, rfl, (by exact e36), (by exact e37), (by exact e38), b24, b110, h6, h10, b3, h81, l80, S118, M⟩
    replace M := ifn q97 M
    refine lskip (t := 20) (c := false) rfl (by kernel_rfl) rfl (bf q97 (by kernel_rfl)) rfl rfl ?_
    refine lskip (t := 20) (c := false) rfl (by kernel_rfl) rfl (bf q97 (by kernel_rfl)) rfl rfl ?_
    refine lskip (t := 20) (c := false) rfl (by kernel_rfl) rfl (bf q97 (by kernel_rfl)) rfl rfl ?_
    refine lskip (t := 20) (c := false) rfl (by kernel_rfl) rfl (bf q97 (by kernel_rfl)) rfl rfl ?_
    refine lskip (t := 20) (c := false) rfl (by kernel_rfl) rfl (bf q97 (by kernel_rfl)) rfl rfl ?_
    refine lv (d := 26) rfl rfl (by kernel_rfl) (e_pick_f (v := .bool false) (bf q97 (by kernel_rfl)) rfl) (wpList_nil (then_n (cond_f rfl (by kernel_rfl) (wp_skip (then_n (wp_region_lit (lv (d := 28) rfl rfl (by kernel_rfl) (e_loadS (b := g85) (off := 0) (cs := [.int .i64 ((x1.cells_.getD ((x30).toNat) z36).kind), .int .i64 ((x1.cells_.getD ((x30).toNat) z36).n), .slice A78 ((x1.cells_.getD ((x30).toNat) z36).text).length c79]) Try.underlying36 rfl (by kernel_rfl) (by kernel_rfl) (blk_cells b92 rfl)) ?_)))))))
    have S119 := S93.pull (F := (is g18)) (Fr := [(is g85), (is g23), F7, F11, (is g2)]) 2 rfl rfl
    refine lse rfl rfl (by kernel_rfl) (e_store (g := g18) (o := 0) (v := .agg #[.int .i64 ((x1.cells_.getD ((x30).toNat) z36).kind), .int .i64 ((x1.cells_.getD ((x30).toNat) z36).n), .slice A78 ((x1.cells_.getD ((x30).toNat) z36).text).length c79]) (cur' := #[.int .i64 ((x1.cells_.getD ((x30).toNat) z36).kind), .int .i64 ((x1.cells_.getD ((x30).toNat) z36).n), .slice A78 ((x1.cells_.getD ((x30).toNat) z36).text).length c79]) (vs := [.int .i64 ((x1.cells_.getD ((x30).toNat) z36).kind), .int .i64 ((x1.cells_.getD ((x30).toNat) z36).n), .slice A78 ((x1.cells_.getD ((x30).toNat) z36).text).length c79]) S119 (by exact e37) (by kernel_rfl) rfl (by kernel_rfl) b19 (Nat.le_of_ble_eq_true rfl) (List.forall_mem_cons.2 ⟨rfl, (List.forall_mem_cons.2 ⟨rfl, (List.forall_mem_cons.2 ⟨rfl, (fun _ h_ => by cases h_)⟩)⟩)⟩) rfl) ?_
    rintro w120 ⟨b121, S122, K123⟩
    replace b24 := K123.blk 1 rfl b24
    replace h6 := h6.move (K123.at 2 rfl)
    replace h10 := h10.move (K123.at 3 rfl)
    replace b3 := K123.blk 4 rfl b3
    clear b19
    refine wpList_nil (inb_n (then_n ?_))
    have S124 := S122.pull (F := (is g2)) (Fr := [(is g18), (is g85), (is g23), F7, F11]) 5 rfl rfl
    have S125 := S124.pull (F := F11) (Fr := [(is g2), (is g18), (is g85), (is g23), F7]) 5 rfl rfl
    have S126 := S125.pull (F := F7) (Fr := [F11, (is g2), (is g18), (is g85), (is g23)]) 5 rfl rfl
    have S127 := S126.pull (F := (is g18)) (Fr := [F7, F11, (is g2), (is g85), (is g23)]) 3 rfl rfl
    have S128 := S127.pull (F := (is g23)) (Fr := [(is g18), F7, F11, (is g2), (is g85)]) 5 rfl rfl
    have S129 := St.first (Fa := [(is g23), (is g18), F7, F11, (is g2)]) (Fr := [(is g85)]) S128
    exact ⟨k44, (by omega), _, ((x1.cells_.getD ((x30).toNat) z36).kind), ((x1.cells_.getD ((x30).toNat) z36).n), ((x1.cells_.getD ((x30).toNat) z36).text), A78, c79, rfl, (by exact e36), (by exact e37), (by exact e38), b24, b121, h6, h10, b3, h81, l80, S129, M⟩
  replace M := ifn q45 M
  refine cond_f rfl (bf q45 (by kernel_rfl)) (wp_exit (then_e (then_e (inb_hit (then_n (wp_seq (wp_region_lit ?_)))))))
  refine lv (d := 29) rfl rfl (by kernel_rfl) (e_loadS (b := g18) (off := 0) (cs := [.int .i64 x29, .int .i64 x30, .slice A32 x31.length c33]) Try.underlying36 rfl (by kernel_rfl) (by exact e37) (blk_cells b19 rfl)) ?_
  refine lse rfl rfl (by kernel_rfl) (e_store (g := g23) (o := 0) (v := .agg #[.int .i64 x29, .int .i64 x30, .slice A32 x31.length c33]) (cur' := #[.int .i64 x29, .int .i64 x30, .slice A32 x31.length c33]) (vs := [.int .i64 x29, .int .i64 x30, .slice A32 x31.length c33]) S39 (by exact e38) (by kernel_rfl) rfl (by kernel_rfl) b24 (Nat.le_of_ble_eq_true rfl) (List.forall_mem_cons.2 ⟨rfl, (List.forall_mem_cons.2 ⟨rfl, (List.forall_mem_cons.2 ⟨rfl, (fun _ h_ => by cases h_)⟩)⟩)⟩) rfl) ?_
  rintro w130 ⟨b131, S132, K133⟩
  replace h6 := h6.move (K133.at 1 rfl)
  replace h10 := h10.move (K133.at 2 rfl)
  replace b3 := K133.blk 3 rfl b3
  clear b24
  refine wpList_nil (then_n (wp_ret ?_))
  obtain rfl := Option.some.inj M
  have S134 := S132.pull (F := (is g2)) (Fr := [(is g23), (is g18), F7, F11]) 4 rfl rfl
  have S135 := S134.pull (F := F11) (Fr := [(is g2), (is g23), (is g18), F7]) 4 rfl rfl
  have S136 := S135.pull (F := F7) (Fr := [F11, (is g2), (is g23), (is g18)]) 4 rfl rfl
  have S137 := St.first (Fa := [F7, F11, (is g2)]) (Fr := [(is g23), (is g18)]) S136
  exact retS (ty := 36) (cur := #[.int .i64 x29, .int .i64 x30, .slice A32 x31.length c33]) rfl rfl (by exact e38) b131 Try.underlying36 rfl (by kernel_rfl) ⟨A32, c33, H, rfl, h6, h10, b3, h34, l35, S137⟩

/-! spec_l10ref -/
def spec_l10ref.f (x1 : Int) : Option Cell := some (⟨0, x1, []⟩ : Cell)
theorem spec_l10ref.calls (w : World) (H : Hp) (x1 : Int) (S : Own [] H w) (r : Cell) (M : spec_l10ref.f x1 = some r) :
    Calls Try.prog 68 #[.int .i64 x1] w (fun e e_w => ∃ (A_1 : Option Addr) (c_1 : Nat) (F_1 : Foot) (H_ : Hp), e = .returned (.agg #[.int .i64 r.kind, .int .i64 r.n, .slice A_1 r.text.length c_1]) ∧ Row tByte 5 H_ (hp e_w) F_1 A_1 c_1 r.text ∧ St (anyOf []) H w [F_1] H_ e_w) := by
  rw [spec_l10ref.f] at M
  refine enter (l := [.int .i64 x1]) 5 Try.func68 rfl rfl rfl ?_
  have S0_ := S.st
  refine wp_seq (wp_region_lit ?_)
  refine lve (d := 2) rfl rfl (by kernel_rfl) (new_blk (v := fun g_ => .pointer (some ⟨g_, 0, none⟩)) (cs := #[.int .i64 0, .int .i64 0, .slice none 0 0]) (t := 36) S0_ (by kernel_rfl)) ?_
  rintro _ w2 ⟨g3, rfl, b4, S5, K6⟩
  refine wpList_nil (then_n (wp_seq (wp_region_lit (lv (d := 3) rfl rfl (by kernel_rfl) (e_move (v := .int .i64 x1) (by kernel_rfl)) (lv (d := 4) rfl rfl (by kernel_rfl) (show _ = Result.ok (Next.value (.agg #[.int .i64 0, .int .i64 x1, .slice none 0 0])) w2 from by kernel_rfl) ?_)))))
  refine lse rfl rfl (by kernel_rfl) (e_store (g := g3) (o := 0) (v := .agg #[.int .i64 0, .int .i64 x1, .slice none 0 0]) (cur' := #[.int .i64 0, .int .i64 x1, .slice none 0 0]) (vs := [.int .i64 0, .int .i64 x1, .slice none 0 0]) S5 (by kernel_rfl) (by kernel_rfl) rfl (by kernel_rfl) b4 (Nat.le_of_ble_eq_true rfl) (List.forall_mem_cons.2 ⟨rfl, (List.forall_mem_cons.2 ⟨rfl, (List.forall_mem_cons.2 ⟨rfl, (fun _ h_ => by cases h_)⟩)⟩)⟩) rfl) ?_
  rintro w7 ⟨b8, S9, K10⟩
  clear b4
  refine wpList_nil (then_n (wp_ret ?_))
  obtain rfl := Option.some.inj M
  have S11 := S9.unit
  have S12 := St.first (Fa := [no]) (Fr := [(is g3)]) S11
  exact retS (ty := 36) (cur := #[.int .i64 0, .int .i64 x1, .slice none 0 0]) rfl rfl (by kernel_rfl) b8 Try.underlying36 rfl (by kernel_rfl) ⟨none, 0, no, H, rfl, (Row.nil _ _ _ _ no), S12⟩

/-! spec_l10set -/
def spec_l10set_2.f (x1 : GL10heap) (x12 : Int) (x13 : Cell) : Option (Int × GL10heap) := (if (x1.trail_.length : Int) ≥ 20000 then some (10, x1) else (if 0 ≤ x12 then (if x12 < (x1.cells_.length : Int) then (if x1.trail_.length + 1 ≤ 17592186044416 then some (0, (⟨(x1.cells_.set ((x12).toNat) x13), (x1.trail_ ++ [x12]), x1.pairs_⟩ : GL10heap)) else none) else none) else none))
theorem spec_l10set_2.calls (w : World) (H : Hp) (x1 : GL10heap) (g2 : Nat) (A4 : Option Addr) (c5 : Nat) (F7 : Foot) (A8 : Option Addr) (c9 : Nat) (F11 : Foot) (x12 : Int) (x13 : Cell) (A14 : Option Addr) (c15 : Nat) (h6 : Row (ro st36) 36 H (hp w) F7 A4 c5 x1.cells_) (h10 : Row tInt 3 H (hp w) F11 A8 c9 x1.trail_) (b3 : w.heap[g2]? = some (.cells #[.slice A4 x1.cells_.length c5, .slice A8 x1.trail_.length c9, .int .i64 x1.pairs_] 91 (0, 0))) (h16 : Rd tByte H A14 x13.text) (l17 : x13.text.length ≤ c15) (S : Own [F7, F11, (is g2)] H w) (r : Int × GL10heap) (M : spec_l10set_2.f x1 x12 x13 = some r) :
    Calls Try.prog 70 #[.pointer (some ⟨g2, 0, none⟩), .int .i64 x12, .agg #[.int .i64 x13.kind, .int .i64 x13.n, .slice A14 x13.text.length c15]] w (fun e e_w => ∃ (A_1 : Option Addr) (c_1 : Nat) (F_1 : Foot) (A_2 : Option Addr) (c_2 : Nat) (F_2 : Foot) (H_ : Hp), e = .returned (.int .i64 r.1) ∧ Row (ro st36) 36 H_ (hp e_w) F_1 A_1 c_1 r.2.cells_ ∧ Row tInt 3 H_ (hp e_w) F_2 A_2 c_2 r.2.trail_ ∧ e_w.heap[g2]? = some (.cells #[.slice A_1 r.2.cells_.length c_1, .slice A_2 r.2.trail_.length c_2, .int .i64 r.2.pairs_] 91 (0, 0)) ∧ St (anyOf [F7, F11, (is g2)]) H w [(is g2), F_1, F_2] H_ e_w) := by
  rw [spec_l10set_2.f] at M
  refine enter (l := [.pointer (some ⟨g2, 0, none⟩), .int .i64 x12, .agg #[.int .i64 x13.kind, .int .i64 x13.n, .slice A14 x13.text.length c15]]) 30 Try.func70 rfl rfl rfl ?_
  have S0_ := S.st
  refine wp_seq (wp_region_lit ?_)
  refine lve (d := 5) rfl rfl (by kernel_rfl) (new_blk (v := fun g_ => .pointer (some ⟨g_, 0, none⟩)) (cs := #[.int .i64 x13.kind, .int .i64 x13.n, .slice A14 x13.text.length c15]) (t := 36) S0_ (by kernel_rfl)) ?_
  rintro _ w18 ⟨g19, rfl, b20, S21, K22⟩
  replace h6 := h6.move (K22.at 0 rfl)
  replace h10 := h10.move (K22.at 1 rfl)
  replace b3 := K22.blk 2 rfl b3
  refine lv (d := 6) rfl rfl (by kernel_rfl) (e_assign (v := .int .i64 0) rfl) (wpList_nil (then_n (wp_seq (wp_seq (wp_region_lit (lv (d := 7) rfl rfl (by kernel_rfl) (e_move (v := .pointer (some ⟨g2, 0, none⟩)) (by kernel_rfl)) (lv (d := 8) rfl rfl (by kernel_rfl) (e_nilCheck (ad := ⟨g2, 0, none⟩) (by kernel_rfl)) ?_)))))))
  refine lv (d := 9) rfl rfl (by kernel_rfl) (e_fieldAddr (b := g2) (off := 0) (o := 1) Try.underlying91 rfl rfl (sz := 1) (by kernel_rfl) (by decide) (by kernel_rfl)) (lv (d := 10) rfl rfl (by kernel_rfl) (e_load1 (ad := ⟨g2, 0 + 1, none⟩) (v := .slice A8 x1.trail_.length c9) Try.underlying23 rfl (by kernel_rfl) (blk_cell b3 rfl)) (lv (d := 11) rfl rfl (by kernel_rfl) (e_len (A := A8) (n := x1.trail_.length) (c := c9) Try.underlying23 (by kernel_rfl)) (lv (d := 12) rfl rfl (by kernel_rfl) (e_geq (k := .i64) (a := (x1.trail_.length : Int)) (b := 20000) (by kernel_rfl) rfl) (wpList_nil (then_n ?_)))))
  by_cases q23 : (x1.trail_.length : Int) ≥ 20000
  · replace M := ifp q23 M
    refine cond_t rfl (bt q23 (by kernel_rfl)) (wp_seq (wp_region_lit (lv (d := 6) rfl rfl (by kernel_rfl) (e_assign (v := .int .i64 10) rfl) (wpList_nil (then_n (wp_ret (then_r ?_)))))))
    obtain rfl := Option.some.inj M
    have S24 := S21.pull (F := F11) (Fr := [(is g19), F7, (is g2)]) 2 rfl rfl
    have S25 := S24.pull (F := F7) (Fr := [F11, (is g19), (is g2)]) 2 rfl rfl
    have S26 := S25.pull (F := (is g2)) (Fr := [F7, F11, (is g19)]) 3 rfl rfl
    have S27 := St.first (Fa := [(is g2), F7, F11]) (Fr := [(is g19)]) S26
    exact ret1 rfl rfl  (show _ = .int .i64 10 from (by kernel_rfl)) ⟨A4, c5, F7, A8, c9, F11, H, rfl, h6, h10, b3, S27⟩
  replace M := ifn q23 M
  refine cond_f rfl (bf q23 (by kernel_rfl)) (wp_skip (then_n (wp_seq ?_)))
  refine region_mix (S := (fun (L_ : Array Bool) (w_ : World) => Ext H (hp w_) ∧ (∀ b_, (is g2) b_ → hp w_ b_ = hp w18 b_))) (by kernel_rfl) S21 ?_
  intro w28 S29 K30 hc31
  have o32 := b3
  have hs33 : (fun (L_ : Array Bool) (w_ : World) => Ext H (hp w_) ∧ (∀ b_, (is g2) b_ → hp w_ b_ = hp w18 b_)) (Array.replicate 8 false) w28 := ⟨S29.inv, (fun b_ h_ => K30.at 3 rfl b_ h_)⟩
  replace b20 := K30.blk 0 rfl b20
  replace h6 := h6.move (K30.at 1 rfl)
  replace h10 := h10.move (K30.at 2 rfl)
  replace b3 := K30.blk 3 rfl b3
  refine xv (i := 0) (d := 13) rfl rfl rfl (by kernel_rfl) (by kernel_rfl) (fun _ _ => Iff.rfl) hc31 hs33 (fun L_ w_ hc_ hu_ hs_ => e_move (v := .pointer (some ⟨g2, 0, none⟩)) (by kernel_rfl)) ?_; intro hc34 hs35
  refine xv (i := 1) (d := 14) rfl rfl rfl (by kernel_rfl) (by kernel_rfl) (fun _ _ => Iff.rfl) hc34 hs35 (fun L_ w_ hc_ hu_ hs_ => e_nilCheck (ad := ⟨g2, 0, none⟩) (by kernel_rfl)) ?_; intro hc36 hs37
  refine xv (i := 2) (d := 15) rfl rfl rfl (by kernel_rfl) (by kernel_rfl) (fun _ _ => Iff.rfl) hc36 hs37 (fun L_ w_ hc_ hu_ hs_ => e_fieldAddr (b := g2) (off := 0) (o := 0) Try.underlying91 rfl rfl (sz := 1) (by kernel_rfl) (by decide) (by kernel_rfl)) ?_; intro hc38 hs39
  refine xv (i := 3) (d := 16) rfl rfl rfl (by kernel_rfl) (by kernel_rfl) (fun _ _ => Iff.rfl) hc38 hs39 (fun L_ w_ hc_ hu_ hs_ => e_load1 (ad := ⟨g2, 0 + 0, none⟩) (v := .slice A4 x1.cells_.length c5) Try.underlying32 rfl (by kernel_rfl) (blk_cell ((hs_.2 _ rfl).trans o32) rfl)) ?_; intro hc40 hs41
  refine xv (i := 4) (d := 17) rfl rfl rfl (by kernel_rfl) (by kernel_rfl) (fun _ _ => Iff.rfl) hc40 hs41 (fun L_ w_ hc_ hu_ hs_ => e_move (v := .int .i64 x12) (by kernel_rfl)) ?_; intro hc42 hs43
  refine xone (i := 5) (by kernel_rfl) hc42 ?_
  refine yo (i := 5) (d := 18) rfl rfl (wanted_none rfl _) (by kernel_rfl) (by kernel_rfl) (fun _ _ => Iff.rfl) hs43 (e_loadS (b := g19) (off := 0) (cs := [.int .i64 x13.kind, .int .i64 x13.n, .slice A14 x13.text.length c15]) Try.underlying36 rfl (by kernel_rfl) (by kernel_rfl) (blk_cells b20 rfl)) ?_; intro hc44 hs45
  obtain ⟨q46, M⟩ := chk M
  obtain ⟨q47, M⟩ := chk M
  obtain ⟨b48, e50⟩ := Row.addr h6 (show (x12).toNat < x1.cells_.length by omega)
  refine xone (i := 6) (by kernel_rfl) hc44 ?_
  refine yo (i := 6) (d := 19) rfl rfl (wanted_none rfl _) (by kernel_rfl) (by kernel_rfl) (fun _ _ => Iff.rfl) hs45 (e_indexAddr (b := b48) (off := 0) (n := x1.cells_.length) (c := c5) (sz := 3) (i := x12) (k := .i64) Try.underlying32 e50 (by kernel_rfl) (by kernel_rfl) (by kernel_rfl) q46 q47) ?_; intro hc51 hs52
  have S53 := S29.pull (F := F7) (Fr := [(is g19), F11, (is g2)]) 1 rfl rfl
  have S54 := S53.unit
  have S55 := S54.pull (F := F7) (Fr := [no, (is g19), F11, (is g2)]) 1 rfl rfl
  refine xone (i := 7) (by kernel_rfl) hc51 ?_
  refine ys (i := 7) rfl rfl (wanted_none rfl _) (by kernel_rfl) (by kernel_rfl) (e_setel (d := (ro st36)) (b := b48) (i := (x12).toNat) (v := .agg #[.int .i64 x13.kind, .int .i64 x13.n, .slice A14 x13.text.length c15]) (vs := [.int .i64 x13.kind, .int .i64 x13.n, .slice A14 x13.text.length c15]) (yv := x13) S55 (by kernel_rfl) e50 (by kernel_rfl) rfl (by kernel_rfl) h6 (show (x12).toNat < x1.cells_.length by omega) (st36_mkR (x := x13) l17 h16)) ?_
  rintro hc61 w56 ⟨F58, h57, S59, K60⟩
  replace h10 := h10.move (K60.at 1 rfl)
  replace b3 := K60.blk 2 rfl b3
  refine ⟨⟨S59.inv, (fun b_ h_ => (K60.at 2 rfl b_ h_).trans (hs52.2 b_ h_))⟩, fun hs62 => ?_⟩
  clear h6
  refine xn (by kernel_rfl) ?_ _
  refine then_n (wp_seq (wp_region_lit (lv (d := 20) rfl rfl (by kernel_rfl) (e_move (v := .pointer (some ⟨g2, 0, none⟩)) (by kernel_rfl)) (lv (d := 21) rfl rfl (by kernel_rfl) (e_move (v := .pointer (some ⟨g2, 0, none⟩)) (by kernel_rfl)) (lv (d := 22) rfl rfl (by kernel_rfl) (e_nilCheck (ad := ⟨g2, 0, none⟩) (by kernel_rfl)) (lv (d := 23) rfl rfl (by kernel_rfl) (e_fieldAddr (b := g2) (off := 0) (o := 1) Try.underlying91 rfl rfl (sz := 1) (by kernel_rfl) (by decide) (by kernel_rfl)) (lv (d := 24) rfl rfl (by kernel_rfl) (e_load1 (ad := ⟨g2, 0 + 1, none⟩) (v := .slice A8 x1.trail_.length c9) Try.underlying23 rfl (by kernel_rfl) (blk_cell b3 rfl)) ?_)))))))
  refine lv (d := 25) rfl rfl (by kernel_rfl) (e_move (v := .int .i64 x12) (by kernel_rfl)) ?_
  refine lve (d := 26) rfl rfl (by kernel_rfl) (new_blk (v := fun g_ => .slice (some ⟨g_, 0, none⟩) 1 1) (cs := #[.int .i64 x12]) (t := 3) S59 (by kernel_rfl)) ?_
  rintro _ w63 ⟨g64, rfl, b65, S66, K67⟩
  replace h57 := h57.move (K67.at 0 rfl)
  replace h10 := h10.move (K67.at 2 rfl)
  replace b3 := K67.blk 3 rfl b3
  obtain ⟨q68, M⟩ := chk M
  have S69 := S66.pull (F := F11) (Fr := [(is g64), F58, (is g19), (is g2)]) 3 rfl rfl
  have S70 := S69.unit
  have S71 := S70.pull (F := F11) (Fr := [no, (is g64), F58, (is g19), (is g2)]) 1 rfl rfl
  refine lve (d := 27) rfl rfl (by kernel_rfl) (e_append (d := tInt) (n := x1.trail_.length) (xs := x1.trail_) (cap := c9) (A := A8) (ys := [x12]) (A2 := (some ⟨g64, 0, none⟩)) (c2 := 1) (z := .int .i64 0) (bytes := 8) S71 Try.underlying23 (by kernel_rfl) rfl (by decide) (by kernel_rfl) rfl (by kernel_rfl) h10 (elsO_one1 rfl) (.inr (blk_news b65 rfl)) (show (x1.trail_.length + [x12].length) * 8 ≤ _ by first | omega | (simp only [List.length_cons, List.length_nil]; omega)) (by decide)) ?_
  rintro _ w72 ⟨A73, c74, F75, rfl, h76, S77, K78⟩
  replace h57 := h57.move (K78.at 1 rfl)
  replace b3 := K78.blk 3 rfl b3
  refine lv (d := 28) rfl rfl (by kernel_rfl) (e_nilCheck (ad := ⟨g2, 0, none⟩) (by kernel_rfl)) (lv (d := 29) rfl rfl (by kernel_rfl) (e_fieldAddr (b := g2) (off := 0) (o := 1) Try.underlying91 rfl rfl (sz := 1) (by kernel_rfl) (by decide) (by kernel_rfl)) ?_)
  have S79 := S77.pull (F := (is g2)) (Fr := [F75, (is g64), F58, (is g19)]) 4 rfl rfl
  refine lse rfl rfl (by kernel_rfl) (e_store (g := g2) (o := 0 + 1) (v := .slice A73 ((x1.trail_ ++ [x12]).length) c74) (cur' := #[.slice A4 x1.cells_.length c5, .slice A73 ((x1.trail_ ++ [x12]).length) c74, .int .i64 x1.pairs_]) (vs := [.slice A73 ((x1.trail_ ++ [x12]).length) c74]) S79 (by kernel_rfl) (by kernel_rfl) rfl (by kernel_rfl) b3 (Nat.le_of_ble_eq_true rfl) (List.forall_mem_cons.2 ⟨rfl, (fun _ h_ => by cases h_)⟩) rfl) ?_
  rintro w80 ⟨b81, S82, K83⟩
  replace h76 := h76.move (K83.at 0 rfl)
  replace h57 := h57.move (K83.at 2 rfl)
  clear b3
  refine wpList_nil (then_n (wp_seq (wp_region_lit (lv (d := 6) rfl rfl (by kernel_rfl) (e_assign (v := .int .i64 0) rfl) (wpList_nil (then_n (wp_ret ?_)))))))
  obtain rfl := Option.some.inj M
  have S84 := S82.pull (F := F75) (Fr := [(is g2), (is g64), F58, (is g19)]) 1 rfl rfl
  have S85 := S84.pull (F := F58) (Fr := [F75, (is g2), (is g64), (is g19)]) 3 rfl rfl
  have S86 := S85.pull (F := (is g2)) (Fr := [F58, F75, (is g64), (is g19)]) 2 rfl rfl
  have S87 := St.first (Fa := [(is g2), F58, F75]) (Fr := [(is g64), (is g19)]) S86
  exact ret1 rfl rfl  (show _ = .int .i64 0 from (by kernel_rfl)) ⟨A4, c5, F58, A73, c74, F75, H, rfl, h57, h76, (by have q_ := b81; rw [← (show (x1.cells_.set ((x12).toNat) x13).length = x1.cells_.length from (List.length_set.trans rfl))] at q_; exact q_), S87⟩

/-! spec_l10deref -/
def spec_l10deref_2.l0 : Nat → GL10heap → Int → Int → (List UInt8) → Option Cell
  | 0, _, _, _, _ => none
  | k44 + 1, x1, x29, x30, x31 => (if x29 = 0 then (if 0 ≤ x30 then (if x30 < (x1.cells_.length : Int) then (if ((x1.cells_.getD ((x30).toNat) z36).kind) = 0 then (if ((x1.cells_.getD ((x30).toNat) z36).n) = x30 then some (⟨x29, x30, x31⟩ : Cell) else (spec_l10deref_2.l0 k44 x1 ((x1.cells_.getD ((x30).toNat) z36).kind) ((x1.cells_.getD ((x30).toNat) z36).n) ((x1.cells_.getD ((x30).toNat) z36).text))) else (spec_l10deref_2.l0 k44 x1 ((x1.cells_.getD ((x30).toNat) z36).kind) ((x1.cells_.getD ((x30).toNat) z36).n) ((x1.cells_.getD ((x30).toNat) z36).text))) else none) else none) else some (⟨x29, x30, x31⟩ : Cell))
def spec_l10deref_2.f (k : Nat) (x1 : GL10heap) (x12 : Cell) : Option Cell := (spec_l10deref_2.l0 k x1 x12.kind x12.n x12.text)
theorem spec_l10deref_2.calls (k : Nat) (w : World) (H : Hp) (x1 : GL10heap) (g2 : Nat) (A4 : Option Addr) (c5 : Nat) (A8 : Option Addr) (c9 : Nat) (x12 : Cell) (A13 : Option Addr) (c14 : Nat) (h6 : Rd st36 H A4 x1.cells_) (l7 : x1.cells_.length ≤ c5) (h10 : Rd tInt H A8 x1.trail_) (l11 : x1.trail_.length ≤ c9) (b3 : H g2 = some (.cells #[.slice A4 x1.cells_.length c5, .slice A8 x1.trail_.length c9, .int .i64 x1.pairs_] 91 (0, 0))) (h15 : Rd tByte H A13 x12.text) (l16 : x12.text.length ≤ c14) (S : Own [] H w) (r : Cell) (M : spec_l10deref_2.f k x1 x12 = some r) :
    Calls Try.prog 46 #[.pointer (some ⟨g2, 0, none⟩), .agg #[.int .i64 x12.kind, .int .i64 x12.n, .slice A13 x12.text.length c14]] w (fun e e_w => ∃ (A_1 : Option Addr) (c_1 : Nat) (H_ : Hp), e = .returned (.agg #[.int .i64 r.kind, .int .i64 r.n, .slice A_1 r.text.length c_1]) ∧ Rd tByte H_ A_1 r.text ∧ r.text.length ≤ c_1 ∧ St (anyOf []) H w [] H_ e_w) := by
  rw [spec_l10deref_2.f] at M
  refine enter (l := [.pointer (some ⟨g2, 0, none⟩), .agg #[.int .i64 x12.kind, .int .i64 x12.n, .slice A13 x12.text.length c14]]) 30 Try.func46 rfl rfl rfl ?_
  have S0_ := S.st
  refine wp_seq (wp_region_lit ?_)
  refine lve (d := 3) rfl rfl (by kernel_rfl) (new_blk (v := fun g_ => .pointer (some ⟨g_, 0, none⟩)) (cs := #[.int .i64 x12.kind, .int .i64 x12.n, .slice A13 x12.text.length c14]) (t := 36) S0_ (by kernel_rfl)) ?_
  rintro _ w17 ⟨g18, rfl, b19, S20, K21⟩
  refine lve (d := 4) rfl rfl (by kernel_rfl) (new_blk (v := fun g_ => .pointer (some ⟨g_, 0, none⟩)) (cs := #[.int .i64 0, .int .i64 0, .slice none 0 0]) (t := 36) S20 (by kernel_rfl)) ?_
  rintro _ w22 ⟨g23, rfl, b24, S25, K26⟩
  replace b19 := K26.blk 0 rfl b19
  refine wpList_nil (then_n (wp_seq (wp_block ?_)))
  refine wp_loop_g (fun k42 a43 w27 => ∃ (f28 : Nat → Value) (x29 : Int) (x30 : Int) (x31 : List UInt8) (A32 : Option Addr) (c33 : Nat), a43 = mk 30 f28 ∧ f28 0 = .pointer (some ⟨g2, 0, none⟩) ∧ f28 3 = .pointer (some ⟨g18, 0, none⟩) ∧ f28 4 = .pointer (some ⟨g23, 0, none⟩) ∧ w27.heap[g23]? = some (.cells #[.int .i64 0, .int .i64 0, .slice none 0 0] 36 (0, 0)) ∧ w27.heap[g18]? = some (.cells #[.int .i64 x29, .int .i64 x30, .slice A32 x31.length c33] 36 (0, 0)) ∧ Rd tByte H A32 x31 ∧ x31.length ≤ c33 ∧ St (anyOf []) H w [(is g23), (is g18)] H w27 ∧ spec_l10deref_2.l0 k42 x1 x29 x30 x31 = some r) k ⟨_, x12.kind, x12.n, x12.text, A13, c14, rfl, (by kernel_rfl), (by kernel_rfl), (by kernel_rfl), b24, b19, h15, l16, S25, M⟩ ?_
  clear M
  rintro k42 a43 w27 ⟨f28, x29, x30, x31, A32, c33, rfl, e36, e37, e38, b24, b19, h34, l35, S39, M⟩
  rcases k42 with _ | k44
  · rw [spec_l10deref_2.l0] at M
    cases M
  rw [spec_l10deref_2.l0] at M
  refine wp_seq (wp_seq (wp_region_lit (lv (d := 6) rfl rfl (by kernel_rfl) (e_fieldAddr (b := g18) (off := 0) (o := 0) Try.underlying36 rfl rfl (sz := 1) (by kernel_rfl) (by decide) (by exact e37)) (lv (d := 7) rfl rfl (by kernel_rfl) (e_load1 (ad := ⟨g18, 0 + 0, none⟩) (v := .int .i64 x29) Try.underlying3 rfl (by kernel_rfl) (blk_cell b19 rfl)) (lv (d := 8) rfl rfl (by kernel_rfl) (e_eql (k := .i64) (a := x29) (b := 0) (by kernel_rfl) rfl) (wpList_nil (then_n ?_)))))))
  by_cases q45 : x29 = 0
  · replace M := ifp q45 M
    refine cond_t rfl (bt q45 (by kernel_rfl)) (wp_skip (then_n (wp_block (wp_seq ?_))))
    refine region_mix (S := (fun (L_ : Array Bool) (w_ : World) => Ext H (hp w_) ∧ (∀ b_, (is g18) b_ → hp w_ b_ = hp w27 b_))) (by kernel_rfl) S39 ?_
    intro w46 S47 K48 hc49
    have o50 := b19
    have hs51 : (fun (L_ : Array Bool) (w_ : World) => Ext H (hp w_) ∧ (∀ b_, (is g18) b_ → hp w_ b_ = hp w27 b_)) (Array.replicate 10 false) w46 := ⟨S47.inv, (fun b_ h_ => K48.at 1 rfl b_ h_)⟩
    replace b24 := K48.blk 0 rfl b24
    replace b19 := K48.blk 1 rfl b19
    refine xv (i := 0) (d := 9) rfl rfl rfl (by kernel_rfl) (by kernel_rfl) (fun _ _ => Iff.rfl) hc49 hs51 (fun L_ w_ hc_ hu_ hs_ => e_move (v := .pointer (some ⟨g2, 0, none⟩)) (by exact e36)) ?_; intro hc52 hs53
    refine xv (i := 1) (d := 10) rfl rfl rfl (by kernel_rfl) (by kernel_rfl) (fun _ _ => Iff.rfl) hc52 hs53 (fun L_ w_ hc_ hu_ hs_ => e_nilCheck (ad := ⟨g2, 0, none⟩) (by kernel_rfl)) ?_; intro hc54 hs55
    refine xv (i := 2) (d := 11) rfl rfl rfl (by kernel_rfl) (by kernel_rfl) (fun _ _ => Iff.rfl) hc54 hs55 (fun L_ w_ hc_ hu_ hs_ => e_fieldAddr (b := g2) (off := 0) (o := 0) Try.underlying91 rfl rfl (sz := 1) (by kernel_rfl) (by decide) (by kernel_rfl)) ?_; intro hc56 hs57
    refine xv (i := 3) (d := 12) rfl rfl rfl (by kernel_rfl) (by kernel_rfl) (fun _ _ => Iff.rfl) hc56 hs57 (fun L_ w_ hc_ hu_ hs_ => e_load1 (ad := ⟨g2, 0 + 0, none⟩) (v := .slice A4 x1.cells_.length c5) Try.underlying32 rfl (by kernel_rfl) (blk_cell (hs_.1 _ _ b3) rfl)) ?_; intro hc58 hs59
    refine xv (i := 4) (d := 13) rfl rfl rfl (by kernel_rfl) (by kernel_rfl) (fun _ _ => Iff.rfl) hc58 hs59 (fun L_ w_ hc_ hu_ hs_ => e_fieldAddr (b := g18) (off := 0) (o := 1) Try.underlying36 rfl rfl (sz := 1) (by kernel_rfl) (by decide) (by exact e37)) ?_; intro hc60 hs61
    refine xv (i := 5) (d := 14) rfl rfl rfl (by kernel_rfl) (by kernel_rfl) (fun _ _ => Iff.rfl) hc60 hs61 (fun L_ w_ hc_ hu_ hs_ => e_load1 (ad := ⟨g18, 0 + 1, none⟩) (v := .int .i64 x30) Try.underlying3 rfl (by kernel_rfl) (blk_cell ((hs_.2 _ rfl).trans o50) rfl)) ?_; intro hc62 hs63
    obtain ⟨q64, M⟩ := chk M
    obtain ⟨q65, M⟩ := chk M
    obtain ⟨b66, o67, e68⟩ := Rd.addr h6 (show (x30).toNat < x1.cells_.length by omega)
    obtain ⟨y69, r70, k71⟩ := Rd.at h6 e68 (getD_some z36 (show (x30).toNat < x1.cells_.length by omega))
    obtain ⟨A72, c73, rfl, l74, h75⟩ := st36_open r70
    refine xv (i := 6) (d := 15) rfl rfl rfl (by kernel_rfl) (by kernel_rfl) (fun _ _ => Iff.rfl) hc62 hs63 (fun L_ w_ hc_ hu_ hs_ => e_indexAddr (b := b66) (off := o67) (n := x1.cells_.length) (c := c5) (sz := 3) (i := x30) (k := .i64) Try.underlying32 e68 (by kernel_rfl) (by kernel_rfl) (by kernel_rfl) q64 q65) ?_; intro hc76 hs77
    refine xv (i := 7) (d := 16) rfl rfl rfl (by kernel_rfl) (by kernel_rfl) (fun _ _ => Iff.rfl) hc76 hs77 (fun L_ w_ hc_ hu_ hs_ => e_loadS (b := b66) (off := o67 + (x30 : Int).toNat * 3) (cs := [.int .i64 ((x1.cells_.getD ((x30).toNat) z36).kind), .int .i64 ((x1.cells_.getD ((x30).toNat) z36).n), .slice A72 ((x1.cells_.getD ((x30).toNat) z36).text).length c73]) Try.underlying36 rfl (by kernel_rfl) (by kernel_rfl) (fun j_ u_ e_ => (hpx (hs_.1.cell (k71 j_ u_ e_))))) ?_; intro hc78 hs79
    refine xone (i := 8) (by kernel_rfl) hc78 ?_
    refine ye (i := 8) (d := 5) rfl rfl (wanted_none rfl _) (by kernel_rfl) (by kernel_rfl) (new_blk (v := fun g_ => .pointer (some ⟨g_, 0, none⟩)) (cs := #[.int .i64 0, .int .i64 0, .slice none 0 0]) (t := 36) S47 (by kernel_rfl)) ?_
    rintro hc85 _ w80 ⟨g81, rfl, b82, S83, K84⟩
    replace b24 := K84.blk 0 rfl b24
    replace b19 := K84.blk 1 rfl b19
    refine ⟨⟨S83.inv, (fun b_ h_ => (K84.at 1 rfl b_ h_).trans (hs79.2 b_ h_))⟩, fun hs86 => ?_⟩
    refine xone (i := 9) (by kernel_rfl) hc85 ?_
    refine ys (i := 9) rfl rfl (wanted_none rfl _) (by kernel_rfl) (by kernel_rfl) (e_store (g := g81) (o := 0) (v := .agg #[.int .i64 ((x1.cells_.getD ((x30).toNat) z36).kind), .int .i64 ((x1.cells_.getD ((x30).toNat) z36).n), .slice A72 ((x1.cells_.getD ((x30).toNat) z36).text).length c73]) (cur' := #[.int .i64 ((x1.cells_.getD ((x30).toNat) z36).kind), .int .i64 ((x1.cells_.getD ((x30).toNat) z36).n), .slice A72 ((x1.cells_.getD ((x30).toNat) z36).text).length c73]) (vs := [.int .i64 ((x1.cells_.getD ((x30).toNat) z36).kind), .int .i64 ((x1.cells_.getD ((x30).toNat) z36).n), .slice A72 ((x1.cells_.getD ((x30).toNat) z36).text).length c73]) S83 (by kernel_rfl) (by kernel_rfl) rfl (by kernel_rfl) b82 (Nat.le_of_ble_eq_true rfl) (List.forall_mem_cons.2 ⟨rfl, (List.forall_mem_cons.2 ⟨rfl, (List.forall_mem_cons.2 ⟨rfl, (fun _ h_ => by cases h_)⟩)⟩)⟩) rfl) ?_
    rintro hc91 w87 ⟨b88, S89, K90⟩
    replace b24 := K90.blk 0 rfl b24
    replace b19 := K90.blk 1 rfl b19
    refine ⟨⟨S89.inv, (fun b_ h_ => (K90.at 1 rfl b_ h_).trans (hs86.2 b_ h_))⟩, fun hs92 => ?_⟩
    clear b82
    refine xn (by kernel_rfl) ?_ _
    refine then_n (wp_seq (wp_seq (wp_region_lit (lv (d := 17) rfl rfl (by kernel_rfl) (e_fieldAddr (b := g81) (off := 0) (o := 0) Try.underlying36 rfl rfl (sz := 1) (by kernel_rfl) (by decide) (by kernel_rfl)) (lv (d := 18) rfl rfl (by kernel_rfl) (e_load1 (ad := ⟨g81, 0 + 0, none⟩) (v := .int .i64 ((x1.cells_.getD ((x30).toNat) z36).kind)) Try.underlying3 rfl (by kernel_rfl) (blk_cell b88 rfl)) (lv (d := 19) rfl rfl (by kernel_rfl) (e_eql (k := .i64) (a := (x1.cells_.getD ((x30).toNat) z36).kind) (b := 0) (by kernel_rfl) rfl) (lv (d := 20) rfl rfl (by kernel_rfl) (e_move (v := .bool (decide (((x1.cells_.getD ((x30).toNat) z36).kind) = 0))) (by kernel_rfl)) ?_)))))))
    by_cases q93 : ((x1.cells_.getD ((x30).toNat) z36).kind) = 0
    · replace M := ifp q93 M
      refine lvg (d := 21) (t := 20) rfl (by kernel_rfl) rfl (bt q93 (by kernel_rfl)) rfl (by kernel_rfl) (e_fieldAddr (b := g81) (off := 0) (o := 1) Try.underlying36 rfl rfl (sz := 1) (by kernel_rfl) (by decide) (by kernel_rfl)) (lvg (d := 22) (t := 20) rfl (by kernel_rfl) rfl (bt q93 (by kernel_rfl)) rfl (by kernel_rfl) (e_load1 (ad := ⟨g81, 0 + 1, none⟩) (v := .int .i64 ((x1.cells_.getD ((x30).toNat) z36).n)) Try.underlying3 rfl (by kernel_rfl) (blk_cell b88 rfl)) (lvg (d := 23) (t := 20) rfl (by kernel_rfl) rfl (bt q93 (by kernel_rfl)) rfl (by kernel_rfl) (e_fieldAddr (b := g18) (off := 0) (o := 1) Try.underlying36 rfl rfl (sz := 1) (by kernel_rfl) (by decide) (by exact e37)) (lvg (d := 24) (t := 20) rfl (by kernel_rfl) rfl (bt q93 (by kernel_rfl)) rfl (by kernel_rfl) (e_load1 (ad := ⟨g18, 0 + 1, none⟩) (v := .int .i64 x30) Try.underlying3 rfl (by kernel_rfl) (blk_cell b19 rfl)) (lvg (d := 25) (t := 20) rfl (by kernel_rfl) rfl (bt q93 (by kernel_rfl)) rfl (by kernel_rfl) (e_eql (k := .i64) (a := (x1.cells_.getD ((x30).toNat) z36).n) (b := x30) (by kernel_rfl) (by kernel_rfl)) (lv (d := 26) rfl rfl (by kernel_rfl) (e_pick_t (v := .bool (decide (((x1.cells_.getD ((x30).toNat) z36).n) = x30))) (bt q93 (by kernel_rfl)) (by kernel_rfl)) (wpList_nil (then_n ?_)))))))
      by_cases q94 : ((x1.cells_.getD ((x30).toNat) z36).n) = x30
      · replace M := ifp q94 M
        refine cond_t rfl (bt q94 (by kernel_rfl)) (wp_seq (wp_region_lit (lv (d := 27) rfl rfl (by kernel_rfl) (e_loadS (b := g18) (off := 0) (cs := [.int .i64 x29, .int .i64 x30, .slice A32 x31.length c33]) Try.underlying36 rfl (by kernel_rfl) (by exact e37) (blk_cells b19 rfl)) ?_)))
        have S95 := S89.pull (F := (is g23)) (Fr := [(is g81), (is g18)]) 1 rfl rfl
        refine lse rfl rfl (by kernel_rfl) (e_store (g := g23) (o := 0) (v := .agg #[.int .i64 x29, .int .i64 x30, .slice A32 x31.length c33]) (cur' := #[.int .i64 x29, .int .i64 x30, .slice A32 x31.length c33]) (vs := [.int .i64 x29, .int .i64 x30, .slice A32 x31.length c33]) S95 (by exact e38) (by kernel_rfl) rfl (by kernel_rfl) b24 (Nat.le_of_ble_eq_true rfl) (List.forall_mem_cons.2 ⟨rfl, (List.forall_mem_cons.2 ⟨rfl, (List.forall_mem_cons.2 ⟨rfl, (fun _ h_ => by cases h_)⟩)⟩)⟩) rfl) ?_
        rintro w96 ⟨b97, S98, K99⟩
        clear b24
        refine wpList_nil (then_n (wp_ret (then_r (inb_r (then_r (inb_r (then_r ?_)))))))
        obtain rfl := Option.some.inj M
        have S100 := St.first (Fa := []) (Fr := [(is g23), (is g81), (is g18)]) S98
        exact retS (ty := 36) (cur := #[.int .i64 x29, .int .i64 x30, .slice A32 x31.length c33]) rfl rfl (by exact e38) b97 Try.underlying36 rfl (by kernel_rfl) ⟨A32, c33, H, rfl, h34, l35, S100⟩
      replace M := ifn q94 M
      refine cond_f rfl (bf q94 (by kernel_rfl)) (wp_skip (then_n (wp_region_lit (lv (d := 28) rfl rfl (by kernel_rfl) (e_loadS (b := g81) (off := 0) (cs := [.int .i64 ((x1.cells_.getD ((x30).toNat) z36).kind), .int .i64 ((x1.cells_.getD ((x30).toNat) z36).n), .slice A72 ((x1.cells_.getD ((x30).toNat) z36).text).length c73]) Try.underlying36 rfl (by kernel_rfl) (by kernel_rfl) (blk_cells b88 rfl)) ?_))))
      have S101 := S89.pull (F := (is g18)) (Fr := [(is g81), (is g23)]) 2 rfl rfl
      refine lse rfl rfl (by kernel_rfl) (e_store (g := g18) (o := 0) (v := .agg #[.int .i64 ((x1.cells_.getD ((x30).toNat) z36).kind), .int .i64 ((x1.cells_.getD ((x30).toNat) z36).n), .slice A72 ((x1.cells_.getD ((x30).toNat) z36).text).length c73]) (cur' := #[.int .i64 ((x1.cells_.getD ((x30).toNat) z36).kind), .int .i64 ((x1.cells_.getD ((x30).toNat) z36).n), .slice A72 ((x1.cells_.getD ((x30).toNat) z36).text).length c73]) (vs := [.int .i64 ((x1.cells_.getD ((x30).toNat) z36).kind), .int .i64 ((x1.cells_.getD ((x30).toNat) z36).n), .slice A72 ((x1.cells_.getD ((x30).toNat) z36).text).length c73]) S101 (by exact e37) (by kernel_rfl) rfl (by kernel_rfl) b19 (Nat.le_of_ble_eq_true rfl) (List.forall_mem_cons.2 ⟨rfl, (List.forall_mem_cons.2 ⟨rfl, (List.forall_mem_cons.2 ⟨rfl, (fun _ h_ => by cases h_)⟩)⟩)⟩) rfl) ?_
      rintro w102 ⟨b103, S104, K105⟩
      replace b24 := K105.blk 1 rfl b24
      clear b19
      refine wpList_nil (inb_n (then_n ?_))
      have S106 := S104.pull (F := (is g23)) (Fr := [(is g18), (is g81)]) 2 rfl rfl
      have S107 := St.first (Fa := [(is g23), (is g18)]) (Fr := [(is g81)]) S106
      exact ⟨k44, (by omega), _, ((x1.cells_.getD ((x30).toNat) z36).kind), ((x1.cells_.getD ((x30).toNat) z36).n), ((x1.cells_.getD ((x30).toNat) z36).text), A72, c73, rfl, (by exact e36), (by exact e37), (by exact e38), b24, b103, h75, l74, S107, M⟩
    replace M := ifn q93 M
    refine lskip (t := 20) (c := false) rfl (by kernel_rfl) rfl (bf q93 (by kernel_rfl)) rfl rfl ?_
    refine lskip (t := 20) (c := false) rfl (by kernel_rfl) rfl (bf q93 (by kernel_rfl)) rfl rfl ?_
    refine lskip (t := 20) (c := false) rfl (by kernel_rfl) rfl (bf q93 (by kernel_rfl)) rfl rfl ?_
    refine lskip (t := 20) (c := false) rfl (by kernel_rfl) rfl (bf q93 (by kernel_rfl)) rfl rfl ?_
    refine lskip (t := 20) (c := false) rfl (by kernel_rfl) rfl (bf q93 (by kernel_rfl)) rfl rfl ?_
    refine lv (d := 26) rfl rfl (by kernel_rfl) (e_pick_f (v := .bool false) (bf q93 (by kernel_rfl)) rfl) (wpList_nil (then_n (cond_f rfl (by kernel_rfl) (wp_skip (then_n (wp_region_lit (lv (d := 28) rfl rfl (by kernel_rfl) (e_loadS (b := g81) (off := 0) (cs := [.int .i64 ((x1.cells_.getD ((x30).toNat) z36).kind), .int .i64 ((x1.cells_.getD ((x30).toNat) z36).n), .slice A72 ((x1.cells_.getD ((x30).toNat) z36).text).length c73]) Try.underlying36 rfl (by kernel_rfl) (by kernel_rfl) (blk_cells b88 rfl)) ?_)))))))
    have S108 := S89.pull (F := (is g18)) (Fr := [(is g81), (is g23)]) 2 rfl rfl
    refine lse rfl rfl (by kernel_rfl) (e_store (g := g18) (o := 0) (v := .agg #[.int .i64 ((x1.cells_.getD ((x30).toNat) z36).kind), .int .i64 ((x1.cells_.getD ((x30).toNat) z36).n), .slice A72 ((x1.cells_.getD ((x30).toNat) z36).text).length c73]) (cur' := #[.int .i64 ((x1.cells_.getD ((x30).toNat) z36).kind), .int .i64 ((x1.cells_.getD ((x30).toNat) z36).n), .slice A72 ((x1.cells_.getD ((x30).toNat) z36).text).length c73]) (vs := [.int .i64 ((x1.cells_.getD ((x30).toNat) z36).kind), .int .i64 ((x1.cells_.getD ((x30).toNat) z36).n), .slice A72 ((x1.cells_.getD ((x30).toNat) z36).text).length c73]) S108 (by exact e37) (by kernel_rfl) rfl (by kernel_rfl) b19 (Nat.le_of_ble_eq_true rfl) (List.forall_mem_cons.2 ⟨rfl, (List.forall_mem_cons.2 ⟨rfl, (List.forall_mem_cons.2 ⟨rfl, (fun _ h_ => by cases h_)⟩)⟩)⟩) rfl) ?_
    rintro w109 ⟨b110, S111, K112⟩
    replace b24 := K112.blk 1 rfl b24
    clear b19
    refine wpList_nil (inb_n (then_n ?_))
    have S113 := S111.pull (F := (is g23)) (Fr := [(is g18), (is g81)]) 2 rfl rfl
    have S114 := St.first (Fa := [(is g23), (is g18)]) (Fr := [(is g81)]) S113
    exact ⟨k44, (by omega), _, ((x1.cells_.getD ((x30).toNat) z36).kind), ((x1.cells_.getD ((x30).toNat) z36).n), ((x1.cells_.getD ((x30).toNat) z36).text), A72, c73, rfl, (by exact e36), (by exact e37), (by exact e38), b24, b110, h75, l74, S114, M⟩
  replace M := ifn q45 M
  refine cond_f rfl (bf q45 (by kernel_rfl)) (wp_exit (then_e (then_e (inb_hit (then_n (wp_seq (wp_region_lit ?_)))))))
  refine lv (d := 29) rfl rfl (by kernel_rfl) (e_loadS (b := g18) (off := 0) (cs := [.int .i64 x29, .int .i64 x30, .slice A32 x31.length c33]) Try.underlying36 rfl (by kernel_rfl) (by exact e37) (blk_cells b19 rfl)) ?_
  refine lse rfl rfl (by kernel_rfl) (e_store (g := g23) (o := 0) (v := .agg #[.int .i64 x29, .int .i64 x30, .slice A32 x31.length c33]) (cur' := #[.int .i64 x29, .int .i64 x30, .slice A32 x31.length c33]) (vs := [.int .i64 x29, .int .i64 x30, .slice A32 x31.length c33]) S39 (by exact e38) (by kernel_rfl) rfl (by kernel_rfl) b24 (Nat.le_of_ble_eq_true rfl) (List.forall_mem_cons.2 ⟨rfl, (List.forall_mem_cons.2 ⟨rfl, (List.forall_mem_cons.2 ⟨rfl, (fun _ h_ => by cases h_)⟩)⟩)⟩) rfl) ?_
  rintro w115 ⟨b116, S117, K118⟩
  clear b24
  refine wpList_nil (then_n (wp_ret ?_))
  obtain rfl := Option.some.inj M
  have S119 := St.first (Fa := []) (Fr := [(is g23), (is g18)]) S117
  exact retS (ty := 36) (cur := #[.int .i64 x29, .int .i64 x30, .slice A32 x31.length c33]) rfl rfl (by exact e38) b116 Try.underlying36 rfl (by kernel_rfl) ⟨A32, c33, H, rfl, h34, l35, S119⟩

/-! spec_l10within -/
mutual
def spec_l10within.l0 : Nat → GL10heap → Int → (List Cell) → (List Bool) → Option Bool
  | 0, _, _, _, _ => none
  | k62 + 1, x1, x12, x45, x51 => (if (x45.length : Int) > 0 then (if 0 ≤ (IntKind.i64.wrap ((x45.length : Int) - 1)) then (if (IntKind.i64.wrap ((x45.length : Int) - 1)) < (x45.length : Int) then ((spec_l10deref_2.f k62 x1 (x45.getD (((IntKind.i64.wrap ((x45.length : Int) - 1))).toNat) z36)).bind fun t80 => (if (IntKind.i64.wrap ((x45.length : Int) - 1)) ≤ (x45.length : Int) then (if t80.kind = 0 then (if t80.n = x12 then some true else (if t80.kind ≠ 4 then (spec_l10within.l0 k62 x1 x12 (x45.take (((IntKind.i64.wrap ((x45.length : Int) - 1)) : Int).toNat)) x51) else (if 0 ≤ t80.n then (if t80.n < (((x1.cells_.length : Int)).toNat : Int) then (if (x51.getD ((t80.n).toNat) false) = true then (spec_l10within.l0 k62 x1 x12 (x45.take (((IntKind.i64.wrap ((x45.length : Int) - 1)) : Int).toNat)) x51) else (spec_l10within.l1 k62 x1 x12 x51 t80 (x45.take (((IntKind.i64.wrap ((x45.length : Int) - 1)) : Int).toNat)) 1)) else none) else none))) else (if t80.kind ≠ 4 then (spec_l10within.l0 k62 x1 x12 (x45.take (((IntKind.i64.wrap ((x45.length : Int) - 1)) : Int).toNat)) x51) else (if 0 ≤ t80.n then (if t80.n < (((x1.cells_.length : Int)).toNat : Int) then (if (x51.getD ((t80.n).toNat) false) = true then (spec_l10within.l0 k62 x1 x12 (x45.take (((IntKind.i64.wrap ((x45.length : Int) - 1)) : Int).toNat)) x51) else (spec_l10within.l2 k62 x1 x12 x51 t80 (x45.take (((IntKind.i64.wrap ((x45.length : Int) - 1)) : Int).toNat)) 1)) else none) else none))) else none)) else none) else none) else some false)
def spec_l10within.l1 : Nat → GL10heap → Int → (List Bool) → Cell → (List Cell) → Int → Option Bool
  | 0, _, _, _, _, _, _ => none
  | k157 + 1, x1, x12, x51, t80, x131, x136 => (if t80.n < (x1.cells_.length : Int) then (if x136 ≤ ((x1.cells_.getD ((t80.n).toNat) z36).n) then (if 0 ≤ (IntKind.i64.wrap (t80.n + x136)) then (if (IntKind.i64.wrap (t80.n + x136)) < (x1.cells_.length : Int) then (if x131.length + 1 ≤ 3518437208883 then (spec_l10within.l1 k157 x1 x12 x51 t80 (x131 ++ [(x1.cells_.getD (((IntKind.i64.wrap (t80.n + x136))).toNat) z36)]) (IntKind.i64.wrap (x136 + 1))) else none) else none) else none) else (spec_l10within.l0 k157 x1 x12 x131 (x51.set ((t80.n).toNat) true))) else none)
def spec_l10within.l2 : Nat → GL10heap → Int → (List Bool) → Cell → (List Cell) → Int → Option Bool
  | 0, _, _, _, _, _, _ => none
  | k289 + 1, x1, x12, x51, t80, x267, x272 => (if t80.n < (x1.cells_.length : Int) then (if x272 ≤ ((x1.cells_.getD ((t80.n).toNat) z36).n) then (if 0 ≤ (IntKind.i64.wrap (t80.n + x272)) then (if (IntKind.i64.wrap (t80.n + x272)) < (x1.cells_.length : Int) then (if x267.length + 1 ≤ 3518437208883 then (spec_l10within.l2 k289 x1 x12 x51 t80 (x267 ++ [(x1.cells_.getD (((IntKind.i64.wrap (t80.n + x272))).toNat) z36)]) (IntKind.i64.wrap (x272 + 1))) else none) else none) else none) else (spec_l10within.l0 k289 x1 x12 x267 (x51.set ((t80.n).toNat) true))) else none)
end
def spec_l10within.f (k : Nat) (x1 : GL10heap) (x12 : Int) (x13 : Cell) : Option Bool := (if 0 ≤ (x1.cells_.length : Int) then (if ((x1.cells_.length : Int)).toNat ≤ 281474976710656 then (spec_l10within.l0 k x1 x12 [x13] (List.replicate ((x1.cells_.length : Int)).toNat false)) else none) else none)
theorem spec_l10within.calls (k : Nat) (w : World) (H : Hp) (x1 : GL10heap) (g2 : Nat) (A4 : Option Addr) (c5 : Nat) (A8 : Option Addr) (c9 : Nat) (x12 : Int) (x13 : Cell) (A14 : Option Addr) (c15 : Nat) (h6 : Rd st36 H A4 x1.cells_) (l7 : x1.cells_.length ≤ c5) (h10 : Rd tInt H A8 x1.trail_) (l11 : x1.trail_.length ≤ c9) (b3 : H g2 = some (.cells #[.slice A4 x1.cells_.length c5, .slice A8 x1.trail_.length c9, .int .i64 x1.pairs_] 91 (0, 0))) (h16 : Rd tByte H A14 x13.text) (l17 : x13.text.length ≤ c15) (S : Own [] H w) (r : Bool) (M : spec_l10within.f k x1 x12 x13 = some r) :
    Calls Try.prog 71 #[.pointer (some ⟨g2, 0, none⟩), .int .i64 x12, .agg #[.int .i64 x13.kind, .int .i64 x13.n, .slice A14 x13.text.length c15]] w (fun e e_w => e = .returned (.bool r) ∧ Chg no w e_w) := by
  rw [spec_l10within.f] at M
  refine enter (l := [.pointer (some ⟨g2, 0, none⟩), .int .i64 x12, .agg #[.int .i64 x13.kind, .int .i64 x13.n, .slice A14 x13.text.length c15]]) 84 Try.func71 rfl rfl rfl ?_
  have S0_ := S.st
  refine wp_seq (wp_region_lit ?_)
  refine lve (d := 5) rfl rfl (by kernel_rfl) (new_blk (v := fun g_ => .pointer (some ⟨g_, 0, none⟩)) (cs := #[.int .i64 x13.kind, .int .i64 x13.n, .slice A14 x13.text.length c15]) (t := 36) S0_ (by kernel_rfl)) ?_
  rintro _ w18 ⟨g19, rfl, b20, S21, K22⟩
  refine lv (d := 6) rfl rfl (by kernel_rfl) (e_assign (v := .bool false) rfl) (wpList_nil (then_n (wp_seq (wp_region_lit (lv (d := 11) rfl rfl (by kernel_rfl) (e_move (v := .pointer (some ⟨g2, 0, none⟩)) (by kernel_rfl)) (lv (d := 12) rfl rfl (by kernel_rfl) (e_nilCheck (ad := ⟨g2, 0, none⟩) (by kernel_rfl)) (lv (d := 13) rfl rfl (by kernel_rfl) (e_fieldAddr (b := g2) (off := 0) (o := 0) Try.underlying91 rfl rfl (sz := 1) (by kernel_rfl) (by decide) (by kernel_rfl)) ?_)))))))
  refine lv (d := 14) rfl rfl (by kernel_rfl) (e_load1 (ad := ⟨g2, 0 + 0, none⟩) (v := .slice A4 x1.cells_.length c5) Try.underlying32 rfl (by kernel_rfl) (blk_cell (S21.inv _ _ b3) rfl)) (lv (d := 15) rfl rfl (by kernel_rfl) (e_len (A := A4) (n := x1.cells_.length) (c := c5) Try.underlying32 (by kernel_rfl)) ?_)
  obtain ⟨q23, M⟩ := chk M
  obtain ⟨q24, M⟩ := chk M
  refine lve (d := 16) rfl rfl (by kernel_rfl) (e_make (d := tBool) (k := .i64) (k2 := .i64) (n := (x1.cells_.length : Int)) (z := .bool false) (zx := false) (bytes := 1) S21 Try.underlying99 (by kernel_rfl) rfl (by decide) (fun _ => rfl) (by kernel_rfl) (by kernel_rfl) q23 (by omega) (by omega)) ?_
  rintro _ w25 ⟨A26, c27, F28, rfl, h29, S30, K31⟩
  replace b20 := K31.blk 0 rfl b20
  refine lv (d := 7) rfl rfl (by kernel_rfl) (e_assign (v := .slice A26 (((x1.cells_.length : Int)).toNat) c27) (by kernel_rfl)) (wpList_nil (then_n (wp_seq (wp_region_lit (lv (d := 17) rfl rfl (by kernel_rfl) (e_loadS (b := g19) (off := 0) (cs := [.int .i64 x13.kind, .int .i64 x13.n, .slice A14 x13.text.length c15]) Try.underlying36 rfl (by kernel_rfl) (by kernel_rfl) (blk_cells b20 rfl)) ?_)))))
  refine lve (d := 18) rfl rfl (by kernel_rfl) (new_blk (v := fun g_ => .slice (some ⟨g_, 0, none⟩) 1 1) (cs := #[.int .i64 x13.kind, .int .i64 x13.n, .slice A14 x13.text.length c15]) (t := 36) S30 (by kernel_rfl)) ?_
  rintro _ w32 ⟨g33, rfl, b34, S35, K36⟩
  replace h29 := h29.move (K36.at 0 rfl)
  have S37 := S35.unit
  have S38 := S37.pull (F := (is g33)) (Fr := [no, F28, (is g19)]) 1 rfl rfl
  obtain ⟨h39, S40⟩ := row_lit (d := (ro st36)) (xs := [x13]) S38 b34 rfl (elsO_one1 (st36_mkR (x := x13) l17 h16)) (Nat.le_of_ble_eq_true rfl)
  refine lv (d := 8) rfl rfl (by kernel_rfl) (e_assign (v := .slice (some ⟨g33, 0, none⟩) 1 1) (by kernel_rfl)) (wpList_nil (then_n (wp_seq (wp_block ?_))))
  have S63 := S40.pull (F := F28) (Fr := [(or2 (is g33) no), (is g19)]) 1 rfl rfl
  have S64 := St.first (Fa := [F28, (or2 (is g33) no)]) (Fr := [(is g19)]) S63
  refine wp_loop_g (fun k60 a61 w41 => ∃ (f42 : Nat → Value) (H43 : Hp) (x45 : List Cell) (A46 : Option Addr) (c47 : Nat) (F48 : Foot) (F50 : Foot) (x51 : List Bool), a61 = mk 84 f42 ∧ f42 0 = .pointer (some ⟨g2, 0, none⟩) ∧ f42 1 = .int .i64 x12 ∧ f42 7 = .slice A26 (((x1.cells_.length : Int)).toNat) c27 ∧ f42 8 = .slice A46 x45.length c47 ∧ Row tBool 4 H43 (hp w41) F50 A26 c27 x51 ∧ Row (ro st36) 36 H43 (hp w41) F48 A46 c47 x45 ∧ x51.length = ((x1.cells_.length : Int)).toNat ∧ Ext H H43 ∧ St (anyOf []) H w [F50, F48] H43 w41 ∧ spec_l10within.l0 k60 x1 x12 x45 x51 = some r) k ⟨_, H, [x13], (some ⟨g33, 0, none⟩), 1, (or2 (is g33) no), F28, (List.replicate ((x1.cells_.length : Int)).toNat false), rfl, (by kernel_rfl), (by kernel_rfl), (by kernel_rfl), (by kernel_rfl), h29, h39, List.length_replicate, (Ext.refl _), S64, M⟩ ?_
  clear M
  rintro k60 a61 w41 ⟨f42, H43, x45, A46, c47, F48, F50, x51, rfl, e53, e54, e55, e56, h29, h49, n52, Y44, S57, M⟩
  rcases k60 with _ | k62
  · rw [spec_l10within.l0] at M
    cases M
  rw [spec_l10within.l0] at M
  refine wp_seq (wp_seq (wp_region_lit (lv (d := 19) rfl rfl (by kernel_rfl) (e_move (v := .slice A46 x45.length c47) (by exact e56)) (lv (d := 20) rfl rfl (by kernel_rfl) (e_len (A := A46) (n := x45.length) (c := c47) Try.underlying32 (by kernel_rfl)) (lv (d := 21) rfl rfl (by kernel_rfl) (e_gtr (k := .i64) (a := (x45.length : Int)) (b := 0) (by kernel_rfl) rfl) (wpList_nil (then_n ?_)))))))
  by_cases q65 : (x45.length : Int) > 0
  · replace M := ifp q65 M
    refine cond_t rfl (bt q65 (by kernel_rfl)) (wp_skip (then_n (wp_block (wp_seq (wp_region_lit (lv (d := 22) rfl rfl (by kernel_rfl) (e_move (v := .pointer (some ⟨g2, 0, none⟩)) (by exact e53)) (lv (d := 23) rfl rfl (by kernel_rfl) (e_move (v := .slice A46 x45.length c47) (by exact e56)) ?_)))))))
    refine lv (d := 24) rfl rfl (by kernel_rfl) (e_move (v := .slice A46 x45.length c47) (by exact e56)) (lv (d := 25) rfl rfl (by kernel_rfl) (e_len (A := A46) (n := x45.length) (c := c47) Try.underlying32 (by kernel_rfl)) (lv (d := 26) rfl rfl (by kernel_rfl) (e_sub (k := .i64) (a := (x45.length : Int)) (b := 1) (by kernel_rfl) rfl) ?_))
    obtain ⟨q66, M⟩ := chk M
    obtain ⟨q67, M⟩ := chk M
    obtain ⟨b68, e70⟩ := Row.addr h49 (show ((IntKind.i64.wrap ((x45.length : Int) - 1))).toNat < x45.length by omega)
    refine lv (d := 27) rfl rfl (by kernel_rfl) (e_indexAddr (b := b68) (off := 0) (n := x45.length) (c := c47) (sz := 3) (i := (IntKind.i64.wrap ((x45.length : Int) - 1))) (k := .i64) Try.underlying32 e70 (by kernel_rfl) (by kernel_rfl) (by kernel_rfl) q66 q67) ?_
    obtain ⟨y71, F72, r73, s74, k75⟩ := Row.at h49 e70 (getD_some z36 (show ((IntKind.i64.wrap ((x45.length : Int) - 1))).toNat < x45.length by omega))
    obtain ⟨A76, c77, rfl, l78, h79⟩ := st36_open r73
    refine lv (d := 28) rfl rfl (by kernel_rfl) (e_loadS (b := b68) (off := 0 + ((IntKind.i64.wrap ((x45.length : Int) - 1)) : Int).toNat * 3) (cs := [.int .i64 ((x45.getD (((IntKind.i64.wrap ((x45.length : Int) - 1))).toNat) z36).kind), .int .i64 ((x45.getD (((IntKind.i64.wrap ((x45.length : Int) - 1))).toNat) z36).n), .slice A76 ((x45.getD (((IntKind.i64.wrap ((x45.length : Int) - 1))).toNat) z36).text).length c77]) Try.underlying36 rfl (by kernel_rfl) (by kernel_rfl) (fun j_ u_ e_ => (hpx (k75 j_ u_ e_)))) ?_
    obtain ⟨t80, u81, M⟩ := bnd M
    refine lcall (d := 29) rfl rfl (by kernel_rfl) (e_call (l := [.tmp 22, .tmp 28]) (vs := [.pointer (some ⟨g2, 0, none⟩), .agg #[.int .i64 ((x45.getD (((IntKind.i64.wrap ((x45.length : Int) - 1))).toNat) z36).kind), .int .i64 ((x45.getD (((IntKind.i64.wrap ((x45.length : Int) - 1))).toNat) z36).n), .slice A76 ((x45.getD (((IntKind.i64.wrap ((x45.length : Int) - 1))).toNat) z36).text).length c77]]) Try.func46 (by kernel_rfl) rfl (by kernel_rfl) rfl) (spec_l10deref_2.calls k62 w41 H43 x1 g2 A4 c5 A8 c9 (x45.getD (((IntKind.i64.wrap ((x45.length : Int) - 1))).toNat) z36) A76 c77 (h6.ext Y44) l7 (h10.ext Y44) l11 (Y44 _ _ b3) h79 l78 (St.own' (Fa := []) (Fr := [F50, F48]) S57) t80 u81) ?_
    rintro _ w82 ⟨A85, c86, H83, rfl, h87, l88, T84⟩
    refine ⟨_, rfl, ?_⟩
    obtain ⟨S89, K90⟩ := St.call (Fa := []) (Fr := [F50, F48]) S57 T84
    replace h29 := h29.move (K90.at 0 rfl)
    replace h49 := h49.move (K90.at 1 rfl)
    have E91 := T84.ext
    replace h29 := h29.ext E91
    replace h49 := h49.ext E91
    refine lve (d := 9) rfl rfl (by kernel_rfl) (new_blk (v := fun g_ => .pointer (some ⟨g_, 0, none⟩)) (cs := #[.int .i64 0, .int .i64 0, .slice none 0 0]) (t := 36) S89 (by kernel_rfl)) ?_
    rintro _ w92 ⟨g93, rfl, b94, S95, K96⟩
    replace h29 := h29.move (K96.at 0 rfl)
    replace h49 := h49.move (K96.at 1 rfl)
    refine lse rfl rfl (by kernel_rfl) (e_store (g := g93) (o := 0) (v := .agg #[.int .i64 t80.kind, .int .i64 t80.n, .slice A85 t80.text.length c86]) (cur' := #[.int .i64 t80.kind, .int .i64 t80.n, .slice A85 t80.text.length c86]) (vs := [.int .i64 t80.kind, .int .i64 t80.n, .slice A85 t80.text.length c86]) S95 (by kernel_rfl) (by kernel_rfl) rfl (by kernel_rfl) b94 (Nat.le_of_ble_eq_true rfl) (List.forall_mem_cons.2 ⟨rfl, (List.forall_mem_cons.2 ⟨rfl, (List.forall_mem_cons.2 ⟨rfl, (fun _ h_ => by cases h_)⟩)⟩)⟩) rfl) ?_
    rintro w97 ⟨b98, S99, K100⟩
    replace h29 := h29.move (K100.at 0 rfl)
    replace h49 := h49.move (K100.at 1 rfl)
    clear b94
    refine wpList_nil (then_n (wp_seq (wp_region_lit (lv (d := 30) rfl rfl (by kernel_rfl) (e_move (v := .slice A46 x45.length c47) (by exact e56)) (lv (d := 31) rfl rfl (by kernel_rfl) (e_move (v := .slice A46 x45.length c47) (by exact e56)) (lv (d := 32) rfl rfl (by kernel_rfl) (e_len (A := A46) (n := x45.length) (c := c47) Try.underlying32 (by kernel_rfl)) (lv (d := 33) rfl rfl (by kernel_rfl) (e_sub (k := .i64) (a := (x45.length : Int)) (b := 1) (by kernel_rfl) rfl) ?_)))))))
    obtain ⟨q101, M⟩ := chk M
    refine lv (d := 34) rfl rfl (by kernel_rfl) (e_slice_h (xs := x45) (n := x45.length) (m := 3) (cap := c47) (A := A46) (b := (IntKind.i64.wrap ((x45.length : Int) - 1))) (k2 := .i64) Try.underlying32 (by kernel_rfl) (by kernel_rfl) (by kernel_rfl) q66 q101 (by have := h49.le; have := (rfl : x45.length = x45.length); omega) (take_len q66 q101 rfl)) ?_
    have h102 := h49.cut (n := ((IntKind.i64.wrap ((x45.length : Int) - 1)) : Int).toNat) (by have := (rfl : x45.length = x45.length); omega)
    clear h49
    refine lv (d := 8) rfl rfl (by kernel_rfl) (e_assign (v := .slice A46 ((x45.take (((IntKind.i64.wrap ((x45.length : Int) - 1)) : Int).toNat)).length) c47) (by kernel_rfl)) (wpList_nil (then_n (wp_seq (wp_seq (wp_region_lit (lv (d := 35) rfl rfl (by kernel_rfl) (e_fieldAddr (b := g93) (off := 0) (o := 0) Try.underlying36 rfl rfl (sz := 1) (by kernel_rfl) (by decide) (by kernel_rfl)) (lv (d := 36) rfl rfl (by kernel_rfl) (e_load1 (ad := ⟨g93, 0 + 0, none⟩) (v := .int .i64 t80.kind) Try.underlying3 rfl (by kernel_rfl) (blk_cell b98 rfl)) ?_)))))))
    refine lv (d := 37) rfl rfl (by kernel_rfl) (e_eql (k := .i64) (a := t80.kind) (b := 0) (by kernel_rfl) rfl) (lv (d := 38) rfl rfl (by kernel_rfl) (e_move (v := .bool (decide (t80.kind = 0))) (by kernel_rfl)) ?_)
    by_cases q103 : t80.kind = 0
    · replace M := ifp q103 M
      refine lvg (d := 39) (t := 38) rfl (by kernel_rfl) rfl (bt q103 (by kernel_rfl)) rfl (by kernel_rfl) (e_fieldAddr (b := g93) (off := 0) (o := 1) Try.underlying36 rfl rfl (sz := 1) (by kernel_rfl) (by decide) (by kernel_rfl)) (lvg (d := 40) (t := 38) rfl (by kernel_rfl) rfl (bt q103 (by kernel_rfl)) rfl (by kernel_rfl) (e_load1 (ad := ⟨g93, 0 + 1, none⟩) (v := .int .i64 t80.n) Try.underlying3 rfl (by kernel_rfl) (blk_cell b98 rfl)) (lvg (d := 41) (t := 38) rfl (by kernel_rfl) rfl (bt q103 (by kernel_rfl)) rfl (by kernel_rfl) (e_move (v := .int .i64 x12) (by exact e54)) (lvg (d := 42) (t := 38) rfl (by kernel_rfl) rfl (bt q103 (by kernel_rfl)) rfl (by kernel_rfl) (e_eql (k := .i64) (a := t80.n) (b := x12) (by kernel_rfl) (by kernel_rfl)) (lv (d := 43) rfl rfl (by kernel_rfl) (e_pick_t (v := .bool (decide (t80.n = x12))) (bt q103 (by kernel_rfl)) (by kernel_rfl)) (wpList_nil (then_n ?_))))))
      by_cases q104 : t80.n = x12
      · replace M := ifp q104 M
        refine cond_t rfl (bt q104 (by kernel_rfl)) (wp_seq (wp_region_lit (lv (d := 6) rfl rfl (by kernel_rfl) (e_assign (v := .bool true) rfl) (wpList_nil (then_n (wp_ret (then_r ?_)))))))
        refine inb_r (then_r (inb_r (then_r ?_)))
        obtain rfl := Option.some.inj M
        exact ret1 rfl rfl  (show _ = .bool true from (by kernel_rfl)) ⟨rfl, S99.chg⟩
      replace M := ifn q104 M
      refine cond_f rfl (bf q104 (by kernel_rfl)) (wp_skip (then_n (wp_seq (wp_seq (wp_region_lit (lv (d := 44) rfl rfl (by kernel_rfl) (e_fieldAddr (b := g93) (off := 0) (o := 0) Try.underlying36 rfl rfl (sz := 1) (by kernel_rfl) (by decide) (by kernel_rfl)) (lv (d := 45) rfl rfl (by kernel_rfl) (e_load1 (ad := ⟨g93, 0 + 0, none⟩) (v := .int .i64 t80.kind) Try.underlying3 rfl (by kernel_rfl) (blk_cell b98 rfl)) ?_)))))))
      refine lv (d := 46) rfl rfl (by kernel_rfl) (e_neq (k := .i64) (a := t80.kind) (b := 4) (by kernel_rfl) rfl) (lv (d := 47) rfl rfl (by kernel_rfl) (e_move (v := .bool (decide (t80.kind ≠ 4))) (by kernel_rfl)) ?_)
      by_cases q105 : t80.kind ≠ 4
      · replace M := ifp q105 M
        refine lskip (t := 47) (c := true) rfl (by kernel_rfl) rfl (bt q105 (by kernel_rfl)) rfl rfl ?_
        refine lskip (t := 47) (c := true) rfl (by kernel_rfl) rfl (bt q105 (by kernel_rfl)) rfl rfl ?_
        refine lskip (t := 47) (c := true) rfl (by kernel_rfl) rfl (bt q105 (by kernel_rfl)) rfl rfl ?_
        refine lskip (t := 47) (c := true) rfl (by kernel_rfl) rfl (bt q105 (by kernel_rfl)) rfl rfl ?_
        refine lskip (t := 47) (c := true) rfl (by kernel_rfl) rfl (bt q105 (by kernel_rfl)) rfl rfl ?_
        refine lv (d := 53) rfl rfl (by kernel_rfl) (e_pick_t (v := .bool true) (bt q105 (by kernel_rfl)) rfl) (wpList_nil (then_n (cond_t rfl (by kernel_rfl) (wp_exit (then_e (inb_hit (then_n ?_)))))))
        have S106 := S99.pull (F := F48) (Fr := [(is g93), F50]) 2 rfl rfl
        have S107 := S106.pull (F := F50) (Fr := [F48, (is g93)]) 2 rfl rfl
        have S108 := St.first (Fa := [F50, F48]) (Fr := [(is g93)]) S107
        exact ⟨k62, (by omega), _, H83, (x45.take (((IntKind.i64.wrap ((x45.length : Int) - 1)) : Int).toNat)), A46, c47, F48, F50, x51, rfl, (by exact e53), (by exact e54), (by exact e55), (by kernel_rfl), h29, h102, n52, (Y44.trans E91), S108, M⟩
      replace M := ifn q105 M
      refine lvg (d := 48) (t := 47) rfl (by kernel_rfl) rfl (bf q105 (by kernel_rfl)) rfl (by kernel_rfl) (e_move (v := .slice A26 (((x1.cells_.length : Int)).toNat) c27) (by exact e55)) (lvg (d := 49) (t := 47) rfl (by kernel_rfl) rfl (bf q105 (by kernel_rfl)) rfl (by kernel_rfl) (e_fieldAddr (b := g93) (off := 0) (o := 1) Try.underlying36 rfl rfl (sz := 1) (by kernel_rfl) (by decide) (by kernel_rfl)) (lvg (d := 50) (t := 47) rfl (by kernel_rfl) rfl (bf q105 (by kernel_rfl)) rfl (by kernel_rfl) (e_load1 (ad := ⟨g93, 0 + 1, none⟩) (v := .int .i64 t80.n) Try.underlying3 rfl (by kernel_rfl) (blk_cell b98 rfl)) ?_))
      obtain ⟨q109, M⟩ := chk M
      obtain ⟨q110, M⟩ := chk M
      obtain ⟨b111, e113⟩ := Row.addr h29 (show (t80.n).toNat < x51.length by have : x51.length = ((x1.cells_.length : Int)).toNat := n52; omega)
      refine lvg (d := 51) (t := 47) rfl (by kernel_rfl) rfl (bf q105 (by kernel_rfl)) rfl (by kernel_rfl) (e_indexAddr (b := b111) (off := 0) (n := ((x1.cells_.length : Int)).toNat) (c := c27) (sz := 1) (i := t80.n) (k := .i64) Try.underlying99 e113 (by kernel_rfl) (by kernel_rfl) (by kernel_rfl) q109 q110) (lvg (d := 52) (t := 47) rfl (by kernel_rfl) rfl (bf q105 (by kernel_rfl)) rfl (by kernel_rfl) (e_load1 (ad := ⟨b111, 0 + (t80.n : Int).toNat * 1, none⟩) (v := .bool (x51.getD ((t80.n).toNat) false)) Try.underlying4 rfl (by kernel_rfl) (hpx (Row.pick (j := 0) (u := .bool (x51.getD ((t80.n).toNat) false)) h29 e113 (getD_some false (show (t80.n).toNat < x51.length by have : x51.length = ((x1.cells_.length : Int)).toNat := n52; omega)) (fun _ _ o_ => by rw [show _ = _ from o_]; rfl)))) (lv (d := 53) rfl rfl (by kernel_rfl) (e_pick_f (v := .bool (x51.getD ((t80.n).toNat) false)) (bf q105 (by kernel_rfl)) (by kernel_rfl)) (wpList_nil (then_n ?_))))
      by_cases q114 : (x51.getD ((t80.n).toNat) false) = true
      · replace M := ifp q114 M
        refine cond_t rfl (bvt q114 (by kernel_rfl)) (wp_exit (then_e (inb_hit (then_n ?_))))
        have S115 := S99.pull (F := F48) (Fr := [(is g93), F50]) 2 rfl rfl
        have S116 := S115.pull (F := F50) (Fr := [F48, (is g93)]) 2 rfl rfl
        have S117 := St.first (Fa := [F50, F48]) (Fr := [(is g93)]) S116
        exact ⟨k62, (by omega), _, H83, (x45.take (((IntKind.i64.wrap ((x45.length : Int) - 1)) : Int).toNat)), A46, c47, F48, F50, x51, rfl, (by exact e53), (by exact e54), (by exact e55), (by kernel_rfl), h29, h102, n52, (Y44.trans E91), S117, M⟩
      replace M := ifn q114 M
      refine cond_f rfl (bvf q114 (by kernel_rfl)) (wp_skip (then_n (wp_seq (wp_region_lit (lv (d := 54) rfl rfl (by kernel_rfl) (e_move (v := .slice A26 (((x1.cells_.length : Int)).toNat) c27) (by exact e55)) (lv (d := 55) rfl rfl (by kernel_rfl) (e_fieldAddr (b := g93) (off := 0) (o := 1) Try.underlying36 rfl rfl (sz := 1) (by kernel_rfl) (by decide) (by kernel_rfl)) (lv (d := 56) rfl rfl (by kernel_rfl) (e_load1 (ad := ⟨g93, 0 + 1, none⟩) (v := .int .i64 t80.n) Try.underlying3 rfl (by kernel_rfl) (blk_cell b98 rfl)) ?_)))))))
      obtain ⟨b118, e120⟩ := Row.addr h29 (show (t80.n).toNat < x51.length by have : x51.length = ((x1.cells_.length : Int)).toNat := n52; omega)
      refine lv (d := 57) rfl rfl (by kernel_rfl) (e_indexAddr (b := b118) (off := 0) (n := ((x1.cells_.length : Int)).toNat) (c := c27) (sz := 1) (i := t80.n) (k := .i64) Try.underlying99 e120 (by kernel_rfl) (by kernel_rfl) (by kernel_rfl) q109 q110) ?_
      have S121 := S99.pull (F := F50) (Fr := [(is g93), F48]) 1 rfl rfl
      have S122 := S121.unit
      have S123 := S122.pull (F := F50) (Fr := [no, (is g93), F48]) 1 rfl rfl
      refine lse rfl rfl (by kernel_rfl) (e_setel (d := tBool) (b := b118) (i := (t80.n).toNat) (v := .bool true) (vs := [.bool true]) (yv := true) S123 (by kernel_rfl) e120 rfl rfl (by kernel_rfl) h29 (show (t80.n).toNat < x51.length by have : x51.length = ((x1.cells_.length : Int)).toNat := n52; omega) rfl) ?_
      rintro w124 ⟨F126, h125, S127, K128⟩
      replace b98 := K128.blk 0 rfl b98
      replace h102 := h102.move (K128.at 1 rfl)
      clear h29
      refine wpList_nil (then_n (wp_seq (wp_region_lit (lv (d := 10) rfl rfl (by kernel_rfl) (e_assign (v := .int .i64 1) rfl) (wpList_nil (then_n (wp_block ?_)))))))
      refine wp_loop_g (fun k155 a156 w129 => ∃ (f130 : Nat → Value) (x131 : List Cell) (A132 : Option Addr) (c133 : Nat) (F134 : Foot) (x136 : Int), k155 ≤ k62 ∧ a156 = mk 84 f130 ∧ f130 0 = .pointer (some ⟨g2, 0, none⟩) ∧ f130 1 = .int .i64 x12 ∧ f130 7 = .slice A26 (((x1.cells_.length : Int)).toNat) c27 ∧ f130 8 = .slice A132 x131.length c133 ∧ f130 9 = .pointer (some ⟨g93, 0, none⟩) ∧ f130 10 = .int .i64 x136 ∧ f130 39 = .pointer (some ⟨g93, 0 + 1, none⟩) ∧ f130 40 = .int .i64 t80.n ∧ f130 41 = .int .i64 x12 ∧ f130 42 = .bool (decide (t80.n = x12)) ∧ f130 48 = .slice A26 (((x1.cells_.length : Int)).toNat) c27 ∧ f130 49 = .pointer (some ⟨g93, 0 + 1, none⟩) ∧ f130 50 = .int .i64 t80.n ∧ f130 51 = .pointer (some ⟨b111, 0 + (t80.n : Int).toNat * 1, none⟩) ∧ f130 52 = .bool (x51.getD ((t80.n).toNat) false) ∧ Row tBool 4 H83 (hp w129) F126 A26 c27 (x51.set ((t80.n).toNat) true) ∧ w129.heap[g93]? = some (.cells #[.int .i64 t80.kind, .int .i64 t80.n, .slice A85 t80.text.length c86] 36 (0, 0)) ∧ Row (ro st36) 36 H83 (hp w129) F134 A132 c133 x131 ∧ St (anyOf []) H w [F126, (is g93), F134] H83 w129 ∧ spec_l10within.l1 k155 x1 x12 x51 t80 x131 x136 = some r) k62 ⟨_, (x45.take (((IntKind.i64.wrap ((x45.length : Int) - 1)) : Int).toNat)), A46, c47, F48, 1, (by omega), rfl, (by exact e53), (by exact e54), (by exact e55), (by kernel_rfl), (by kernel_rfl), (by kernel_rfl), (by kernel_rfl), (by kernel_rfl), (by kernel_rfl), (by kernel_rfl), (by kernel_rfl), (by kernel_rfl), (by kernel_rfl), (by kernel_rfl), (by kernel_rfl), h125, b98, h102, S127, M⟩ ?_
      clear M
      rintro k155 a156 w129 ⟨f130, x131, A132, c133, F134, x136, z154, rfl, e137, e138, e139, e140, e141, e142, e143, e144, e145, e146, e147, e148, e149, e150, e151, h125, b98, h135, S152, M⟩
      rcases k155 with _ | k157
      · rw [spec_l10within.l1] at M
        cases M
      rw [spec_l10within.l1] at M
      refine wp_seq (wp_seq ?_)
      refine region_still (by kernel_rfl) (by kernel_rfl) S152 ?_
      intro w158 S159 K160
      replace h125 := h125.move (K160.at 0 rfl)
      replace b98 := K160.blk 1 rfl b98
      replace h135 := h135.move (K160.at 2 rfl)
      refine sv (d := 58) rfl rfl (by kernel_rfl) (e_move (v := .int .i64 x136) (by exact e142)) (sv (d := 59) rfl rfl (by kernel_rfl) (e_move (v := .pointer (some ⟨g2, 0, none⟩)) (by exact e137)) (sv (d := 60) rfl rfl (by kernel_rfl) (e_nilCheck (ad := ⟨g2, 0, none⟩) (by kernel_rfl)) (sv (d := 61) rfl rfl (by kernel_rfl) (e_fieldAddr (b := g2) (off := 0) (o := 0) Try.underlying91 rfl rfl (sz := 1) (by kernel_rfl) (by decide) (by kernel_rfl)) (sv (d := 62) rfl rfl (by kernel_rfl) (e_load1 (ad := ⟨g2, 0 + 0, none⟩) (v := .slice A4 x1.cells_.length c5) Try.underlying32 rfl (by kernel_rfl) (blk_cell (S159.inv _ _ ((Y44.trans E91) _ _ b3)) rfl)) (sv (d := 63) rfl rfl (by kernel_rfl) (e_fieldAddr (b := g93) (off := 0) (o := 1) Try.underlying36 rfl rfl (sz := 1) (by kernel_rfl) (by decide) (by exact e141)) (sv (d := 64) rfl rfl (by kernel_rfl) (e_load1 (ad := ⟨g93, 0 + 1, none⟩) (v := .int .i64 t80.n) Try.underlying3 rfl (by kernel_rfl) (blk_cell b98 rfl)) ?_))))))
      obtain ⟨q161, M⟩ := chk M
      obtain ⟨b162, o163, e164⟩ := Rd.addr h6 (show (t80.n).toNat < x1.cells_.length by omega)
      obtain ⟨y165, r166, k167⟩ := Rd.at h6 e164 (getD_some z36 (show (t80.n).toNat < x1.cells_.length by omega))
      obtain ⟨A168, c169, rfl, l170, h171⟩ := st36_open r166
      refine sv (d := 65) rfl rfl (by kernel_rfl) (e_indexAddr (b := b162) (off := o163) (n := x1.cells_.length) (c := c5) (sz := 3) (i := t80.n) (k := .i64) Try.underlying32 e164 (by kernel_rfl) (by kernel_rfl) (by kernel_rfl) q109 q161) (sv (d := 66) rfl rfl (by kernel_rfl) (e_fieldAddr (b := b162) (off := o163 + (t80.n : Int).toNat * 3) (o := 1) Try.underlying36 rfl rfl (sz := 1) (by kernel_rfl) (by decide) (by kernel_rfl)) (sv (d := 67) rfl rfl (by kernel_rfl) (e_load1 (ad := ⟨b162, o163 + (t80.n : Int).toNat * 3 + 1, none⟩) (v := .int .i64 ((x1.cells_.getD ((t80.n).toNat) z36).n)) Try.underlying3 rfl (by kernel_rfl) (hpx (S159.inv.cell ((Y44.trans E91).cell (k167 1 _ rfl))))) (sv (d := 68) rfl rfl (by kernel_rfl) (e_leq (k := .i64) (a := x136) (b := (x1.cells_.getD ((t80.n).toNat) z36).n) (by kernel_rfl) (by kernel_rfl)) (wpStill_nil (then_n ?_)))))
      by_cases q172 : x136 ≤ ((x1.cells_.getD ((t80.n).toNat) z36).n)
      · replace M := ifp q172 M
        refine cond_t rfl (bt q172 (by kernel_rfl)) (wp_skip (then_n (wp_seq (wp_block ?_))))
        refine region_mix (S := (fun (L_ : Array Bool) (w_ : World) => Ext H83 (hp w_) ∧ (∀ b_, (is g93) b_ → hp w_ b_ = hp w158 b_))) (by kernel_rfl) S159 ?_
        intro w173 S174 K175 hc176
        have o177 := b98
        have hs178 : (fun (L_ : Array Bool) (w_ : World) => Ext H83 (hp w_) ∧ (∀ b_, (is g93) b_ → hp w_ b_ = hp w158 b_)) (Array.replicate 14 false) w173 := ⟨S174.inv, (fun b_ h_ => K175.at 1 rfl b_ h_)⟩
        replace h125 := h125.move (K175.at 0 rfl)
        replace b98 := K175.blk 1 rfl b98
        replace h135 := h135.move (K175.at 2 rfl)
        refine xv (i := 0) (d := 71) rfl rfl rfl (by kernel_rfl) (by kernel_rfl) (fun _ _ => Iff.rfl) hc176 hs178 (fun L_ w_ hc_ hu_ hs_ => e_move (v := .slice A132 x131.length c133) (by exact e140)) ?_; intro hc179 hs180
        refine xv (i := 1) (d := 72) rfl rfl rfl (by kernel_rfl) (by kernel_rfl) (fun _ _ => Iff.rfl) hc179 hs180 (fun L_ w_ hc_ hu_ hs_ => e_move (v := .pointer (some ⟨g2, 0, none⟩)) (by exact e137)) ?_; intro hc181 hs182
        refine xv (i := 2) (d := 73) rfl rfl rfl (by kernel_rfl) (by kernel_rfl) (fun _ _ => Iff.rfl) hc181 hs182 (fun L_ w_ hc_ hu_ hs_ => e_nilCheck (ad := ⟨g2, 0, none⟩) (by kernel_rfl)) ?_; intro hc183 hs184
        refine xv (i := 3) (d := 74) rfl rfl rfl (by kernel_rfl) (by kernel_rfl) (fun _ _ => Iff.rfl) hc183 hs184 (fun L_ w_ hc_ hu_ hs_ => e_fieldAddr (b := g2) (off := 0) (o := 0) Try.underlying91 rfl rfl (sz := 1) (by kernel_rfl) (by decide) (by kernel_rfl)) ?_; intro hc185 hs186
        refine xv (i := 4) (d := 75) rfl rfl rfl (by kernel_rfl) (by kernel_rfl) (fun _ _ => Iff.rfl) hc185 hs186 (fun L_ w_ hc_ hu_ hs_ => e_load1 (ad := ⟨g2, 0 + 0, none⟩) (v := .slice A4 x1.cells_.length c5) Try.underlying32 rfl (by kernel_rfl) (blk_cell (hs_.1 _ _ ((Y44.trans E91) _ _ b3)) rfl)) ?_; intro hc187 hs188
        refine xv (i := 5) (d := 76) rfl rfl rfl (by kernel_rfl) (by kernel_rfl) (fun _ _ => Iff.rfl) hc187 hs188 (fun L_ w_ hc_ hu_ hs_ => e_fieldAddr (b := g93) (off := 0) (o := 1) Try.underlying36 rfl rfl (sz := 1) (by kernel_rfl) (by decide) (by exact e141)) ?_; intro hc189 hs190
        refine xv (i := 6) (d := 77) rfl rfl rfl (by kernel_rfl) (by kernel_rfl) (fun _ _ => Iff.rfl) hc189 hs190 (fun L_ w_ hc_ hu_ hs_ => e_load1 (ad := ⟨g93, 0 + 1, none⟩) (v := .int .i64 t80.n) Try.underlying3 rfl (by kernel_rfl) (blk_cell ((hs_.2 _ rfl).trans o177) rfl)) ?_; intro hc191 hs192
        refine xone (i := 7) (by kernel_rfl) hc191 ?_
        refine yo (i := 7) (d := 78) rfl rfl (wanted_none rfl _) (by kernel_rfl) (by kernel_rfl) (fun _ _ => Iff.rfl) hs192 (e_move (v := .int .i64 x136) (by exact e142)) ?_; intro hc193 hs194
        refine xone (i := 8) (by kernel_rfl) hc193 ?_
        refine yo (i := 8) (d := 79) rfl rfl (wanted_none rfl _) (by kernel_rfl) (by kernel_rfl) (fun _ _ => Iff.rfl) hs194 (e_add (k := .i64) (a := t80.n) (b := x136) (by kernel_rfl) (by kernel_rfl)) ?_; intro hc195 hs196
        obtain ⟨q197, M⟩ := chk M
        obtain ⟨q198, M⟩ := chk M
        obtain ⟨b199, o200, e201⟩ := Rd.addr h6 (show ((IntKind.i64.wrap (t80.n + x136))).toNat < x1.cells_.length by omega)
        obtain ⟨y202, r203, k204⟩ := Rd.at h6 e201 (getD_some z36 (show ((IntKind.i64.wrap (t80.n + x136))).toNat < x1.cells_.length by omega))
        obtain ⟨A205, c206, rfl, l207, h208⟩ := st36_open r203
        refine xone (i := 9) (by kernel_rfl) hc195 ?_
        refine yo (i := 9) (d := 80) rfl rfl (wanted_none rfl _) (by kernel_rfl) (by kernel_rfl) (fun _ _ => Iff.rfl) hs196 (e_indexAddr (b := b199) (off := o200) (n := x1.cells_.length) (c := c5) (sz := 3) (i := (IntKind.i64.wrap (t80.n + x136))) (k := .i64) Try.underlying32 e201 (by kernel_rfl) (by kernel_rfl) (by kernel_rfl) q197 q198) ?_; intro hc209 hs210
        refine xone (i := 10) (by kernel_rfl) hc209 ?_
        refine yo (i := 10) (d := 81) rfl rfl (wanted_none rfl _) (by kernel_rfl) (by kernel_rfl) (fun _ _ => Iff.rfl) hs210 (e_loadS (b := b199) (off := o200 + ((IntKind.i64.wrap (t80.n + x136)) : Int).toNat * 3) (cs := [.int .i64 ((x1.cells_.getD (((IntKind.i64.wrap (t80.n + x136))).toNat) z36).kind), .int .i64 ((x1.cells_.getD (((IntKind.i64.wrap (t80.n + x136))).toNat) z36).n), .slice A205 ((x1.cells_.getD (((IntKind.i64.wrap (t80.n + x136))).toNat) z36).text).length c206]) Try.underlying36 rfl (by kernel_rfl) (by kernel_rfl) (fun j_ u_ e_ => (hpx (S174.inv.cell ((Y44.trans E91).cell (k204 j_ u_ e_)))))) ?_; intro hc211 hs212
        refine xone (i := 11) (by kernel_rfl) hc211 ?_
        refine ye (i := 11) (d := 82) rfl rfl (wanted_none rfl _) (by kernel_rfl) (by kernel_rfl) (new_blk (v := fun g_ => .slice (some ⟨g_, 0, none⟩) 1 1) (cs := #[.int .i64 ((x1.cells_.getD (((IntKind.i64.wrap (t80.n + x136))).toNat) z36).kind), .int .i64 ((x1.cells_.getD (((IntKind.i64.wrap (t80.n + x136))).toNat) z36).n), .slice A205 ((x1.cells_.getD (((IntKind.i64.wrap (t80.n + x136))).toNat) z36).text).length c206]) (t := 36) S174 (by kernel_rfl)) ?_
        rintro hc218 _ w213 ⟨g214, rfl, b215, S216, K217⟩
        replace h125 := h125.move (K217.at 0 rfl)
        replace b98 := K217.blk 1 rfl b98
        replace h135 := h135.move (K217.at 2 rfl)
        refine ⟨⟨S216.inv, (fun b_ h_ => (K217.at 1 rfl b_ h_).trans (hs212.2 b_ h_))⟩, fun hs219 => ?_⟩
        obtain ⟨q220, M⟩ := chk M
        have S221 := S216.pull (F := F134) (Fr := [(is g214), F126, (is g93)]) 3 rfl rfl
        have S222 := S221.unit
        have S223 := S222.pull (F := F134) (Fr := [no, (is g214), F126, (is g93)]) 1 rfl rfl
        refine xone (i := 12) (by kernel_rfl) hc218 ?_
        refine ye (i := 12) (d := 83) rfl rfl (wanted_none rfl _) (by kernel_rfl) (by kernel_rfl) (e_append (d := (ro st36)) (n := x131.length) (xs := x131) (cap := c133) (A := A132) (ys := [(x1.cells_.getD (((IntKind.i64.wrap (t80.n + x136))).toNat) z36)]) (A2 := (some ⟨g214, 0, none⟩)) (c2 := 1) (z := .agg #[.int .i64 0, .int .i64 0, .slice none 0 0]) (bytes := 40) S223 Try.underlying32 (by kernel_rfl) rfl (by decide) (by kernel_rfl) rfl (by kernel_rfl) h135 (elsO_one1 (st36_mkR (x := (x1.cells_.getD (((IntKind.i64.wrap (t80.n + x136))).toNat) z36)) l207 (h208.ext (Y44.trans E91)))) (.inr (blk_news b215 rfl)) (show (x131.length + [(x1.cells_.getD (((IntKind.i64.wrap (t80.n + x136))).toNat) z36)].length) * 40 ≤ _ by first | omega | (simp only [List.length_cons, List.length_nil]; omega)) (by decide)) ?_
        rintro hc231 _ w224 ⟨A225, c226, F227, rfl, h228, S229, K230⟩
        replace h125 := h125.move (K230.at 1 rfl)
        replace b98 := K230.blk 2 rfl b98
        refine ⟨⟨S229.inv, (fun b_ h_ => (K230.at 2 rfl b_ h_).trans (hs219.2 b_ h_))⟩, fun hs232 => ?_⟩
        refine xone (i := 13) (by kernel_rfl) hc231 ?_
        refine yo (i := 13) (d := 8) rfl rfl (wanted_none rfl _) (by kernel_rfl) (by kernel_rfl) (fun _ _ => Iff.rfl) hs232 (e_assign (v := .slice A225 ((x131 ++ [(x1.cells_.getD (((IntKind.i64.wrap (t80.n + x136))).toNat) z36)]).length) c226) (by kernel_rfl)) ?_; intro hc233 hs234
        refine xn (by kernel_rfl) ?_ _
        refine inb_n (then_n (wp_region_lit (lv (d := 69) rfl rfl (by kernel_rfl) (e_move (v := .int .i64 x136) (by exact e142)) (lv (d := 70) rfl rfl (by kernel_rfl) (e_add (k := .i64) (a := x136) (b := 1) (by kernel_rfl) rfl) (lv (d := 10) rfl rfl (by kernel_rfl) (e_assign (v := .int .i64 (IntKind.i64.wrap (x136 + 1))) (by kernel_rfl)) (wpList_nil (then_n ?_)))))))
        have S235 := S229.pull (F := (is g93)) (Fr := [F227, (is g214), F126]) 3 rfl rfl
        have S236 := S235.pull (F := F126) (Fr := [(is g93), F227, (is g214)]) 3 rfl rfl
        have S237 := St.first (Fa := [F126, (is g93), F227]) (Fr := [(is g214)]) S236
        exact ⟨k157, (by omega), _, (x131 ++ [(x1.cells_.getD (((IntKind.i64.wrap (t80.n + x136))).toNat) z36)]), A225, c226, F227, (IntKind.i64.wrap (x136 + 1)), (by omega), rfl, (by exact e137), (by exact e138), (by exact e139), (by kernel_rfl), (by exact e141), (by kernel_rfl), (by exact e143), (by exact e144), (by exact e145), (by exact e146), (by exact e147), (by exact e148), (by exact e149), (by exact e150), (by exact e151), h125, b98, h228, S237, M⟩
      replace M := ifn q172 M
      refine cond_f rfl (bf q172 (by kernel_rfl)) (wp_exit (then_e (then_e (inb_hit (inb_n (then_n ?_))))))
      have S238 := S159.pull (F := F134) (Fr := [F126, (is g93)]) 2 rfl rfl
      have S239 := S238.pull (F := F126) (Fr := [F134, (is g93)]) 1 rfl rfl
      have S240 := St.first (Fa := [F126, F134]) (Fr := [(is g93)]) S239
      exact ⟨k157, (by omega), _, H83, x131, A132, c133, F134, F126, (x51.set ((t80.n).toNat) true), rfl, (by exact e137), (by exact e138), (by exact e139), (by exact e140), h125, h135, (List.length_set.trans n52), (Y44.trans E91), S240, M⟩
    replace M := ifn q103 M
    refine lskip (t := 38) (c := false) rfl (by kernel_rfl) rfl (bf q103 (by kernel_rfl)) rfl rfl ?_
    refine lskip (t := 38) (c := false) rfl (by kernel_rfl) rfl (bf q103 (by kernel_rfl)) rfl rfl ?_
    refine lskip (t := 38) (c := false) rfl (by kernel_rfl) rfl (bf q103 (by kernel_rfl)) rfl rfl ?_
    refine lskip (t := 38) (c := false) rfl (by kernel_rfl) rfl (bf q103 (by kernel_rfl)) rfl rfl ?_
    refine lv (d := 43) rfl rfl (by kernel_rfl) (e_pick_f (v := .bool false) (bf q103 (by kernel_rfl)) rfl) (wpList_nil (then_n (cond_f rfl (by kernel_rfl) (wp_skip (then_n (wp_seq (wp_seq ?_)))))))
    refine wp_region_lit (lv (d := 44) rfl rfl (by kernel_rfl) (e_fieldAddr (b := g93) (off := 0) (o := 0) Try.underlying36 rfl rfl (sz := 1) (by kernel_rfl) (by decide) (by kernel_rfl)) (lv (d := 45) rfl rfl (by kernel_rfl) (e_load1 (ad := ⟨g93, 0 + 0, none⟩) (v := .int .i64 t80.kind) Try.underlying3 rfl (by kernel_rfl) (blk_cell b98 rfl)) (lv (d := 46) rfl rfl (by kernel_rfl) (e_neq (k := .i64) (a := t80.kind) (b := 4) (by kernel_rfl) rfl) (lv (d := 47) rfl rfl (by kernel_rfl) (e_move (v := .bool (decide (t80.kind ≠ 4))) (by kernel_rfl)) ?_))))
    by_cases q241 : t80.kind ≠ 4
    · replace M := ifp q241 M
      refine lskip (t := 47) (c := true) rfl (by kernel_rfl) rfl (bt q241 (by kernel_rfl)) rfl rfl ?_
      refine lskip (t := 47) (c := true) rfl (by kernel_rfl) rfl (bt q241 (by kernel_rfl)) rfl rfl ?_
      refine lskip (t := 47) (c := true) rfl (by kernel_rfl) rfl (bt q241 (by kernel_rfl)) rfl rfl ?_
      refine lskip (t := 47) (c := true) rfl (by kernel_rfl) rfl (bt q241 (by kernel_rfl)) rfl rfl ?_
      refine lskip (t := 47) (c := true) rfl (by kernel_rfl) rfl (bt q241 (by kernel_rfl)) rfl rfl ?_
      refine lv (d := 53) rfl rfl (by kernel_rfl) (e_pick_t (v := .bool true) (bt q241 (by kernel_rfl)) rfl) (wpList_nil (then_n (cond_t rfl (by kernel_rfl) (wp_exit (then_e (inb_hit (then_n ?_)))))))
      have S242 := S99.pull (F := F48) (Fr := [(is g93), F50]) 2 rfl rfl
      have S243 := S242.pull (F := F50) (Fr := [F48, (is g93)]) 2 rfl rfl
      have S244 := St.first (Fa := [F50, F48]) (Fr := [(is g93)]) S243
      exact ⟨k62, (by omega), _, H83, (x45.take (((IntKind.i64.wrap ((x45.length : Int) - 1)) : Int).toNat)), A46, c47, F48, F50, x51, rfl, (by exact e53), (by exact e54), (by exact e55), (by kernel_rfl), h29, h102, n52, (Y44.trans E91), S244, M⟩
    replace M := ifn q241 M
    refine lvg (d := 48) (t := 47) rfl (by kernel_rfl) rfl (bf q241 (by kernel_rfl)) rfl (by kernel_rfl) (e_move (v := .slice A26 (((x1.cells_.length : Int)).toNat) c27) (by exact e55)) (lvg (d := 49) (t := 47) rfl (by kernel_rfl) rfl (bf q241 (by kernel_rfl)) rfl (by kernel_rfl) (e_fieldAddr (b := g93) (off := 0) (o := 1) Try.underlying36 rfl rfl (sz := 1) (by kernel_rfl) (by decide) (by kernel_rfl)) (lvg (d := 50) (t := 47) rfl (by kernel_rfl) rfl (bf q241 (by kernel_rfl)) rfl (by kernel_rfl) (e_load1 (ad := ⟨g93, 0 + 1, none⟩) (v := .int .i64 t80.n) Try.underlying3 rfl (by kernel_rfl) (blk_cell b98 rfl)) ?_))
    obtain ⟨q245, M⟩ := chk M
    obtain ⟨q246, M⟩ := chk M
    obtain ⟨b247, e249⟩ := Row.addr h29 (show (t80.n).toNat < x51.length by have : x51.length = ((x1.cells_.length : Int)).toNat := n52; omega)
    refine lvg (d := 51) (t := 47) rfl (by kernel_rfl) rfl (bf q241 (by kernel_rfl)) rfl (by kernel_rfl) (e_indexAddr (b := b247) (off := 0) (n := ((x1.cells_.length : Int)).toNat) (c := c27) (sz := 1) (i := t80.n) (k := .i64) Try.underlying99 e249 (by kernel_rfl) (by kernel_rfl) (by kernel_rfl) q245 q246) (lvg (d := 52) (t := 47) rfl (by kernel_rfl) rfl (bf q241 (by kernel_rfl)) rfl (by kernel_rfl) (e_load1 (ad := ⟨b247, 0 + (t80.n : Int).toNat * 1, none⟩) (v := .bool (x51.getD ((t80.n).toNat) false)) Try.underlying4 rfl (by kernel_rfl) (hpx (Row.pick (j := 0) (u := .bool (x51.getD ((t80.n).toNat) false)) h29 e249 (getD_some false (show (t80.n).toNat < x51.length by have : x51.length = ((x1.cells_.length : Int)).toNat := n52; omega)) (fun _ _ o_ => by rw [show _ = _ from o_]; rfl)))) (lv (d := 53) rfl rfl (by kernel_rfl) (e_pick_f (v := .bool (x51.getD ((t80.n).toNat) false)) (bf q241 (by kernel_rfl)) (by kernel_rfl)) (wpList_nil (then_n ?_))))
    by_cases q250 : (x51.getD ((t80.n).toNat) false) = true
    · replace M := ifp q250 M
      refine cond_t rfl (bvt q250 (by kernel_rfl)) (wp_exit (then_e (inb_hit (then_n ?_))))
      have S251 := S99.pull (F := F48) (Fr := [(is g93), F50]) 2 rfl rfl
      have S252 := S251.pull (F := F50) (Fr := [F48, (is g93)]) 2 rfl rfl
      have S253 := St.first (Fa := [F50, F48]) (Fr := [(is g93)]) S252
      exact ⟨k62, (by omega), _, H83, (x45.take (((IntKind.i64.wrap ((x45.length : Int) - 1)) : Int).toNat)), A46, c47, F48, F50, x51, rfl, (by exact e53), (by exact e54), (by exact e55), (by kernel_rfl), h29, h102, n52, (Y44.trans E91), S253, M⟩
    replace M := ifn q250 M
    refine cond_f rfl (bvf q250 (by kernel_rfl)) (wp_skip (then_n (wp_seq (wp_region_lit (lv (d := 54) rfl rfl (by kernel_rfl) (e_move (v := .slice A26 (((x1.cells_.length : Int)).toNat) c27) (by exact e55)) (lv (d := 55) rfl rfl (by kernel_rfl) (e_fieldAddr (b := g93) (off := 0) (o := 1) Try.underlying36 rfl rfl (sz := 1) (by kernel_rfl) (by decide) (by kernel_rfl)) (lv (d := 56) rfl rfl (by kernel_rfl) (e_load1 (ad := ⟨g93, 0 + 1, none⟩) (v := .int .i64 t80.n) Try.underlying3 rfl (by kernel_rfl) (blk_cell b98 rfl)) ?_)))))))
    obtain ⟨b254, e256⟩ := Row.addr h29 (show (t80.n).toNat < x51.length by have : x51.length = ((x1.cells_.length : Int)).toNat := n52; omega)
    refine lv (d := 57) rfl rfl (by kernel_rfl) (e_indexAddr (b := b254) (off := 0) (n := ((x1.cells_.length : Int)).toNat) (c := c27) (sz := 1) (i := t80.n) (k := .i64) Try.underlying99 e256 (by kernel_rfl) (by kernel_rfl) (by kernel_rfl) q245 q246) ?_
    have S257 := S99.pull (F := F50) (Fr := [(is g93), F48]) 1 rfl rfl
    have S258 := S257.unit
    have S259 := S258.pull (F := F50) (Fr := [no, (is g93), F48]) 1 rfl rfl
    refine lse rfl rfl (by kernel_rfl) (e_setel (d := tBool) (b := b254) (i := (t80.n).toNat) (v := .bool true) (vs := [.bool true]) (yv := true) S259 (by kernel_rfl) e256 rfl rfl (by kernel_rfl) h29 (show (t80.n).toNat < x51.length by have : x51.length = ((x1.cells_.length : Int)).toNat := n52; omega) rfl) ?_
    rintro w260 ⟨F262, h261, S263, K264⟩
    replace b98 := K264.blk 0 rfl b98
    replace h102 := h102.move (K264.at 1 rfl)
    clear h29
    refine wpList_nil (then_n (wp_seq (wp_region_lit (lv (d := 10) rfl rfl (by kernel_rfl) (e_assign (v := .int .i64 1) rfl) (wpList_nil (then_n (wp_block ?_)))))))
    refine wp_loop_g (fun k287 a288 w265 => ∃ (f266 : Nat → Value) (x267 : List Cell) (A268 : Option Addr) (c269 : Nat) (F270 : Foot) (x272 : Int), k287 ≤ k62 ∧ a288 = mk 84 f266 ∧ f266 0 = .pointer (some ⟨g2, 0, none⟩) ∧ f266 1 = .int .i64 x12 ∧ f266 7 = .slice A26 (((x1.cells_.length : Int)).toNat) c27 ∧ f266 8 = .slice A268 x267.length c269 ∧ f266 9 = .pointer (some ⟨g93, 0, none⟩) ∧ f266 10 = .int .i64 x272 ∧ f266 48 = .slice A26 (((x1.cells_.length : Int)).toNat) c27 ∧ f266 49 = .pointer (some ⟨g93, 0 + 1, none⟩) ∧ f266 50 = .int .i64 t80.n ∧ f266 51 = .pointer (some ⟨b247, 0 + (t80.n : Int).toNat * 1, none⟩) ∧ f266 52 = .bool (x51.getD ((t80.n).toNat) false) ∧ Row tBool 4 H83 (hp w265) F262 A26 c27 (x51.set ((t80.n).toNat) true) ∧ w265.heap[g93]? = some (.cells #[.int .i64 t80.kind, .int .i64 t80.n, .slice A85 t80.text.length c86] 36 (0, 0)) ∧ Row (ro st36) 36 H83 (hp w265) F270 A268 c269 x267 ∧ St (anyOf []) H w [F262, (is g93), F270] H83 w265 ∧ spec_l10within.l2 k287 x1 x12 x51 t80 x267 x272 = some r) k62 ⟨_, (x45.take (((IntKind.i64.wrap ((x45.length : Int) - 1)) : Int).toNat)), A46, c47, F48, 1, (by omega), rfl, (by exact e53), (by exact e54), (by exact e55), (by kernel_rfl), (by kernel_rfl), (by kernel_rfl), (by kernel_rfl), (by kernel_rfl), (by kernel_rfl), (by kernel_rfl), (by kernel_rfl), h261, b98, h102, S263, M⟩ ?_
    clear M
    rintro k287 a288 w265 ⟨f266, x267, A268, c269, F270, x272, z286, rfl, e273, e274, e275, e276, e277, e278, e279, e280, e281, e282, e283, h261, b98, h271, S284, M⟩
    rcases k287 with _ | k289
    · rw [spec_l10within.l2] at M
      cases M
    rw [spec_l10within.l2] at M
    refine wp_seq (wp_seq ?_)
    refine region_still (by kernel_rfl) (by kernel_rfl) S284 ?_
    intro w290 S291 K292
    replace h261 := h261.move (K292.at 0 rfl)
    replace b98 := K292.blk 1 rfl b98
    replace h271 := h271.move (K292.at 2 rfl)
    refine sv (d := 58) rfl rfl (by kernel_rfl) (e_move (v := .int .i64 x272) (by exact e278)) (sv (d := 59) rfl rfl (by kernel_rfl) (e_move (v := .pointer (some ⟨g2, 0, none⟩)) (by exact e273)) (sv (d := 60) rfl rfl (by kernel_rfl) (e_nilCheck (ad := ⟨g2, 0, none⟩) (by kernel_rfl)) (sv (d := 61) rfl rfl (by kernel_rfl) (e_fieldAddr (b := g2) (off := 0) (o := 0) Try.underlying91 rfl rfl (sz := 1) (by kernel_rfl) (by decide) (by kernel_rfl)) (sv (d := 62) rfl rfl (by kernel_rfl) (e_load1 (ad := ⟨g2, 0 + 0, none⟩) (v := .slice A4 x1.cells_.length c5) Try.underlying32 rfl (by kernel_rfl) (blk_cell (S291.inv _ _ ((Y44.trans E91) _ _ b3)) rfl)) (sv (d := 63) rfl rfl (by kernel_rfl) (e_fieldAddr (b := g93) (off := 0) (o := 1) Try.underlying36 rfl rfl (sz := 1) (by kernel_rfl) (by decide) (by exact e277)) (sv (d := 64) rfl rfl (by kernel_rfl) (e_load1 (ad := ⟨g93, 0 + 1, none⟩) (v := .int .i64 t80.n) Try.underlying3 rfl (by kernel_rfl) (blk_cell b98 rfl)) ?_))))))
    obtain ⟨q293, M⟩ := chk M
    obtain ⟨b294, o295, e296⟩ := Rd.addr h6 (show (t80.n).toNat < x1.cells_.length by omega)
    obtain ⟨y297, r298, k299⟩ := Rd.at h6 e296 (getD_some z36 (show (t80.n).toNat < x1.cells_.length by omega))
    obtain ⟨A300, c301, rfl, l302, h303⟩ := st36_open r298
    refine sv (d := 65) rfl rfl (by kernel_rfl) (e_indexAddr (b := b294) (off := o295) (n := x1.cells_.length) (c := c5) (sz := 3) (i := t80.n) (k := .i64) Try.underlying32 e296 (by kernel_rfl) (by kernel_rfl) (by kernel_rfl) q245 q293) (sv (d := 66) rfl rfl (by kernel_rfl) (e_fieldAddr (b := b294) (off := o295 + (t80.n : Int).toNat * 3) (o := 1) Try.underlying36 rfl rfl (sz := 1) (by kernel_rfl) (by decide) (by kernel_rfl)) (sv (d := 67) rfl rfl (by kernel_rfl) (e_load1 (ad := ⟨b294, o295 + (t80.n : Int).toNat * 3 + 1, none⟩) (v := .int .i64 ((x1.cells_.getD ((t80.n).toNat) z36).n)) Try.underlying3 rfl (by kernel_rfl) (hpx (S291.inv.cell ((Y44.trans E91).cell (k299 1 _ rfl))))) (sv (d := 68) rfl rfl (by kernel_rfl) (e_leq (k := .i64) (a := x272) (b := (x1.cells_.getD ((t80.n).toNat) z36).n) (by kernel_rfl) (by kernel_rfl)) (wpStill_nil (then_n ?_)))))
    by_cases q304 : x272 ≤ ((x1.cells_.getD ((t80.n).toNat) z36).n)
    · replace M := ifp q304 M
      refine cond_t rfl (bt q304 (by kernel_rfl)) (wp_skip (then_n (wp_seq (wp_block ?_))))
      refine region_mix (S := (fun (L_ : Array Bool) (w_ : World) => Ext H83 (hp w_) ∧ (∀ b_, (is g93) b_ → hp w_ b_ = hp w290 b_))) (by kernel_rfl) S291 ?_
      intro w305 S306 K307 hc308
      have o309 := b98
      have hs310 : (fun (L_ : Array Bool) (w_ : World) => Ext H83 (hp w_) ∧ (∀ b_, (is g93) b_ → hp w_ b_ = hp w290 b_)) (Array.replicate 14 false) w305 := ⟨S306.inv, (fun b_ h_ => K307.at 1 rfl b_ h_)⟩
      replace h261 := h261.move (K307.at 0 rfl)
      replace b98 := K307.blk 1 rfl b98
      replace h271 := h271.move (K307.at 2 rfl)
      refine xv (i := 0) (d := 71) rfl rfl rfl (by kernel_rfl) (by kernel_rfl) (fun _ _ => Iff.rfl) hc308 hs310 (fun L_ w_ hc_ hu_ hs_ => e_move (v := .slice A268 x267.length c269) (by exact e276)) ?_; intro hc311 hs312
      refine xv (i := 1) (d := 72) rfl rfl rfl (by kernel_rfl) (by kernel_rfl) (fun _ _ => Iff.rfl) hc311 hs312 (fun L_ w_ hc_ hu_ hs_ => e_move (v := .pointer (some ⟨g2, 0, none⟩)) (by exact e273)) ?_; intro hc313 hs314
      refine xv (i := 2) (d := 73) rfl rfl rfl (by kernel_rfl) (by kernel_rfl) (fun _ _ => Iff.rfl) hc313 hs314 (fun L_ w_ hc_ hu_ hs_ => e_nilCheck (ad := ⟨g2, 0, none⟩) (by kernel_rfl)) ?_; intro hc315 hs316
      refine xv (i := 3) (d := 74) rfl rfl rfl (by kernel_rfl) (by kernel_rfl) (fun _ _ => Iff.rfl) hc315 hs316 (fun L_ w_ hc_ hu_ hs_ => e_fieldAddr (b := g2) (off := 0) (o := 0) Try.underlying91 rfl rfl (sz := 1) (by kernel_rfl) (by decide) (by kernel_rfl)) ?_; intro hc317 hs318
      refine xv (i := 4) (d := 75) rfl rfl rfl (by kernel_rfl) (by kernel_rfl) (fun _ _ => Iff.rfl) hc317 hs318 (fun L_ w_ hc_ hu_ hs_ => e_load1 (ad := ⟨g2, 0 + 0, none⟩) (v := .slice A4 x1.cells_.length c5) Try.underlying32 rfl (by kernel_rfl) (blk_cell (hs_.1 _ _ ((Y44.trans E91) _ _ b3)) rfl)) ?_; intro hc319 hs320
      refine xv (i := 5) (d := 76) rfl rfl rfl (by kernel_rfl) (by kernel_rfl) (fun _ _ => Iff.rfl) hc319 hs320 (fun L_ w_ hc_ hu_ hs_ => e_fieldAddr (b := g93) (off := 0) (o := 1) Try.underlying36 rfl rfl (sz := 1) (by kernel_rfl) (by decide) (by exact e277)) ?_; intro hc321 hs322
      refine xv (i := 6) (d := 77) rfl rfl rfl (by kernel_rfl) (by kernel_rfl) (fun _ _ => Iff.rfl) hc321 hs322 (fun L_ w_ hc_ hu_ hs_ => e_load1 (ad := ⟨g93, 0 + 1, none⟩) (v := .int .i64 t80.n) Try.underlying3 rfl (by kernel_rfl) (blk_cell ((hs_.2 _ rfl).trans o309) rfl)) ?_; intro hc323 hs324
      refine xone (i := 7) (by kernel_rfl) hc323 ?_
      refine yo (i := 7) (d := 78) rfl rfl (wanted_none rfl _) (by kernel_rfl) (by kernel_rfl) (fun _ _ => Iff.rfl) hs324 (e_move (v := .int .i64 x272) (by exact e278)) ?_; intro hc325 hs326
      refine xone (i := 8) (by kernel_rfl) hc325 ?_
      refine yo (i := 8) (d := 79) rfl rfl (wanted_none rfl _) (by kernel_rfl) (by kernel_rfl) (fun _ _ => Iff.rfl) hs326 (e_add (k := .i64) (a := t80.n) (b := x272) (by kernel_rfl) (by kernel_rfl)) ?_; intro hc327 hs328
      obtain ⟨q329, M⟩ := chk M
      obtain ⟨q330, M⟩ := chk M
      obtain ⟨b331, o332, e333⟩ := Rd.addr h6 (show ((IntKind.i64.wrap (t80.n + x272))).toNat < x1.cells_.length by omega)
      obtain ⟨y334, r335, k336⟩ := Rd.at h6 e333 (getD_some z36 (show ((IntKind.i64.wrap (t80.n + x272))).toNat < x1.cells_.length by omega))
      obtain ⟨A337, c338, rfl, l339, h340⟩ := st36_open r335
      refine xone (i := 9) (by kernel_rfl) hc327 ?_
      refine yo (i := 9) (d := 80) rfl rfl (wanted_none rfl _) (by kernel_rfl) (by kernel_rfl) (fun _ _ => Iff.rfl) hs328 (e_indexAddr (b := b331) (off := o332) (n := x1.cells_.length) (c := c5) (sz := 3) (i := (IntKind.i64.wrap (t80.n + x272))) (k := .i64) Try.underlying32 e333 (by kernel_rfl) (by kernel_rfl) (by kernel_rfl) q329 q330) ?_; intro hc341 hs342
      refine xone (i := 10) (by kernel_rfl) hc341 ?_
      refine yo (i := 10) (d := 81) rfl rfl (wanted_none rfl _) (by kernel_rfl) (by kernel_rfl) (fun _ _ => Iff.rfl) hs342 (e_loadS (b := b331) (off := o332 + ((IntKind.i64.wrap (t80.n + x272)) : Int).toNat * 3) (cs := [.int .i64 ((x1.cells_.getD (((IntKind.i64.wrap (t80.n + x272))).toNat) z36).kind), .int .i64 ((x1.cells_.getD (((IntKind.i64.wrap (t80.n + x272))).toNat) z36).n), .slice A337 ((x1.cells_.getD (((IntKind.i64.wrap (t80.n + x272))).toNat) z36).text).length c338]) Try.underlying36 rfl (by kernel_rfl) (by kernel_rfl) (fun j_ u_ e_ => (hpx (S306.inv.cell ((Y44.trans E91).cell (k336 j_ u_ e_)))))) ?_; intro hc343 hs344
      refine xone (i := 11) (by kernel_rfl) hc343 ?_
      refine ye (i := 11) (d := 82) rfl rfl (wanted_none rfl _) (by kernel_rfl) (by kernel_rfl) (new_blk (v := fun g_ => .slice (some ⟨g_, 0, none⟩) 1 1) (cs := #[.int .i64 ((x1.cells_.getD (((IntKind.i64.wrap (t80.n + x272))).toNat) z36).kind), .int .i64 ((x1.cells_.getD (((IntKind.i64.wrap (t80.n + x272))).toNat) z36).n), .slice A337 ((x1.cells_.getD (((IntKind.i64.wrap (t80.n + x272))).toNat) z36).text).length c338]) (t := 36) S306 (by kernel_rfl)) ?_
      rintro hc350 _ w345 ⟨g346, rfl, b347, S348, K349⟩
      replace h261 := h261.move (K349.at 0 rfl)
      replace b98 := K349.blk 1 rfl b98
      replace h271 := h271.move (K349.at 2 rfl)
      refine ⟨⟨S348.inv, (fun b_ h_ => (K349.at 1 rfl b_ h_).trans (hs344.2 b_ h_))⟩, fun hs351 => ?_⟩
      obtain ⟨q352, M⟩ := chk M
      have S353 := S348.pull (F := F270) (Fr := [(is g346), F262, (is g93)]) 3 rfl rfl
      have S354 := S353.unit
      have S355 := S354.pull (F := F270) (Fr := [no, (is g346), F262, (is g93)]) 1 rfl rfl
      refine xone (i := 12) (by kernel_rfl) hc350 ?_
      refine ye (i := 12) (d := 83) rfl rfl (wanted_none rfl _) (by kernel_rfl) (by kernel_rfl) (e_append (d := (ro st36)) (n := x267.length) (xs := x267) (cap := c269) (A := A268) (ys := [(x1.cells_.getD (((IntKind.i64.wrap (t80.n + x272))).toNat) z36)]) (A2 := (some ⟨g346, 0, none⟩)) (c2 := 1) (z := .agg #[.int .i64 0, .int .i64 0, .slice none 0 0]) (bytes := 40) S355 Try.underlying32 (by kernel_rfl) rfl (by decide) (by kernel_rfl) rfl (by kernel_rfl) h271 (elsO_one1 (st36_mkR (x := (x1.cells_.getD (((IntKind.i64.wrap (t80.n + x272))).toNat) z36)) l339 (h340.ext (Y44.trans E91)))) (.inr (blk_news b347 rfl)) (show (x267.length + [(x1.cells_.getD (((IntKind.i64.wrap (t80.n + x272))).toNat) z36)].length) * 40 ≤ _ by first | omega | (simp only [List.length_cons, List.length_nil]; omega)) (by decide)) ?_
      rintro hc363 _ w356 ⟨A357, c358, F359, rfl, h360, S361, K362⟩
      replace h261 := h261.move (K362.at 1 rfl)
      replace b98 := K362.blk 2 rfl b98
      refine ⟨⟨S361.inv, (fun b_ h_ => (K362.at 2 rfl b_ h_).trans (hs351.2 b_ h_))⟩, fun hs364 => ?_⟩
      refine xone (i := 13) (by kernel_rfl) hc363 ?_
      refine yo (i := 13) (d := 8) rfl rfl (wanted_none rfl _) (by kernel_rfl) (by kernel_rfl) (fun _ _ => Iff.rfl) hs364 (e_assign (v := .slice A357 ((x267 ++ [(x1.cells_.getD (((IntKind.i64.wrap (t80.n + x272))).toNat) z36)]).length) c358) (by kernel_rfl)) ?_; intro hc365 hs366
      refine xn (by kernel_rfl) ?_ _
      refine inb_n (then_n (wp_region_lit (lv (d := 69) rfl rfl (by kernel_rfl) (e_move (v := .int .i64 x272) (by exact e278)) (lv (d := 70) rfl rfl (by kernel_rfl) (e_add (k := .i64) (a := x272) (b := 1) (by kernel_rfl) rfl) (lv (d := 10) rfl rfl (by kernel_rfl) (e_assign (v := .int .i64 (IntKind.i64.wrap (x272 + 1))) (by kernel_rfl)) (wpList_nil (then_n ?_)))))))
      have S367 := S361.pull (F := (is g93)) (Fr := [F359, (is g346), F262]) 3 rfl rfl
      have S368 := S367.pull (F := F262) (Fr := [(is g93), F359, (is g346)]) 3 rfl rfl
      have S369 := St.first (Fa := [F262, (is g93), F359]) (Fr := [(is g346)]) S368
      exact ⟨k289, (by omega), _, (x267 ++ [(x1.cells_.getD (((IntKind.i64.wrap (t80.n + x272))).toNat) z36)]), A357, c358, F359, (IntKind.i64.wrap (x272 + 1)), (by omega), rfl, (by exact e273), (by exact e274), (by exact e275), (by kernel_rfl), (by exact e277), (by kernel_rfl), (by exact e279), (by exact e280), (by exact e281), (by exact e282), (by exact e283), h261, b98, h360, S369, M⟩
    replace M := ifn q304 M
    refine cond_f rfl (bf q304 (by kernel_rfl)) (wp_exit (then_e (then_e (inb_hit (inb_n (then_n ?_))))))
    have S370 := S291.pull (F := F270) (Fr := [F262, (is g93)]) 2 rfl rfl
    have S371 := S370.pull (F := F262) (Fr := [F270, (is g93)]) 1 rfl rfl
    have S372 := St.first (Fa := [F262, F270]) (Fr := [(is g93)]) S371
    exact ⟨k289, (by omega), _, H83, x267, A268, c269, F270, F262, (x51.set ((t80.n).toNat) true), rfl, (by exact e273), (by exact e274), (by exact e275), (by exact e276), h261, h271, (List.length_set.trans n52), (Y44.trans E91), S372, M⟩
  replace M := ifn q65 M
  refine cond_f rfl (bf q65 (by kernel_rfl)) (wp_exit (then_e (then_e (inb_hit (then_n (wp_seq (wp_region_lit ?_)))))))
  refine lv (d := 6) rfl rfl (by kernel_rfl) (e_assign (v := .bool false) rfl) (wpList_nil (then_n (wp_ret ?_)))
  obtain rfl := Option.some.inj M
  exact ret1 rfl rfl  (show _ = .bool false from (by kernel_rfl)) ⟨rfl, S57.chg⟩

/-! spec_l10bind -/
def spec_l10bind_2.f (k : Nat) (x1 : GL10heap) (x12 : Int) (x13 : Cell) : Option (Int × GL10heap) := (if x13.kind = 0 then (if x13.n > x12 then ((spec_l10ref.f x12).bind fun t39 => ((spec_l10set_2.f x1 x13.n t39).bind fun t62 => some (t62.1, t62.2))) else ((spec_l10set_2.f x1 x12 x13).bind fun t90 => some (t90.1, t90.2))) else (if x13.kind = 4 then ((spec_l10within.f k x1 x12 x13).bind fun t112 => (if t112 = true then some (5, x1) else ((spec_l10set_2.f x1 x12 x13).bind fun t146 => some (t146.1, t146.2)))) else ((spec_l10set_2.f x1 x12 x13).bind fun t170 => some (t170.1, t170.2))))
theorem spec_l10bind_2.calls (k : Nat) (w : World) (H : Hp) (x1 : GL10heap) (g2 : Nat) (A4 : Option Addr) (c5 : Nat) (F7 : Foot) (A8 : Option Addr) (c9 : Nat) (F11 : Foot) (x12 : Int) (x13 : Cell) (A14 : Option Addr) (c15 : Nat) (h6 : Row (ro st36) 36 H (hp w) F7 A4 c5 x1.cells_) (h10 : Row tInt 3 H (hp w) F11 A8 c9 x1.trail_) (b3 : w.heap[g2]? = some (.cells #[.slice A4 x1.cells_.length c5, .slice A8 x1.trail_.length c9, .int .i64 x1.pairs_] 91 (0, 0))) (h16 : Rd tByte H A14 x13.text) (l17 : x13.text.length ≤ c15) (S : Own [F7, F11, (is g2)] H w) (r : Int × GL10heap) (M : spec_l10bind_2.f k x1 x12 x13 = some r) :
    Calls Try.prog 61 #[.pointer (some ⟨g2, 0, none⟩), .int .i64 x12, .agg #[.int .i64 x13.kind, .int .i64 x13.n, .slice A14 x13.text.length c15]] w (fun e e_w => ∃ (A_1 : Option Addr) (c_1 : Nat) (F_1 : Foot) (A_2 : Option Addr) (c_2 : Nat) (F_2 : Foot) (H_ : Hp), e = .returned (.int .i64 r.1) ∧ Row (ro st36) 36 H_ (hp e_w) F_1 A_1 c_1 r.2.cells_ ∧ Row tInt 3 H_ (hp e_w) F_2 A_2 c_2 r.2.trail_ ∧ e_w.heap[g2]? = some (.cells #[.slice A_1 r.2.cells_.length c_1, .slice A_2 r.2.trail_.length c_2, .int .i64 r.2.pairs_] 91 (0, 0)) ∧ St (anyOf [F7, F11, (is g2)]) H w [(is g2), F_1, F_2] H_ e_w) := by
  rw [spec_l10bind_2.f] at M
  refine enter (l := [.pointer (some ⟨g2, 0, none⟩), .int .i64 x12, .agg #[.int .i64 x13.kind, .int .i64 x13.n, .slice A14 x13.text.length c15]]) 37 Try.func61 rfl rfl rfl ?_
  have S0_ := S.st
  refine wp_seq (wp_region_lit ?_)
  refine lve (d := 5) rfl rfl (by kernel_rfl) (new_blk (v := fun g_ => .pointer (some ⟨g_, 0, none⟩)) (cs := #[.int .i64 x13.kind, .int .i64 x13.n, .slice A14 x13.text.length c15]) (t := 36) S0_ (by kernel_rfl)) ?_
  rintro _ w18 ⟨g19, rfl, b20, S21, K22⟩
  replace h6 := h6.move (K22.at 0 rfl)
  replace h10 := h10.move (K22.at 1 rfl)
  replace b3 := K22.blk 2 rfl b3
  refine lv (d := 6) rfl rfl (by kernel_rfl) (e_assign (v := .int .i64 0) rfl) (wpList_nil (then_n (wp_seq (wp_seq (wp_region_lit (lv (d := 7) rfl rfl (by kernel_rfl) (e_fieldAddr (b := g19) (off := 0) (o := 0) Try.underlying36 rfl rfl (sz := 1) (by kernel_rfl) (by decide) (by kernel_rfl)) (lv (d := 8) rfl rfl (by kernel_rfl) (e_load1 (ad := ⟨g19, 0 + 0, none⟩) (v := .int .i64 x13.kind) Try.underlying3 rfl (by kernel_rfl) (blk_cell b20 rfl)) ?_)))))))
  refine lv (d := 9) rfl rfl (by kernel_rfl) (e_eql (k := .i64) (a := x13.kind) (b := 0) (by kernel_rfl) rfl) (wpList_nil (then_n ?_))
  by_cases q23 : x13.kind = 0
  · replace M := ifp q23 M
    refine cond_t rfl (bt q23 (by kernel_rfl)) (wp_seq (wp_seq (wp_region_lit (lv (d := 10) rfl rfl (by kernel_rfl) (e_fieldAddr (b := g19) (off := 0) (o := 1) Try.underlying36 rfl rfl (sz := 1) (by kernel_rfl) (by decide) (by kernel_rfl)) (lv (d := 11) rfl rfl (by kernel_rfl) (e_load1 (ad := ⟨g19, 0 + 1, none⟩) (v := .int .i64 x13.n) Try.underlying3 rfl (by kernel_rfl) (blk_cell b20 rfl)) (lv (d := 12) rfl rfl (by kernel_rfl) (e_move (v := .int .i64 x12) (by kernel_rfl)) (lv (d := 13) rfl rfl (by kernel_rfl) (e_gtr (k := .i64) (a := x13.n) (b := x12) (by kernel_rfl) (by kernel_rfl)) ?_)))))))
    refine wpList_nil (then_n ?_)
    by_cases q24 : x13.n > x12
    · replace M := ifp q24 M
      refine cond_t rfl (bt q24 (by kernel_rfl)) (wp_seq ?_)
      refine region_mix (S := (fun (L_ : Array Bool) (w_ : World) => Ext H (hp w_) ∧ (∀ b_, (is g19) b_ → hp w_ b_ = hp w18 b_))) (by kernel_rfl) S21 ?_
      intro w25 S26 K27 hc28
      have o29 := b20
      have hs30 : (fun (L_ : Array Bool) (w_ : World) => Ext H (hp w_) ∧ (∀ b_, (is g19) b_ → hp w_ b_ = hp w18 b_)) (Array.replicate 7 false) w25 := ⟨S26.inv, (fun b_ h_ => K27.at 0 rfl b_ h_)⟩
      replace h6 := h6.move (K27.at 1 rfl)
      replace h10 := h10.move (K27.at 2 rfl)
      replace b3 := K27.blk 3 rfl b3
      refine xv (i := 0) (d := 14) rfl rfl rfl (by kernel_rfl) (by kernel_rfl) (fun _ _ => Iff.rfl) hc28 hs30 (fun L_ w_ hc_ hu_ hs_ => e_move (v := .pointer (some ⟨g2, 0, none⟩)) (by kernel_rfl)) ?_; intro hc31 hs32
      refine xv (i := 1) (d := 15) rfl rfl rfl (by kernel_rfl) (by kernel_rfl) (fun _ _ => Iff.rfl) hc31 hs32 (fun L_ w_ hc_ hu_ hs_ => e_fieldAddr (b := g19) (off := 0) (o := 1) Try.underlying36 rfl rfl (sz := 1) (by kernel_rfl) (by decide) (by kernel_rfl)) ?_; intro hc33 hs34
      refine xv (i := 2) (d := 16) rfl rfl rfl (by kernel_rfl) (by kernel_rfl) (fun _ _ => Iff.rfl) hc33 hs34 (fun L_ w_ hc_ hu_ hs_ => e_load1 (ad := ⟨g19, 0 + 1, none⟩) (v := .int .i64 x13.n) Try.underlying3 rfl (by kernel_rfl) (blk_cell ((hs_.2 _ rfl).trans o29) rfl)) ?_; intro hc35 hs36
      refine xone (i := 3) (by kernel_rfl) hc35 ?_
      refine yo (i := 3) (d := 17) rfl rfl (wanted_none rfl _) (by kernel_rfl) (by kernel_rfl) (fun _ _ => Iff.rfl) hs36 (e_move (v := .int .i64 x12) (by kernel_rfl)) ?_; intro hc37 hs38
      obtain ⟨t39, u40, M⟩ := bnd M
      refine xone (i := 4) (by kernel_rfl) hc37 ?_
      refine yc (i := 4) rfl (wanted_none rfl _) (by kernel_rfl) (by kernel_rfl) (e_call (l := [.tmp 17]) (vs := [.int .i64 x12]) Try.func68 (by kernel_rfl) rfl (by kernel_rfl) rfl) (spec_l10ref.calls w25 H x12  (St.own' (Fa := []) (Fr := [(is g19), F7, F11, (is g2)]) S26) t39 u40) ?_
      rintro hc48 _ w41 ⟨A44, c45, F47, H42, rfl, h46, T43⟩
      refine ⟨_, rfl, ?_⟩
      obtain ⟨S49, K50⟩ := St.call (Fa := []) (Fr := [(is g19), F7, F11, (is g2)]) S26 T43
      replace h6 := h6.move (K50.at 1 rfl)
      replace h10 := h10.move (K50.at 2 rfl)
      replace b3 := K50.blk 3 rfl b3
      have E51 := T43.ext
      replace h6 := h6.ext E51
      replace h10 := h10.ext E51
      refine ⟨⟨(Ext.trans E51 S49.inv), (fun b_ h_ => (K50.at 0 rfl b_ h_).trans (hs38.2 b_ h_))⟩, fun hs52 => ?_⟩
      have l53 := h46.le
      obtain ⟨H54, S55, E56, h57, z58⟩ := S49.frzRow h46
      replace h6 := h6.ext E56
      replace h10 := h10.ext E56
      have S59 := S55.pull (F := (is g2)) (Fr := [(is g19), F7, F11]) 3 rfl rfl
      have S60 := S59.pull (F := F11) (Fr := [(is g2), (is g19), F7]) 3 rfl rfl
      have S61 := S60.pull (F := F7) (Fr := [F11, (is g2), (is g19)]) 3 rfl rfl
      obtain ⟨t62, u63, M⟩ := bnd M
      refine xone (i := 5) (by kernel_rfl) hc48 ?_
      refine yc (i := 5) rfl (wanted_none rfl _) (by kernel_rfl) (by kernel_rfl) (e_call (l := [.tmp 14, .tmp 16, .tmp 18]) (vs := [.pointer (some ⟨g2, 0, none⟩), .int .i64 x13.n, .agg #[.int .i64 t39.kind, .int .i64 t39.n, .slice A44 t39.text.length c45]]) Try.func70 (by kernel_rfl) rfl (by kernel_rfl) rfl) (spec_l10set_2.calls w41 H54 x1 g2 A4 c5 F7 A8 c9 F11 x13.n t39 A44 c45 h6 h10 b3 h57 l53 (St.own' (Fa := [F7, F11, (is g2)]) (Fr := [(is g19)]) S61) t62 u63) ?_
      rintro hc76 _ w64 ⟨A67, c68, F70, A71, c72, F74, H65, rfl, h69, h73, b75, T66⟩
      refine ⟨_, rfl, ?_⟩
      obtain ⟨S77, K78⟩ := St.call (Fa := [F7, F11, (is g2)]) (Fr := [(is g19)]) S61 T66
      have E79 := T66.ext
      refine ⟨⟨(Ext.trans ((E51.trans E56).trans E79) S77.inv), (fun b_ h_ => (K78.at 0 rfl b_ h_).trans (hs52.2 b_ h_))⟩, fun hs80 => ?_⟩
      refine xone (i := 6) (by kernel_rfl) hc76 ?_
      refine yo (i := 6) (d := 6) rfl rfl (wanted_none rfl _) (by kernel_rfl) (by kernel_rfl) (fun _ _ => Iff.rfl) hs80 (e_assign (v := .int .i64 t62.1) (by kernel_rfl)) ?_; intro hc81 hs82
      refine xn (by kernel_rfl) ?_ _
      refine then_n (wp_ret (then_r (then_r ?_)))
      obtain rfl := Option.some.inj M
      have S83 := S77.pull (F := F74) (Fr := [(is g2), F70, (is g19)]) 2 rfl rfl
      have S84 := S83.pull (F := F70) (Fr := [F74, (is g2), (is g19)]) 2 rfl rfl
      have S85 := S84.pull (F := (is g2)) (Fr := [F70, F74, (is g19)]) 2 rfl rfl
      have S86 := St.first (Fa := [(is g2), F70, F74]) (Fr := [(is g19)]) S85
      exact ret1 rfl rfl  (show _ = .int .i64 t62.1 from (by kernel_rfl)) ⟨A67, c68, F70, A71, c72, F74, H65, rfl, h69, h73, b75, S86⟩
    replace M := ifn q24 M
    refine cond_f rfl (bf q24 (by kernel_rfl)) (wp_skip (then_n (wp_seq (wp_region_lit (lv (d := 20) rfl rfl (by kernel_rfl) (e_move (v := .pointer (some ⟨g2, 0, none⟩)) (by kernel_rfl)) (lv (d := 21) rfl rfl (by kernel_rfl) (e_move (v := .int .i64 x12) (by kernel_rfl)) (lv (d := 22) rfl rfl (by kernel_rfl) (e_loadS (b := g19) (off := 0) (cs := [.int .i64 x13.kind, .int .i64 x13.n, .slice A14 x13.text.length c15]) Try.underlying36 rfl (by kernel_rfl) (by kernel_rfl) (blk_cells b20 rfl)) ?_)))))))
    have S87 := S21.pull (F := (is g2)) (Fr := [(is g19), F7, F11]) 3 rfl rfl
    have S88 := S87.pull (F := F11) (Fr := [(is g2), (is g19), F7]) 3 rfl rfl
    have S89 := S88.pull (F := F7) (Fr := [F11, (is g2), (is g19)]) 3 rfl rfl
    obtain ⟨t90, u91, M⟩ := bnd M
    refine lcall (d := 23) rfl rfl (by kernel_rfl) (e_call (l := [.tmp 20, .tmp 21, .tmp 22]) (vs := [.pointer (some ⟨g2, 0, none⟩), .int .i64 x12, .agg #[.int .i64 x13.kind, .int .i64 x13.n, .slice A14 x13.text.length c15]]) Try.func70 (by kernel_rfl) rfl (by kernel_rfl) rfl) (spec_l10set_2.calls w18 H x1 g2 A4 c5 F7 A8 c9 F11 x12 x13 A14 c15 h6 h10 b3 h16 l17 (St.own' (Fa := [F7, F11, (is g2)]) (Fr := [(is g19)]) S89) t90 u91) ?_
    rintro _ w92 ⟨A95, c96, F98, A99, c100, F102, H93, rfl, h97, h101, b103, T94⟩
    refine ⟨_, rfl, ?_⟩
    obtain ⟨S104, K105⟩ := St.call (Fa := [F7, F11, (is g2)]) (Fr := [(is g19)]) S89 T94
    have E106 := T94.ext
    refine lv (d := 6) rfl rfl (by kernel_rfl) (e_assign (v := .int .i64 t90.1) (by kernel_rfl)) (wpList_nil (then_n (wp_ret (then_r ?_))))
    obtain rfl := Option.some.inj M
    have S107 := S104.pull (F := F102) (Fr := [(is g2), F98, (is g19)]) 2 rfl rfl
    have S108 := S107.pull (F := F98) (Fr := [F102, (is g2), (is g19)]) 2 rfl rfl
    have S109 := S108.pull (F := (is g2)) (Fr := [F98, F102, (is g19)]) 2 rfl rfl
    have S110 := St.first (Fa := [(is g2), F98, F102]) (Fr := [(is g19)]) S109
    exact ret1 rfl rfl  (show _ = .int .i64 t90.1 from (by kernel_rfl)) ⟨A95, c96, F98, A99, c100, F102, H93, rfl, h97, h101, b103, S110⟩
  replace M := ifn q23 M
  refine cond_f rfl (bf q23 (by kernel_rfl)) (wp_skip (then_n (wp_seq (wp_seq (wp_region_lit (lv (d := 24) rfl rfl (by kernel_rfl) (e_fieldAddr (b := g19) (off := 0) (o := 0) Try.underlying36 rfl rfl (sz := 1) (by kernel_rfl) (by decide) (by kernel_rfl)) (lv (d := 25) rfl rfl (by kernel_rfl) (e_load1 (ad := ⟨g19, 0 + 0, none⟩) (v := .int .i64 x13.kind) Try.underlying3 rfl (by kernel_rfl) (blk_cell b20 rfl)) ?_)))))))
  refine lv (d := 26) rfl rfl (by kernel_rfl) (e_eql (k := .i64) (a := x13.kind) (b := 4) (by kernel_rfl) rfl) (lv (d := 27) rfl rfl (by kernel_rfl) (e_move (v := .bool (decide (x13.kind = 4))) (by kernel_rfl)) ?_)
  by_cases q111 : x13.kind = 4
  · replace M := ifp q111 M
    refine lvg (d := 28) (t := 27) rfl (by kernel_rfl) rfl (bt q111 (by kernel_rfl)) rfl (by kernel_rfl) (e_move (v := .pointer (some ⟨g2, 0, none⟩)) (by kernel_rfl)) (lvg (d := 29) (t := 27) rfl (by kernel_rfl) rfl (bt q111 (by kernel_rfl)) rfl (by kernel_rfl) (e_move (v := .int .i64 x12) (by kernel_rfl)) (lvg (d := 30) (t := 27) rfl (by kernel_rfl) rfl (bt q111 (by kernel_rfl)) rfl (by kernel_rfl) (e_loadS (b := g19) (off := 0) (cs := [.int .i64 x13.kind, .int .i64 x13.n, .slice A14 x13.text.length c15]) Try.underlying36 rfl (by kernel_rfl) (by kernel_rfl) (blk_cells b20 rfl)) ?_))
    obtain ⟨t112, u113, M⟩ := bnd M
    refine lcallg (d := 31) (t := 27) rfl (by kernel_rfl) rfl (bt q111 (by kernel_rfl)) rfl (by kernel_rfl) (e_call (l := [.tmp 28, .tmp 29, .tmp 30]) (vs := [.pointer (some ⟨g2, 0, none⟩), .int .i64 x12, .agg #[.int .i64 x13.kind, .int .i64 x13.n, .slice A14 x13.text.length c15]]) Try.func71 (by kernel_rfl) rfl (by kernel_rfl) rfl) (by have l114 := h6.le; have S115 := S21.pull (F := F7) (Fr := [(is g19), F11, (is g2)]) 1 rfl rfl; obtain ⟨H116, S117, E118, h119, z120⟩ := S115.frzRow h6; replace h10 := h10.ext E118; replace h119 := h119.unro; have l121 := h10.le; have S122 := S117.pull (F := F11) (Fr := [(is g19), (is g2)]) 1 rfl rfl; obtain ⟨H123, S124, E125, h126, z127⟩ := S122.frzRow h10; have S128 := S124.pull (F := (is g2)) (Fr := [(is g19)]) 1 rfl rfl; obtain ⟨H129, S130, E131, h132, z133⟩ := S128.frzBlk b3; exact (spec_l10within.calls k w18 H129 x1 g2 A4 c5 A8 c9 x12 x13 A14 c15 (h119.ext (E125.trans E131)) l114 (h126.ext E131) l121 h132 (h16.ext ((E118.trans E125).trans E131)) l17 S130.own0 t112 u113)) ?_
    rintro _ w134 ⟨rfl, C135⟩
    refine ⟨_, rfl, ?_⟩
    obtain ⟨S136, K137⟩ := S21.still C135
    replace b20 := K137.blk 0 rfl b20
    replace h6 := h6.move (K137.at 1 rfl)
    replace h10 := h10.move (K137.at 2 rfl)
    replace b3 := K137.blk 3 rfl b3
    refine lv (d := 32) rfl rfl (by kernel_rfl) (e_pick_t (v := .bool t112) (bt q111 (by kernel_rfl)) (by kernel_rfl)) (wpList_nil (then_n ?_))
    by_cases q138 : t112 = true
    · replace M := ifp q138 M
      refine cond_t rfl (bvt q138 (by kernel_rfl)) (wp_seq (wp_region_lit (lv (d := 6) rfl rfl (by kernel_rfl) (e_assign (v := .int .i64 5) rfl) (wpList_nil (then_n (wp_ret (then_r ?_)))))))
      obtain rfl := Option.some.inj M
      have S139 := S136.pull (F := F11) (Fr := [(is g19), F7, (is g2)]) 2 rfl rfl
      have S140 := S139.pull (F := F7) (Fr := [F11, (is g19), (is g2)]) 2 rfl rfl
      have S141 := S140.pull (F := (is g2)) (Fr := [F7, F11, (is g19)]) 3 rfl rfl
      have S142 := St.first (Fa := [(is g2), F7, F11]) (Fr := [(is g19)]) S141
      exact ret1 rfl rfl  (show _ = .int .i64 5 from (by kernel_rfl)) ⟨A4, c5, F7, A8, c9, F11, H, rfl, h6, h10, b3, S142⟩
    replace M := ifn q138 M
    refine cond_f rfl (bvf q138 (by kernel_rfl)) (wp_skip (then_n (wp_seq (wp_region_lit (lv (d := 33) rfl rfl (by kernel_rfl) (e_move (v := .pointer (some ⟨g2, 0, none⟩)) (by kernel_rfl)) (lv (d := 34) rfl rfl (by kernel_rfl) (e_move (v := .int .i64 x12) (by kernel_rfl)) (lv (d := 35) rfl rfl (by kernel_rfl) (e_loadS (b := g19) (off := 0) (cs := [.int .i64 x13.kind, .int .i64 x13.n, .slice A14 x13.text.length c15]) Try.underlying36 rfl (by kernel_rfl) (by kernel_rfl) (blk_cells b20 rfl)) ?_)))))))
    have S143 := S136.pull (F := (is g2)) (Fr := [(is g19), F7, F11]) 3 rfl rfl
    have S144 := S143.pull (F := F11) (Fr := [(is g2), (is g19), F7]) 3 rfl rfl
    have S145 := S144.pull (F := F7) (Fr := [F11, (is g2), (is g19)]) 3 rfl rfl
    obtain ⟨t146, u147, M⟩ := bnd M
    refine lcall (d := 36) rfl rfl (by kernel_rfl) (e_call (l := [.tmp 33, .tmp 34, .tmp 35]) (vs := [.pointer (some ⟨g2, 0, none⟩), .int .i64 x12, .agg #[.int .i64 x13.kind, .int .i64 x13.n, .slice A14 x13.text.length c15]]) Try.func70 (by kernel_rfl) rfl (by kernel_rfl) rfl) (spec_l10set_2.calls w134 H x1 g2 A4 c5 F7 A8 c9 F11 x12 x13 A14 c15 h6 h10 b3 h16 l17 (St.own' (Fa := [F7, F11, (is g2)]) (Fr := [(is g19)]) S145) t146 u147) ?_
    rintro _ w148 ⟨A151, c152, F154, A155, c156, F158, H149, rfl, h153, h157, b159, T150⟩
    refine ⟨_, rfl, ?_⟩
    obtain ⟨S160, K161⟩ := St.call (Fa := [F7, F11, (is g2)]) (Fr := [(is g19)]) S145 T150
    have E162 := T150.ext
    refine lv (d := 6) rfl rfl (by kernel_rfl) (e_assign (v := .int .i64 t146.1) (by kernel_rfl)) (wpList_nil (then_n (wp_ret ?_)))
    obtain rfl := Option.some.inj M
    have S163 := S160.pull (F := F158) (Fr := [(is g2), F154, (is g19)]) 2 rfl rfl
    have S164 := S163.pull (F := F154) (Fr := [F158, (is g2), (is g19)]) 2 rfl rfl
    have S165 := S164.pull (F := (is g2)) (Fr := [F154, F158, (is g19)]) 2 rfl rfl
    have S166 := St.first (Fa := [(is g2), F154, F158]) (Fr := [(is g19)]) S165
    exact ret1 rfl rfl  (show _ = .int .i64 t146.1 from (by kernel_rfl)) ⟨A151, c152, F154, A155, c156, F158, H149, rfl, h153, h157, b159, S166⟩
  replace M := ifn q111 M
  refine lskip (t := 27) (c := false) rfl (by kernel_rfl) rfl (bf q111 (by kernel_rfl)) rfl rfl ?_
  refine lskip (t := 27) (c := false) rfl (by kernel_rfl) rfl (bf q111 (by kernel_rfl)) rfl rfl ?_
  refine lskip (t := 27) (c := false) rfl (by kernel_rfl) rfl (bf q111 (by kernel_rfl)) rfl rfl ?_
  refine lskip (t := 27) (c := false) rfl (by kernel_rfl) rfl (bf q111 (by kernel_rfl)) rfl rfl ?_
  refine lv (d := 32) rfl rfl (by kernel_rfl) (e_pick_f (v := .bool false) (bf q111 (by kernel_rfl)) rfl) (wpList_nil (then_n (cond_f rfl (by kernel_rfl) (wp_skip (then_n (wp_seq (wp_region_lit ?_)))))))
  refine lv (d := 33) rfl rfl (by kernel_rfl) (e_move (v := .pointer (some ⟨g2, 0, none⟩)) (by kernel_rfl)) (lv (d := 34) rfl rfl (by kernel_rfl) (e_move (v := .int .i64 x12) (by kernel_rfl)) (lv (d := 35) rfl rfl (by kernel_rfl) (e_loadS (b := g19) (off := 0) (cs := [.int .i64 x13.kind, .int .i64 x13.n, .slice A14 x13.text.length c15]) Try.underlying36 rfl (by kernel_rfl) (by kernel_rfl) (blk_cells b20 rfl)) ?_))
  have S167 := S21.pull (F := (is g2)) (Fr := [(is g19), F7, F11]) 3 rfl rfl
  have S168 := S167.pull (F := F11) (Fr := [(is g2), (is g19), F7]) 3 rfl rfl
  have S169 := S168.pull (F := F7) (Fr := [F11, (is g2), (is g19)]) 3 rfl rfl
  obtain ⟨t170, u171, M⟩ := bnd M
  refine lcall (d := 36) rfl rfl (by kernel_rfl) (e_call (l := [.tmp 33, .tmp 34, .tmp 35]) (vs := [.pointer (some ⟨g2, 0, none⟩), .int .i64 x12, .agg #[.int .i64 x13.kind, .int .i64 x13.n, .slice A14 x13.text.length c15]]) Try.func70 (by kernel_rfl) rfl (by kernel_rfl) rfl) (spec_l10set_2.calls w18 H x1 g2 A4 c5 F7 A8 c9 F11 x12 x13 A14 c15 h6 h10 b3 h16 l17 (St.own' (Fa := [F7, F11, (is g2)]) (Fr := [(is g19)]) S169) t170 u171) ?_
  rintro _ w172 ⟨A175, c176, F178, A179, c180, F182, H173, rfl, h177, h181, b183, T174⟩
  refine ⟨_, rfl, ?_⟩
  obtain ⟨S184, K185⟩ := St.call (Fa := [F7, F11, (is g2)]) (Fr := [(is g19)]) S169 T174
  have E186 := T174.ext
  refine lv (d := 6) rfl rfl (by kernel_rfl) (e_assign (v := .int .i64 t170.1) (by kernel_rfl)) (wpList_nil (then_n (wp_ret ?_)))
  obtain rfl := Option.some.inj M
  have S187 := S184.pull (F := F182) (Fr := [(is g2), F178, (is g19)]) 2 rfl rfl
  have S188 := S187.pull (F := F178) (Fr := [F182, (is g2), (is g19)]) 2 rfl rfl
  have S189 := S188.pull (F := (is g2)) (Fr := [F178, F182, (is g19)]) 2 rfl rfl
  have S190 := St.first (Fa := [(is g2), F178, F182]) (Fr := [(is g19)]) S189
  exact ret1 rfl rfl  (show _ = .int .i64 t170.1 from (by kernel_rfl)) ⟨A175, c176, F178, A179, c180, F182, H173, rfl, h177, h181, b183, S190⟩

/-! spec_l1copy -/
def spec_l1copy.f (x1 : List UInt8) : Option (List UInt8) := (if 0 + x1.length ≤ 140737488355328 then some x1 else none)
theorem spec_l1copy.calls (w : World) (H : Hp) (x1 : List UInt8) (A2 : Option Addr) (c3 : Nat) (h4 : Rd tByte H A2 x1) (l5 : x1.length ≤ c3) (S : Own [] H w) (r : List UInt8) (M : spec_l1copy.f x1 = some r) :
    Calls Try.prog 48 #[.slice A2 x1.length c3] w (fun e e_w => ∃ (A_1 : Option Addr) (c_1 : Nat) (F_1 : Foot) (H_ : Hp), e = .returned (.slice A_1 r.length c_1) ∧ Row tByte 5 H_ (hp e_w) F_1 A_1 c_1 r ∧ St (anyOf []) H w [F_1] H_ e_w) := by
  rw [spec_l1copy.f] at M
  refine enter (l := [.slice A2 x1.length c3]) 7 Try.func48 rfl rfl rfl ?_
  have S0_ := S.st
  refine wp_seq (wp_region_lit (lv (d := 2) rfl rfl (by kernel_rfl) (e_assign (v := .slice none 0 0) rfl) (wpList_nil (then_n (wp_seq (wp_region_lit (lv (d := 3) rfl rfl (by kernel_rfl) (e_assign (v := .slice none 0 0) rfl) ?_)))))))
  refine wpList_nil (then_n (wp_seq (wp_region_lit (lv (d := 4) rfl rfl (by kernel_rfl) (e_move (v := .slice none 0 0) (by kernel_rfl)) (lv (d := 5) rfl rfl (by kernel_rfl) (e_move (v := .slice A2 x1.length c3) (by kernel_rfl)) ?_)))))
  obtain ⟨y6, h7, h8⟩ := Rd.news (d := tByte) (ro_scal _ _) S0_ h4
  obtain ⟨q9, M⟩ := chk M
  have S10 := S0_.unit
  have S11 := S10.unit
  have S12 := S11.pull (F := no) (Fr := [no]) 1 rfl rfl
  refine lve (d := 6) rfl rfl (by kernel_rfl) (e_append (d := tByte) (n := 0) (xs := []) (cap := 0) (A := none) (ys := x1) (A2 := A2) (c2 := c3) (z := .int .u8 0) (bytes := 1) S12 Try.underlying26 (by kernel_rfl) rfl (by decide) (by kernel_rfl) rfl (by kernel_rfl) (Row.nil _ _ _ _ no) h7 h8 (show (0 + x1.length) * 1 ≤ _ by first | omega | (simp only [List.length_cons, List.length_nil]; omega)) (by decide)) ?_
  rintro _ w13 ⟨A14, c15, F16, rfl, h17, S18, K19⟩
  replace h17 : Row tByte 5 H (hp w13) F16 A14 c15 x1 := h17
  refine lv (d := 2) rfl rfl (by kernel_rfl) (e_assign (v := .slice A14 x1.length c15) (by kernel_rfl)) (wpList_nil (then_n (wp_ret ?_)))
  obtain rfl := Option.some.inj M
  exact ret1 rfl rfl  (show _ = .slice A14 x1.length c15 from (by kernel_rfl)) ⟨A14, c15, F16, H, rfl, h17, S18⟩

/-! spec_l10close -/
def spec_l10close.l0 : Nat → GL10heap → Int → (List Cell) → Option Store
  | 0, _, _, _ => none
  | k41 + 1, x1, x26, x27 => (if x26 < (x1.cells_.length : Int) then (if 0 ≤ x26 then ((spec_l1copy.f ((x1.cells_.getD ((x26).toNat) z36).text)).bind fun t128 => (if x27.length + 1 ≤ 3518437208883 then (spec_l10close.l0 k41 x1 (IntKind.i64.wrap (x26 + 1)) (x27 ++ [(⟨(x1.cells_.getD ((x26).toNat) z36).kind, (x1.cells_.getD ((x26).toNat) z36).n, t128⟩ : Cell)])) else none)) else none) else (if 0 + x1.trail_.length ≤ 17592186044416 then some (⟨x27, x1.trail_⟩ : Store) else none))
def spec_l10close.f (k : Nat) (x1 : GL10heap) : Option Store := (spec_l10close.l0 k x1 0 [])
theorem spec_l10close.calls (k : Nat) (w : World) (H : Hp) (x1 : GL10heap) (g2 : Nat) (A4 : Option Addr) (c5 : Nat) (F7 : Foot) (A8 : Option Addr) (c9 : Nat) (F11 : Foot) (h6 : Row (ro st36) 36 H (hp w) F7 A4 c5 x1.cells_) (h10 : Row tInt 3 H (hp w) F11 A8 c9 x1.trail_) (b3 : w.heap[g2]? = some (.cells #[.slice A4 x1.cells_.length c5, .slice A8 x1.trail_.length c9, .int .i64 x1.pairs_] 91 (0, 0))) (S : Own [F7, F11, (is g2)] H w) (r : Store) (M : spec_l10close.f k x1 = some r) :
    Calls Try.prog 57 #[.pointer (some ⟨g2, 0, none⟩)] w (fun e e_w => ∃ (A_1 : Option Addr) (c_1 : Nat) (F_1 : Foot) (A_2 : Option Addr) (c_2 : Nat) (F_2 : Foot) (H_ : Hp), e = .returned (.agg #[.slice A_1 r.cells.length c_1, .slice A_2 r.trail.length c_2]) ∧ Row (ro st36) 36 H_ (hp e_w) F7 A4 c5 x1.cells_ ∧ Row tInt 3 H_ (hp e_w) F11 A8 c9 x1.trail_ ∧ e_w.heap[g2]? = some (.cells #[.slice A4 x1.cells_.length c5, .slice A8 x1.trail_.length c9, .int .i64 x1.pairs_] 91 (0, 0)) ∧ Row st36 36 H_ (hp e_w) F_1 A_1 c_1 r.cells ∧ Row tInt 3 H_ (hp e_w) F_2 A_2 c_2 r.trail ∧ St (anyOf [F7, F11, (is g2)]) H w [F7, F11, (is g2), F_1, F_2] H_ e_w) := by
  rw [spec_l10close.f] at M
  refine enter (l := [.pointer (some ⟨g2, 0, none⟩)]) 54 Try.func57 rfl rfl rfl ?_
  have S0_ := S.st
  refine wp_seq (wp_region_lit ?_)
  refine lve (d := 2) rfl rfl (by kernel_rfl) (new_blk (v := fun g_ => .pointer (some ⟨g_, 0, none⟩)) (cs := #[.slice none 0 0, .slice none 0 0]) (t := 34) S0_ (by kernel_rfl)) ?_
  rintro _ w12 ⟨g13, rfl, b14, S15, K16⟩
  replace h6 := h6.move (K16.at 0 rfl)
  replace h10 := h10.move (K16.at 1 rfl)
  replace b3 := K16.blk 2 rfl b3
  refine wpList_nil (then_n (wp_seq (wp_region_lit ?_)))
  refine lve (d := 3) rfl rfl (by kernel_rfl) (new_blk (v := fun g_ => .pointer (some ⟨g_, 0, none⟩)) (cs := #[.slice none 0 0, .slice none 0 0]) (t := 34) S15 (by kernel_rfl)) ?_
  rintro _ w17 ⟨g18, rfl, b19, S20, K21⟩
  replace b14 := K21.blk 0 rfl b14
  replace h6 := h6.move (K21.at 1 rfl)
  replace h10 := h10.move (K21.at 2 rfl)
  replace b3 := K21.blk 3 rfl b3
  refine wpList_nil (then_n (wp_seq (wp_seq (wp_region_lit (lv (d := 4) rfl rfl (by kernel_rfl) (e_assign (v := .int .i64 0) rfl) (wpList_nil (then_n ?_)))))))
  refine wp_block ?_
  have S42 := S20.unit
  have S43 := S42.pull (F := (is g2)) (Fr := [no, (is g18), (is g13), F7, F11]) 5 rfl rfl
  have S44 := S43.pull (F := F11) (Fr := [(is g2), no, (is g18), (is g13), F7]) 5 rfl rfl
  have S45 := S44.pull (F := F7) (Fr := [F11, (is g2), no, (is g18), (is g13)]) 5 rfl rfl
  have S46 := S45.pull (F := (is g13)) (Fr := [F7, F11, (is g2), no, (is g18)]) 5 rfl rfl
  have S47 := S46.pull (F := (is g18)) (Fr := [(is g13), F7, F11, (is g2), no]) 5 rfl rfl
  refine wp_loop_g (fun k39 a40 w22 => ∃ (f23 : Nat → Value) (H24 : Hp) (x26 : Int) (x27 : List Cell) (A28 : Option Addr) (c29 : Nat) (F30 : Foot), a40 = mk 54 f23 ∧ f23 0 = .pointer (some ⟨g2, 0, none⟩) ∧ f23 2 = .pointer (some ⟨g13, 0, none⟩) ∧ f23 3 = .pointer (some ⟨g18, 0, none⟩) ∧ f23 4 = .int .i64 x26 ∧ w22.heap[g18]? = some (.cells #[.slice A28 x27.length c29, .slice none 0 0] 34 (0, 0)) ∧ w22.heap[g13]? = some (.cells #[.slice none 0 0, .slice none 0 0] 34 (0, 0)) ∧ Row (ro st36) 36 H24 (hp w22) F7 A4 c5 x1.cells_ ∧ Row tInt 3 H24 (hp w22) F11 A8 c9 x1.trail_ ∧ w22.heap[g2]? = some (.cells #[.slice A4 x1.cells_.length c5, .slice A8 x1.trail_.length c9, .int .i64 x1.pairs_] 91 (0, 0)) ∧ Row st36 36 H24 (hp w22) F30 A28 c29 x27 ∧ Ext H H24 ∧ St (anyOf [F7, F11, (is g2)]) H w [(is g18), (is g13), F7, F11, (is g2), F30] H24 w22 ∧ spec_l10close.l0 k39 x1 x26 x27 = some r) k ⟨_, H, 0, [], none, 0, no, rfl, (by kernel_rfl), (by kernel_rfl), (by kernel_rfl), (by kernel_rfl), b19, b14, h6, h10, b3, (Row.nil _ _ _ _ _), (Ext.refl _), S47, M⟩ ?_
  clear M
  rintro k39 a40 w22 ⟨f23, H24, x26, x27, A28, c29, F30, rfl, e32, e33, e34, e35, b19, b14, h6, h10, b3, h31, Y25, S36, M⟩
  rcases k39 with _ | k41
  · rw [spec_l10close.l0] at M
    cases M
  rw [spec_l10close.l0] at M
  refine wp_seq (wp_seq (wp_region_lit (lv (d := 5) rfl rfl (by kernel_rfl) (e_move (v := .int .i64 x26) (by exact e35)) (lv (d := 6) rfl rfl (by kernel_rfl) (e_move (v := .pointer (some ⟨g2, 0, none⟩)) (by exact e32)) (lv (d := 7) rfl rfl (by kernel_rfl) (e_nilCheck (ad := ⟨g2, 0, none⟩) (by kernel_rfl)) (lv (d := 8) rfl rfl (by kernel_rfl) (e_fieldAddr (b := g2) (off := 0) (o := 0) Try.underlying91 rfl rfl (sz := 1) (by kernel_rfl) (by decide) (by kernel_rfl)) (lv (d := 9) rfl rfl (by kernel_rfl) (e_load1 (ad := ⟨g2, 0 + 0, none⟩) (v := .slice A4 x1.cells_.length c5) Try.underlying32 rfl (by kernel_rfl) (blk_cell b3 rfl)) ?_)))))))
  refine lv (d := 10) rfl rfl (by kernel_rfl) (e_len (A := A4) (n := x1.cells_.length) (c := c5) Try.underlying32 (by kernel_rfl)) (lv (d := 11) rfl rfl (by kernel_rfl) (e_lss (k := .i64) (a := x26) (b := (x1.cells_.length : Int)) (by kernel_rfl) (by kernel_rfl)) (wpList_nil (then_n ?_)))
  by_cases q48 : x26 < (x1.cells_.length : Int)
  · replace M := ifp q48 M
    refine cond_t rfl (bt q48 (by kernel_rfl)) (wp_skip (then_n (wp_seq (wp_block ?_))))
    refine region_mix (S := (fun (L_ : Array Bool) (w_ : World) => Ext H24 (hp w_) ∧ (L_.getD 31 true = false → (∀ b_, (is g18) b_ → hp w_ b_ = hp w22 b_)) ∧ (∀ b_, F7 b_ → hp w_ b_ = hp w22 b_) ∧ (∀ b_, (is g2) b_ → hp w_ b_ = hp w22 b_))) (by kernel_rfl) S36 ?_
    intro w49 S50 K51 hc52
    have o53 := b19
    have o54 := h6
    have o55 := b3
    have hs56 : (fun (L_ : Array Bool) (w_ : World) => Ext H24 (hp w_) ∧ (L_.getD 31 true = false → (∀ b_, (is g18) b_ → hp w_ b_ = hp w22 b_)) ∧ (∀ b_, F7 b_ → hp w_ b_ = hp w22 b_) ∧ (∀ b_, (is g2) b_ → hp w_ b_ = hp w22 b_)) (Array.replicate 32 false) w49 := ⟨S50.inv, (fun _ => (fun b_ h_ => K51.at 0 rfl b_ h_)), (fun b_ h_ => K51.at 2 rfl b_ h_), (fun b_ h_ => K51.at 4 rfl b_ h_)⟩
    replace b19 := K51.blk 0 rfl b19
    replace b14 := K51.blk 1 rfl b14
    replace h6 := h6.move (K51.at 2 rfl)
    replace h10 := h10.move (K51.at 3 rfl)
    replace b3 := K51.blk 4 rfl b3
    replace h31 := h31.move (K51.at 5 rfl)
    refine xv (i := 0) (d := 14) rfl rfl rfl (by kernel_rfl) (by kernel_rfl) (fun L_ w_ => by simp only [getD_set_ne true (show (0 : Nat) ≠ 31 by decide)]) hc52 hs56 (fun L_ w_ hc_ hu_ hs_ => e_fieldAddr (b := g18) (off := 0) (o := 0) Try.underlying34 rfl rfl (sz := 1) (by kernel_rfl) (by decide) (by exact e34)) ?_; intro hc57 hs58
    refine xv (i := 1) (d := 15) rfl rfl rfl (by kernel_rfl) (by kernel_rfl) (fun L_ w_ => by simp only [getD_set_ne true (show (1 : Nat) ≠ 31 by decide)]) hc57 hs58 (fun L_ w_ hc_ hu_ hs_ => e_load1 (ad := ⟨g18, 0 + 0, none⟩) (v := .slice A28 x27.length c29) Try.underlying32 rfl (by kernel_rfl) (blk_cell (((hs_.2.1 (unl 9 31 1 hc_ hu_ (by kernel_rfl))) _ rfl).trans o53) rfl)) ?_; intro hc59 hs60
    refine xv (i := 2) (d := 16) rfl rfl rfl (by kernel_rfl) (by kernel_rfl) (fun L_ w_ => by simp only [getD_set_ne true (show (2 : Nat) ≠ 31 by decide)]) hc59 hs60 (fun L_ w_ hc_ hu_ hs_ => e_move (v := .pointer (some ⟨g2, 0, none⟩)) (by exact e32)) ?_; intro hc61 hs62
    refine xv (i := 3) (d := 17) rfl rfl rfl (by kernel_rfl) (by kernel_rfl) (fun L_ w_ => by simp only [getD_set_ne true (show (3 : Nat) ≠ 31 by decide)]) hc61 hs62 (fun L_ w_ hc_ hu_ hs_ => e_nilCheck (ad := ⟨g2, 0, none⟩) (by kernel_rfl)) ?_; intro hc63 hs64
    refine xv (i := 4) (d := 18) rfl rfl rfl (by kernel_rfl) (by kernel_rfl) (fun L_ w_ => by simp only [getD_set_ne true (show (4 : Nat) ≠ 31 by decide)]) hc63 hs64 (fun L_ w_ hc_ hu_ hs_ => e_fieldAddr (b := g2) (off := 0) (o := 0) Try.underlying91 rfl rfl (sz := 1) (by kernel_rfl) (by decide) (by kernel_rfl)) ?_; intro hc65 hs66
    refine xv (i := 5) (d := 19) rfl rfl rfl (by kernel_rfl) (by kernel_rfl) (fun L_ w_ => by simp only [getD_set_ne true (show (5 : Nat) ≠ 31 by decide)]) hc65 hs66 (fun L_ w_ hc_ hu_ hs_ => e_load1 (ad := ⟨g2, 0 + 0, none⟩) (v := .slice A4 x1.cells_.length c5) Try.underlying32 rfl (by kernel_rfl) (blk_cell ((hs_.2.2.2 _ rfl).trans o55) rfl)) ?_; intro hc67 hs68
    refine xv (i := 6) (d := 20) rfl rfl rfl (by kernel_rfl) (by kernel_rfl) (fun L_ w_ => by simp only [getD_set_ne true (show (6 : Nat) ≠ 31 by decide)]) hc67 hs68 (fun L_ w_ hc_ hu_ hs_ => e_move (v := .int .i64 x26) (by exact e35)) ?_; intro hc69 hs70
    obtain ⟨q71, M⟩ := chk M
    obtain ⟨b72, e74⟩ := Row.addr h6 (show (x26).toNat < x1.cells_.length by omega)
    refine xv (i := 7) (d := 21) rfl rfl rfl (by kernel_rfl) (by kernel_rfl) (fun L_ w_ => by simp only [getD_set_ne true (show (7 : Nat) ≠ 31 by decide)]) hc69 hs70 (fun L_ w_ hc_ hu_ hs_ => e_indexAddr (b := b72) (off := 0) (n := x1.cells_.length) (c := c5) (sz := 3) (i := x26) (k := .i64) Try.underlying32 e74 (by kernel_rfl) (by kernel_rfl) (by kernel_rfl) q71 q48) ?_; intro hc75 hs76
    refine xv (i := 8) (d := 22) rfl rfl rfl (by kernel_rfl) (by kernel_rfl) (fun L_ w_ => by simp only [getD_set_ne true (show (8 : Nat) ≠ 31 by decide)]) hc75 hs76 (fun L_ w_ hc_ hu_ hs_ => e_fieldAddr (b := b72) (off := 0 + (x26 : Int).toNat * 3) (o := 0) Try.underlying36 rfl rfl (sz := 1) (by kernel_rfl) (by decide) (by kernel_rfl)) ?_; intro hc77 hs78
    refine xv (i := 9) (d := 23) rfl rfl rfl (by kernel_rfl) (by kernel_rfl) (fun L_ w_ => by simp only [getD_set_ne true (show (9 : Nat) ≠ 31 by decide)]) hc77 hs78 (fun L_ w_ hc_ hu_ hs_ => e_load1 (ad := ⟨b72, 0 + (x26 : Int).toNat * 3 + 0, none⟩) (v := .int .i64 ((x1.cells_.getD ((x26).toNat) z36).kind)) Try.underlying3 rfl (by kernel_rfl) (hpx (Row.pick (j := 0) (u := .int .i64 ((x1.cells_.getD ((x26).toNat) z36).kind)) (o54.move hs_.2.2.1) e74 (getD_some z36 (show (x26).toNat < x1.cells_.length by omega)) (fun _ _ o_ => st36_r0 o_)))) ?_; intro hc79 hs80
    refine xv (i := 10) (d := 24) rfl rfl rfl (by kernel_rfl) (by kernel_rfl) (fun L_ w_ => by simp only [getD_set_ne true (show (10 : Nat) ≠ 31 by decide)]) hc79 hs80 (fun L_ w_ hc_ hu_ hs_ => e_move (v := .pointer (some ⟨g2, 0, none⟩)) (by exact e32)) ?_; intro hc81 hs82
    refine xv (i := 11) (d := 25) rfl rfl rfl (by kernel_rfl) (by kernel_rfl) (fun L_ w_ => by simp only [getD_set_ne true (show (11 : Nat) ≠ 31 by decide)]) hc81 hs82 (fun L_ w_ hc_ hu_ hs_ => e_nilCheck (ad := ⟨g2, 0, none⟩) (by kernel_rfl)) ?_; intro hc83 hs84
    refine xv (i := 12) (d := 26) rfl rfl rfl (by kernel_rfl) (by kernel_rfl) (fun L_ w_ => by simp only [getD_set_ne true (show (12 : Nat) ≠ 31 by decide)]) hc83 hs84 (fun L_ w_ hc_ hu_ hs_ => e_fieldAddr (b := g2) (off := 0) (o := 0) Try.underlying91 rfl rfl (sz := 1) (by kernel_rfl) (by decide) (by kernel_rfl)) ?_; intro hc85 hs86
    refine xv (i := 13) (d := 27) rfl rfl rfl (by kernel_rfl) (by kernel_rfl) (fun L_ w_ => by simp only [getD_set_ne true (show (13 : Nat) ≠ 31 by decide)]) hc85 hs86 (fun L_ w_ hc_ hu_ hs_ => e_load1 (ad := ⟨g2, 0 + 0, none⟩) (v := .slice A4 x1.cells_.length c5) Try.underlying32 rfl (by kernel_rfl) (blk_cell ((hs_.2.2.2 _ rfl).trans o55) rfl)) ?_; intro hc87 hs88
    refine xv (i := 14) (d := 28) rfl rfl rfl (by kernel_rfl) (by kernel_rfl) (fun L_ w_ => by simp only [getD_set_ne true (show (14 : Nat) ≠ 31 by decide)]) hc87 hs88 (fun L_ w_ hc_ hu_ hs_ => e_move (v := .int .i64 x26) (by exact e35)) ?_; intro hc89 hs90
    obtain ⟨b91, e93⟩ := Row.addr h6 (show (x26).toNat < x1.cells_.length by omega)
    refine xv (i := 15) (d := 29) rfl rfl rfl (by kernel_rfl) (by kernel_rfl) (fun L_ w_ => by simp only [getD_set_ne true (show (15 : Nat) ≠ 31 by decide)]) hc89 hs90 (fun L_ w_ hc_ hu_ hs_ => e_indexAddr (b := b91) (off := 0) (n := x1.cells_.length) (c := c5) (sz := 3) (i := x26) (k := .i64) Try.underlying32 e93 (by kernel_rfl) (by kernel_rfl) (by kernel_rfl) q71 q48) ?_; intro hc94 hs95
    refine xv (i := 16) (d := 30) rfl rfl rfl (by kernel_rfl) (by kernel_rfl) (fun L_ w_ => by simp only [getD_set_ne true (show (16 : Nat) ≠ 31 by decide)]) hc94 hs95 (fun L_ w_ hc_ hu_ hs_ => e_fieldAddr (b := b91) (off := 0 + (x26 : Int).toNat * 3) (o := 1) Try.underlying36 rfl rfl (sz := 1) (by kernel_rfl) (by decide) (by kernel_rfl)) ?_; intro hc96 hs97
    refine xv (i := 17) (d := 31) rfl rfl rfl (by kernel_rfl) (by kernel_rfl) (fun L_ w_ => by simp only [getD_set_ne true (show (17 : Nat) ≠ 31 by decide)]) hc96 hs97 (fun L_ w_ hc_ hu_ hs_ => e_load1 (ad := ⟨b91, 0 + (x26 : Int).toNat * 3 + 1, none⟩) (v := .int .i64 ((x1.cells_.getD ((x26).toNat) z36).n)) Try.underlying3 rfl (by kernel_rfl) (hpx (Row.pick (j := 1) (u := .int .i64 ((x1.cells_.getD ((x26).toNat) z36).n)) (o54.move hs_.2.2.1) e93 (getD_some z36 (show (x26).toNat < x1.cells_.length by omega)) (fun _ _ o_ => st36_r1 o_)))) ?_; intro hc98 hs99
    refine xv (i := 18) (d := 32) rfl rfl rfl (by kernel_rfl) (by kernel_rfl) (fun L_ w_ => by simp only [getD_set_ne true (show (18 : Nat) ≠ 31 by decide)]) hc98 hs99 (fun L_ w_ hc_ hu_ hs_ => e_move (v := .pointer (some ⟨g2, 0, none⟩)) (by exact e32)) ?_; intro hc100 hs101
    refine xv (i := 19) (d := 33) rfl rfl rfl (by kernel_rfl) (by kernel_rfl) (fun L_ w_ => by simp only [getD_set_ne true (show (19 : Nat) ≠ 31 by decide)]) hc100 hs101 (fun L_ w_ hc_ hu_ hs_ => e_nilCheck (ad := ⟨g2, 0, none⟩) (by kernel_rfl)) ?_; intro hc102 hs103
    refine xv (i := 20) (d := 34) rfl rfl rfl (by kernel_rfl) (by kernel_rfl) (fun L_ w_ => by simp only [getD_set_ne true (show (20 : Nat) ≠ 31 by decide)]) hc102 hs103 (fun L_ w_ hc_ hu_ hs_ => e_fieldAddr (b := g2) (off := 0) (o := 0) Try.underlying91 rfl rfl (sz := 1) (by kernel_rfl) (by decide) (by kernel_rfl)) ?_; intro hc104 hs105
    refine xv (i := 21) (d := 35) rfl rfl rfl (by kernel_rfl) (by kernel_rfl) (fun L_ w_ => by simp only [getD_set_ne true (show (21 : Nat) ≠ 31 by decide)]) hc104 hs105 (fun L_ w_ hc_ hu_ hs_ => e_load1 (ad := ⟨g2, 0 + 0, none⟩) (v := .slice A4 x1.cells_.length c5) Try.underlying32 rfl (by kernel_rfl) (blk_cell ((hs_.2.2.2 _ rfl).trans o55) rfl)) ?_; intro hc106 hs107
    refine xone (i := 22) (by kernel_rfl) hc106 ?_
    refine yo (i := 22) (d := 36) rfl rfl (wanted_none rfl _) (by kernel_rfl) (by kernel_rfl) (fun L_ w_ => by simp only [getD_set_ne true (show (22 : Nat) ≠ 31 by decide)]) hs107 (e_move (v := .int .i64 x26) (by exact e35)) ?_; intro hc108 hs109
    obtain ⟨b110, e112⟩ := Row.addr h6 (show (x26).toNat < x1.cells_.length by omega)
    refine xone (i := 23) (by kernel_rfl) hc108 ?_
    refine yo (i := 23) (d := 37) rfl rfl (wanted_none rfl _) (by kernel_rfl) (by kernel_rfl) (fun L_ w_ => by simp only [getD_set_ne true (show (23 : Nat) ≠ 31 by decide)]) hs109 (e_indexAddr (b := b110) (off := 0) (n := x1.cells_.length) (c := c5) (sz := 3) (i := x26) (k := .i64) Try.underlying32 e112 (by kernel_rfl) (by kernel_rfl) (by kernel_rfl) q71 q48) ?_; intro hc113 hs114
    refine xone (i := 24) (by kernel_rfl) hc113 ?_
    refine yo (i := 24) (d := 38) rfl rfl (wanted_none rfl _) (by kernel_rfl) (by kernel_rfl) (fun L_ w_ => by simp only [getD_set_ne true (show (24 : Nat) ≠ 31 by decide)]) hs114 (e_fieldAddr (b := b110) (off := 0 + (x26 : Int).toNat * 3) (o := 2) Try.underlying36 rfl rfl (sz := 1) (by kernel_rfl) (by decide) (by kernel_rfl)) ?_; intro hc115 hs116
    obtain ⟨y117, F118, r119, s120, k121⟩ := Row.at h6 e112 (getD_some z36 (show (x26).toNat < x1.cells_.length by omega))
    obtain ⟨A122, c123, rfl, l124, h125⟩ := st36_open r119
    refine xone (i := 25) (by kernel_rfl) hc115 ?_
    refine yo (i := 25) (d := 39) rfl rfl (wanted_none rfl _) (by kernel_rfl) (by kernel_rfl) (fun L_ w_ => by simp only [getD_set_ne true (show (25 : Nat) ≠ 31 by decide)]) hs116 (e_load1 (ad := ⟨b110, 0 + (x26 : Int).toNat * 3 + 2, none⟩) (v := .slice A122 ((x1.cells_.getD ((x26).toNat) z36).text).length c123) Try.underlying26 rfl (by kernel_rfl) (hpx (k121 2 _ rfl))) ?_; intro hc126 hs127
    obtain ⟨t128, u129, M⟩ := bnd M
    refine xone (i := 26) (by kernel_rfl) hc126 ?_
    refine yc (i := 26) rfl (wanted_none rfl _) (by kernel_rfl) (by kernel_rfl) (e_call (l := [.tmp 39]) (vs := [.slice A122 ((x1.cells_.getD ((x26).toNat) z36).text).length c123]) Try.func48 (by kernel_rfl) rfl (by kernel_rfl) rfl) (spec_l1copy.calls w49 H24 ((x1.cells_.getD ((x26).toNat) z36).text) A122 c123 h125 l124 (St.own' (Fa := []) (Fr := [(is g18), (is g13), F7, F11, (is g2), F30]) S50) t128 u129) ?_
    rintro hc137 _ w130 ⟨A133, c134, F136, H131, rfl, h135, T132⟩
    refine ⟨_, rfl, ?_⟩
    obtain ⟨S138, K139⟩ := St.call (Fa := []) (Fr := [(is g18), (is g13), F7, F11, (is g2), F30]) S50 T132
    replace b19 := K139.blk 0 rfl b19
    replace b14 := K139.blk 1 rfl b14
    replace h6 := h6.move (K139.at 2 rfl)
    replace h10 := h10.move (K139.at 3 rfl)
    replace b3 := K139.blk 4 rfl b3
    replace h31 := h31.move (K139.at 5 rfl)
    have E140 := T132.ext
    replace h6 := h6.ext E140
    replace h10 := h10.ext E140
    replace h31 := h31.ext E140
    refine ⟨⟨(Ext.trans E140 S138.inv), (fun q_ => (fun b_ h_ => (K139.at 0 rfl b_ h_).trans ((hs127.2.1 (by decide +kernel)) b_ h_))), (fun b_ h_ => (K139.at 2 rfl b_ h_).trans (hs127.2.2.1 b_ h_)), (fun b_ h_ => (K139.at 4 rfl b_ h_).trans (hs127.2.2.2 b_ h_))⟩, fun hs141 => ?_⟩
    refine xone (i := 27) (by kernel_rfl) hc137 ?_
    refine yo (i := 27) (d := 41) rfl rfl (wanted_none rfl _) (by kernel_rfl) (by kernel_rfl) (fun L_ w_ => by simp only [getD_set_ne true (show (27 : Nat) ≠ 31 by decide)]) hs141 (show _ = Result.ok (Next.value (.agg #[.int .i64 ((x1.cells_.getD ((x26).toNat) z36).kind), .int .i64 ((x1.cells_.getD ((x26).toNat) z36).n), .slice A133 t128.length c134])) w130 from by kernel_rfl) ?_; intro hc142 hs143
    refine xone (i := 28) (by kernel_rfl) hc142 ?_
    refine ye (i := 28) (d := 42) rfl rfl (wanted_none rfl _) (by kernel_rfl) (by kernel_rfl) (new_blk (v := fun g_ => .slice (some ⟨g_, 0, none⟩) 1 1) (cs := #[.int .i64 ((x1.cells_.getD ((x26).toNat) z36).kind), .int .i64 ((x1.cells_.getD ((x26).toNat) z36).n), .slice A133 t128.length c134]) (t := 36) S138 (by kernel_rfl)) ?_
    rintro hc149 _ w144 ⟨g145, rfl, b146, S147, K148⟩
    replace h135 := h135.move (K148.at 0 rfl)
    replace b19 := K148.blk 1 rfl b19
    replace b14 := K148.blk 2 rfl b14
    replace h6 := h6.move (K148.at 3 rfl)
    replace h10 := h10.move (K148.at 4 rfl)
    replace b3 := K148.blk 5 rfl b3
    replace h31 := h31.move (K148.at 6 rfl)
    refine ⟨⟨(Ext.trans E140 S147.inv), (fun q_ => (fun b_ h_ => (K148.at 1 rfl b_ h_).trans ((hs143.2.1 (by decide +kernel)) b_ h_))), (fun b_ h_ => (K148.at 3 rfl b_ h_).trans (hs143.2.2.1 b_ h_)), (fun b_ h_ => (K148.at 5 rfl b_ h_).trans (hs143.2.2.2 b_ h_))⟩, fun hs150 => ?_⟩
    obtain ⟨q151, M⟩ := chk M
    have S152 := S147.pull (F := F136) (Fr := [(is g145), (is g18), (is g13), F7, F11, (is g2), F30]) 1 rfl rfl
    have S153 := S152.pull (F := F30) (Fr := [F136, (is g145), (is g18), (is g13), F7, F11, (is g2)]) 7 rfl rfl
    refine xone (i := 29) (by kernel_rfl) hc149 ?_
    refine ye (i := 29) (d := 43) rfl rfl (wanted_none rfl _) (by kernel_rfl) (by kernel_rfl) (e_append (d := st36) (n := x27.length) (xs := x27) (cap := c29) (A := A28) (ys := [(⟨(x1.cells_.getD ((x26).toNat) z36).kind, (x1.cells_.getD ((x26).toNat) z36).n, t128⟩ : Cell)]) (A2 := (some ⟨g145, 0, none⟩)) (c2 := 1) (z := .agg #[.int .i64 0, .int .i64 0, .slice none 0 0]) (bytes := 40) S153 Try.underlying32 (by kernel_rfl) rfl (by decide) (by kernel_rfl) rfl (by kernel_rfl) h31 (elsO_one1 (st36_mkO (x := (⟨(x1.cells_.getD ((x26).toNat) z36).kind, (x1.cells_.getD ((x26).toNat) z36).n, t128⟩ : Cell)) h135)) (.inr (blk_news b146 rfl)) (show (x27.length + [(⟨(x1.cells_.getD ((x26).toNat) z36).kind, (x1.cells_.getD ((x26).toNat) z36).n, t128⟩ : Cell)].length) * 40 ≤ _ by first | omega | (simp only [List.length_cons, List.length_nil]; omega)) (by decide)) ?_
    rintro hc161 _ w154 ⟨A155, c156, F157, rfl, h158, S159, K160⟩
    replace b19 := K160.blk 1 rfl b19
    replace b14 := K160.blk 2 rfl b14
    replace h6 := h6.move (K160.at 3 rfl)
    replace h10 := h10.move (K160.at 4 rfl)
    replace b3 := K160.blk 5 rfl b3
    refine ⟨⟨(Ext.trans E140 S159.inv), (fun q_ => (fun b_ h_ => (K160.at 1 rfl b_ h_).trans ((hs150.2.1 (by decide +kernel)) b_ h_))), (fun b_ h_ => (K160.at 3 rfl b_ h_).trans (hs150.2.2.1 b_ h_)), (fun b_ h_ => (K160.at 5 rfl b_ h_).trans (hs150.2.2.2 b_ h_))⟩, fun hs162 => ?_⟩
    refine xone (i := 30) (by kernel_rfl) hc161 ?_
    refine yo (i := 30) (d := 44) rfl rfl (wanted_none rfl _) (by kernel_rfl) (by kernel_rfl) (fun L_ w_ => by simp only [getD_set_ne true (show (30 : Nat) ≠ 31 by decide)]) hs162 (e_fieldAddr (b := g18) (off := 0) (o := 0) Try.underlying34 rfl rfl (sz := 1) (by kernel_rfl) (by decide) (by exact e34)) ?_; intro hc163 hs164
    have S165 := S159.pull (F := (is g18)) (Fr := [F157, (is g145), (is g13), F7, F11, (is g2)]) 2 rfl rfl
    refine xone (i := 31) (by kernel_rfl) hc163 ?_
    refine ys (i := 31) rfl rfl (wanted_none rfl _) (by kernel_rfl) (by kernel_rfl) (e_store (g := g18) (o := 0 + 0) (v := .slice A155 ((x27 ++ [(⟨(x1.cells_.getD ((x26).toNat) z36).kind, (x1.cells_.getD ((x26).toNat) z36).n, t128⟩ : Cell)]).length) c156) (cur' := #[.slice A155 ((x27 ++ [(⟨(x1.cells_.getD ((x26).toNat) z36).kind, (x1.cells_.getD ((x26).toNat) z36).n, t128⟩ : Cell)]).length) c156, .slice none 0 0]) (vs := [.slice A155 ((x27 ++ [(⟨(x1.cells_.getD ((x26).toNat) z36).kind, (x1.cells_.getD ((x26).toNat) z36).n, t128⟩ : Cell)]).length) c156]) S165 (by kernel_rfl) (by kernel_rfl) rfl (by kernel_rfl) b19 (Nat.le_of_ble_eq_true rfl) (List.forall_mem_cons.2 ⟨rfl, (fun _ h_ => by cases h_)⟩) rfl) ?_
    rintro hc170 w166 ⟨b167, S168, K169⟩
    replace h158 := h158.move (K169.at 0 rfl)
    replace b14 := K169.blk 2 rfl b14
    replace h6 := h6.move (K169.at 3 rfl)
    replace h10 := h10.move (K169.at 4 rfl)
    replace b3 := K169.blk 5 rfl b3
    refine ⟨⟨(Ext.trans E140 S168.inv), (fun q_ => absurd q_ (by decide +kernel)), (fun b_ h_ => (K169.at 3 rfl b_ h_).trans (hs164.2.2.1 b_ h_)), (fun b_ h_ => (K169.at 5 rfl b_ h_).trans (hs164.2.2.2 b_ h_))⟩, fun hs171 => ?_⟩
    clear b19
    refine xn (by kernel_rfl) ?_ _
    refine inb_n (then_n (wp_region_lit (lv (d := 12) rfl rfl (by kernel_rfl) (e_move (v := .int .i64 x26) (by exact e35)) (lv (d := 13) rfl rfl (by kernel_rfl) (e_add (k := .i64) (a := x26) (b := 1) (by kernel_rfl) rfl) (lv (d := 4) rfl rfl (by kernel_rfl) (e_assign (v := .int .i64 (IntKind.i64.wrap (x26 + 1))) (by kernel_rfl)) (wpList_nil (then_n ?_)))))))
    have S172 := S168.pull (F := F157) (Fr := [(is g18), (is g145), (is g13), F7, F11, (is g2)]) 1 rfl rfl
    have S173 := S172.pull (F := (is g2)) (Fr := [F157, (is g18), (is g145), (is g13), F7, F11]) 6 rfl rfl
    have S174 := S173.pull (F := F11) (Fr := [(is g2), F157, (is g18), (is g145), (is g13), F7]) 6 rfl rfl
    have S175 := S174.pull (F := F7) (Fr := [F11, (is g2), F157, (is g18), (is g145), (is g13)]) 6 rfl rfl
    have S176 := S175.pull (F := (is g13)) (Fr := [F7, F11, (is g2), F157, (is g18), (is g145)]) 6 rfl rfl
    have S177 := S176.pull (F := (is g18)) (Fr := [(is g13), F7, F11, (is g2), F157, (is g145)]) 5 rfl rfl
    have S178 := St.first (Fa := [(is g18), (is g13), F7, F11, (is g2), F157]) (Fr := [(is g145)]) S177
    exact ⟨k41, (by omega), _, H131, (IntKind.i64.wrap (x26 + 1)), (x27 ++ [(⟨(x1.cells_.getD ((x26).toNat) z36).kind, (x1.cells_.getD ((x26).toNat) z36).n, t128⟩ : Cell)]), A155, c156, F157, rfl, (by exact e32), (by exact e33), (by exact e34), (by kernel_rfl), b167, b14, h6, h10, b3, h158, (Y25.trans E140), S178, M⟩
  replace M := ifn q48 M
  refine cond_f rfl (bf q48 (by kernel_rfl)) (wp_exit (then_e (then_e (inb_hit (then_n (wp_seq ?_))))))
  refine region_mix (S := (fun (L_ : Array Bool) (w_ : World) => Ext H24 (hp w_) ∧ (L_.getD 8 true = false → (∀ b_, (is g18) b_ → hp w_ b_ = hp w22 b_)))) (by kernel_rfl) S36 ?_
  intro w179 S180 K181 hc182
  have o183 := b19
  have hs184 : (fun (L_ : Array Bool) (w_ : World) => Ext H24 (hp w_) ∧ (L_.getD 8 true = false → (∀ b_, (is g18) b_ → hp w_ b_ = hp w22 b_))) (Array.replicate 9 false) w179 := ⟨S180.inv, (fun _ => (fun b_ h_ => K181.at 0 rfl b_ h_))⟩
  replace b19 := K181.blk 0 rfl b19
  replace b14 := K181.blk 1 rfl b14
  replace h6 := h6.move (K181.at 2 rfl)
  replace h10 := h10.move (K181.at 3 rfl)
  replace b3 := K181.blk 4 rfl b3
  replace h31 := h31.move (K181.at 5 rfl)
  refine xv (i := 0) (d := 45) rfl rfl rfl (by kernel_rfl) (by kernel_rfl) (fun L_ w_ => by simp only [getD_set_ne true (show (0 : Nat) ≠ 8 by decide)]) hc182 hs184 (fun L_ w_ hc_ hu_ hs_ => e_fieldAddr (b := g18) (off := 0) (o := 1) Try.underlying34 rfl rfl (sz := 1) (by kernel_rfl) (by decide) (by exact e34)) ?_; intro hc185 hs186
  refine xv (i := 1) (d := 46) rfl rfl rfl (by kernel_rfl) (by kernel_rfl) (fun L_ w_ => by simp only [getD_set_ne true (show (1 : Nat) ≠ 8 by decide)]) hc185 hs186 (fun L_ w_ hc_ hu_ hs_ => e_load1 (ad := ⟨g18, 0 + 1, none⟩) (v := .slice none 0 0) Try.underlying23 rfl (by kernel_rfl) (blk_cell (((hs_.2 (unl 9 8 1 hc_ hu_ (by kernel_rfl))) _ rfl).trans o183) rfl)) ?_; intro hc187 hs188
  refine xone (i := 2) (by kernel_rfl) hc187 ?_
  refine yo (i := 2) (d := 47) rfl rfl (wanted_none rfl _) (by kernel_rfl) (by kernel_rfl) (fun L_ w_ => by simp only [getD_set_ne true (show (2 : Nat) ≠ 8 by decide)]) hs188 (e_move (v := .pointer (some ⟨g2, 0, none⟩)) (by exact e32)) ?_; intro hc189 hs190
  refine xone (i := 3) (by kernel_rfl) hc189 ?_
  refine yo (i := 3) (d := 48) rfl rfl (wanted_none rfl _) (by kernel_rfl) (by kernel_rfl) (fun L_ w_ => by simp only [getD_set_ne true (show (3 : Nat) ≠ 8 by decide)]) hs190 (e_nilCheck (ad := ⟨g2, 0, none⟩) (by kernel_rfl)) ?_; intro hc191 hs192
  refine xone (i := 4) (by kernel_rfl) hc191 ?_
  refine yo (i := 4) (d := 49) rfl rfl (wanted_none rfl _) (by kernel_rfl) (by kernel_rfl) (fun L_ w_ => by simp only [getD_set_ne true (show (4 : Nat) ≠ 8 by decide)]) hs192 (e_fieldAddr (b := g2) (off := 0) (o := 1) Try.underlying91 rfl rfl (sz := 1) (by kernel_rfl) (by decide) (by kernel_rfl)) ?_; intro hc193 hs194
  refine xone (i := 5) (by kernel_rfl) hc193 ?_
  refine yo (i := 5) (d := 50) rfl rfl (wanted_none rfl _) (by kernel_rfl) (by kernel_rfl) (fun L_ w_ => by simp only [getD_set_ne true (show (5 : Nat) ≠ 8 by decide)]) hs194 (e_load1 (ad := ⟨g2, 0 + 1, none⟩) (v := .slice A8 x1.trail_.length c9) Try.underlying23 rfl (by kernel_rfl) (blk_cell b3 rfl)) ?_; intro hc195 hs196
  obtain ⟨y197, h198, h199⟩ := Row.news0 (d := tInt) (oo_scal _ _) h10
  obtain ⟨q200, M⟩ := chk M
  have S201 := S180.unit
  have S202 := S201.unit
  have S203 := S202.pull (F := no) (Fr := [no, (is g18), (is g13), F7, F11, (is g2), F30]) 1 rfl rfl
  refine xone (i := 6) (by kernel_rfl) hc195 ?_
  refine ye (i := 6) (d := 51) rfl rfl (wanted_none rfl _) (by kernel_rfl) (by kernel_rfl) (e_append (d := tInt) (n := 0) (xs := []) (cap := 0) (A := none) (ys := x1.trail_) (A2 := A8) (c2 := c9) (z := .int .i64 0) (bytes := 8) S203 Try.underlying23 (by kernel_rfl) rfl (by decide) (by kernel_rfl) rfl (by kernel_rfl) (Row.nil _ _ _ _ no) h198 h199 (show (0 + x1.trail_.length) * 8 ≤ _ by first | omega | (simp only [List.length_cons, List.length_nil]; omega)) (by decide)) ?_
  rintro hc211 _ w204 ⟨A205, c206, F207, rfl, h208, S209, K210⟩
  replace b19 := K210.blk 0 rfl b19
  replace b14 := K210.blk 1 rfl b14
  replace h6 := h6.move (K210.at 2 rfl)
  replace h10 := h10.move (K210.at 3 rfl)
  replace b3 := K210.blk 4 rfl b3
  replace h31 := h31.move (K210.at 5 rfl)
  refine ⟨⟨S209.inv, (fun q_ => (fun b_ h_ => (K210.at 0 rfl b_ h_).trans ((hs196.2 (by decide +kernel)) b_ h_)))⟩, fun hs212 => ?_⟩
  replace h208 : Row tInt 3 H24 (hp w204) F207 A205 c206 x1.trail_ := h208
  refine xone (i := 7) (by kernel_rfl) hc211 ?_
  refine yo (i := 7) (d := 52) rfl rfl (wanted_none rfl _) (by kernel_rfl) (by kernel_rfl) (fun L_ w_ => by simp only [getD_set_ne true (show (7 : Nat) ≠ 8 by decide)]) hs212 (e_fieldAddr (b := g18) (off := 0) (o := 1) Try.underlying34 rfl rfl (sz := 1) (by kernel_rfl) (by decide) (by exact e34)) ?_; intro hc213 hs214
  have S215 := S209.pull (F := (is g18)) (Fr := [F207, (is g13), F7, F11, (is g2), F30]) 1 rfl rfl
  refine xone (i := 8) (by kernel_rfl) hc213 ?_
  refine ys (i := 8) rfl rfl (wanted_none rfl _) (by kernel_rfl) (by kernel_rfl) (e_store (g := g18) (o := 0 + 1) (v := .slice A205 x1.trail_.length c206) (cur' := #[.slice A28 x27.length c29, .slice A205 x1.trail_.length c206]) (vs := [.slice A205 x1.trail_.length c206]) S215 (by kernel_rfl) (by kernel_rfl) rfl (by kernel_rfl) b19 (Nat.le_of_ble_eq_true rfl) (List.forall_mem_cons.2 ⟨rfl, (fun _ h_ => by cases h_)⟩) rfl) ?_
  rintro hc220 w216 ⟨b217, S218, K219⟩
  replace h208 := h208.move (K219.at 0 rfl)
  replace b14 := K219.blk 1 rfl b14
  replace h6 := h6.move (K219.at 2 rfl)
  replace h10 := h10.move (K219.at 3 rfl)
  replace b3 := K219.blk 4 rfl b3
  replace h31 := h31.move (K219.at 5 rfl)
  refine ⟨⟨S218.inv, (fun q_ => absurd q_ (by decide +kernel))⟩, fun hs221 => ?_⟩
  clear b19
  refine xn (by kernel_rfl) ?_ _
  refine then_n (wp_seq (wp_region_lit (lv (d := 53) rfl rfl (by kernel_rfl) (e_loadS (b := g18) (off := 0) (cs := [.slice A28 x27.length c29, .slice A205 x1.trail_.length c206]) Try.underlying34 rfl (by kernel_rfl) (by exact e34) (blk_cells b217 rfl)) ?_)))
  have S222 := S218.pull (F := (is g13)) (Fr := [(is g18), F207, F7, F11, (is g2), F30]) 2 rfl rfl
  refine lse rfl rfl (by kernel_rfl) (e_store (g := g13) (o := 0) (v := .agg #[.slice A28 x27.length c29, .slice A205 x1.trail_.length c206]) (cur' := #[.slice A28 x27.length c29, .slice A205 x1.trail_.length c206]) (vs := [.slice A28 x27.length c29, .slice A205 x1.trail_.length c206]) S222 (by exact e33) (by kernel_rfl) rfl (by kernel_rfl) b14 (Nat.le_of_ble_eq_true rfl) (List.forall_mem_cons.2 ⟨rfl, (List.forall_mem_cons.2 ⟨rfl, (fun _ h_ => by cases h_)⟩)⟩) rfl) ?_
  rintro w223 ⟨b224, S225, K226⟩
  replace h208 := h208.move (K226.at 1 rfl)
  replace h6 := h6.move (K226.at 2 rfl)
  replace h10 := h10.move (K226.at 3 rfl)
  replace b3 := K226.blk 4 rfl b3
  replace h31 := h31.move (K226.at 5 rfl)
  clear b14
  refine wpList_nil (then_n (wp_ret ?_))
  obtain rfl := Option.some.inj M
  have S227 := S225.pull (F := F207) (Fr := [(is g13), (is g18), F7, F11, (is g2), F30]) 2 rfl rfl
  have S228 := S227.pull (F := F30) (Fr := [F207, (is g13), (is g18), F7, F11, (is g2)]) 6 rfl rfl
  have S229 := S228.pull (F := (is g2)) (Fr := [F30, F207, (is g13), (is g18), F7, F11]) 6 rfl rfl
  have S230 := S229.pull (F := F11) (Fr := [(is g2), F30, F207, (is g13), (is g18), F7]) 6 rfl rfl
  have S231 := S230.pull (F := F7) (Fr := [F11, (is g2), F30, F207, (is g13), (is g18)]) 6 rfl rfl
  have S232 := St.first (Fa := [F7, F11, (is g2), F30, F207]) (Fr := [(is g13), (is g18)]) S231
  exact retS (ty := 34) (cur := #[.slice A28 x27.length c29, .slice A205 x1.trail_.length c206]) rfl rfl (by exact e33) b224 Try.underlying34 rfl (by kernel_rfl) ⟨A28, c29, F30, A205, c206, F207, H24, rfl, h6, h10, b3, h31, h208, S232⟩

/-! spec_BindCell -/
def spec_BindCell.f (k : Nat) (x1 : Store) (x10 : Int) (x11 : Cell) : Option (Store × Int) := ((spec_ValidStore.f k x1 x11).bind fun t31 => (if ¬ (t31 = true) then some ((⟨[], []⟩ : Store), 1) else (if x10 < 0 then some ((⟨[], []⟩ : Store), 1) else (if x10 ≥ (x1.cells.length : Int) then some ((⟨[], []⟩ : Store), 1) else (if 0 ≤ x10 then (if x10 < (x1.cells.length : Int) then (if ((x1.cells.getD ((x10).toNat) z36).kind) ≠ 0 then some ((⟨[], []⟩ : Store), 1) else (if ((x1.cells.getD ((x10).toNat) z36).n) ≠ x10 then some ((⟨[], []⟩ : Store), 1) else ((spec_l10open.f x1).bind fun t104 => ((spec_l10deref.f k t104 x11).bind fun t124 => (if t124.kind = 0 then (if t124.n = x10 then some ((⟨[], []⟩ : Store), 1) else ((spec_l10bind_2.f k t104 x10 t124).bind fun t162 => (if t162.1 ≠ 0 then some ((⟨[], []⟩ : Store), t162.1) else ((spec_l10close.f k t162.2).bind fun t191 => some (t191, 0))))) else ((spec_l10bind_2.f k t104 x10 t124).bind fun t221 => (if t221.1 ≠ 0 then some ((⟨[], []⟩ : Store), t221.1) else ((spec_l10close.f k t221.2).bind fun t250 => some (t250, 0))))))))) else none) else none)))))
theorem spec_BindCell.calls (k : Nat) (w : World) (H : Hp) (x1 : Store) (A2 : Option Addr) (c3 : Nat) (A6 : Option Addr) (c7 : Nat) (x10 : Int) (x11 : Cell) (A12 : Option Addr) (c13 : Nat) (h4 : Rd st36 H A2 x1.cells) (l5 : x1.cells.length ≤ c3) (h8 : Rd tInt H A6 x1.trail) (l9 : x1.trail.length ≤ c7) (h14 : Rd tByte H A12 x11.text) (l15 : x11.text.length ≤ c13) (S : Own [] H w) (r : Store × Int) (M : spec_BindCell.f k x1 x10 x11 = some r) :
    Calls Try.prog 30 #[.agg #[.slice A2 x1.cells.length c3, .slice A6 x1.trail.length c7], .int .i64 x10, .agg #[.int .i64 x11.kind, .int .i64 x11.n, .slice A12 x11.text.length c13]] w (fun e e_w => ∃ (A_1 : Option Addr) (c_1 : Nat) (F_1 : Foot) (A_2 : Option Addr) (c_2 : Nat) (F_2 : Foot) (H_ : Hp), e = .returned (.tuple #[.agg #[.slice A_1 r.1.cells.length c_1, .slice A_2 r.1.trail.length c_2], .int .i64 r.2]) ∧ Row st36 36 H_ (hp e_w) F_1 A_1 c_1 r.1.cells ∧ Row tInt 3 H_ (hp e_w) F_2 A_2 c_2 r.1.trail ∧ St (anyOf []) H w [F_1, F_2] H_ e_w) := by
  rw [spec_BindCell.f] at M
  refine enter (l := [.agg #[.slice A2 x1.cells.length c3, .slice A6 x1.trail.length c7], .int .i64 x10, .agg #[.int .i64 x11.kind, .int .i64 x11.n, .slice A12 x11.text.length c13]]) 71 Try.func30 rfl rfl rfl ?_
  have S0_ := S.st
  refine wp_seq (wp_region_lit ?_)
  refine lve (d := 3) rfl rfl (by kernel_rfl) (new_blk (v := fun g_ => .pointer (some ⟨g_, 0, none⟩)) (cs := #[.slice A2 x1.cells.length c3, .slice A6 x1.trail.length c7]) (t := 34) S0_ (by kernel_rfl)) ?_
  rintro _ w16 ⟨g17, rfl, b18, S19, K20⟩
  refine lve (d := 5) rfl rfl (by kernel_rfl) (new_blk (v := fun g_ => .pointer (some ⟨g_, 0, none⟩)) (cs := #[.int .i64 x11.kind, .int .i64 x11.n, .slice A12 x11.text.length c13]) (t := 36) S19 (by kernel_rfl)) ?_
  rintro _ w21 ⟨g22, rfl, b23, S24, K25⟩
  replace b18 := K25.blk 0 rfl b18
  refine lve (d := 6) rfl rfl (by kernel_rfl) (new_blk (v := fun g_ => .pointer (some ⟨g_, 0, none⟩)) (cs := #[.slice none 0 0, .slice none 0 0]) (t := 34) S24 (by kernel_rfl)) ?_
  rintro _ w26 ⟨g27, rfl, b28, S29, K30⟩
  replace b23 := K30.blk 0 rfl b23
  replace b18 := K30.blk 1 rfl b18
  refine lv (d := 7) rfl rfl (by kernel_rfl) (e_assign (v := .int .i64 0) rfl) (wpList_nil (then_n (wp_seq (wp_seq (wp_region_lit (lv (d := 11) rfl rfl (by kernel_rfl) (e_loadS (b := g17) (off := 0) (cs := [.slice A2 x1.cells.length c3, .slice A6 x1.trail.length c7]) Try.underlying34 rfl (by kernel_rfl) (by kernel_rfl) (blk_cells b18 rfl)) (lv (d := 12) rfl rfl (by kernel_rfl) (e_loadS (b := g22) (off := 0) (cs := [.int .i64 x11.kind, .int .i64 x11.n, .slice A12 x11.text.length c13]) Try.underlying36 rfl (by kernel_rfl) (by kernel_rfl) (blk_cells b23 rfl)) ?_)))))))
  obtain ⟨t31, u32, M⟩ := bnd M
  refine lcall (d := 13) rfl rfl (by kernel_rfl) (e_call (l := [.tmp 11, .tmp 12]) (vs := [.agg #[.slice A2 x1.cells.length c3, .slice A6 x1.trail.length c7], .agg #[.int .i64 x11.kind, .int .i64 x11.n, .slice A12 x11.text.length c13]]) Try.func11 (by kernel_rfl) rfl (by kernel_rfl) rfl) (spec_ValidStore.calls k w26 H x1 A2 c3 A6 c7 x11 A12 c13 h4 l5 h8 l9 h14 l15 S29.own0 t31 u32) ?_
  rintro _ w33 ⟨rfl, C34⟩
  refine ⟨_, rfl, ?_⟩
  obtain ⟨S35, K36⟩ := S29.still C34
  replace b28 := K36.blk 0 rfl b28
  replace b23 := K36.blk 1 rfl b23
  replace b18 := K36.blk 2 rfl b18
  refine lv (d := 14) rfl rfl (by kernel_rfl) (e_notv (c := t31) (by kernel_rfl)) (lv (d := 15) rfl rfl (by kernel_rfl) (e_move (v := .bool (decide (¬ (t31 = true)))) (by kernel_rfl)) ?_)
  by_cases q37 : ¬ (t31 = true)
  · replace M := ifp q37 M
    refine lskip (t := 15) (c := true) rfl (by kernel_rfl) rfl (bt q37 (by kernel_rfl)) rfl rfl ?_
    refine lskip (t := 15) (c := true) rfl (by kernel_rfl) rfl (bt q37 (by kernel_rfl)) rfl rfl ?_
    refine lv (d := 18) rfl rfl (by kernel_rfl) (e_pick_t (v := .bool true) (bt q37 (by kernel_rfl)) rfl) (lv (d := 19) rfl rfl (by kernel_rfl) (e_move (v := .bool true) (by kernel_rfl)) ?_)
    refine lskip (t := 19) (c := true) rfl (by kernel_rfl) rfl (by kernel_rfl) rfl rfl ?_
    refine lskip (t := 19) (c := true) rfl (by kernel_rfl) rfl (by kernel_rfl) rfl rfl ?_
    refine lskip (t := 19) (c := true) rfl (by kernel_rfl) rfl (by kernel_rfl) rfl rfl ?_
    refine lskip (t := 19) (c := true) rfl (by kernel_rfl) rfl (by kernel_rfl) rfl rfl ?_
    refine lskip (t := 19) (c := true) rfl (by kernel_rfl) rfl (by kernel_rfl) rfl rfl ?_
    refine lv (d := 25) rfl rfl (by kernel_rfl) (e_pick_t (v := .bool true) (by kernel_rfl) rfl) (lv (d := 26) rfl rfl (by kernel_rfl) (e_move (v := .bool true) (by kernel_rfl)) ?_)
    refine lskip (t := 26) (c := true) rfl (by kernel_rfl) rfl (by kernel_rfl) rfl rfl ?_
    refine lskip (t := 26) (c := true) rfl (by kernel_rfl) rfl (by kernel_rfl) rfl rfl ?_
    refine lskip (t := 26) (c := true) rfl (by kernel_rfl) rfl (by kernel_rfl) rfl rfl ?_
    refine lskip (t := 26) (c := true) rfl (by kernel_rfl) rfl (by kernel_rfl) rfl rfl ?_
    refine lskip (t := 26) (c := true) rfl (by kernel_rfl) rfl (by kernel_rfl) rfl rfl ?_
    refine lskip (t := 26) (c := true) rfl (by kernel_rfl) rfl (by kernel_rfl) rfl rfl ?_
    refine lskip (t := 26) (c := true) rfl (by kernel_rfl) rfl (by kernel_rfl) rfl rfl ?_
    refine lv (d := 34) rfl rfl (by kernel_rfl) (e_pick_t (v := .bool true) (by kernel_rfl) rfl) (lv (d := 35) rfl rfl (by kernel_rfl) (e_move (v := .bool true) (by kernel_rfl)) ?_)
    refine lskip (t := 35) (c := true) rfl (by kernel_rfl) rfl (by kernel_rfl) rfl rfl ?_
    refine lskip (t := 35) (c := true) rfl (by kernel_rfl) rfl (by kernel_rfl) rfl rfl ?_
    refine lskip (t := 35) (c := true) rfl (by kernel_rfl) rfl (by kernel_rfl) rfl rfl ?_
    refine lskip (t := 35) (c := true) rfl (by kernel_rfl) rfl (by kernel_rfl) rfl rfl ?_
    refine lskip (t := 35) (c := true) rfl (by kernel_rfl) rfl (by kernel_rfl) rfl rfl ?_
    refine lskip (t := 35) (c := true) rfl (by kernel_rfl) rfl (by kernel_rfl) rfl rfl ?_
    refine lskip (t := 35) (c := true) rfl (by kernel_rfl) rfl (by kernel_rfl) rfl rfl ?_
    refine lskip (t := 35) (c := true) rfl (by kernel_rfl) rfl (by kernel_rfl) rfl rfl ?_
    refine lv (d := 44) rfl rfl (by kernel_rfl) (e_pick_t (v := .bool true) (by kernel_rfl) rfl) (wpList_nil (then_n (cond_t rfl (by kernel_rfl) (wp_seq (wp_region_lit (lv (d := 45) rfl rfl (by kernel_rfl) (show _ = Result.ok (Next.value (.agg #[.slice none 0 0, .slice none 0 0])) w33 from by kernel_rfl) ?_))))))
    refine lse rfl rfl (by kernel_rfl) (e_store (g := g27) (o := 0) (v := .agg #[.slice none 0 0, .slice none 0 0]) (cur' := #[.slice none 0 0, .slice none 0 0]) (vs := [.slice none 0 0, .slice none 0 0]) S35 (by kernel_rfl) (by kernel_rfl) rfl (by kernel_rfl) b28 (Nat.le_of_ble_eq_true rfl) (List.forall_mem_cons.2 ⟨rfl, (List.forall_mem_cons.2 ⟨rfl, (fun _ h_ => by cases h_)⟩)⟩) rfl) ?_
    rintro w38 ⟨b39, S40, K41⟩
    clear b28
    refine lv (d := 7) rfl rfl (by kernel_rfl) (e_assign (v := .int .i64 1) rfl) (wpList_nil (then_n (wp_ret (then_r ?_))))
    obtain rfl := Option.some.inj M
    have S42 := S40.unit
    have S43 := S42.unit
    have S44 := S43.pull (F := no) (Fr := [no, (is g27), (is g22), (is g17)]) 1 rfl rfl
    have S45 := St.first (Fa := [no, no]) (Fr := [(is g27), (is g22), (is g17)]) S44
    exact retST (ty := 34) (cur := #[.slice none 0 0, .slice none 0 0]) rfl rfl rfl (by kernel_rfl) b39 Try.underlying34 rfl (by kernel_rfl) (show _ = .int .i64 1 from (by kernel_rfl)) ⟨none, 0, no, none, 0, no, H, rfl, (Row.nil _ _ _ _ no), (Row.nil _ _ _ _ no), S45⟩
  replace M := ifn q37 M
  refine lvg (d := 16) (t := 15) rfl (by kernel_rfl) rfl (bf q37 (by kernel_rfl)) rfl (by kernel_rfl) (e_move (v := .int .i64 x10) (by kernel_rfl)) (lvg (d := 17) (t := 15) rfl (by kernel_rfl) rfl (bf q37 (by kernel_rfl)) rfl (by kernel_rfl) (e_lss (k := .i64) (a := x10) (b := 0) (by kernel_rfl) rfl) (lv (d := 18) rfl rfl (by kernel_rfl) (e_pick_f (v := .bool (decide (x10 < 0))) (bf q37 (by kernel_rfl)) (by kernel_rfl)) (lv (d := 19) rfl rfl (by kernel_rfl) (e_move (v := .bool (decide (x10 < 0))) (by kernel_rfl)) ?_)))
  by_cases q46 : x10 < 0
  · replace M := ifp q46 M
    refine lskip (t := 19) (c := true) rfl (by kernel_rfl) rfl (bt q46 (by kernel_rfl)) rfl rfl ?_
    refine lskip (t := 19) (c := true) rfl (by kernel_rfl) rfl (bt q46 (by kernel_rfl)) rfl rfl ?_
    refine lskip (t := 19) (c := true) rfl (by kernel_rfl) rfl (bt q46 (by kernel_rfl)) rfl rfl ?_
    refine lskip (t := 19) (c := true) rfl (by kernel_rfl) rfl (bt q46 (by kernel_rfl)) rfl rfl ?_
    refine lskip (t := 19) (c := true) rfl (by kernel_rfl) rfl (bt q46 (by kernel_rfl)) rfl rfl ?_
    refine lv (d := 25) rfl rfl (by kernel_rfl) (e_pick_t (v := .bool true) (bt q46 (by kernel_rfl)) rfl) (lv (d := 26) rfl rfl (by kernel_rfl) (e_move (v := .bool true) (by kernel_rfl)) ?_)
    refine lskip (t := 26) (c := true) rfl (by kernel_rfl) rfl (by kernel_rfl) rfl rfl ?_
    refine lskip (t := 26) (c := true) rfl (by kernel_rfl) rfl (by kernel_rfl) rfl rfl ?_
    refine lskip (t := 26) (c := true) rfl (by kernel_rfl) rfl (by kernel_rfl) rfl rfl ?_
    refine lskip (t := 26) (c := true) rfl (by kernel_rfl) rfl (by kernel_rfl) rfl rfl ?_
    refine lskip (t := 26) (c := true) rfl (by kernel_rfl) rfl (by kernel_rfl) rfl rfl ?_
    refine lskip (t := 26) (c := true) rfl (by kernel_rfl) rfl (by kernel_rfl) rfl rfl ?_
    refine lskip (t := 26) (c := true) rfl (by kernel_rfl) rfl (by kernel_rfl) rfl rfl ?_
    refine lv (d := 34) rfl rfl (by kernel_rfl) (e_pick_t (v := .bool true) (by kernel_rfl) rfl) (lv (d := 35) rfl rfl (by kernel_rfl) (e_move (v := .bool true) (by kernel_rfl)) ?_)
    refine lskip (t := 35) (c := true) rfl (by kernel_rfl) rfl (by kernel_rfl) rfl rfl ?_
    refine lskip (t := 35) (c := true) rfl (by kernel_rfl) rfl (by kernel_rfl) rfl rfl ?_
    refine lskip (t := 35) (c := true) rfl (by kernel_rfl) rfl (by kernel_rfl) rfl rfl ?_
    refine lskip (t := 35) (c := true) rfl (by kernel_rfl) rfl (by kernel_rfl) rfl rfl ?_
    refine lskip (t := 35) (c := true) rfl (by kernel_rfl) rfl (by kernel_rfl) rfl rfl ?_
    refine lskip (t := 35) (c := true) rfl (by kernel_rfl) rfl (by kernel_rfl) rfl rfl ?_
    refine lskip (t := 35) (c := true) rfl (by kernel_rfl) rfl (by kernel_rfl) rfl rfl ?_
    refine lskip (t := 35) (c := true) rfl (by kernel_rfl) rfl (by kernel_rfl) rfl rfl ?_
    refine lv (d := 44) rfl rfl (by kernel_rfl) (e_pick_t (v := .bool true) (by kernel_rfl) rfl) (wpList_nil (then_n (cond_t rfl (by kernel_rfl) (wp_seq (wp_region_lit (lv (d := 45) rfl rfl (by kernel_rfl) (show _ = Result.ok (Next.value (.agg #[.slice none 0 0, .slice none 0 0])) w33 from by kernel_rfl) ?_))))))
    refine lse rfl rfl (by kernel_rfl) (e_store (g := g27) (o := 0) (v := .agg #[.slice none 0 0, .slice none 0 0]) (cur' := #[.slice none 0 0, .slice none 0 0]) (vs := [.slice none 0 0, .slice none 0 0]) S35 (by kernel_rfl) (by kernel_rfl) rfl (by kernel_rfl) b28 (Nat.le_of_ble_eq_true rfl) (List.forall_mem_cons.2 ⟨rfl, (List.forall_mem_cons.2 ⟨rfl, (fun _ h_ => by cases h_)⟩)⟩) rfl) ?_
    rintro w47 ⟨b48, S49, K50⟩
    clear b28
    refine lv (d := 7) rfl rfl (by kernel_rfl) (e_assign (v := .int .i64 1) rfl) (wpList_nil (then_n (wp_ret (then_r ?_))))
    obtain rfl := Option.some.inj M
    have S51 := S49.unit
    have S52 := S51.unit
    have S53 := S52.pull (F := no) (Fr := [no, (is g27), (is g22), (is g17)]) 1 rfl rfl
    have S54 := St.first (Fa := [no, no]) (Fr := [(is g27), (is g22), (is g17)]) S53
    exact retST (ty := 34) (cur := #[.slice none 0 0, .slice none 0 0]) rfl rfl rfl (by kernel_rfl) b48 Try.underlying34 rfl (by kernel_rfl) (show _ = .int .i64 1 from (by kernel_rfl)) ⟨none, 0, no, none, 0, no, H, rfl, (Row.nil _ _ _ _ no), (Row.nil _ _ _ _ no), S54⟩
  replace M := ifn q46 M
  refine lvg (d := 20) (t := 19) rfl (by kernel_rfl) rfl (bf q46 (by kernel_rfl)) rfl (by kernel_rfl) (e_move (v := .int .i64 x10) (by kernel_rfl)) (lvg (d := 21) (t := 19) rfl (by kernel_rfl) rfl (bf q46 (by kernel_rfl)) rfl (by kernel_rfl) (e_fieldAddr (b := g17) (off := 0) (o := 0) Try.underlying34 rfl rfl (sz := 1) (by kernel_rfl) (by decide) (by kernel_rfl)) (lvg (d := 22) (t := 19) rfl (by kernel_rfl) rfl (bf q46 (by kernel_rfl)) rfl (by kernel_rfl) (e_load1 (ad := ⟨g17, 0 + 0, none⟩) (v := .slice A2 x1.cells.length c3) Try.underlying32 rfl (by kernel_rfl) (blk_cell b18 rfl)) (lvg (d := 23) (t := 19) rfl (by kernel_rfl) rfl (bf q46 (by kernel_rfl)) rfl (by kernel_rfl) (e_len (A := A2) (n := x1.cells.length) (c := c3) Try.underlying32 (by kernel_rfl)) (lvg (d := 24) (t := 19) rfl (by kernel_rfl) rfl (bf q46 (by kernel_rfl)) rfl (by kernel_rfl) (e_geq (k := .i64) (a := x10) (b := (x1.cells.length : Int)) (by kernel_rfl) (by kernel_rfl)) (lv (d := 25) rfl rfl (by kernel_rfl) (e_pick_f (v := .bool (decide (x10 ≥ (x1.cells.length : Int)))) (bf q46 (by kernel_rfl)) (by kernel_rfl)) (lv (d := 26) rfl rfl (by kernel_rfl) (e_move (v := .bool (decide (x10 ≥ (x1.cells.length : Int)))) (by kernel_rfl)) ?_))))))
  by_cases q55 : x10 ≥ (x1.cells.length : Int)
  · replace M := ifp q55 M
    refine lskip (t := 26) (c := true) rfl (by kernel_rfl) rfl (bt q55 (by kernel_rfl)) rfl rfl ?_
    refine lskip (t := 26) (c := true) rfl (by kernel_rfl) rfl (bt q55 (by kernel_rfl)) rfl rfl ?_
    refine lskip (t := 26) (c := true) rfl (by kernel_rfl) rfl (bt q55 (by kernel_rfl)) rfl rfl ?_
    refine lskip (t := 26) (c := true) rfl (by kernel_rfl) rfl (bt q55 (by kernel_rfl)) rfl rfl ?_
    refine lskip (t := 26) (c := true) rfl (by kernel_rfl) rfl (bt q55 (by kernel_rfl)) rfl rfl ?_
    refine lskip (t := 26) (c := true) rfl (by kernel_rfl) rfl (bt q55 (by kernel_rfl)) rfl rfl ?_
    refine lskip (t := 26) (c := true) rfl (by kernel_rfl) rfl (bt q55 (by kernel_rfl)) rfl rfl ?_
    refine lv (d := 34) rfl rfl (by kernel_rfl) (e_pick_t (v := .bool true) (bt q55 (by kernel_rfl)) rfl) (lv (d := 35) rfl rfl (by kernel_rfl) (e_move (v := .bool true) (by kernel_rfl)) ?_)
    refine lskip (t := 35) (c := true) rfl (by kernel_rfl) rfl (by kernel_rfl) rfl rfl ?_
    refine lskip (t := 35) (c := true) rfl (by kernel_rfl) rfl (by kernel_rfl) rfl rfl ?_
    refine lskip (t := 35) (c := true) rfl (by kernel_rfl) rfl (by kernel_rfl) rfl rfl ?_
    refine lskip (t := 35) (c := true) rfl (by kernel_rfl) rfl (by kernel_rfl) rfl rfl ?_
    refine lskip (t := 35) (c := true) rfl (by kernel_rfl) rfl (by kernel_rfl) rfl rfl ?_
    refine lskip (t := 35) (c := true) rfl (by kernel_rfl) rfl (by kernel_rfl) rfl rfl ?_
    refine lskip (t := 35) (c := true) rfl (by kernel_rfl) rfl (by kernel_rfl) rfl rfl ?_
    refine lskip (t := 35) (c := true) rfl (by kernel_rfl) rfl (by kernel_rfl) rfl rfl ?_
    refine lv (d := 44) rfl rfl (by kernel_rfl) (e_pick_t (v := .bool true) (by kernel_rfl) rfl) (wpList_nil (then_n (cond_t rfl (by kernel_rfl) (wp_seq (wp_region_lit (lv (d := 45) rfl rfl (by kernel_rfl) (show _ = Result.ok (Next.value (.agg #[.slice none 0 0, .slice none 0 0])) w33 from by kernel_rfl) ?_))))))
    refine lse rfl rfl (by kernel_rfl) (e_store (g := g27) (o := 0) (v := .agg #[.slice none 0 0, .slice none 0 0]) (cur' := #[.slice none 0 0, .slice none 0 0]) (vs := [.slice none 0 0, .slice none 0 0]) S35 (by kernel_rfl) (by kernel_rfl) rfl (by kernel_rfl) b28 (Nat.le_of_ble_eq_true rfl) (List.forall_mem_cons.2 ⟨rfl, (List.forall_mem_cons.2 ⟨rfl, (fun _ h_ => by cases h_)⟩)⟩) rfl) ?_
    rintro w56 ⟨b57, S58, K59⟩
    clear b28
    refine lv (d := 7) rfl rfl (by kernel_rfl) (e_assign (v := .int .i64 1) rfl) (wpList_nil (then_n (wp_ret (then_r ?_))))
    obtain rfl := Option.some.inj M
    have S60 := S58.unit
    have S61 := S60.unit
    have S62 := S61.pull (F := no) (Fr := [no, (is g27), (is g22), (is g17)]) 1 rfl rfl
    have S63 := St.first (Fa := [no, no]) (Fr := [(is g27), (is g22), (is g17)]) S62
    exact retST (ty := 34) (cur := #[.slice none 0 0, .slice none 0 0]) rfl rfl rfl (by kernel_rfl) b57 Try.underlying34 rfl (by kernel_rfl) (show _ = .int .i64 1 from (by kernel_rfl)) ⟨none, 0, no, none, 0, no, H, rfl, (Row.nil _ _ _ _ no), (Row.nil _ _ _ _ no), S63⟩
  replace M := ifn q55 M
  refine lvg (d := 27) (t := 26) rfl (by kernel_rfl) rfl (bf q55 (by kernel_rfl)) rfl (by kernel_rfl) (e_fieldAddr (b := g17) (off := 0) (o := 0) Try.underlying34 rfl rfl (sz := 1) (by kernel_rfl) (by decide) (by kernel_rfl)) (lvg (d := 28) (t := 26) rfl (by kernel_rfl) rfl (bf q55 (by kernel_rfl)) rfl (by kernel_rfl) (e_load1 (ad := ⟨g17, 0 + 0, none⟩) (v := .slice A2 x1.cells.length c3) Try.underlying32 rfl (by kernel_rfl) (blk_cell b18 rfl)) (lvg (d := 29) (t := 26) rfl (by kernel_rfl) rfl (bf q55 (by kernel_rfl)) rfl (by kernel_rfl) (e_move (v := .int .i64 x10) (by kernel_rfl)) ?_))
  obtain ⟨q64, M⟩ := chk M
  obtain ⟨q65, M⟩ := chk M
  obtain ⟨b66, o67, e68⟩ := Rd.addr h4 (show (x10).toNat < x1.cells.length by omega)
  obtain ⟨y69, r70, k71⟩ := Rd.at h4 e68 (getD_some z36 (show (x10).toNat < x1.cells.length by omega))
  obtain ⟨A72, c73, rfl, l74, h75⟩ := st36_open r70
  refine lvg (d := 30) (t := 26) rfl (by kernel_rfl) rfl (bf q55 (by kernel_rfl)) rfl (by kernel_rfl) (e_indexAddr (b := b66) (off := o67) (n := x1.cells.length) (c := c3) (sz := 3) (i := x10) (k := .i64) Try.underlying32 e68 (by kernel_rfl) (by kernel_rfl) (by kernel_rfl) q64 q65) (lvg (d := 31) (t := 26) rfl (by kernel_rfl) rfl (bf q55 (by kernel_rfl)) rfl (by kernel_rfl) (e_fieldAddr (b := b66) (off := o67 + (x10 : Int).toNat * 3) (o := 0) Try.underlying36 rfl rfl (sz := 1) (by kernel_rfl) (by decide) (by kernel_rfl)) (lvg (d := 32) (t := 26) rfl (by kernel_rfl) rfl (bf q55 (by kernel_rfl)) rfl (by kernel_rfl) (e_load1 (ad := ⟨b66, o67 + (x10 : Int).toNat * 3 + 0, none⟩) (v := .int .i64 ((x1.cells.getD ((x10).toNat) z36).kind)) Try.underlying3 rfl (by kernel_rfl) (hpx (S35.inv.cell (k71 0 _ rfl)))) (lvg (d := 33) (t := 26) rfl (by kernel_rfl) rfl (bf q55 (by kernel_rfl)) rfl (by kernel_rfl) (e_neq (k := .i64) (a := (x1.cells.getD ((x10).toNat) z36).kind) (b := 0) (by kernel_rfl) rfl) (lv (d := 34) rfl rfl (by kernel_rfl) (e_pick_f (v := .bool (decide (((x1.cells.getD ((x10).toNat) z36).kind) ≠ 0))) (bf q55 (by kernel_rfl)) (by kernel_rfl)) (lv (d := 35) rfl rfl (by kernel_rfl) (e_move (v := .bool (decide (((x1.cells.getD ((x10).toNat) z36).kind) ≠ 0))) (by kernel_rfl)) ?_)))))
  by_cases q76 : ((x1.cells.getD ((x10).toNat) z36).kind) ≠ 0
  · replace M := ifp q76 M
    refine lskip (t := 35) (c := true) rfl (by kernel_rfl) rfl (bt q76 (by kernel_rfl)) rfl rfl ?_
    refine lskip (t := 35) (c := true) rfl (by kernel_rfl) rfl (bt q76 (by kernel_rfl)) rfl rfl ?_
    refine lskip (t := 35) (c := true) rfl (by kernel_rfl) rfl (bt q76 (by kernel_rfl)) rfl rfl ?_
    refine lskip (t := 35) (c := true) rfl (by kernel_rfl) rfl (bt q76 (by kernel_rfl)) rfl rfl ?_
    refine lskip (t := 35) (c := true) rfl (by kernel_rfl) rfl (bt q76 (by kernel_rfl)) rfl rfl ?_
    refine lskip (t := 35) (c := true) rfl (by kernel_rfl) rfl (bt q76 (by kernel_rfl)) rfl rfl ?_
    refine lskip (t := 35) (c := true) rfl (by kernel_rfl) rfl (bt q76 (by kernel_rfl)) rfl rfl ?_
    refine lskip (t := 35) (c := true) rfl (by kernel_rfl) rfl (bt q76 (by kernel_rfl)) rfl rfl ?_
    refine lv (d := 44) rfl rfl (by kernel_rfl) (e_pick_t (v := .bool true) (bt q76 (by kernel_rfl)) rfl) (wpList_nil (then_n (cond_t rfl (by kernel_rfl) (wp_seq (wp_region_lit (lv (d := 45) rfl rfl (by kernel_rfl) (show _ = Result.ok (Next.value (.agg #[.slice none 0 0, .slice none 0 0])) w33 from by kernel_rfl) ?_))))))
    refine lse rfl rfl (by kernel_rfl) (e_store (g := g27) (o := 0) (v := .agg #[.slice none 0 0, .slice none 0 0]) (cur' := #[.slice none 0 0, .slice none 0 0]) (vs := [.slice none 0 0, .slice none 0 0]) S35 (by kernel_rfl) (by kernel_rfl) rfl (by kernel_rfl) b28 (Nat.le_of_ble_eq_true rfl) (List.forall_mem_cons.2 ⟨rfl, (List.forall_mem_cons.2 ⟨rfl, (fun _ h_ => by cases h_)⟩)⟩) rfl) ?_
    rintro w77 ⟨b78, S79, K80⟩
    clear b28
    refine lv (d := 7) rfl rfl (by kernel_rfl) (e_assign (v := .int .i64 1) rfl) (wpList_nil (then_n (wp_ret (then_r ?_))))
    obtain rfl := Option.some.inj M
    have S81 := S79.unit
    have S82 := S81.unit
    have S83 := S82.pull (F := no) (Fr := [no, (is g27), (is g22), (is g17)]) 1 rfl rfl
    have S84 := St.first (Fa := [no, no]) (Fr := [(is g27), (is g22), (is g17)]) S83
    exact retST (ty := 34) (cur := #[.slice none 0 0, .slice none 0 0]) rfl rfl rfl (by kernel_rfl) b78 Try.underlying34 rfl (by kernel_rfl) (show _ = .int .i64 1 from (by kernel_rfl)) ⟨none, 0, no, none, 0, no, H, rfl, (Row.nil _ _ _ _ no), (Row.nil _ _ _ _ no), S84⟩
  replace M := ifn q76 M
  refine lvg (d := 36) (t := 35) rfl (by kernel_rfl) rfl (bf q76 (by kernel_rfl)) rfl (by kernel_rfl) (e_fieldAddr (b := g17) (off := 0) (o := 0) Try.underlying34 rfl rfl (sz := 1) (by kernel_rfl) (by decide) (by kernel_rfl)) (lvg (d := 37) (t := 35) rfl (by kernel_rfl) rfl (bf q76 (by kernel_rfl)) rfl (by kernel_rfl) (e_load1 (ad := ⟨g17, 0 + 0, none⟩) (v := .slice A2 x1.cells.length c3) Try.underlying32 rfl (by kernel_rfl) (blk_cell b18 rfl)) (lvg (d := 38) (t := 35) rfl (by kernel_rfl) rfl (bf q76 (by kernel_rfl)) rfl (by kernel_rfl) (e_move (v := .int .i64 x10) (by kernel_rfl)) ?_))
  obtain ⟨b85, o86, e87⟩ := Rd.addr h4 (show (x10).toNat < x1.cells.length by omega)
  obtain ⟨y88, r89, k90⟩ := Rd.at h4 e87 (getD_some z36 (show (x10).toNat < x1.cells.length by omega))
  obtain ⟨A91, c92, rfl, l93, h94⟩ := st36_open r89
  refine lvg (d := 39) (t := 35) rfl (by kernel_rfl) rfl (bf q76 (by kernel_rfl)) rfl (by kernel_rfl) (e_indexAddr (b := b85) (off := o86) (n := x1.cells.length) (c := c3) (sz := 3) (i := x10) (k := .i64) Try.underlying32 e87 (by kernel_rfl) (by kernel_rfl) (by kernel_rfl) q64 q65) (lvg (d := 40) (t := 35) rfl (by kernel_rfl) rfl (bf q76 (by kernel_rfl)) rfl (by kernel_rfl) (e_fieldAddr (b := b85) (off := o86 + (x10 : Int).toNat * 3) (o := 1) Try.underlying36 rfl rfl (sz := 1) (by kernel_rfl) (by decide) (by kernel_rfl)) (lvg (d := 41) (t := 35) rfl (by kernel_rfl) rfl (bf q76 (by kernel_rfl)) rfl (by kernel_rfl) (e_load1 (ad := ⟨b85, o86 + (x10 : Int).toNat * 3 + 1, none⟩) (v := .int .i64 ((x1.cells.getD ((x10).toNat) z36).n)) Try.underlying3 rfl (by kernel_rfl) (hpx (S35.inv.cell (k90 1 _ rfl)))) (lvg (d := 42) (t := 35) rfl (by kernel_rfl) rfl (bf q76 (by kernel_rfl)) rfl (by kernel_rfl) (e_move (v := .int .i64 x10) (by kernel_rfl)) (lvg (d := 43) (t := 35) rfl (by kernel_rfl) rfl (bf q76 (by kernel_rfl)) rfl (by kernel_rfl) (e_neq (k := .i64) (a := (x1.cells.getD ((x10).toNat) z36).n) (b := x10) (by kernel_rfl) (by kernel_rfl)) (lv (d := 44) rfl rfl (by kernel_rfl) (e_pick_f (v := .bool (decide (((x1.cells.getD ((x10).toNat) z36).n) ≠ x10))) (bf q76 (by kernel_rfl)) (by kernel_rfl)) (wpList_nil (then_n ?_)))))))
  by_cases q95 : ((x1.cells.getD ((x10).toNat) z36).n) ≠ x10
  · replace M := ifp q95 M
    refine cond_t rfl (bt q95 (by kernel_rfl)) (wp_seq (wp_region_lit (lv (d := 45) rfl rfl (by kernel_rfl) (show _ = Result.ok (Next.value (.agg #[.slice none 0 0, .slice none 0 0])) w33 from by kernel_rfl) ?_)))
    refine lse rfl rfl (by kernel_rfl) (e_store (g := g27) (o := 0) (v := .agg #[.slice none 0 0, .slice none 0 0]) (cur' := #[.slice none 0 0, .slice none 0 0]) (vs := [.slice none 0 0, .slice none 0 0]) S35 (by kernel_rfl) (by kernel_rfl) rfl (by kernel_rfl) b28 (Nat.le_of_ble_eq_true rfl) (List.forall_mem_cons.2 ⟨rfl, (List.forall_mem_cons.2 ⟨rfl, (fun _ h_ => by cases h_)⟩)⟩) rfl) ?_
    rintro w96 ⟨b97, S98, K99⟩
    clear b28
    refine lv (d := 7) rfl rfl (by kernel_rfl) (e_assign (v := .int .i64 1) rfl) (wpList_nil (then_n (wp_ret (then_r ?_))))
    obtain rfl := Option.some.inj M
    have S100 := S98.unit
    have S101 := S100.unit
    have S102 := S101.pull (F := no) (Fr := [no, (is g27), (is g22), (is g17)]) 1 rfl rfl
    have S103 := St.first (Fa := [no, no]) (Fr := [(is g27), (is g22), (is g17)]) S102
    exact retST (ty := 34) (cur := #[.slice none 0 0, .slice none 0 0]) rfl rfl rfl (by kernel_rfl) b97 Try.underlying34 rfl (by kernel_rfl) (show _ = .int .i64 1 from (by kernel_rfl)) ⟨none, 0, no, none, 0, no, H, rfl, (Row.nil _ _ _ _ no), (Row.nil _ _ _ _ no), S103⟩
  replace M := ifn q95 M
  refine cond_f rfl (bf q95 (by kernel_rfl)) (wp_skip (then_n (wp_seq (wp_region_lit (lv (d := 46) rfl rfl (by kernel_rfl) (e_loadS (b := g17) (off := 0) (cs := [.slice A2 x1.cells.length c3, .slice A6 x1.trail.length c7]) Try.underlying34 rfl (by kernel_rfl) (by kernel_rfl) (blk_cells b18 rfl)) ?_)))))
  obtain ⟨t104, u105, M⟩ := bnd M
  refine lcall (d := 47) rfl rfl (by kernel_rfl) (e_call (l := [.tmp 46]) (vs := [.agg #[.slice A2 x1.cells.length c3, .slice A6 x1.trail.length c7]]) Try.func47 (by kernel_rfl) rfl (by kernel_rfl) rfl) (spec_l10open.calls w33 H x1 A2 c3 A6 c7 h4 l5 h8 l9 (St.own' (Fa := []) (Fr := [(is g27), (is g22), (is g17)]) S35) t104 u105) ?_
  rintro _ w106 ⟨g109, A111, c112, F114, A115, c116, F118, H107, rfl, h113, h117, b110, T108⟩
  refine ⟨_, rfl, ?_⟩
  obtain ⟨S119, K120⟩ := St.call (Fa := []) (Fr := [(is g27), (is g22), (is g17)]) S35 T108
  replace b28 := K120.blk 0 rfl b28
  replace b23 := K120.blk 1 rfl b23
  have E121 := T108.ext
  refine lv (d := 8) rfl rfl (by kernel_rfl) (e_assign (v := .pointer (some ⟨g109, 0, none⟩)) (by kernel_rfl)) (wpList_nil (then_n (wp_seq (wp_region_lit (lv (d := 48) rfl rfl (by kernel_rfl) (e_move (v := .pointer (some ⟨g109, 0, none⟩)) (by kernel_rfl)) (lv (d := 49) rfl rfl (by kernel_rfl) (e_loadS (b := g22) (off := 0) (cs := [.int .i64 x11.kind, .int .i64 x11.n, .slice A12 x11.text.length c13]) Try.underlying36 rfl (by kernel_rfl) (by kernel_rfl) (blk_cells b23 rfl)) ?_))))))
  have S122 := S119.pull (F := F118) (Fr := [(is g109), F114, (is g27), (is g22), (is g17)]) 2 rfl rfl
  have S123 := S122.pull (F := F114) (Fr := [F118, (is g109), (is g27), (is g22), (is g17)]) 2 rfl rfl
  obtain ⟨t124, u125, M⟩ := bnd M
  refine lcall (d := 50) rfl rfl (by kernel_rfl) (e_call (l := [.tmp 48, .tmp 49]) (vs := [.pointer (some ⟨g109, 0, none⟩), .agg #[.int .i64 x11.kind, .int .i64 x11.n, .slice A12 x11.text.length c13]]) Try.func46 (by kernel_rfl) rfl (by kernel_rfl) rfl) (spec_l10deref.calls k w106 H107 t104 g109 A111 c112 F114 A115 c116 F118 x11 A12 c13 h113 h117 b110 (h14.ext E121) l15 (St.own' (Fa := [F114, F118, (is g109)]) (Fr := [(is g27), (is g22), (is g17)]) S123) t124 u125) ?_
  rintro _ w126 ⟨A132, c133, H127, rfl, h129, h130, b131, h134, l135, T128⟩
  refine ⟨_, rfl, ?_⟩
  obtain ⟨S136, K137⟩ := St.call (Fa := [F114, F118, (is g109)]) (Fr := [(is g27), (is g22), (is g17)]) S123 T128
  replace b28 := K137.blk 0 rfl b28
  have E138 := T128.ext
  refine lve (d := 9) rfl rfl (by kernel_rfl) (new_blk (v := fun g_ => .pointer (some ⟨g_, 0, none⟩)) (cs := #[.int .i64 0, .int .i64 0, .slice none 0 0]) (t := 36) S136 (by kernel_rfl)) ?_
  rintro _ w139 ⟨g140, rfl, b141, S142, K143⟩
  replace h129 := h129.move (K143.at 0 rfl)
  replace h130 := h130.move (K143.at 1 rfl)
  replace b131 := K143.blk 2 rfl b131
  replace b28 := K143.blk 3 rfl b28
  refine lse rfl rfl (by kernel_rfl) (e_store (g := g140) (o := 0) (v := .agg #[.int .i64 t124.kind, .int .i64 t124.n, .slice A132 t124.text.length c133]) (cur' := #[.int .i64 t124.kind, .int .i64 t124.n, .slice A132 t124.text.length c133]) (vs := [.int .i64 t124.kind, .int .i64 t124.n, .slice A132 t124.text.length c133]) S142 (by kernel_rfl) (by kernel_rfl) rfl (by kernel_rfl) b141 (Nat.le_of_ble_eq_true rfl) (List.forall_mem_cons.2 ⟨rfl, (List.forall_mem_cons.2 ⟨rfl, (List.forall_mem_cons.2 ⟨rfl, (fun _ h_ => by cases h_)⟩)⟩)⟩) rfl) ?_
  rintro w144 ⟨b145, S146, K147⟩
  replace h129 := h129.move (K147.at 0 rfl)
  replace h130 := h130.move (K147.at 1 rfl)
  replace b131 := K147.blk 2 rfl b131
  replace b28 := K147.blk 3 rfl b28
  clear b141
  refine wpList_nil (then_n (wp_seq (wp_seq (wp_region_lit (lv (d := 51) rfl rfl (by kernel_rfl) (e_fieldAddr (b := g140) (off := 0) (o := 0) Try.underlying36 rfl rfl (sz := 1) (by kernel_rfl) (by decide) (by kernel_rfl)) (lv (d := 52) rfl rfl (by kernel_rfl) (e_load1 (ad := ⟨g140, 0 + 0, none⟩) (v := .int .i64 t124.kind) Try.underlying3 rfl (by kernel_rfl) (blk_cell b145 rfl)) (lv (d := 53) rfl rfl (by kernel_rfl) (e_eql (k := .i64) (a := t124.kind) (b := 0) (by kernel_rfl) rfl) ?_)))))))
  refine lv (d := 54) rfl rfl (by kernel_rfl) (e_move (v := .bool (decide (t124.kind = 0))) (by kernel_rfl)) ?_
  by_cases q148 : t124.kind = 0
  · replace M := ifp q148 M
    refine lvg (d := 55) (t := 54) rfl (by kernel_rfl) rfl (bt q148 (by kernel_rfl)) rfl (by kernel_rfl) (e_fieldAddr (b := g140) (off := 0) (o := 1) Try.underlying36 rfl rfl (sz := 1) (by kernel_rfl) (by decide) (by kernel_rfl)) (lvg (d := 56) (t := 54) rfl (by kernel_rfl) rfl (bt q148 (by kernel_rfl)) rfl (by kernel_rfl) (e_load1 (ad := ⟨g140, 0 + 1, none⟩) (v := .int .i64 t124.n) Try.underlying3 rfl (by kernel_rfl) (blk_cell b145 rfl)) (lvg (d := 57) (t := 54) rfl (by kernel_rfl) rfl (bt q148 (by kernel_rfl)) rfl (by kernel_rfl) (e_move (v := .int .i64 x10) (by kernel_rfl)) (lvg (d := 58) (t := 54) rfl (by kernel_rfl) rfl (bt q148 (by kernel_rfl)) rfl (by kernel_rfl) (e_eql (k := .i64) (a := t124.n) (b := x10) (by kernel_rfl) (by kernel_rfl)) (lv (d := 59) rfl rfl (by kernel_rfl) (e_pick_t (v := .bool (decide (t124.n = x10))) (bt q148 (by kernel_rfl)) (by kernel_rfl)) (wpList_nil (then_n ?_))))))
    by_cases q149 : t124.n = x10
    · replace M := ifp q149 M
      refine cond_t rfl (bt q149 (by kernel_rfl)) (wp_seq (wp_region_lit (lv (d := 60) rfl rfl (by kernel_rfl) (show _ = Result.ok (Next.value (.agg #[.slice none 0 0, .slice none 0 0])) w144 from by kernel_rfl) ?_)))
      have S150 := S146.pull (F := (is g27)) (Fr := [(is g140), F114, F118, (is g109), (is g22), (is g17)]) 4 rfl rfl
      refine lse rfl rfl (by kernel_rfl) (e_store (g := g27) (o := 0) (v := .agg #[.slice none 0 0, .slice none 0 0]) (cur' := #[.slice none 0 0, .slice none 0 0]) (vs := [.slice none 0 0, .slice none 0 0]) S150 (by kernel_rfl) (by kernel_rfl) rfl (by kernel_rfl) b28 (Nat.le_of_ble_eq_true rfl) (List.forall_mem_cons.2 ⟨rfl, (List.forall_mem_cons.2 ⟨rfl, (fun _ h_ => by cases h_)⟩)⟩) rfl) ?_
      rintro w151 ⟨b152, S153, K154⟩
      clear b28
      refine lv (d := 7) rfl rfl (by kernel_rfl) (e_assign (v := .int .i64 1) rfl) (wpList_nil (then_n (wp_ret (then_r ?_))))
      obtain rfl := Option.some.inj M
      have S155 := S153.unit
      have S156 := S155.unit
      have S157 := S156.pull (F := no) (Fr := [no, (is g27), (is g140), F114, F118, (is g109), (is g22), (is g17)]) 1 rfl rfl
      have S158 := St.first (Fa := [no, no]) (Fr := [(is g27), (is g140), F114, F118, (is g109), (is g22), (is g17)]) S157
      exact retST (ty := 34) (cur := #[.slice none 0 0, .slice none 0 0]) rfl rfl rfl (by kernel_rfl) b152 Try.underlying34 rfl (by kernel_rfl) (show _ = .int .i64 1 from (by kernel_rfl)) ⟨none, 0, no, none, 0, no, H127, rfl, (Row.nil _ _ _ _ no), (Row.nil _ _ _ _ no), S158⟩
    replace M := ifn q149 M
    refine cond_f rfl (bf q149 (by kernel_rfl)) (wp_skip (then_n (wp_seq (wp_region_lit (lv (d := 61) rfl rfl (by kernel_rfl) (e_move (v := .pointer (some ⟨g109, 0, none⟩)) (by kernel_rfl)) (lv (d := 62) rfl rfl (by kernel_rfl) (e_move (v := .int .i64 x10) (by kernel_rfl)) (lv (d := 63) rfl rfl (by kernel_rfl) (e_loadS (b := g140) (off := 0) (cs := [.int .i64 t124.kind, .int .i64 t124.n, .slice A132 t124.text.length c133]) Try.underlying36 rfl (by kernel_rfl) (by kernel_rfl) (blk_cells b145 rfl)) ?_)))))))
    have S159 := S146.pull (F := (is g109)) (Fr := [(is g140), F114, F118, (is g27), (is g22), (is g17)]) 3 rfl rfl
    have S160 := S159.pull (F := F118) (Fr := [(is g109), (is g140), F114, (is g27), (is g22), (is g17)]) 3 rfl rfl
    have S161 := S160.pull (F := F114) (Fr := [F118, (is g109), (is g140), (is g27), (is g22), (is g17)]) 3 rfl rfl
    obtain ⟨t162, u163, M⟩ := bnd M
    refine lcall (d := 64) rfl rfl (by kernel_rfl) (e_call (l := [.tmp 61, .tmp 62, .tmp 63]) (vs := [.pointer (some ⟨g109, 0, none⟩), .int .i64 x10, .agg #[.int .i64 t124.kind, .int .i64 t124.n, .slice A132 t124.text.length c133]]) Try.func61 (by kernel_rfl) rfl (by kernel_rfl) rfl) (spec_l10bind_2.calls k w144 H127 t104 g109 A111 c112 F114 A115 c116 F118 x10 t124 A132 c133 h129 h130 b131 h134 l135 (St.own' (Fa := [F114, F118, (is g109)]) (Fr := [(is g140), (is g27), (is g22), (is g17)]) S161) t162 u163) ?_
    rintro _ w164 ⟨A167, c168, F170, A171, c172, F174, H165, rfl, h169, h173, b175, T166⟩
    refine ⟨_, rfl, ?_⟩
    obtain ⟨S176, K177⟩ := St.call (Fa := [F114, F118, (is g109)]) (Fr := [(is g140), (is g27), (is g22), (is g17)]) S161 T166
    replace b28 := K177.blk 1 rfl b28
    have E178 := T166.ext
    refine lv (d := 10) rfl rfl (by kernel_rfl) (e_assign (v := .int .i64 t162.1) (by kernel_rfl)) (wpList_nil (then_n (wp_seq (wp_seq (wp_region_lit (lv (d := 65) rfl rfl (by kernel_rfl) (e_move (v := .int .i64 t162.1) (by kernel_rfl)) (lv (d := 66) rfl rfl (by kernel_rfl) (e_neq (k := .i64) (a := t162.1) (b := 0) (by kernel_rfl) rfl) ?_)))))))
    refine wpList_nil (then_n ?_)
    by_cases q179 : t162.1 ≠ 0
    · replace M := ifp q179 M
      refine cond_t rfl (bt q179 (by kernel_rfl)) (wp_seq (wp_region_lit (lv (d := 67) rfl rfl (by kernel_rfl) (show _ = Result.ok (Next.value (.agg #[.slice none 0 0, .slice none 0 0])) w164 from by kernel_rfl) (lv (d := 68) rfl rfl (by kernel_rfl) (e_move (v := .int .i64 t162.1) (by kernel_rfl)) ?_))))
      have S180 := S176.pull (F := (is g27)) (Fr := [(is g109), F170, F174, (is g140), (is g22), (is g17)]) 4 rfl rfl
      refine lse rfl rfl (by kernel_rfl) (e_store (g := g27) (o := 0) (v := .agg #[.slice none 0 0, .slice none 0 0]) (cur' := #[.slice none 0 0, .slice none 0 0]) (vs := [.slice none 0 0, .slice none 0 0]) S180 (by kernel_rfl) (by kernel_rfl) rfl (by kernel_rfl) b28 (Nat.le_of_ble_eq_true rfl) (List.forall_mem_cons.2 ⟨rfl, (List.forall_mem_cons.2 ⟨rfl, (fun _ h_ => by cases h_)⟩)⟩) rfl) ?_
      rintro w181 ⟨b182, S183, K184⟩
      clear b28
      refine lv (d := 7) rfl rfl (by kernel_rfl) (e_assign (v := .int .i64 t162.1) (by kernel_rfl)) (wpList_nil (then_n (wp_ret (then_r ?_))))
      obtain rfl := Option.some.inj M
      have S185 := S183.unit
      have S186 := S185.unit
      have S187 := S186.pull (F := no) (Fr := [no, (is g27), (is g109), F170, F174, (is g140), (is g22), (is g17)]) 1 rfl rfl
      have S188 := St.first (Fa := [no, no]) (Fr := [(is g27), (is g109), F170, F174, (is g140), (is g22), (is g17)]) S187
      exact retST (ty := 34) (cur := #[.slice none 0 0, .slice none 0 0]) rfl rfl rfl (by kernel_rfl) b182 Try.underlying34 rfl (by kernel_rfl) (show _ = .int .i64 t162.1 from (by kernel_rfl)) ⟨none, 0, no, none, 0, no, H165, rfl, (Row.nil _ _ _ _ no), (Row.nil _ _ _ _ no), S188⟩
    replace M := ifn q179 M
    refine cond_f rfl (bf q179 (by kernel_rfl)) (wp_skip (then_n (wp_seq (wp_region_lit (lv (d := 69) rfl rfl (by kernel_rfl) (e_move (v := .pointer (some ⟨g109, 0, none⟩)) (by kernel_rfl)) ?_)))))
    have S189 := S176.pull (F := F174) (Fr := [(is g109), F170, (is g140), (is g27), (is g22), (is g17)]) 2 rfl rfl
    have S190 := S189.pull (F := F170) (Fr := [F174, (is g109), (is g140), (is g27), (is g22), (is g17)]) 2 rfl rfl
    obtain ⟨t191, u192, M⟩ := bnd M
    refine lcall (d := 70) rfl rfl (by kernel_rfl) (e_call (l := [.tmp 69]) (vs := [.pointer (some ⟨g109, 0, none⟩)]) Try.func57 (by kernel_rfl) rfl (by kernel_rfl) rfl) (spec_l10close.calls k w164 H165 t162.2 g109 A167 c168 F170 A171 c172 F174 h169 h173 b175 (St.own' (Fa := [F170, F174, (is g109)]) (Fr := [(is g140), (is g27), (is g22), (is g17)]) S190) t191 u192) ?_
    rintro _ w193 ⟨A199, c200, F202, A203, c204, F206, H194, rfl, h196, h197, b198, h201, h205, T195⟩
    refine ⟨_, rfl, ?_⟩
    obtain ⟨S207, K208⟩ := St.call (Fa := [F170, F174, (is g109)]) (Fr := [(is g140), (is g27), (is g22), (is g17)]) S190 T195
    replace b28 := K208.blk 1 rfl b28
    have E209 := T195.ext
    have S210 := S207.pull (F := (is g27)) (Fr := [F170, F174, (is g109), F202, F206, (is g140), (is g22), (is g17)]) 6 rfl rfl
    refine lse rfl rfl (by kernel_rfl) (e_store (g := g27) (o := 0) (v := .agg #[.slice A199 t191.cells.length c200, .slice A203 t191.trail.length c204]) (cur' := #[.slice A199 t191.cells.length c200, .slice A203 t191.trail.length c204]) (vs := [.slice A199 t191.cells.length c200, .slice A203 t191.trail.length c204]) S210 (by kernel_rfl) (by kernel_rfl) rfl (by kernel_rfl) b28 (Nat.le_of_ble_eq_true rfl) (List.forall_mem_cons.2 ⟨rfl, (List.forall_mem_cons.2 ⟨rfl, (fun _ h_ => by cases h_)⟩)⟩) rfl) ?_
    rintro w211 ⟨b212, S213, K214⟩
    replace h201 := h201.move (K214.at 3 rfl)
    replace h205 := h205.move (K214.at 4 rfl)
    clear b28
    refine lv (d := 7) rfl rfl (by kernel_rfl) (e_assign (v := .int .i64 0) rfl) (wpList_nil (then_n (wp_ret ?_)))
    obtain rfl := Option.some.inj M
    have S215 := S213.pull (F := F206) (Fr := [(is g27), F170, F174, (is g109), F202, (is g140), (is g22), (is g17)]) 5 rfl rfl
    have S216 := S215.pull (F := F202) (Fr := [F206, (is g27), F170, F174, (is g109), (is g140), (is g22), (is g17)]) 5 rfl rfl
    have S217 := St.first (Fa := [F202, F206]) (Fr := [(is g27), F170, F174, (is g109), (is g140), (is g22), (is g17)]) S216
    exact retST (ty := 34) (cur := #[.slice A199 t191.cells.length c200, .slice A203 t191.trail.length c204]) rfl rfl rfl (by kernel_rfl) b212 Try.underlying34 rfl (by kernel_rfl) (show _ = .int .i64 0 from (by kernel_rfl)) ⟨A199, c200, F202, A203, c204, F206, H194, rfl, h201, h205, S217⟩
  replace M := ifn q148 M
  refine lskip (t := 54) (c := false) rfl (by kernel_rfl) rfl (bf q148 (by kernel_rfl)) rfl rfl ?_
  refine lskip (t := 54) (c := false) rfl (by kernel_rfl) rfl (bf q148 (by kernel_rfl)) rfl rfl ?_
  refine lskip (t := 54) (c := false) rfl (by kernel_rfl) rfl (bf q148 (by kernel_rfl)) rfl rfl ?_
  refine lskip (t := 54) (c := false) rfl (by kernel_rfl) rfl (bf q148 (by kernel_rfl)) rfl rfl ?_
  refine lv (d := 59) rfl rfl (by kernel_rfl) (e_pick_f (v := .bool false) (bf q148 (by kernel_rfl)) rfl) (wpList_nil (then_n (cond_f rfl (by kernel_rfl) (wp_skip (then_n (wp_seq (wp_region_lit ?_)))))))
  refine lv (d := 61) rfl rfl (by kernel_rfl) (e_move (v := .pointer (some ⟨g109, 0, none⟩)) (by kernel_rfl)) (lv (d := 62) rfl rfl (by kernel_rfl) (e_move (v := .int .i64 x10) (by kernel_rfl)) (lv (d := 63) rfl rfl (by kernel_rfl) (e_loadS (b := g140) (off := 0) (cs := [.int .i64 t124.kind, .int .i64 t124.n, .slice A132 t124.text.length c133]) Try.underlying36 rfl (by kernel_rfl) (by kernel_rfl) (blk_cells b145 rfl)) ?_))
  have S218 := S146.pull (F := (is g109)) (Fr := [(is g140), F114, F118, (is g27), (is g22), (is g17)]) 3 rfl rfl
  have S219 := S218.pull (F := F118) (Fr := [(is g109), (is g140), F114, (is g27), (is g22), (is g17)]) 3 rfl rfl
  have S220 := S219.pull (F := F114) (Fr := [F118, (is g109), (is g140), (is g27), (is g22), (is g17)]) 3 rfl rfl
  obtain ⟨t221, u222, M⟩ := bnd M
  refine lcall (d := 64) rfl rfl (by kernel_rfl) (e_call (l := [.tmp 61, .tmp 62, .tmp 63]) (vs := [.pointer (some ⟨g109, 0, none⟩), .int .i64 x10, .agg #[.int .i64 t124.kind, .int .i64 t124.n, .slice A132 t124.text.length c133]]) Try.func61 (by kernel_rfl) rfl (by kernel_rfl) rfl) (spec_l10bind_2.calls k w144 H127 t104 g109 A111 c112 F114 A115 c116 F118 x10 t124 A132 c133 h129 h130 b131 h134 l135 (St.own' (Fa := [F114, F118, (is g109)]) (Fr := [(is g140), (is g27), (is g22), (is g17)]) S220) t221 u222) ?_
  rintro _ w223 ⟨A226, c227, F229, A230, c231, F233, H224, rfl, h228, h232, b234, T225⟩
  refine ⟨_, rfl, ?_⟩
  obtain ⟨S235, K236⟩ := St.call (Fa := [F114, F118, (is g109)]) (Fr := [(is g140), (is g27), (is g22), (is g17)]) S220 T225
  replace b28 := K236.blk 1 rfl b28
  have E237 := T225.ext
  refine lv (d := 10) rfl rfl (by kernel_rfl) (e_assign (v := .int .i64 t221.1) (by kernel_rfl)) (wpList_nil (then_n (wp_seq (wp_seq (wp_region_lit (lv (d := 65) rfl rfl (by kernel_rfl) (e_move (v := .int .i64 t221.1) (by kernel_rfl)) (lv (d := 66) rfl rfl (by kernel_rfl) (e_neq (k := .i64) (a := t221.1) (b := 0) (by kernel_rfl) rfl) ?_)))))))
  refine wpList_nil (then_n ?_)
  by_cases q238 : t221.1 ≠ 0
  · replace M := ifp q238 M
    refine cond_t rfl (bt q238 (by kernel_rfl)) (wp_seq (wp_region_lit (lv (d := 67) rfl rfl (by kernel_rfl) (show _ = Result.ok (Next.value (.agg #[.slice none 0 0, .slice none 0 0])) w223 from by kernel_rfl) (lv (d := 68) rfl rfl (by kernel_rfl) (e_move (v := .int .i64 t221.1) (by kernel_rfl)) ?_))))
    have S239 := S235.pull (F := (is g27)) (Fr := [(is g109), F229, F233, (is g140), (is g22), (is g17)]) 4 rfl rfl
    refine lse rfl rfl (by kernel_rfl) (e_store (g := g27) (o := 0) (v := .agg #[.slice none 0 0, .slice none 0 0]) (cur' := #[.slice none 0 0, .slice none 0 0]) (vs := [.slice none 0 0, .slice none 0 0]) S239 (by kernel_rfl) (by kernel_rfl) rfl (by kernel_rfl) b28 (Nat.le_of_ble_eq_true rfl) (List.forall_mem_cons.2 ⟨rfl, (List.forall_mem_cons.2 ⟨rfl, (fun _ h_ => by cases h_)⟩)⟩) rfl) ?_
    rintro w240 ⟨b241, S242, K243⟩
    clear b28
    refine lv (d := 7) rfl rfl (by kernel_rfl) (e_assign (v := .int .i64 t221.1) (by kernel_rfl)) (wpList_nil (then_n (wp_ret (then_r ?_))))
    obtain rfl := Option.some.inj M
    have S244 := S242.unit
    have S245 := S244.unit
    have S246 := S245.pull (F := no) (Fr := [no, (is g27), (is g109), F229, F233, (is g140), (is g22), (is g17)]) 1 rfl rfl
    have S247 := St.first (Fa := [no, no]) (Fr := [(is g27), (is g109), F229, F233, (is g140), (is g22), (is g17)]) S246
    exact retST (ty := 34) (cur := #[.slice none 0 0, .slice none 0 0]) rfl rfl rfl (by kernel_rfl) b241 Try.underlying34 rfl (by kernel_rfl) (show _ = .int .i64 t221.1 from (by kernel_rfl)) ⟨none, 0, no, none, 0, no, H224, rfl, (Row.nil _ _ _ _ no), (Row.nil _ _ _ _ no), S247⟩
  replace M := ifn q238 M
  refine cond_f rfl (bf q238 (by kernel_rfl)) (wp_skip (then_n (wp_seq (wp_region_lit (lv (d := 69) rfl rfl (by kernel_rfl) (e_move (v := .pointer (some ⟨g109, 0, none⟩)) (by kernel_rfl)) ?_)))))
  have S248 := S235.pull (F := F233) (Fr := [(is g109), F229, (is g140), (is g27), (is g22), (is g17)]) 2 rfl rfl
  have S249 := S248.pull (F := F229) (Fr := [F233, (is g109), (is g140), (is g27), (is g22), (is g17)]) 2 rfl rfl
  obtain ⟨t250, u251, M⟩ := bnd M
  refine lcall (d := 70) rfl rfl (by kernel_rfl) (e_call (l := [.tmp 69]) (vs := [.pointer (some ⟨g109, 0, none⟩)]) Try.func57 (by kernel_rfl) rfl (by kernel_rfl) rfl) (spec_l10close.calls k w223 H224 t221.2 g109 A226 c227 F229 A230 c231 F233 h228 h232 b234 (St.own' (Fa := [F229, F233, (is g109)]) (Fr := [(is g140), (is g27), (is g22), (is g17)]) S249) t250 u251) ?_
  rintro _ w252 ⟨A258, c259, F261, A262, c263, F265, H253, rfl, h255, h256, b257, h260, h264, T254⟩
  refine ⟨_, rfl, ?_⟩
  obtain ⟨S266, K267⟩ := St.call (Fa := [F229, F233, (is g109)]) (Fr := [(is g140), (is g27), (is g22), (is g17)]) S249 T254
  replace b28 := K267.blk 1 rfl b28
  have E268 := T254.ext
  have S269 := S266.pull (F := (is g27)) (Fr := [F229, F233, (is g109), F261, F265, (is g140), (is g22), (is g17)]) 6 rfl rfl
  refine lse rfl rfl (by kernel_rfl) (e_store (g := g27) (o := 0) (v := .agg #[.slice A258 t250.cells.length c259, .slice A262 t250.trail.length c263]) (cur' := #[.slice A258 t250.cells.length c259, .slice A262 t250.trail.length c263]) (vs := [.slice A258 t250.cells.length c259, .slice A262 t250.trail.length c263]) S269 (by kernel_rfl) (by kernel_rfl) rfl (by kernel_rfl) b28 (Nat.le_of_ble_eq_true rfl) (List.forall_mem_cons.2 ⟨rfl, (List.forall_mem_cons.2 ⟨rfl, (fun _ h_ => by cases h_)⟩)⟩) rfl) ?_
  rintro w270 ⟨b271, S272, K273⟩
  replace h260 := h260.move (K273.at 3 rfl)
  replace h264 := h264.move (K273.at 4 rfl)
  clear b28
  refine lv (d := 7) rfl rfl (by kernel_rfl) (e_assign (v := .int .i64 0) rfl) (wpList_nil (then_n (wp_ret ?_)))
  obtain rfl := Option.some.inj M
  have S274 := S272.pull (F := F265) (Fr := [(is g27), F229, F233, (is g109), F261, (is g140), (is g22), (is g17)]) 5 rfl rfl
  have S275 := S274.pull (F := F261) (Fr := [F265, (is g27), F229, F233, (is g109), (is g140), (is g22), (is g17)]) 5 rfl rfl
  have S276 := St.first (Fa := [F261, F265]) (Fr := [(is g27), F229, F233, (is g109), (is g140), (is g22), (is g17)]) S275
  exact retST (ty := 34) (cur := #[.slice A258 t250.cells.length c259, .slice A262 t250.trail.length c263]) rfl rfl rfl (by kernel_rfl) b271 Try.underlying34 rfl (by kernel_rfl) (show _ = .int .i64 0 from (by kernel_rfl)) ⟨A258, c259, F261, A262, c263, F265, H253, rfl, h260, h264, S276⟩

/-! impl_wordOk -/
def impl_wordOk.l0 (_k : Nat) (x1 : Cell) (x13 : Bool) : Option Bool := (if x13 = true then some (decide ((x1.text.length : Int) = 0)) else (if x1.kind = 1 then (if x1.n ≥ (-1000000000000000) then (if x1.n ≤ 1000000000000000 then some (decide ((x1.text.length : Int) = 0)) else some false) else some false) else (if x1.kind = 2 then (if x1.n = 0 then some (decide ((x1.text.length : Int) ≤ 100)) else some false) else some false)))
def impl_wordOk.f (x1 : Cell) : Option Bool := (if x1.kind = 0 then (impl_wordOk.l0 0 x1 (decide (x1.kind = 0))) else (impl_wordOk.l0 0 x1 (decide (x1.kind = 4))))
theorem impl_wordOk.calls (w : World) (H : Hp) (x1 : Cell) (A2 : Option Addr) (c3 : Nat) (h4 : Rd tByte H A2 x1.text) (l5 : x1.text.length ≤ c3) (S : Own [] H w) (r : Bool) (M : impl_wordOk.f x1 = some r) :
    Calls Try.prog 67 #[.agg #[.int .i64 x1.kind, .int .i64 x1.n, .slice A2 x1.text.length c3]] w (fun e e_w => e = .returned (.bool r) ∧ Chg no w e_w) := by
  rw [impl_wordOk.f] at M
  refine enter (l := [.agg #[.int .i64 x1.kind, .int .i64 x1.n, .slice A2 x1.text.length c3]]) 39 Try.func67 rfl rfl rfl ?_
  have S0_ := S.st
  refine wp_seq (wp_region_lit ?_)
  refine lve (d := 1) rfl rfl (by kernel_rfl) (new_blk (v := fun g_ => .pointer (some ⟨g_, 0, none⟩)) (cs := #[.int .i64 x1.kind, .int .i64 x1.n, .slice A2 x1.text.length c3]) (t := 36) S0_ (by kernel_rfl)) ?_
  rintro _ w6 ⟨g7, rfl, b8, S9, K10⟩
  refine lv (d := 2) rfl rfl (by kernel_rfl) (e_assign (v := .bool false) rfl) (wpList_nil (then_n (wp_seq (wp_seq (wp_region_lit (lv (d := 3) rfl rfl (by kernel_rfl) (e_fieldAddr (b := g7) (off := 0) (o := 0) Try.underlying36 rfl rfl (sz := 1) (by kernel_rfl) (by decide) (by kernel_rfl)) (lv (d := 4) rfl rfl (by kernel_rfl) (e_load1 (ad := ⟨g7, 0 + 0, none⟩) (v := .int .i64 x1.kind) Try.underlying3 rfl (by kernel_rfl) (blk_cell b8 rfl)) ?_)))))))
  refine wpList_nil (then_n (wp_block ?_))
  refine wp_seq_cut (fun a20 w11 => ∃ (f12 : Nat → Value) (x13 : Bool), a20 = mk 39 f12 ∧ f12 1 = .pointer (some ⟨g7, 0, none⟩) ∧ f12 4 = .int .i64 x1.kind ∧ f12 5 = .bool x13 ∧ w11.heap[g7]? = some (.cells #[.int .i64 x1.kind, .int .i64 x1.n, .slice A2 x1.text.length c3] 36 (0, 0)) ∧ St (anyOf []) H w [(is g7)] H w11 ∧ impl_wordOk.l0 0 x1 x13 = some r) ?_ ?_
  · refine wp_seq (wp_region_lit (lv (d := 6) rfl rfl (by kernel_rfl) (e_eql (k := .i64) (a := x1.kind) (b := 0) (by kernel_rfl) rfl) (lv (d := 5) rfl rfl (by kernel_rfl) (e_assign (v := .bool (decide (x1.kind = 0))) (by kernel_rfl)) (wpList_nil (then_n ?_)))))
    by_cases q21 : x1.kind = 0
    · replace M := ifp q21 M
      refine cond_t rfl (bt q21 (by kernel_rfl)) (wp_skip (then_n ?_))
      exact ⟨_, (decide (x1.kind = 0)), rfl, (by kernel_rfl), (by kernel_rfl), (by kernel_rfl), b8, S9, M⟩
    replace M := ifn q21 M
    refine cond_f rfl (bf q21 (by kernel_rfl)) (wp_region_lit (lv (d := 7) rfl rfl (by kernel_rfl) (e_eql (k := .i64) (a := x1.kind) (b := 4) (by kernel_rfl) rfl) (lv (d := 5) rfl rfl (by kernel_rfl) (e_assign (v := .bool (decide (x1.kind = 4))) (by kernel_rfl)) (wpList_nil (then_n ?_)))))
    exact ⟨_, (decide (x1.kind = 4)), rfl, (by kernel_rfl), (by kernel_rfl), (by kernel_rfl), b8, S9, M⟩
  clear M
  rintro a20 w11 ⟨f12, x13, rfl, e14, e15, e16, b8, S17, M⟩
  rw [impl_wordOk.l0] at M
  by_cases q22 : x13 = true
  · replace M := ifp q22 M
    refine cond_t rfl (bvt q22 (by exact e16)) (wp_seq (wp_region_lit (lv (d := 8) rfl rfl (by kernel_rfl) (e_fieldAddr (b := g7) (off := 0) (o := 2) Try.underlying36 rfl rfl (sz := 1) (by kernel_rfl) (by decide) (by exact e14)) (lv (d := 9) rfl rfl (by kernel_rfl) (e_load1 (ad := ⟨g7, 0 + 2, none⟩) (v := .slice A2 x1.text.length c3) Try.underlying26 rfl (by kernel_rfl) (blk_cell b8 rfl)) (lv (d := 10) rfl rfl (by kernel_rfl) (e_len (A := A2) (n := x1.text.length) (c := c3) Try.underlying26 (by kernel_rfl)) (lv (d := 11) rfl rfl (by kernel_rfl) (e_eql (k := .i64) (a := (x1.text.length : Int)) (b := 0) (by kernel_rfl) rfl) (lv (d := 2) rfl rfl (by kernel_rfl) (e_assign (v := .bool (decide ((x1.text.length : Int) = 0))) (by kernel_rfl)) ?_)))))))
    refine wpList_nil (then_n (wp_ret (inb_r (then_r ?_))))
    obtain rfl := Option.some.inj M
    exact ret1 rfl rfl  (show _ = .bool (decide ((x1.text.length : Int) = 0)) from (by kernel_rfl)) ⟨rfl, S17.chg⟩
  replace M := ifn q22 M
  refine cond_f rfl (bvf q22 (by exact e16)) (wp_seq (wp_region_lit (lv (d := 13) rfl rfl (by kernel_rfl) (e_eql (k := .i64) (a := x1.kind) (b := 1) (by exact e15) rfl) (lv (d := 12) rfl rfl (by kernel_rfl) (e_assign (v := .bool (decide (x1.kind = 1))) (by kernel_rfl)) (wpList_nil (then_n ?_))))))
  by_cases q23 : x1.kind = 1
  · replace M := ifp q23 M
    refine cond_t rfl (bt q23 (by kernel_rfl)) (wp_seq (wp_region_lit (lv (d := 14) rfl rfl (by kernel_rfl) (e_fieldAddr (b := g7) (off := 0) (o := 1) Try.underlying36 rfl rfl (sz := 1) (by kernel_rfl) (by decide) (by exact e14)) (lv (d := 15) rfl rfl (by kernel_rfl) (e_load1 (ad := ⟨g7, 0 + 1, none⟩) (v := .int .i64 x1.n) Try.underlying3 rfl (by kernel_rfl) (blk_cell b8 rfl)) (lv (d := 16) rfl rfl (by kernel_rfl) (e_geq (k := .i64) (a := x1.n) (b := (-1000000000000000)) (by kernel_rfl) rfl) (lv (d := 17) rfl rfl (by kernel_rfl) (e_move (v := .bool (decide (x1.n ≥ (-1000000000000000)))) (by kernel_rfl)) ?_))))))
    by_cases q24 : x1.n ≥ (-1000000000000000)
    · replace M := ifp q24 M
      refine lvg (d := 18) (t := 17) rfl (by kernel_rfl) rfl (bt q24 (by kernel_rfl)) rfl (by kernel_rfl) (e_fieldAddr (b := g7) (off := 0) (o := 1) Try.underlying36 rfl rfl (sz := 1) (by kernel_rfl) (by decide) (by exact e14)) (lvg (d := 19) (t := 17) rfl (by kernel_rfl) rfl (bt q24 (by kernel_rfl)) rfl (by kernel_rfl) (e_load1 (ad := ⟨g7, 0 + 1, none⟩) (v := .int .i64 x1.n) Try.underlying3 rfl (by kernel_rfl) (blk_cell b8 rfl)) (lvg (d := 20) (t := 17) rfl (by kernel_rfl) rfl (bt q24 (by kernel_rfl)) rfl (by kernel_rfl) (e_leq (k := .i64) (a := x1.n) (b := 1000000000000000) (by kernel_rfl) rfl) (lv (d := 21) rfl rfl (by kernel_rfl) (e_pick_t (v := .bool (decide (x1.n ≤ 1000000000000000))) (bt q24 (by kernel_rfl)) (by kernel_rfl)) (lv (d := 22) rfl rfl (by kernel_rfl) (e_move (v := .bool (decide (x1.n ≤ 1000000000000000))) (by kernel_rfl)) ?_))))
      by_cases q25 : x1.n ≤ 1000000000000000
      · replace M := ifp q25 M
        refine lvg (d := 23) (t := 22) rfl (by kernel_rfl) rfl (bt q25 (by kernel_rfl)) rfl (by kernel_rfl) (e_fieldAddr (b := g7) (off := 0) (o := 2) Try.underlying36 rfl rfl (sz := 1) (by kernel_rfl) (by decide) (by exact e14)) (lvg (d := 24) (t := 22) rfl (by kernel_rfl) rfl (bt q25 (by kernel_rfl)) rfl (by kernel_rfl) (e_load1 (ad := ⟨g7, 0 + 2, none⟩) (v := .slice A2 x1.text.length c3) Try.underlying26 rfl (by kernel_rfl) (blk_cell b8 rfl)) (lvg (d := 25) (t := 22) rfl (by kernel_rfl) rfl (bt q25 (by kernel_rfl)) rfl (by kernel_rfl) (e_len (A := A2) (n := x1.text.length) (c := c3) Try.underlying26 (by kernel_rfl)) (lvg (d := 26) (t := 22) rfl (by kernel_rfl) rfl (bt q25 (by kernel_rfl)) rfl (by kernel_rfl) (e_eql (k := .i64) (a := (x1.text.length : Int)) (b := 0) (by kernel_rfl) rfl) (lv (d := 27) rfl rfl (by kernel_rfl) (e_pick_t (v := .bool (decide ((x1.text.length : Int) = 0))) (bt q25 (by kernel_rfl)) (by kernel_rfl)) (lv (d := 2) rfl rfl (by kernel_rfl) (e_assign (v := .bool (decide ((x1.text.length : Int) = 0))) (by kernel_rfl)) (wpList_nil (then_n ?_)))))))
        refine wp_ret (inb_r (then_r ?_))
        obtain rfl := Option.some.inj M
        exact ret1 rfl rfl  (show _ = .bool (decide ((x1.text.length : Int) = 0)) from (by kernel_rfl)) ⟨rfl, S17.chg⟩
      replace M := ifn q25 M
      refine lskip (t := 22) (c := false) rfl (by kernel_rfl) rfl (bf q25 (by kernel_rfl)) rfl rfl ?_
      refine lskip (t := 22) (c := false) rfl (by kernel_rfl) rfl (bf q25 (by kernel_rfl)) rfl rfl ?_
      refine lskip (t := 22) (c := false) rfl (by kernel_rfl) rfl (bf q25 (by kernel_rfl)) rfl rfl ?_
      refine lskip (t := 22) (c := false) rfl (by kernel_rfl) rfl (bf q25 (by kernel_rfl)) rfl rfl ?_
      refine lv (d := 27) rfl rfl (by kernel_rfl) (e_pick_f (v := .bool false) (bf q25 (by kernel_rfl)) rfl) (lv (d := 2) rfl rfl (by kernel_rfl) (e_assign (v := .bool false) (by kernel_rfl)) (wpList_nil (then_n (wp_ret (inb_r (then_r ?_))))))
      obtain rfl := Option.some.inj M
      exact ret1 rfl rfl  (show _ = .bool false from (by kernel_rfl)) ⟨rfl, S17.chg⟩
    replace M := ifn q24 M
    refine lskip (t := 17) (c := false) rfl (by kernel_rfl) rfl (bf q24 (by kernel_rfl)) rfl rfl ?_
    refine lskip (t := 17) (c := false) rfl (by kernel_rfl) rfl (bf q24 (by kernel_rfl)) rfl rfl ?_
    refine lskip (t := 17) (c := false) rfl (by kernel_rfl) rfl (bf q24 (by kernel_rfl)) rfl rfl ?_
    refine lv (d := 21) rfl rfl (by kernel_rfl) (e_pick_f (v := .bool false) (bf q24 (by kernel_rfl)) rfl) (lv (d := 22) rfl rfl (by kernel_rfl) (e_move (v := .bool false) (by kernel_rfl)) ?_)
    refine lskip (t := 22) (c := false) rfl (by kernel_rfl) rfl (by kernel_rfl) rfl rfl ?_
    refine lskip (t := 22) (c := false) rfl (by kernel_rfl) rfl (by kernel_rfl) rfl rfl ?_
    refine lskip (t := 22) (c := false) rfl (by kernel_rfl) rfl (by kernel_rfl) rfl rfl ?_
    refine lskip (t := 22) (c := false) rfl (by kernel_rfl) rfl (by kernel_rfl) rfl rfl ?_
    refine lv (d := 27) rfl rfl (by kernel_rfl) (e_pick_f (v := .bool false) (by kernel_rfl) rfl) (lv (d := 2) rfl rfl (by kernel_rfl) (e_assign (v := .bool false) (by kernel_rfl)) (wpList_nil (then_n (wp_ret (inb_r (then_r ?_))))))
    obtain rfl := Option.some.inj M
    exact ret1 rfl rfl  (show _ = .bool false from (by kernel_rfl)) ⟨rfl, S17.chg⟩
  replace M := ifn q23 M
  refine cond_f rfl (bf q23 (by kernel_rfl)) (wp_seq (wp_region_lit (lv (d := 29) rfl rfl (by kernel_rfl) (e_eql (k := .i64) (a := x1.kind) (b := 2) (by exact e15) rfl) (lv (d := 28) rfl rfl (by kernel_rfl) (e_assign (v := .bool (decide (x1.kind = 2))) (by kernel_rfl)) (wpList_nil (then_n ?_))))))
  by_cases q26 : x1.kind = 2
  · replace M := ifp q26 M
    refine cond_t rfl (bt q26 (by kernel_rfl)) (wp_seq (wp_region_lit (lv (d := 30) rfl rfl (by kernel_rfl) (e_fieldAddr (b := g7) (off := 0) (o := 1) Try.underlying36 rfl rfl (sz := 1) (by kernel_rfl) (by decide) (by exact e14)) (lv (d := 31) rfl rfl (by kernel_rfl) (e_load1 (ad := ⟨g7, 0 + 1, none⟩) (v := .int .i64 x1.n) Try.underlying3 rfl (by kernel_rfl) (blk_cell b8 rfl)) (lv (d := 32) rfl rfl (by kernel_rfl) (e_eql (k := .i64) (a := x1.n) (b := 0) (by kernel_rfl) rfl) (lv (d := 33) rfl rfl (by kernel_rfl) (e_move (v := .bool (decide (x1.n = 0))) (by kernel_rfl)) ?_))))))
    by_cases q27 : x1.n = 0
    · replace M := ifp q27 M
      refine lvg (d := 34) (t := 33) rfl (by kernel_rfl) rfl (bt q27 (by kernel_rfl)) rfl (by kernel_rfl) (e_fieldAddr (b := g7) (off := 0) (o := 2) Try.underlying36 rfl rfl (sz := 1) (by kernel_rfl) (by decide) (by exact e14)) (lvg (d := 35) (t := 33) rfl (by kernel_rfl) rfl (bt q27 (by kernel_rfl)) rfl (by kernel_rfl) (e_load1 (ad := ⟨g7, 0 + 2, none⟩) (v := .slice A2 x1.text.length c3) Try.underlying26 rfl (by kernel_rfl) (blk_cell b8 rfl)) (lvg (d := 36) (t := 33) rfl (by kernel_rfl) rfl (bt q27 (by kernel_rfl)) rfl (by kernel_rfl) (e_len (A := A2) (n := x1.text.length) (c := c3) Try.underlying26 (by kernel_rfl)) (lvg (d := 37) (t := 33) rfl (by kernel_rfl) rfl (bt q27 (by kernel_rfl)) rfl (by kernel_rfl) (e_leq (k := .i64) (a := (x1.text.length : Int)) (b := 100) (by kernel_rfl) rfl) (lv (d := 38) rfl rfl (by kernel_rfl) (e_pick_t (v := .bool (decide ((x1.text.length : Int) ≤ 100))) (bt q27 (by kernel_rfl)) (by kernel_rfl)) (lv (d := 2) rfl rfl (by kernel_rfl) (e_assign (v := .bool (decide ((x1.text.length : Int) ≤ 100))) (by kernel_rfl)) (wpList_nil (then_n ?_)))))))
      refine wp_ret (inb_r (then_r ?_))
      obtain rfl := Option.some.inj M
      exact ret1 rfl rfl  (show _ = .bool (decide ((x1.text.length : Int) ≤ 100)) from (by kernel_rfl)) ⟨rfl, S17.chg⟩
    replace M := ifn q27 M
    refine lskip (t := 33) (c := false) rfl (by kernel_rfl) rfl (bf q27 (by kernel_rfl)) rfl rfl ?_
    refine lskip (t := 33) (c := false) rfl (by kernel_rfl) rfl (bf q27 (by kernel_rfl)) rfl rfl ?_
    refine lskip (t := 33) (c := false) rfl (by kernel_rfl) rfl (bf q27 (by kernel_rfl)) rfl rfl ?_
    refine lskip (t := 33) (c := false) rfl (by kernel_rfl) rfl (bf q27 (by kernel_rfl)) rfl rfl ?_
    refine lv (d := 38) rfl rfl (by kernel_rfl) (e_pick_f (v := .bool false) (bf q27 (by kernel_rfl)) rfl) (lv (d := 2) rfl rfl (by kernel_rfl) (e_assign (v := .bool false) (by kernel_rfl)) (wpList_nil (then_n (wp_ret (inb_r (then_r ?_))))))
    obtain rfl := Option.some.inj M
    exact ret1 rfl rfl  (show _ = .bool false from (by kernel_rfl)) ⟨rfl, S17.chg⟩
  replace M := ifn q26 M
  refine cond_f rfl (bf q26 (by kernel_rfl)) (wp_skip (inb_n (then_n (wp_seq (wp_region_lit (lv (d := 2) rfl rfl (by kernel_rfl) (e_assign (v := .bool false) rfl) (wpList_nil ?_)))))))
  refine then_n (wp_ret ?_)
  obtain rfl := Option.some.inj M
  exact ret1 rfl rfl  (show _ = .bool false from (by kernel_rfl)) ⟨rfl, S17.chg⟩

/-! impl_Store_points -/
def impl_Store_points.f (x1 : Store) (x10 : Cell) : Option Bool := ((impl_wordOk.f x10).bind fun t25 => (if ¬ (t25 = true) then some false else (if x10.kind = 0 then (if x10.n ≥ 0 then (if x10.n < (x1.cells.length : Int) then (if 0 ≤ x10.n then some (decide (((x1.cells.getD ((x10.n).toNat) z36).kind) ≠ 3)) else none) else some false) else some false) else (if x10.kind = 4 then (if x10.n ≥ 0 then (if x10.n < (x1.cells.length : Int) then (if 0 ≤ x10.n then some (decide (((x1.cells.getD ((x10.n).toNat) z36).kind) = 3)) else none) else some false) else some false) else some true))))
theorem impl_Store_points.calls (w : World) (H : Hp) (x1 : Store) (A2 : Option Addr) (c3 : Nat) (A6 : Option Addr) (c7 : Nat) (x10 : Cell) (A11 : Option Addr) (c12 : Nat) (h4 : Rd st36 H A2 x1.cells) (l5 : x1.cells.length ≤ c3) (h8 : Rd tInt H A6 x1.trail) (l9 : x1.trail.length ≤ c7) (h13 : Rd tByte H A11 x10.text) (l14 : x10.text.length ≤ c12) (S : Own [] H w) (r : Bool) (M : impl_Store_points.f x1 x10 = some r) :
    Calls Try.prog 43 #[.agg #[.slice A2 x1.cells.length c3, .slice A6 x1.trail.length c7], .agg #[.int .i64 x10.kind, .int .i64 x10.n, .slice A11 x10.text.length c12]] w (fun e e_w => e = .returned (.bool r) ∧ Chg no w e_w) := by
  rw [impl_Store_points.f] at M
  refine enter (l := [.agg #[.slice A2 x1.cells.length c3, .slice A6 x1.trail.length c7], .agg #[.int .i64 x10.kind, .int .i64 x10.n, .slice A11 x10.text.length c12]]) 56 Try.func43 rfl rfl rfl ?_
  have S0_ := S.st
  refine wp_seq (wp_region_lit ?_)
  refine lve (d := 2) rfl rfl (by kernel_rfl) (new_blk (v := fun g_ => .pointer (some ⟨g_, 0, none⟩)) (cs := #[.slice A2 x1.cells.length c3, .slice A6 x1.trail.length c7]) (t := 34) S0_ (by kernel_rfl)) ?_
  rintro _ w15 ⟨g16, rfl, b17, S18, K19⟩
  refine lve (d := 3) rfl rfl (by kernel_rfl) (new_blk (v := fun g_ => .pointer (some ⟨g_, 0, none⟩)) (cs := #[.int .i64 x10.kind, .int .i64 x10.n, .slice A11 x10.text.length c12]) (t := 36) S18 (by kernel_rfl)) ?_
  rintro _ w20 ⟨g21, rfl, b22, S23, K24⟩
  replace b17 := K24.blk 0 rfl b17
  refine lv (d := 4) rfl rfl (by kernel_rfl) (e_assign (v := .bool false) rfl) (wpList_nil (then_n (wp_seq (wp_seq (wp_region_lit (lv (d := 5) rfl rfl (by kernel_rfl) (e_loadS (b := g21) (off := 0) (cs := [.int .i64 x10.kind, .int .i64 x10.n, .slice A11 x10.text.length c12]) Try.underlying36 rfl (by kernel_rfl) (by kernel_rfl) (blk_cells b22 rfl)) ?_))))))
  obtain ⟨t25, u26, M⟩ := bnd M
  refine lcall (d := 6) rfl rfl (by kernel_rfl) (e_call (l := [.tmp 5]) (vs := [.agg #[.int .i64 x10.kind, .int .i64 x10.n, .slice A11 x10.text.length c12]]) Try.func67 (by kernel_rfl) rfl (by kernel_rfl) rfl) (impl_wordOk.calls w20 H x10 A11 c12 h13 l14 S23.own0 t25 u26) ?_
  rintro _ w27 ⟨rfl, C28⟩
  refine ⟨_, rfl, ?_⟩
  obtain ⟨S29, K30⟩ := S23.still C28
  replace b22 := K30.blk 0 rfl b22
  replace b17 := K30.blk 1 rfl b17
  refine lv (d := 7) rfl rfl (by kernel_rfl) (e_notv (c := t25) (by kernel_rfl)) (wpList_nil (then_n ?_))
  by_cases q31 : ¬ (t25 = true)
  · replace M := ifp q31 M
    refine cond_t rfl (bt q31 (by kernel_rfl)) (wp_seq (wp_region_lit (lv (d := 4) rfl rfl (by kernel_rfl) (e_assign (v := .bool false) rfl) (wpList_nil (then_n (wp_ret (then_r ?_)))))))
    obtain rfl := Option.some.inj M
    exact ret1 rfl rfl  (show _ = .bool false from (by kernel_rfl)) ⟨rfl, S29.chg⟩
  replace M := ifn q31 M
  refine cond_f rfl (bf q31 (by kernel_rfl)) (wp_skip (then_n (wp_seq (wp_seq (wp_region_lit (lv (d := 8) rfl rfl (by kernel_rfl) (e_fieldAddr (b := g21) (off := 0) (o := 0) Try.underlying36 rfl rfl (sz := 1) (by kernel_rfl) (by decide) (by kernel_rfl)) (lv (d := 9) rfl rfl (by kernel_rfl) (e_load1 (ad := ⟨g21, 0 + 0, none⟩) (v := .int .i64 x10.kind) Try.underlying3 rfl (by kernel_rfl) (blk_cell b22 rfl)) ?_)))))))
  refine wpList_nil (then_n (wp_block (wp_seq (wp_region_lit (lv (d := 11) rfl rfl (by kernel_rfl) (e_eql (k := .i64) (a := x10.kind) (b := 0) (by kernel_rfl) rfl) (lv (d := 10) rfl rfl (by kernel_rfl) (e_assign (v := .bool (decide (x10.kind = 0))) (by kernel_rfl)) (wpList_nil ?_)))))))
  refine then_n ?_
  by_cases q32 : x10.kind = 0
  · replace M := ifp q32 M
    refine cond_t rfl (bt q32 (by kernel_rfl)) (wp_seq (wp_region_lit (lv (d := 12) rfl rfl (by kernel_rfl) (e_fieldAddr (b := g21) (off := 0) (o := 1) Try.underlying36 rfl rfl (sz := 1) (by kernel_rfl) (by decide) (by kernel_rfl)) (lv (d := 13) rfl rfl (by kernel_rfl) (e_load1 (ad := ⟨g21, 0 + 1, none⟩) (v := .int .i64 x10.n) Try.underlying3 rfl (by kernel_rfl) (blk_cell b22 rfl)) (lv (d := 14) rfl rfl (by kernel_rfl) (e_geq (k := .i64) (a := x10.n) (b := 0) (by kernel_rfl) rfl) (lv (d := 15) rfl rfl (by kernel_rfl) (e_move (v := .bool (decide (x10.n ≥ 0))) (by kernel_rfl)) ?_))))))
    by_cases q33 : x10.n ≥ 0
    · replace M := ifp q33 M
      refine lvg (d := 16) (t := 15) rfl (by kernel_rfl) rfl (bt q33 (by kernel_rfl)) rfl (by kernel_rfl) (e_fieldAddr (b := g21) (off := 0) (o := 1) Try.underlying36 rfl rfl (sz := 1) (by kernel_rfl) (by decide) (by kernel_rfl)) (lvg (d := 17) (t := 15) rfl (by kernel_rfl) rfl (bt q33 (by kernel_rfl)) rfl (by kernel_rfl) (e_load1 (ad := ⟨g21, 0 + 1, none⟩) (v := .int .i64 x10.n) Try.underlying3 rfl (by kernel_rfl) (blk_cell b22 rfl)) (lvg (d := 18) (t := 15) rfl (by kernel_rfl) rfl (bt q33 (by kernel_rfl)) rfl (by kernel_rfl) (e_fieldAddr (b := g16) (off := 0) (o := 0) Try.underlying34 rfl rfl (sz := 1) (by kernel_rfl) (by decide) (by kernel_rfl)) (lvg (d := 19) (t := 15) rfl (by kernel_rfl) rfl (bt q33 (by kernel_rfl)) rfl (by kernel_rfl) (e_load1 (ad := ⟨g16, 0 + 0, none⟩) (v := .slice A2 x1.cells.length c3) Try.underlying32 rfl (by kernel_rfl) (blk_cell b17 rfl)) (lvg (d := 20) (t := 15) rfl (by kernel_rfl) rfl (bt q33 (by kernel_rfl)) rfl (by kernel_rfl) (e_len (A := A2) (n := x1.cells.length) (c := c3) Try.underlying32 (by kernel_rfl)) (lvg (d := 21) (t := 15) rfl (by kernel_rfl) rfl (bt q33 (by kernel_rfl)) rfl (by kernel_rfl) (e_lss (k := .i64) (a := x10.n) (b := (x1.cells.length : Int)) (by kernel_rfl) (by kernel_rfl)) (lv (d := 22) rfl rfl (by kernel_rfl) (e_pick_t (v := .bool (decide (x10.n < (x1.cells.length : Int)))) (bt q33 (by kernel_rfl)) (by kernel_rfl)) (lv (d := 23) rfl rfl (by kernel_rfl) (e_move (v := .bool (decide (x10.n < (x1.cells.length : Int)))) (by kernel_rfl)) ?_)))))))
      by_cases q34 : x10.n < (x1.cells.length : Int)
      · replace M := ifp q34 M
        refine lvg (d := 24) (t := 23) rfl (by kernel_rfl) rfl (bt q34 (by kernel_rfl)) rfl (by kernel_rfl) (e_fieldAddr (b := g16) (off := 0) (o := 0) Try.underlying34 rfl rfl (sz := 1) (by kernel_rfl) (by decide) (by kernel_rfl)) (lvg (d := 25) (t := 23) rfl (by kernel_rfl) rfl (bt q34 (by kernel_rfl)) rfl (by kernel_rfl) (e_load1 (ad := ⟨g16, 0 + 0, none⟩) (v := .slice A2 x1.cells.length c3) Try.underlying32 rfl (by kernel_rfl) (blk_cell b17 rfl)) (lvg (d := 26) (t := 23) rfl (by kernel_rfl) rfl (bt q34 (by kernel_rfl)) rfl (by kernel_rfl) (e_fieldAddr (b := g21) (off := 0) (o := 1) Try.underlying36 rfl rfl (sz := 1) (by kernel_rfl) (by decide) (by kernel_rfl)) (lvg (d := 27) (t := 23) rfl (by kernel_rfl) rfl (bt q34 (by kernel_rfl)) rfl (by kernel_rfl) (e_load1 (ad := ⟨g21, 0 + 1, none⟩) (v := .int .i64 x10.n) Try.underlying3 rfl (by kernel_rfl) (blk_cell b22 rfl)) ?_)))
        obtain ⟨q35, M⟩ := chk M
        obtain ⟨b36, o37, e38⟩ := Rd.addr h4 (show (x10.n).toNat < x1.cells.length by omega)
        obtain ⟨y39, r40, k41⟩ := Rd.at h4 e38 (getD_some z36 (show (x10.n).toNat < x1.cells.length by omega))
        obtain ⟨A42, c43, rfl, l44, h45⟩ := st36_open r40
        refine lvg (d := 28) (t := 23) rfl (by kernel_rfl) rfl (bt q34 (by kernel_rfl)) rfl (by kernel_rfl) (e_indexAddr (b := b36) (off := o37) (n := x1.cells.length) (c := c3) (sz := 3) (i := x10.n) (k := .i64) Try.underlying32 e38 (by kernel_rfl) (by kernel_rfl) (by kernel_rfl) q35 q34) (lvg (d := 29) (t := 23) rfl (by kernel_rfl) rfl (bt q34 (by kernel_rfl)) rfl (by kernel_rfl) (e_fieldAddr (b := b36) (off := o37 + (x10.n : Int).toNat * 3) (o := 0) Try.underlying36 rfl rfl (sz := 1) (by kernel_rfl) (by decide) (by kernel_rfl)) (lvg (d := 30) (t := 23) rfl (by kernel_rfl) rfl (bt q34 (by kernel_rfl)) rfl (by kernel_rfl) (e_load1 (ad := ⟨b36, o37 + (x10.n : Int).toNat * 3 + 0, none⟩) (v := .int .i64 ((x1.cells.getD ((x10.n).toNat) z36).kind)) Try.underlying3 rfl (by kernel_rfl) (hpx (S29.inv.cell (k41 0 _ rfl)))) (lvg (d := 31) (t := 23) rfl (by kernel_rfl) rfl (bt q34 (by kernel_rfl)) rfl (by kernel_rfl) (e_neq (k := .i64) (a := (x1.cells.getD ((x10.n).toNat) z36).kind) (b := 3) (by kernel_rfl) rfl) (lv (d := 32) rfl rfl (by kernel_rfl) (e_pick_t (v := .bool (decide (((x1.cells.getD ((x10.n).toNat) z36).kind) ≠ 3))) (bt q34 (by kernel_rfl)) (by kernel_rfl)) (lv (d := 4) rfl rfl (by kernel_rfl) (e_assign (v := .bool (decide (((x1.cells.getD ((x10.n).toNat) z36).kind) ≠ 3))) (by kernel_rfl)) (wpList_nil (then_n ?_)))))))
        refine wp_ret (inb_r (then_r ?_))
        obtain rfl := Option.some.inj M
        exact ret1 rfl rfl  (show _ = .bool (decide (((x1.cells.getD ((x10.n).toNat) z36).kind) ≠ 3)) from (by kernel_rfl)) ⟨rfl, S29.chg⟩
      replace M := ifn q34 M
      refine lskip (t := 23) (c := false) rfl (by kernel_rfl) rfl (bf q34 (by kernel_rfl)) rfl rfl ?_
      refine lskip (t := 23) (c := false) rfl (by kernel_rfl) rfl (bf q34 (by kernel_rfl)) rfl rfl ?_
      refine lskip (t := 23) (c := false) rfl (by kernel_rfl) rfl (bf q34 (by kernel_rfl)) rfl rfl ?_
      refine lskip (t := 23) (c := false) rfl (by kernel_rfl) rfl (bf q34 (by kernel_rfl)) rfl rfl ?_
      refine lskip (t := 23) (c := false) rfl (by kernel_rfl) rfl (bf q34 (by kernel_rfl)) rfl rfl ?_
      refine lskip (t := 23) (c := false) rfl (by kernel_rfl) rfl (bf q34 (by kernel_rfl)) rfl rfl ?_
      refine lskip (t := 23) (c := false) rfl (by kernel_rfl) rfl (bf q34 (by kernel_rfl)) rfl rfl ?_
      refine lskip (t := 23) (c := false) rfl (by kernel_rfl) rfl (bf q34 (by kernel_rfl)) rfl rfl ?_
      refine lv (d := 32) rfl rfl (by kernel_rfl) (e_pick_f (v := .bool false) (bf q34 (by kernel_rfl)) rfl) (lv (d := 4) rfl rfl (by kernel_rfl) (e_assign (v := .bool false) (by kernel_rfl)) (wpList_nil (then_n (wp_ret (inb_r (then_r ?_))))))
      obtain rfl := Option.some.inj M
      exact ret1 rfl rfl  (show _ = .bool false from (by kernel_rfl)) ⟨rfl, S29.chg⟩
    replace M := ifn q33 M
    refine lskip (t := 15) (c := false) rfl (by kernel_rfl) rfl (bf q33 (by kernel_rfl)) rfl rfl ?_
    refine lskip (t := 15) (c := false) rfl (by kernel_rfl) rfl (bf q33 (by kernel_rfl)) rfl rfl ?_
    refine lskip (t := 15) (c := false) rfl (by kernel_rfl) rfl (bf q33 (by kernel_rfl)) rfl rfl ?_
    refine lskip (t := 15) (c := false) rfl (by kernel_rfl) rfl (bf q33 (by kernel_rfl)) rfl rfl ?_
    refine lskip (t := 15) (c := false) rfl (by kernel_rfl) rfl (bf q33 (by kernel_rfl)) rfl rfl ?_
    refine lskip (t := 15) (c := false) rfl (by kernel_rfl) rfl (bf q33 (by kernel_rfl)) rfl rfl ?_
    refine lv (d := 22) rfl rfl (by kernel_rfl) (e_pick_f (v := .bool false) (bf q33 (by kernel_rfl)) rfl) (lv (d := 23) rfl rfl (by kernel_rfl) (e_move (v := .bool false) (by kernel_rfl)) ?_)
    refine lskip (t := 23) (c := false) rfl (by kernel_rfl) rfl (by kernel_rfl) rfl rfl ?_
    refine lskip (t := 23) (c := false) rfl (by kernel_rfl) rfl (by kernel_rfl) rfl rfl ?_
    refine lskip (t := 23) (c := false) rfl (by kernel_rfl) rfl (by kernel_rfl) rfl rfl ?_
    refine lskip (t := 23) (c := false) rfl (by kernel_rfl) rfl (by kernel_rfl) rfl rfl ?_
    refine lskip (t := 23) (c := false) rfl (by kernel_rfl) rfl (by kernel_rfl) rfl rfl ?_
    refine lskip (t := 23) (c := false) rfl (by kernel_rfl) rfl (by kernel_rfl) rfl rfl ?_
    refine lskip (t := 23) (c := false) rfl (by kernel_rfl) rfl (by kernel_rfl) rfl rfl ?_
    refine lskip (t := 23) (c := false) rfl (by kernel_rfl) rfl (by kernel_rfl) rfl rfl ?_
    refine lv (d := 32) rfl rfl (by kernel_rfl) (e_pick_f (v := .bool false) (by kernel_rfl) rfl) (lv (d := 4) rfl rfl (by kernel_rfl) (e_assign (v := .bool false) (by kernel_rfl)) (wpList_nil (then_n (wp_ret (inb_r (then_r ?_))))))
    obtain rfl := Option.some.inj M
    exact ret1 rfl rfl  (show _ = .bool false from (by kernel_rfl)) ⟨rfl, S29.chg⟩
  replace M := ifn q32 M
  refine cond_f rfl (bf q32 (by kernel_rfl)) (wp_seq (wp_region_lit (lv (d := 34) rfl rfl (by kernel_rfl) (e_eql (k := .i64) (a := x10.kind) (b := 4) (by kernel_rfl) rfl) (lv (d := 33) rfl rfl (by kernel_rfl) (e_assign (v := .bool (decide (x10.kind = 4))) (by kernel_rfl)) (wpList_nil (then_n ?_))))))
  by_cases q46 : x10.kind = 4
  · replace M := ifp q46 M
    refine cond_t rfl (bt q46 (by kernel_rfl)) (wp_seq (wp_region_lit (lv (d := 35) rfl rfl (by kernel_rfl) (e_fieldAddr (b := g21) (off := 0) (o := 1) Try.underlying36 rfl rfl (sz := 1) (by kernel_rfl) (by decide) (by kernel_rfl)) (lv (d := 36) rfl rfl (by kernel_rfl) (e_load1 (ad := ⟨g21, 0 + 1, none⟩) (v := .int .i64 x10.n) Try.underlying3 rfl (by kernel_rfl) (blk_cell b22 rfl)) (lv (d := 37) rfl rfl (by kernel_rfl) (e_geq (k := .i64) (a := x10.n) (b := 0) (by kernel_rfl) rfl) (lv (d := 38) rfl rfl (by kernel_rfl) (e_move (v := .bool (decide (x10.n ≥ 0))) (by kernel_rfl)) ?_))))))
    by_cases q47 : x10.n ≥ 0
    · replace M := ifp q47 M
      refine lvg (d := 39) (t := 38) rfl (by kernel_rfl) rfl (bt q47 (by kernel_rfl)) rfl (by kernel_rfl) (e_fieldAddr (b := g21) (off := 0) (o := 1) Try.underlying36 rfl rfl (sz := 1) (by kernel_rfl) (by decide) (by kernel_rfl)) (lvg (d := 40) (t := 38) rfl (by kernel_rfl) rfl (bt q47 (by kernel_rfl)) rfl (by kernel_rfl) (e_load1 (ad := ⟨g21, 0 + 1, none⟩) (v := .int .i64 x10.n) Try.underlying3 rfl (by kernel_rfl) (blk_cell b22 rfl)) (lvg (d := 41) (t := 38) rfl (by kernel_rfl) rfl (bt q47 (by kernel_rfl)) rfl (by kernel_rfl) (e_fieldAddr (b := g16) (off := 0) (o := 0) Try.underlying34 rfl rfl (sz := 1) (by kernel_rfl) (by decide) (by kernel_rfl)) (lvg (d := 42) (t := 38) rfl (by kernel_rfl) rfl (bt q47 (by kernel_rfl)) rfl (by kernel_rfl) (e_load1 (ad := ⟨g16, 0 + 0, none⟩) (v := .slice A2 x1.cells.length c3) Try.underlying32 rfl (by kernel_rfl) (blk_cell b17 rfl)) (lvg (d := 43) (t := 38) rfl (by kernel_rfl) rfl (bt q47 (by kernel_rfl)) rfl (by kernel_rfl) (e_len (A := A2) (n := x1.cells.length) (c := c3) Try.underlying32 (by kernel_rfl)) (lvg (d := 44) (t := 38) rfl (by kernel_rfl) rfl (bt q47 (by kernel_rfl)) rfl (by kernel_rfl) (e_lss (k := .i64) (a := x10.n) (b := (x1.cells.length : Int)) (by kernel_rfl) (by kernel_rfl)) (lv (d := 45) rfl rfl (by kernel_rfl) (e_pick_t (v := .bool (decide (x10.n < (x1.cells.length : Int)))) (bt q47 (by kernel_rfl)) (by kernel_rfl)) (lv (d := 46) rfl rfl (by kernel_rfl) (e_move (v := .bool (decide (x10.n < (x1.cells.length : Int)))) (by kernel_rfl)) ?_)))))))
      by_cases q48 : x10.n < (x1.cells.length : Int)
      · replace M := ifp q48 M
        refine lvg (d := 47) (t := 46) rfl (by kernel_rfl) rfl (bt q48 (by kernel_rfl)) rfl (by kernel_rfl) (e_fieldAddr (b := g16) (off := 0) (o := 0) Try.underlying34 rfl rfl (sz := 1) (by kernel_rfl) (by decide) (by kernel_rfl)) (lvg (d := 48) (t := 46) rfl (by kernel_rfl) rfl (bt q48 (by kernel_rfl)) rfl (by kernel_rfl) (e_load1 (ad := ⟨g16, 0 + 0, none⟩) (v := .slice A2 x1.cells.length c3) Try.underlying32 rfl (by kernel_rfl) (blk_cell b17 rfl)) (lvg (d := 49) (t := 46) rfl (by kernel_rfl) rfl (bt q48 (by kernel_rfl)) rfl (by kernel_rfl) (e_fieldAddr (b := g21) (off := 0) (o := 1) Try.underlying36 rfl rfl (sz := 1) (by kernel_rfl) (by decide) (by kernel_rfl)) (lvg (d := 50) (t := 46) rfl (by kernel_rfl) rfl (bt q48 (by kernel_rfl)) rfl (by kernel_rfl) (e_load1 (ad := ⟨g21, 0 + 1, none⟩) (v := .int .i64 x10.n) Try.underlying3 rfl (by kernel_rfl) (blk_cell b22 rfl)) ?_)))
        obtain ⟨q49, M⟩ := chk M
        obtain ⟨b50, o51, e52⟩ := Rd.addr h4 (show (x10.n).toNat < x1.cells.length by omega)
        obtain ⟨y53, r54, k55⟩ := Rd.at h4 e52 (getD_some z36 (show (x10.n).toNat < x1.cells.length by omega))
        obtain ⟨A56, c57, rfl, l58, h59⟩ := st36_open r54
        refine lvg (d := 51) (t := 46) rfl (by kernel_rfl) rfl (bt q48 (by kernel_rfl)) rfl (by kernel_rfl) (e_indexAddr (b := b50) (off := o51) (n := x1.cells.length) (c := c3) (sz := 3) (i := x10.n) (k := .i64) Try.underlying32 e52 (by kernel_rfl) (by kernel_rfl) (by kernel_rfl) q49 q48) (lvg (d := 52) (t := 46) rfl (by kernel_rfl) rfl (bt q48 (by kernel_rfl)) rfl (by kernel_rfl) (e_fieldAddr (b := b50) (off := o51 + (x10.n : Int).toNat * 3) (o := 0) Try.underlying36 rfl rfl (sz := 1) (by kernel_rfl) (by decide) (by kernel_rfl)) (lvg (d := 53) (t := 46) rfl (by kernel_rfl) rfl (bt q48 (by kernel_rfl)) rfl (by kernel_rfl) (e_load1 (ad := ⟨b50, o51 + (x10.n : Int).toNat * 3 + 0, none⟩) (v := .int .i64 ((x1.cells.getD ((x10.n).toNat) z36).kind)) Try.underlying3 rfl (by kernel_rfl) (hpx (S29.inv.cell (k55 0 _ rfl)))) (lvg (d := 54) (t := 46) rfl (by kernel_rfl) rfl (bt q48 (by kernel_rfl)) rfl (by kernel_rfl) (e_eql (k := .i64) (a := (x1.cells.getD ((x10.n).toNat) z36).kind) (b := 3) (by kernel_rfl) rfl) (lv (d := 55) rfl rfl (by kernel_rfl) (e_pick_t (v := .bool (decide (((x1.cells.getD ((x10.n).toNat) z36).kind) = 3))) (bt q48 (by kernel_rfl)) (by kernel_rfl)) (lv (d := 4) rfl rfl (by kernel_rfl) (e_assign (v := .bool (decide (((x1.cells.getD ((x10.n).toNat) z36).kind) = 3))) (by kernel_rfl)) (wpList_nil (then_n ?_)))))))
        refine wp_ret (inb_r (then_r ?_))
        obtain rfl := Option.some.inj M
        exact ret1 rfl rfl  (show _ = .bool (decide (((x1.cells.getD ((x10.n).toNat) z36).kind) = 3)) from (by kernel_rfl)) ⟨rfl, S29.chg⟩
      replace M := ifn q48 M
      refine lskip (t := 46) (c := false) rfl (by kernel_rfl) rfl (bf q48 (by kernel_rfl)) rfl rfl ?_
      refine lskip (t := 46) (c := false) rfl (by kernel_rfl) rfl (bf q48 (by kernel_rfl)) rfl rfl ?_
      refine lskip (t := 46) (c := false) rfl (by kernel_rfl) rfl (bf q48 (by kernel_rfl)) rfl rfl ?_
      refine lskip (t := 46) (c := false) rfl (by kernel_rfl) rfl (bf q48 (by kernel_rfl)) rfl rfl ?_
      refine lskip (t := 46) (c := false) rfl (by kernel_rfl) rfl (bf q48 (by kernel_rfl)) rfl rfl ?_
      refine lskip (t := 46) (c := false) rfl (by kernel_rfl) rfl (bf q48 (by kernel_rfl)) rfl rfl ?_
      refine lskip (t := 46) (c := false) rfl (by kernel_rfl) rfl (bf q48 (by kernel_rfl)) rfl rfl ?_
      refine lskip (t := 46) (c := false) rfl (by kernel_rfl) rfl (bf q48 (by kernel_rfl)) rfl rfl ?_
      refine lv (d := 55) rfl rfl (by kernel_rfl) (e_pick_f (v := .bool false) (bf q48 (by kernel_rfl)) rfl) (lv (d := 4) rfl rfl (by kernel_rfl) (e_assign (v := .bool false) (by kernel_rfl)) (wpList_nil (then_n (wp_ret (inb_r (then_r ?_))))))
      obtain rfl := Option.some.inj M
      exact ret1 rfl rfl  (show _ = .bool false from (by kernel_rfl)) ⟨rfl, S29.chg⟩
    replace M := ifn q47 M
    refine lskip (t := 38) (c := false) rfl (by kernel_rfl) rfl (bf q47 (by kernel_rfl)) rfl rfl ?_
    refine lskip (t := 38) (c := false) rfl (by kernel_rfl) rfl (bf q47 (by kernel_rfl)) rfl rfl ?_
    refine lskip (t := 38) (c := false) rfl (by kernel_rfl) rfl (bf q47 (by kernel_rfl)) rfl rfl ?_
    refine lskip (t := 38) (c := false) rfl (by kernel_rfl) rfl (bf q47 (by kernel_rfl)) rfl rfl ?_
    refine lskip (t := 38) (c := false) rfl (by kernel_rfl) rfl (bf q47 (by kernel_rfl)) rfl rfl ?_
    refine lskip (t := 38) (c := false) rfl (by kernel_rfl) rfl (bf q47 (by kernel_rfl)) rfl rfl ?_
    refine lv (d := 45) rfl rfl (by kernel_rfl) (e_pick_f (v := .bool false) (bf q47 (by kernel_rfl)) rfl) (lv (d := 46) rfl rfl (by kernel_rfl) (e_move (v := .bool false) (by kernel_rfl)) ?_)
    refine lskip (t := 46) (c := false) rfl (by kernel_rfl) rfl (by kernel_rfl) rfl rfl ?_
    refine lskip (t := 46) (c := false) rfl (by kernel_rfl) rfl (by kernel_rfl) rfl rfl ?_
    refine lskip (t := 46) (c := false) rfl (by kernel_rfl) rfl (by kernel_rfl) rfl rfl ?_
    refine lskip (t := 46) (c := false) rfl (by kernel_rfl) rfl (by kernel_rfl) rfl rfl ?_
    refine lskip (t := 46) (c := false) rfl (by kernel_rfl) rfl (by kernel_rfl) rfl rfl ?_
    refine lskip (t := 46) (c := false) rfl (by kernel_rfl) rfl (by kernel_rfl) rfl rfl ?_
    refine lskip (t := 46) (c := false) rfl (by kernel_rfl) rfl (by kernel_rfl) rfl rfl ?_
    refine lskip (t := 46) (c := false) rfl (by kernel_rfl) rfl (by kernel_rfl) rfl rfl ?_
    refine lv (d := 55) rfl rfl (by kernel_rfl) (e_pick_f (v := .bool false) (by kernel_rfl) rfl) (lv (d := 4) rfl rfl (by kernel_rfl) (e_assign (v := .bool false) (by kernel_rfl)) (wpList_nil (then_n (wp_ret (inb_r (then_r ?_))))))
    obtain rfl := Option.some.inj M
    exact ret1 rfl rfl  (show _ = .bool false from (by kernel_rfl)) ⟨rfl, S29.chg⟩
  replace M := ifn q46 M
  refine cond_f rfl (bf q46 (by kernel_rfl)) (wp_skip (inb_n (then_n (wp_seq (wp_region_lit (lv (d := 4) rfl rfl (by kernel_rfl) (e_assign (v := .bool true) rfl) (wpList_nil ?_)))))))
  refine then_n (wp_ret ?_)
  obtain rfl := Option.some.inj M
  exact ret1 rfl rfl  (show _ = .bool true from (by kernel_rfl)) ⟨rfl, S29.chg⟩
end Go.Proofs.Ytnigifmkjmbfiaa
