import Derived.Test.YtnigifmkjmbfiaaWkGt1
namespace Go.Proofs.Ytnigifmkjmbfiaa
open Go.Sx Go.Sy
attribute [local irreducible] Go.wpList Go.wpStill Go.wpQuiet Go.Code.wp
set_option maxRecDepth 100000
set_option maxHeartbeats 1000000
set_option linter.unusedVariables false
set_option linter.unusedSimpArgs false

/-! spec_l10open -/
structure GL10heap where
  cells_ : List Cell
  trail_ : List Int
  pairs_ : Int
  deriving Inhabited
def spec_l10open.f (x1 : Store) : Option GL10heap := (if 0 + x1.cells.length ≤ 3518437208883 then (if 0 + x1.trail.length ≤ 17592186044416 then some (⟨x1.cells, x1.trail, 0⟩ : GL10heap) else none) else none)
theorem spec_l10open.calls (w : World) (H : Hp) (x1 : Store) (A2 : Option Addr) (c3 : Nat) (A6 : Option Addr) (c7 : Nat) (h4 : Rd st36 H A2 x1.cells) (l5 : x1.cells.length ≤ c3) (h8 : Rd tInt H A6 x1.trail) (l9 : x1.trail.length ≤ c7) (S : Own [] H w) (r : GL10heap) (M : spec_l10open.f x1 = some r) :
    Calls Try.prog 47 #[.agg #[.slice A2 x1.cells.length c3, .slice A6 x1.trail.length c7]] w (fun e e_w => ∃ (g_1 : Nat) (A_1 : Option Addr) (c_1 : Nat) (F_1 : Foot) (A_2 : Option Addr) (c_2 : Nat) (F_2 : Foot) (H_ : Hp), e = .returned (.pointer (some ⟨g_1, 0, none⟩)) ∧ Row (ro st36) 36 H_ (hp e_w) F_1 A_1 c_1 r.cells_ ∧ Row tInt 3 H_ (hp e_w) F_2 A_2 c_2 r.trail_ ∧ e_w.heap[g_1]? = some (.cells #[.slice A_1 r.cells_.length c_1, .slice A_2 r.trail_.length c_2, .int .i64 r.pairs_] 91 (0, 0)) ∧ St (anyOf []) H w [(is g_1), F_1, F_2] H_ e_w) := by
  rw [spec_l10open.f] at M
  refine enter (l := [.agg #[.slice A2 x1.cells.length c3, .slice A6 x1.trail.length c7]]) 27 Try.func47 rfl rfl rfl ?_
  have S0_ := S.st
  refine wp_seq ?_
  refine wp_region_lit ?_
  refine lve (d := 1) rfl rfl (by kernel_rfl) (new_blk (v := fun g_ => .pointer (some ⟨g_, 0, none⟩)) (cs := #[.slice A2 x1.cells.length c3, .slice A6 x1.trail.length c7]) (t := 34) S0_ (by kernel_rfl)) ?_
  rintro _ w10 ⟨g11, rfl, b12, S13, K14⟩
  refine lv (d := 2) rfl rfl (by kernel_rfl) (e_assign (v := .pointer none) rfl) ?_
  refine wpList_nil ?_
  refine then_n ?_
  refine wp_seq ?_
  refine wp_region_lit ?_
  refine lv (d := 4) rfl rfl (by kernel_rfl) (show _ = Result.ok (Next.value (.agg #[.slice none 0 0, .slice none 0 0, .int .i64 0])) w10 from by kernel_rfl) ?_
  refine lve (d := 5) rfl rfl (by kernel_rfl) (new_blk (v := fun g_ => .pointer (some ⟨g_, 0, none⟩)) (cs := #[.slice none 0 0, .slice none 0 0, .int .i64 0]) (t := 91) S13 (by kernel_rfl)) ?_
  rintro _ w15 ⟨g16, rfl, b17, S18, K19⟩
  replace b12 := K19.blk 0 rfl b12
  refine lv (d := 3) rfl rfl (by kernel_rfl) (e_assign (v := .pointer (some ⟨g16, 0, none⟩)) (by kernel_rfl)) ?_
  refine wpList_nil ?_
  refine then_n ?_
  refine wp_seq ?_
  refine region_mix (S := (fun (L_ : Array Bool) (w_ : World) => Ext H (hp w_) ∧ (L_.getD 10 true = false → (∀ b_, (is g16) b_ → hp w_ b_ = hp w15 b_)))) (by kernel_rfl) S18 ?_
  intro w20 S21 K22 hc23
  have o24 := b17
  have hs25 : (fun (L_ : Array Bool) (w_ : World) => Ext H (hp w_) ∧ (L_.getD 10 true = false → (∀ b_, (is g16) b_ → hp w_ b_ = hp w15 b_))) (Array.replicate 11 false) w20 := ⟨S21.inv, (fun _ => (fun b_ h_ => K22.at 0 rfl b_ h_))⟩
  replace b17 := K22.blk 0 rfl b17
  replace b12 := K22.blk 1 rfl b12
  refine xv (i := 0) (d := 6) rfl rfl rfl (by kernel_rfl) (by kernel_rfl) (fun L_ w_ => by simp only [getD_set_ne true (show (0 : Nat) ≠ 10 by decide)]) hc23 hs25 (fun L_ w_ hc_ hu_ hs_ => e_move (v := .pointer (some ⟨g16, 0, none⟩)) (by kernel_rfl)) ?_; intro hc26 hs27
  refine xv (i := 1) (d := 7) rfl rfl rfl (by kernel_rfl) (by kernel_rfl) (fun L_ w_ => by simp only [getD_set_ne true (show (1 : Nat) ≠ 10 by decide)]) hc26 hs27 (fun L_ w_ hc_ hu_ hs_ => e_move (v := .pointer (some ⟨g16, 0, none⟩)) (by kernel_rfl)) ?_; intro hc28 hs29
  refine xv (i := 2) (d := 8) rfl rfl rfl (by kernel_rfl) (by kernel_rfl) (fun L_ w_ => by simp only [getD_set_ne true (show (2 : Nat) ≠ 10 by decide)]) hc28 hs29 (fun L_ w_ hc_ hu_ hs_ => e_nilCheck (ad := ⟨g16, 0, none⟩) (by kernel_rfl)) ?_; intro hc30 hs31
  refine xv (i := 3) (d := 9) rfl rfl rfl (by kernel_rfl) (by kernel_rfl) (fun L_ w_ => by simp only [getD_set_ne true (show (3 : Nat) ≠ 10 by decide)]) hc30 hs31 (fun L_ w_ hc_ hu_ hs_ => e_fieldAddr (b := g16) (off := 0) (o := 0) Try.underlying91 rfl rfl (sz := 1) (by kernel_rfl) (by decide) (by kernel_rfl)) ?_; intro hc32 hs33
  refine xv (i := 4) (d := 10) rfl rfl rfl (by kernel_rfl) (by kernel_rfl) (fun L_ w_ => by simp only [getD_set_ne true (show (4 : Nat) ≠ 10 by decide)]) hc32 hs33 (fun L_ w_ hc_ hu_ hs_ => e_load1 (ad := ⟨g16, 0 + 0, none⟩) (v := .slice none 0 0) Try.underlying32 rfl (by kernel_rfl) (blk_cell (((hs_.2 (unl 9 10 4 hc_ hu_ (by kernel_rfl))) _ rfl).trans o24) rfl)) ?_; intro hc34 hs35
  refine xone (i := 5) (by kernel_rfl) hc34 ?_
  refine yo (i := 5) (d := 11) rfl rfl (wanted_none rfl _) (by kernel_rfl) (by kernel_rfl) (fun L_ w_ => by simp only [getD_set_ne true (show (5 : Nat) ≠ 10 by decide)]) hs35 (e_fieldAddr (b := g11) (off := 0) (o := 0) Try.underlying34 rfl rfl (sz := 1) (by kernel_rfl) (by decide) (by kernel_rfl)) ?_; intro hc36 hs37
  refine xone (i := 6) (by kernel_rfl) hc36 ?_
  refine yo (i := 6) (d := 12) rfl rfl (wanted_none rfl _) (by kernel_rfl) (by kernel_rfl) (fun L_ w_ => by simp only [getD_set_ne true (show (6 : Nat) ≠ 10 by decide)]) hs37 (e_load1 (ad := ⟨g11, 0 + 0, none⟩) (v := .slice A2 x1.cells.length c3) Try.underlying32 rfl (by kernel_rfl) (blk_cell b12 rfl)) ?_; intro hc38 hs39
  obtain ⟨y40, h41, h42⟩ := Rd.news (d := (ro st36)) (ro_ro _) S21 (Rd.toro h4)
  obtain ⟨q43, M⟩ := chk M
  have S44 := S21.unit
  have S45 := S44.unit
  have S46 := S45.pull (F := no) (Fr := [no, (is g16), (is g11)]) 1 rfl rfl
  refine xone (i := 7) (by kernel_rfl) hc38 ?_
  refine ye (i := 7) (d := 13) rfl rfl (wanted_none rfl _) (by kernel_rfl) (by kernel_rfl) (e_append (d := (ro st36)) (n := 0) (xs := []) (cap := 0) (A := none) (ys := x1.cells) (A2 := A2) (c2 := c3) (z := .agg #[.int .i64 0, .int .i64 0, .slice none 0 0]) (bytes := 40) S46 Try.underlying32 (by kernel_rfl) rfl (by decide) (by kernel_rfl) rfl (by kernel_rfl) (Row.nil _ _ _ _ no) h41 h42 (show (0 + x1.cells.length) * 40 ≤ _ by first | omega | (simp only [List.length_cons, List.length_nil]; omega)) (by decide)) ?_
  rintro hc54 _ w47 ⟨A48, c49, F50, rfl, h51, S52, K53⟩
  replace b17 := K53.blk 0 rfl b17
  replace b12 := K53.blk 1 rfl b12
  refine ⟨⟨S52.inv, (fun q_ => (fun b_ h_ => (K53.at 0 rfl b_ h_).trans ((hs39.2 (by decide +kernel)) b_ h_)))⟩, fun hs55 => ?_⟩
  replace h51 : Row (ro st36) 36 H (hp w47) F50 A48 c49 x1.cells := h51
  refine xone (i := 8) (by kernel_rfl) hc54 ?_
  refine yo (i := 8) (d := 14) rfl rfl (wanted_none rfl _) (by kernel_rfl) (by kernel_rfl) (fun L_ w_ => by simp only [getD_set_ne true (show (8 : Nat) ≠ 10 by decide)]) hs55 (e_nilCheck (ad := ⟨g16, 0, none⟩) (by kernel_rfl)) ?_; intro hc56 hs57
  refine xone (i := 9) (by kernel_rfl) hc56 ?_
  refine yo (i := 9) (d := 15) rfl rfl (wanted_none rfl _) (by kernel_rfl) (by kernel_rfl) (fun L_ w_ => by simp only [getD_set_ne true (show (9 : Nat) ≠ 10 by decide)]) hs57 (e_fieldAddr (b := g16) (off := 0) (o := 0) Try.underlying91 rfl rfl (sz := 1) (by kernel_rfl) (by decide) (by kernel_rfl)) ?_; intro hc58 hs59
  have S60 := S52.pull (F := (is g16)) (Fr := [F50, (is g11)]) 1 rfl rfl
  refine xone (i := 10) (by kernel_rfl) hc58 ?_
  refine ys (i := 10) rfl rfl (wanted_none rfl _) (by kernel_rfl) (by kernel_rfl) (e_store (g := g16) (o := 0 + 0) (v := .slice A48 x1.cells.length c49) (cur' := #[.slice A48 x1.cells.length c49, .slice none 0 0, .int .i64 0]) (vs := [.slice A48 x1.cells.length c49]) S60 (by kernel_rfl) (by kernel_rfl) rfl (by kernel_rfl) b17 (Nat.le_of_ble_eq_true rfl) (List.forall_mem_cons.2 ⟨rfl, (fun _ h_ => by cases h_)⟩) rfl) ?_
  rintro hc65 w61 ⟨b62, S63, K64⟩
  replace h51 := h51.move (K64.at 0 rfl)
  replace b12 := K64.blk 1 rfl b12
  refine ⟨⟨S63.inv, (fun q_ => absurd q_ (by decide +kernel))⟩, fun hs66 => ?_⟩
  clear b17
  refine xn (by kernel_rfl) ?_ _
  refine then_n ?_
  refine wp_seq ?_
  refine region_mix (S := (fun (L_ : Array Bool) (w_ : World) => Ext H (hp w_) ∧ (L_.getD 10 true = false → (∀ b_, (is g16) b_ → hp w_ b_ = hp w61 b_)))) (by kernel_rfl) S63 ?_
  intro w67 S68 K69 hc70
  have o71 := b62
  have hs72 : (fun (L_ : Array Bool) (w_ : World) => Ext H (hp w_) ∧ (L_.getD 10 true = false → (∀ b_, (is g16) b_ → hp w_ b_ = hp w61 b_))) (Array.replicate 11 false) w67 := ⟨S68.inv, (fun _ => (fun b_ h_ => K69.at 0 rfl b_ h_))⟩
  replace b62 := K69.blk 0 rfl b62
  replace h51 := h51.move (K69.at 1 rfl)
  replace b12 := K69.blk 2 rfl b12
  refine xv (i := 0) (d := 16) rfl rfl rfl (by kernel_rfl) (by kernel_rfl) (fun L_ w_ => by simp only [getD_set_ne true (show (0 : Nat) ≠ 10 by decide)]) hc70 hs72 (fun L_ w_ hc_ hu_ hs_ => e_move (v := .pointer (some ⟨g16, 0, none⟩)) (by kernel_rfl)) ?_; intro hc73 hs74
  refine xv (i := 1) (d := 17) rfl rfl rfl (by kernel_rfl) (by kernel_rfl) (fun L_ w_ => by simp only [getD_set_ne true (show (1 : Nat) ≠ 10 by decide)]) hc73 hs74 (fun L_ w_ hc_ hu_ hs_ => e_move (v := .pointer (some ⟨g16, 0, none⟩)) (by kernel_rfl)) ?_; intro hc75 hs76
  refine xv (i := 2) (d := 18) rfl rfl rfl (by kernel_rfl) (by kernel_rfl) (fun L_ w_ => by simp only [getD_set_ne true (show (2 : Nat) ≠ 10 by decide)]) hc75 hs76 (fun L_ w_ hc_ hu_ hs_ => e_nilCheck (ad := ⟨g16, 0, none⟩) (by kernel_rfl)) ?_; intro hc77 hs78
  refine xv (i := 3) (d := 19) rfl rfl rfl (by kernel_rfl) (by kernel_rfl) (fun L_ w_ => by simp only [getD_set_ne true (show (3 : Nat) ≠ 10 by decide)]) hc77 hs78 (fun L_ w_ hc_ hu_ hs_ => e_fieldAddr (b := g16) (off := 0) (o := 1) Try.underlying91 rfl rfl (sz := 1) (by kernel_rfl) (by decide) (by kernel_rfl)) ?_; intro hc79 hs80
  refine xv (i := 4) (d := 20) rfl rfl rfl (by kernel_rfl) (by kernel_rfl) (fun L_ w_ => by simp only [getD_set_ne true (show (4 : Nat) ≠ 10 by decide)]) hc79 hs80 (fun L_ w_ hc_ hu_ hs_ => e_load1 (ad := ⟨g16, 0 + 1, none⟩) (v := .slice none 0 0) Try.underlying23 rfl (by kernel_rfl) (blk_cell (((hs_.2 (unl 9 10 4 hc_ hu_ (by kernel_rfl))) _ rfl).trans o71) rfl)) ?_; intro hc81 hs82
  refine xone (i := 5) (by kernel_rfl) hc81 ?_
  refine yo (i := 5) (d := 21) rfl rfl (wanted_none rfl _) (by kernel_rfl) (by kernel_rfl) (fun L_ w_ => by simp only [getD_set_ne true (show (5 : Nat) ≠ 10 by decide)]) hs82 (e_fieldAddr (b := g11) (off := 0) (o := 1) Try.underlying34 rfl rfl (sz := 1) (by kernel_rfl) (by decide) (by kernel_rfl)) ?_; intro hc83 hs84
  refine xone (i := 6) (by kernel_rfl) hc83 ?_
  refine yo (i := 6) (d := 22) rfl rfl (wanted_none rfl _) (by kernel_rfl) (by kernel_rfl) (fun L_ w_ => by simp only [getD_set_ne true (show (6 : Nat) ≠ 10 by decide)]) hs84 (e_load1 (ad := ⟨g11, 0 + 1, none⟩) (v := .slice A6 x1.trail.length c7) Try.underlying23 rfl (by kernel_rfl) (blk_cell b12 rfl)) ?_; intro hc85 hs86
  obtain ⟨y87, h88, h89⟩ := Rd.news (d := tInt) (ro_scal _ _) S68 h8
  obtain ⟨q90, M⟩ := chk M
  have S91 := S68.unit
  have S92 := S91.unit
  have S93 := S92.pull (F := no) (Fr := [no, (is g16), F50, (is g11)]) 1 rfl rfl
  refine xone (i := 7) (by kernel_rfl) hc85 ?_
  refine ye (i := 7) (d := 23) rfl rfl (wanted_none rfl _) (by kernel_rfl) (by kernel_rfl) (e_append (d := tInt) (n := 0) (xs := []) (cap := 0) (A := none) (ys := x1.trail) (A2 := A6) (c2 := c7) (z := .int .i64 0) (bytes := 8) S93 Try.underlying23 (by kernel_rfl) rfl (by decide) (by kernel_rfl) rfl (by kernel_rfl) (Row.nil _ _ _ _ no) h88 h89 (show (0 + x1.trail.length) * 8 ≤ _ by first | omega | (simp only [List.length_cons, List.length_nil]; omega)) (by decide)) ?_
  rintro hc101 _ w94 ⟨A95, c96, F97, rfl, h98, S99, K100⟩
  replace b62 := K100.blk 0 rfl b62
  replace h51 := h51.move (K100.at 1 rfl)
  replace b12 := K100.blk 2 rfl b12
  refine ⟨⟨S99.inv, (fun q_ => (fun b_ h_ => (K100.at 0 rfl b_ h_).trans ((hs86.2 (by decide +kernel)) b_ h_)))⟩, fun hs102 => ?_⟩
  replace h98 : Row tInt 3 H (hp w94) F97 A95 c96 x1.trail := h98
  refine xone (i := 8) (by kernel_rfl) hc101 ?_
  refine yo (i := 8) (d := 24) rfl rfl (wanted_none rfl _) (by kernel_rfl) (by kernel_rfl) (fun L_ w_ => by simp only [getD_set_ne true (show (8 : Nat) ≠ 10 by decide)]) hs102 (e_nilCheck (ad := ⟨g16, 0, none⟩) (by kernel_rfl)) ?_; intro hc103 hs104
  refine xone (i := 9) (by kernel_rfl) hc103 ?_
  refine yo (i := 9) (d := 25) rfl rfl (wanted_none rfl _) (by kernel_rfl) (by kernel_rfl) (fun L_ w_ => by simp only [getD_set_ne true (show (9 : Nat) ≠ 10 by decide)]) hs104 (e_fieldAddr (b := g16) (off := 0) (o := 1) Try.underlying91 rfl rfl (sz := 1) (by kernel_rfl) (by decide) (by kernel_rfl)) ?_; intro hc105 hs106
  have S107 := S99.pull (F := (is g16)) (Fr := [F97, F50, (is g11)]) 1 rfl rfl
  refine xone (i := 10) (by kernel_rfl) hc105 ?_
  refine ys (i := 10) rfl rfl (wanted_none rfl _) (by kernel_rfl) (by kernel_rfl) (e_store (g := g16) (o := 0 + 1) (v := .slice A95 x1.trail.length c96) (cur' := #[.slice A48 x1.cells.length c49, .slice A95 x1.trail.length c96, .int .i64 0]) (vs := [.slice A95 x1.trail.length c96]) S107 (by kernel_rfl) (by kernel_rfl) rfl (by kernel_rfl) b62 (Nat.le_of_ble_eq_true rfl) (List.forall_mem_cons.2 ⟨rfl, (fun _ h_ => by cases h_)⟩) rfl) ?_
  rintro hc112 w108 ⟨b109, S110, K111⟩
  replace h98 := h98.move (K111.at 0 rfl)
  replace h51 := h51.move (K111.at 1 rfl)
  replace b12 := K111.blk 2 rfl b12
  refine ⟨⟨S110.inv, (fun q_ => absurd q_ (by decide +kernel))⟩, fun hs113 => ?_⟩
  clear b62
  refine xn (by kernel_rfl) ?_ _
  refine then_n ?_
  refine wp_seq ?_
  refine wp_region_lit ?_
  refine lv (d := 26) rfl rfl (by kernel_rfl) (e_move (v := .pointer (some ⟨g16, 0, none⟩)) (by kernel_rfl)) ?_
  refine lv (d := 2) rfl rfl (by kernel_rfl) (e_assign (v := .pointer (some ⟨g16, 0, none⟩)) (by kernel_rfl)) ?_
  refine wpList_nil ?_
  refine then_n ?_
  refine wp_ret ?_
  obtain rfl := Option.some.inj M
  have S114 := S110.pull (F := F97) (Fr := [(is g16), F50, (is g11)]) 1 rfl rfl
  have S115 := S114.pull (F := F50) (Fr := [F97, (is g16), (is g11)]) 2 rfl rfl
  have S116 := S115.pull (F := (is g16)) (Fr := [F50, F97, (is g11)]) 2 rfl rfl
  have S117 := St.first (Fa := [(is g16), F50, F97]) (Fr := [(is g11)]) S116
  exact ret1 rfl rfl  (show _ = .pointer (some ⟨g16, 0, none⟩) from (by kernel_rfl)) ⟨g16, A48, c49, F50, A95, c96, F97, H, rfl, h51, h98, b109, S117⟩

/-! spec_l10deref -/
def spec_l10deref.l0 : Nat → GL10heap → Int → Int → (List UInt8) → Option Cell
  | 0, _, _, _, _ => none
  | k44 + 1, x1, x29, x30, x31 => (if x29 = 0 then (if 0 ≤ x30 then (if x30 < (x1.cells_.length : Int) then (if ((x1.cells_.getD ((x30).toNat) z36).kind) = 0 then (if ((x1.cells_.getD ((x30).toNat) z36).n) = x30 then some (⟨x29, x30, x31⟩ : Cell) else (spec_l10deref.l0 k44 x1 ((x1.cells_.getD ((x30).toNat) z36).kind) ((x1.cells_.getD ((x30).toNat) z36).n) ((x1.cells_.getD ((x30).toNat) z36).text))) else (spec_l10deref.l0 k44 x1 ((x1.cells_.getD ((x30).toNat) z36).kind) ((x1.cells_.getD ((x30).toNat) z36).n) ((x1.cells_.getD ((x30).toNat) z36).text))) else none) else none) else some (⟨x29, x30, x31⟩ : Cell))
def spec_l10deref.f (k : Nat) (x1 : GL10heap) (x12 : Cell) : Option Cell := (spec_l10deref.l0 k x1 x12.kind x12.n x12.text)
theorem spec_l10deref.calls (k : Nat) (w : World) (H : Hp) (x1 : GL10heap) (g2 : Nat) (A4 : Option Addr) (c5 : Nat) (F7 : Foot) (A8 : Option Addr) (c9 : Nat) (F11 : Foot) (x12 : Cell) (A13 : Option Addr) (c14 : Nat) (h6 : Row (ro st36) 36 H (hp w) F7 A4 c5 x1.cells_) (h10 : Row tInt 3 H (hp w) F11 A8 c9 x1.trail_) (b3 : w.heap[g2]? = some (.cells #[.slice A4 x1.cells_.length c5, .slice A8 x1.trail_.length c9, .int .i64 x1.pairs_] 91 (0, 0))) (h15 : Rd tByte H A13 x12.text) (l16 : x12.text.length ≤ c14) (S : Own [F7, F11, (is g2)] H w) (r : Cell) (M : spec_l10deref.f k x1 x12 = some r) :
    Calls Try.prog 46 #[.pointer (some ⟨g2, 0, none⟩), .agg #[.int .i64 x12.kind, .int .i64 x12.n, .slice A13 x12.text.length c14]] w (fun e e_w => ∃ (A_1 : Option Addr) (c_1 : Nat) (H_ : Hp), e = .returned (.agg #[.int .i64 r.kind, .int .i64 r.n, .slice A_1 r.text.length c_1]) ∧ Row (ro st36) 36 H_ (hp e_w) F7 A4 c5 x1.cells_ ∧ Row tInt 3 H_ (hp e_w) F11 A8 c9 x1.trail_ ∧ e_w.heap[g2]? = some (.cells #[.slice A4 x1.cells_.length c5, .slice A8 x1.trail_.length c9, .int .i64 x1.pairs_] 91 (0, 0)) ∧ Rd tByte H_ A_1 r.text ∧ r.text.length ≤ c_1 ∧ St (anyOf [F7, F11, (is g2)]) H w [F7, F11, (is g2)] H_ e_w) := by
  rw [spec_l10deref.f] at M
  refine enter (l := [.pointer (some ⟨g2, 0, none⟩), .agg #[.int .i64 x12.kind, .int .i64 x12.n, .slice A13 x12.text.length c14]]) 30 Try.func46 rfl rfl rfl ?_
  have S0_ := S.st
  refine wp_seq ?_
  refine wp_region_lit ?_
  refine lve (d := 3) rfl rfl (by kernel_rfl) (new_blk (v := fun g_ => .pointer (some ⟨g_, 0, none⟩)) (cs := #[.int .i64 x12.kind, .int .i64 x12.n, .slice A13 x12.text.length c14]) (t := 36) S0_ (by kernel_rfl)) ?_
  rintro _ w17 ⟨g18, rfl, b19, S20, K21⟩
  replace h6 := h6.move (K21.at 0 rfl)
  replace h10 := h10.move (K21.at 1 rfl)
  replace b3 := K21.blk 2 rfl b3
  refine lve (d := 4) rfl rfl (by kernel_rfl) (new_blk (v := fun g_ => .pointer (some ⟨g_, 0, none⟩)) (cs := #[.int .i64 0, .int .i64 0, .slice none 0 0]) (t := 36) S20 (by kernel_rfl)) ?_
  rintro _ w22 ⟨g23, rfl, b24, S25, K26⟩
  replace b19 := K26.blk 0 rfl b19
  replace h6 := h6.move (K26.at 1 rfl)
  replace h10 := h10.move (K26.at 2 rfl)
  replace b3 := K26.blk 3 rfl b3
  refine wpList_nil ?_
  refine then_n ?_
  refine wp_seq ?_
  refine wp_block ?_
  refine wp_loop_g (fun k42 a43 w27 => ∃ (f28 : Nat → Value) (x29 : Int) (x30 : Int) (x31 : List UInt8) (A32 : Option Addr) (c33 : Nat), a43 = mk 30 f28 ∧ f28 0 = .pointer (some ⟨g2, 0, none⟩) ∧ f28 3 = .pointer (some ⟨g18, 0, none⟩) ∧ f28 4 = .pointer (some ⟨g23, 0, none⟩) ∧ w27.heap[g23]? = some (.cells #[.int .i64 0, .int .i64 0, .slice none 0 0] 36 (0, 0)) ∧ w27.heap[g18]? = some (.cells #[.int .i64 x29, .int .i64 x30, .slice A32 x31.length c33] 36 (0, 0)) ∧ Row (ro st36) 36 H (hp w27) F7 A4 c5 x1.cells_ ∧ Row tInt 3 H (hp w27) F11 A8 c9 x1.trail_ ∧ w27.heap[g2]? = some (.cells #[.slice A4 x1.cells_.length c5, .slice A8 x1.trail_.length c9, .int .i64 x1.pairs_] 91 (0, 0)) ∧ Rd tByte H A32 x31 ∧ x31.length ≤ c33 ∧ St (anyOf [F7, F11, (is g2)]) H w [(is g23), (is g18), F7, F11, (is g2)] H w27 ∧ spec_l10deref.l0 k42 x1 x29 x30 x31 = some r) k ⟨_, x12.kind, x12.n, x12.text, A13, c14, rfl, (by kernel_rfl), (by kernel_rfl), (by kernel_rfl), b24, b19, h6, h10, b3, h15, l16, S25, M⟩ ?_
  clear M
  rintro k42 a43 w27 ⟨f28, x29, x30, x31, A32, c33, rfl, e36, e37, e38, b24, b19, h6, h10, b3, h34, l35, S39, M⟩
  rcases k42 with _ | k44
  · rw [spec_l10deref.l0] at M
    cases M
  rw [spec_l10deref.l0] at M
  refine wp_seq ?_
  refine wp_seq ?_
  refine wp_region_lit ?_
  refine lv (d := 6) rfl rfl (by kernel_rfl) (e_fieldAddr (b := g18) (off := 0) (o := 0) Try.underlying36 rfl rfl (sz := 1) (by kernel_rfl) (by decide) (by exact e37)) ?_
  refine lv (d := 7) rfl rfl (by kernel_rfl) (e_load1 (ad := ⟨g18, 0 + 0, none⟩) (v := .int .i64 x29) Try.underlying3 rfl (by kernel_rfl) (blk_cell b19 rfl)) ?_
  refine lv (d := 8) rfl rfl (by kernel_rfl) (e_eql (k := .i64) (a := x29) (b := 0) (by kernel_rfl) rfl) ?_
  refine wpList_nil ?_
  refine then_n ?_
  by_cases q45 : x29 = 0
  · replace M := ifp q45 M
    refine cond_t rfl (bt q45 (by kernel_rfl)) ?_
    refine wp_skip ?_
    refine then_n ?_
    refine wp_block ?_
    refine wp_seq ?_
    refine region_mix (S := (fun (L_ : Array Bool) (w_ : World) => Ext H (hp w_) ∧ (∀ b_, (is g18) b_ → hp w_ b_ = hp w27 b_) ∧ (∀ b_, F7 b_ → hp w_ b_ = hp w27 b_) ∧ (∀ b_, (is g2) b_ → hp w_ b_ = hp w27 b_))) (by kernel_rfl) S39 ?_
    intro w46 S47 K48 hc49
    have o50 := b19
    have o51 := h6
    have o52 := b3
    have hs53 : (fun (L_ : Array Bool) (w_ : World) => Ext H (hp w_) ∧ (∀ b_, (is g18) b_ → hp w_ b_ = hp w27 b_) ∧ (∀ b_, F7 b_ → hp w_ b_ = hp w27 b_) ∧ (∀ b_, (is g2) b_ → hp w_ b_ = hp w27 b_)) (Array.replicate 10 false) w46 := ⟨S47.inv, (fun b_ h_ => K48.at 1 rfl b_ h_), (fun b_ h_ => K48.at 2 rfl b_ h_), (fun b_ h_ => K48.at 4 rfl b_ h_)⟩
    replace b24 := K48.blk 0 rfl b24
    replace b19 := K48.blk 1 rfl b19
    replace h6 := h6.move (K48.at 2 rfl)
    replace h10 := h10.move (K48.at 3 rfl)
    replace b3 := K48.blk 4 rfl b3
    refine xv (i := 0) (d := 9) rfl rfl rfl (by kernel_rfl) (by kernel_rfl) (fun _ _ => Iff.rfl) hc49 hs53 (fun L_ w_ hc_ hu_ hs_ => e_move (v := .pointer (some ⟨g2, 0, none⟩)) (by exact e36)) ?_; intro hc54 hs55
    refine xv (i := 1) (d := 10) rfl rfl rfl (by kernel_rfl) (by kernel_rfl) (fun _ _ => Iff.rfl) hc54 hs55 (fun L_ w_ hc_ hu_ hs_ => e_nilCheck (ad := ⟨g2, 0, none⟩) (by kernel_rfl)) ?_; intro hc56 hs57
    refine xv (i := 2) (d := 11) rfl rfl rfl (by kernel_rfl) (by kernel_rfl) (fun _ _ => Iff.rfl) hc56 hs57 (fun L_ w_ hc_ hu_ hs_ => e_fieldAddr (b := g2) (off := 0) (o := 0) Try.underlying91 rfl rfl (sz := 1) (by kernel_rfl) (by decide) (by kernel_rfl)) ?_; intro hc58 hs59
    refine xv (i := 3) (d := 12) rfl rfl rfl (by kernel_rfl) (by kernel_rfl) (fun _ _ => Iff.rfl) hc58 hs59 (fun L_ w_ hc_ hu_ hs_ => e_load1 (ad := ⟨g2, 0 + 0, none⟩) (v := .slice A4 x1.cells_.length c5) Try.underlying32 rfl (by kernel_rfl) (blk_cell ((hs_.2.2.2 _ rfl).trans o52) rfl)) ?_; intro hc60 hs61
    refine xv (i := 4) (d := 13) rfl rfl rfl (by kernel_rfl) (by kernel_rfl) (fun _ _ => Iff.rfl) hc60 hs61 (fun L_ w_ hc_ hu_ hs_ => e_fieldAddr (b := g18) (off := 0) (o := 1) Try.underlying36 rfl rfl (sz := 1) (by kernel_rfl) (by decide) (by exact e37)) ?_; intro hc62 hs63
    refine xv (i := 5) (d := 14) rfl rfl rfl (by kernel_rfl) (by kernel_rfl) (fun _ _ => Iff.rfl) hc62 hs63 (fun L_ w_ hc_ hu_ hs_ => e_load1 (ad := ⟨g18, 0 + 1, none⟩) (v := .int .i64 x30) Try.underlying3 rfl (by kernel_rfl) (blk_cell ((hs_.2.1 _ rfl).trans o50) rfl)) ?_; intro hc64 hs65
    obtain ⟨q66, M⟩ := chk M
    obtain ⟨q67, M⟩ := chk M
    obtain ⟨b68, e70⟩ := Row.addr h6 (show (x30).toNat < x1.cells_.length by omega)
    refine xv (i := 6) (d := 15) rfl rfl rfl (by kernel_rfl) (by kernel_rfl) (fun _ _ => Iff.rfl) hc64 hs65 (fun L_ w_ hc_ hu_ hs_ => e_indexAddr (b := b68) (off := 0) (n := x1.cells_.length) (c := c5) (sz := 3) (i := x30) (k := .i64) Try.underlying32 e70 (by kernel_rfl) (by kernel_rfl) (by kernel_rfl) q66 q67) ?_; intro hc71 hs72
    obtain ⟨y73, F74, r75, s76, k77⟩ := Row.at o51 e70 (getD_some z36 (show (x30).toNat < x1.cells_.length by omega))
    obtain ⟨A78, c79, rfl, l80, h81⟩ := st36_open r75
    refine xv (i := 7) (d := 16) rfl rfl rfl (by kernel_rfl) (by kernel_rfl) (fun _ _ => Iff.rfl) hc71 hs72 (fun L_ w_ hc_ hu_ hs_ => e_loadS (b := b68) (off := 0 + (x30 : Int).toNat * 3) (cs := [.int .i64 ((x1.cells_.getD ((x30).toNat) z36).kind), .int .i64 ((x1.cells_.getD ((x30).toNat) z36).n), .slice A78 ((x1.cells_.getD ((x30).toNat) z36).text).length c79]) Try.underlying36 rfl (by kernel_rfl) (by kernel_rfl) (fun j_ u_ e_ => (hpx (cell_same (hs_.2.2.1 _ (Row.foot o51 e70)) (k77 j_ u_ e_))))) ?_; intro hc82 hs83
    refine xone (i := 8) (by kernel_rfl) hc82 ?_
    refine ye (i := 8) (d := 5) rfl rfl (wanted_none rfl _) (by kernel_rfl) (by kernel_rfl) (new_blk (v := fun g_ => .pointer (some ⟨g_, 0, none⟩)) (cs := #[.int .i64 0, .int .i64 0, .slice none 0 0]) (t := 36) S47 (by kernel_rfl)) ?_
    rintro hc89 _ w84 ⟨g85, rfl, b86, S87, K88⟩
    replace b24 := K88.blk 0 rfl b24
    replace b19 := K88.blk 1 rfl b19
    replace h6 := h6.move (K88.at 2 rfl)
    replace h10 := h10.move (K88.at 3 rfl)
    replace b3 := K88.blk 4 rfl b3
    refine ⟨⟨S87.inv, (fun b_ h_ => (K88.at 1 rfl b_ h_).trans (hs83.2.1 b_ h_)), (fun b_ h_ => (K88.at 2 rfl b_ h_).trans (hs83.2.2.1 b_ h_)), (fun b_ h_ => (K88.at 4 rfl b_ h_).trans (hs83.2.2.2 b_ h_))⟩, fun hs90 => ?_⟩
    refine xone (i := 9) (by kernel_rfl) hc89 ?_
    refine ys (i := 9) rfl rfl (wanted_none rfl _) (by kernel_rfl) (by kernel_rfl) (e_store (g := g85) (o := 0) (v := .agg #[.int .i64 ((x1.cells_.getD ((x30).toNat) z36).kind), .int .i64 ((x1.cells_.getD ((x30).toNat) z36).n), .slice A78 ((x1.cells_.getD ((x30).toNat) z36).text).length c79]) (cur' := #[.int .i64 ((x1.cells_.getD ((x30).toNat) z36).kind), .int .i64 ((x1.cells_.getD ((x30).toNat) z36).n), .slice A78 ((x1.cells_.getD ((x30).toNat) z36).text).length c79]) (vs := [.int .i64 ((x1.cells_.getD ((x30).toNat) z36).kind), .int .i64 ((x1.cells_.getD ((x30).toNat) z36).n), .slice A78 ((x1.cells_.getD ((x30).toNat) z36).text).length c79]) S87 (by kernel_rfl) (by kernel_rfl) rfl (by kernel_rfl) b86 (Nat.le_of_ble_eq_true rfl) (List.forall_mem_cons.2 ⟨rfl, (List.forall_mem_cons.2 ⟨rfl, (List.forall_mem_cons.2 ⟨rfl, (fun _ h_ => by cases h_)⟩)⟩)⟩) rfl) ?_
    rintro hc95 w91 ⟨b92, S93, K94⟩
    replace b24 := K94.blk 0 rfl b24
    replace b19 := K94.blk 1 rfl b19
    replace h6 := h6.move (K94.at 2 rfl)
    replace h10 := h10.move (K94.at 3 rfl)
    replace b3 := K94.blk 4 rfl b3
    refine ⟨⟨S93.inv, (fun b_ h_ => (K94.at 1 rfl b_ h_).trans (hs90.2.1 b_ h_)), (fun b_ h_ => (K94.at 2 rfl b_ h_).trans (hs90.2.2.1 b_ h_)), (fun b_ h_ => (K94.at 4 rfl b_ h_).trans (hs90.2.2.2 b_ h_))⟩, fun hs96 => ?_⟩
    clear b86
    refine xn (by kernel_rfl) ?_ _
    refine then_n ?_
    refine wp_seq ?_
    refine wp_seq ?_
    refine wp_region_lit ?_
    refine lv (d := 17) rfl rfl (by kernel_rfl) (e_fieldAddr (b := g85) (off := 0) (o := 0) Try.underlying36 rfl rfl (sz := 1) (by kernel_rfl) (by decide) (by kernel_rfl)) ?_
    refine lv (d := 18) rfl rfl (by kernel_rfl) (e_load1 (ad := ⟨g85, 0 + 0, none⟩) (v := .int .i64 ((x1.cells_.getD ((x30).toNat) z36).kind)) Try.underlying3 rfl (by kernel_rfl) (blk_cell b92 rfl)) ?_
    refine lv (d := 19) rfl rfl (by kernel_rfl) (e_eql (k := .i64) (a := (x1.cells_.getD ((x30).toNat) z36).kind) (b := 0) (by kernel_rfl) rfl) ?_
    refine lv (d := 20) rfl rfl (by kernel_rfl) (e_move (v := .bool (decide (((x1.cells_.getD ((x30).toNat) z36).kind) = 0))) (by kernel_rfl)) ?_
    by_cases q97 : ((x1.cells_.getD ((x30).toNat) z36).kind) = 0
    · replace M := ifp q97 M
      refine lvg (d := 21) (t := 20) rfl (by kernel_rfl) rfl (bt q97 (by kernel_rfl)) rfl (by kernel_rfl) (e_fieldAddr (b := g85) (off := 0) (o := 1) Try.underlying36 rfl rfl (sz := 1) (by kernel_rfl) (by decide) (by kernel_rfl)) ?_
      refine lvg (d := 22) (t := 20) rfl (by kernel_rfl) rfl (bt q97 (by kernel_rfl)) rfl (by kernel_rfl) (e_load1 (ad := ⟨g85, 0 + 1, none⟩) (v := .int .i64 ((x1.cells_.getD ((x30).toNat) z36).n)) Try.underlying3 rfl (by kernel_rfl) (blk_cell b92 rfl)) ?_
      refine lvg (d := 23) (t := 20) rfl (by kernel_rfl) rfl (bt q97 (by kernel_rfl)) rfl (by kernel_rfl) (e_fieldAddr (b := g18) (off := 0) (o := 1) Try.underlying36 rfl rfl (sz := 1) (by kernel_rfl) (by decide) (by exact e37)) ?_
      refine lvg (d := 24) (t := 20) rfl (by kernel_rfl) rfl (bt q97 (by kernel_rfl)) rfl (by kernel_rfl) (e_load1 (ad := ⟨g18, 0 + 1, none⟩) (v := .int .i64 x30) Try.underlying3 rfl (by kernel_rfl) (blk_cell b19 rfl)) ?_
      refine lvg (d := 25) (t := 20) rfl (by kernel_rfl) rfl (bt q97 (by kernel_rfl)) rfl (by kernel_rfl) (e_eql (k := .i64) (a := (x1.cells_.getD ((x30).toNat) z36).n) (b := x30) (by kernel_rfl) (by kernel_rfl)) ?_
      refine lv (d := 26) rfl rfl (by kernel_rfl) (e_pick_t (v := .bool (decide (((x1.cells_.getD ((x30).toNat) z36).n) = x30))) (bt q97 (by kernel_rfl)) (by kernel_rfl)) ?_
      refine wpList_nil ?_
      refine then_n ?_
      by_cases q98 : ((x1.cells_.getD ((x30).toNat) z36).n) = x30
      · replace M := ifp q98 M
        refine cond_t rfl (bt q98 (by kernel_rfl)) ?_
        refine wp_seq ?_
        refine wp_region_lit ?_
        refine lv (d := 27) rfl rfl (by kernel_rfl) (e_loadS (b := g18) (off := 0) (cs := [.int .i64 x29, .int .i64 x30, .slice A32 x31.length c33]) Try.underlying36 rfl (by kernel_rfl) (by exact e37) (blk_cells b19 rfl)) ?_
        have S99 := S93.pull (F := (is g23)) (Fr := [(is g85), (is g18), F7, F11, (is g2)]) 1 rfl rfl
        refine lse rfl rfl (by kernel_rfl) (e_store (g := g23) (o := 0) (v := .agg #[.int .i64 x29, .int .i64 x30, .slice A32 x31.length c33]) (cur' := #[.int .i64 x29, .int .i64 x30, .slice A32 x31.length c33]) (vs := [.int .i64 x29, .int .i64 x30, .slice A32 x31.length c33]) S99 (by exact e38) (by kernel_rfl) rfl (by kernel_rfl) b24 (Nat.le_of_ble_eq_true rfl) (List.forall_mem_cons.2 ⟨rfl, (List.forall_mem_cons.2 ⟨rfl, (List.forall_mem_cons.2 ⟨rfl, (fun _ h_ => by cases h_)⟩)⟩)⟩) rfl) ?_
        rintro w100 ⟨b101, S102, K103⟩
        replace b92 := K103.blk 0 rfl b92
        replace b19 := K103.blk 1 rfl b19
        replace h6 := h6.move (K103.at 2 rfl)
        replace h10 := h10.move (K103.at 3 rfl)
        replace b3 := K103.blk 4 rfl b3
        clear b24
        refine wpList_nil ?_
        refine then_n ?_
        refine wp_ret ?_
        refine then_r ?_
        refine inb_r ?_
        refine then_r ?_
        refine inb_r ?_
        refine then_r ?_
        obtain rfl := Option.some.inj M
        have S104 := S102.pull (F := (is g2)) (Fr := [(is g23), (is g85), (is g18), F7, F11]) 5 rfl rfl
        have S105 := S104.pull (F := F11) (Fr := [(is g2), (is g23), (is g85), (is g18), F7]) 5 rfl rfl
        have S106 := S105.pull (F := F7) (Fr := [F11, (is g2), (is g23), (is g85), (is g18)]) 5 rfl rfl
        have S107 := St.first (Fa := [F7, F11, (is g2)]) (Fr := [(is g23), (is g85), (is g18)]) S106
        exact retS (ty := 36) (cur := #[.int .i64 x29, .int .i64 x30, .slice A32 x31.length c33]) rfl rfl (by exact e38) b101 Try.underlying36 rfl (by kernel_rfl) ⟨A32, c33, H, rfl, h6, h10, b3, h34, l35, S107⟩
      replace M := ifn q98 M
      refine cond_f rfl (bf q98 (by kernel_rfl)) ?_
      refine wp_skip ?_
      refine then_n ?_
      refine wp_region_lit ?_
      refine lv (d := 28) rfl rfl (by kernel_rfl) (e_loadS (b := g85) (off := 0) (cs := [.int .i64 ((x1.cells_.getD ((x30).toNat) z36).kind), .int .i64 ((x1.cells_.getD ((x30).toNat) z36).n), .slice A78 ((x1.cells_.getD ((x30).toNat) z36).text).length c79]) Try.underlying36 rfl (by kernel_rfl) (by kernel_rfl) (blk_cells b92 rfl)) ?_
      have S108 := S93.pull (F := (is g18)) (Fr := [(is g85), (is g23), F7, F11, (is g2)]) 2 rfl rfl
      refine lse rfl rfl (by kernel_rfl) (e_store (g := g18) (o := 0) (v := .agg #[.int .i64 ((x1.cells_.getD ((x30).toNat) z36).kind), .int .i64 ((x1.cells_.getD ((x30).toNat) z36).n), .slice A78 ((x1.cells_.getD ((x30).toNat) z36).text).length c79]) (cur' := #[.int .i64 ((x1.cells_.getD ((x30).toNat) z36).kind), .int .i64 ((x1.cells_.getD ((x30).toNat) z36).n), .slice A78 ((x1.cells_.getD ((x30).toNat) z36).text).length c79]) (vs := [.int .i64 ((x1.cells_.getD ((x30).toNat) z36).kind), .int .i64 ((x1.cells_.getD ((x30).toNat) z36).n), .slice A78 ((x1.cells_.getD ((x30).toNat) z36).text).length c79]) S108 (by exact e37) (by kernel_rfl) rfl (by kernel_rfl) b19 (Nat.le_of_ble_eq_true rfl) (List.forall_mem_cons.2 ⟨rfl, (List.forall_mem_cons.2 ⟨rfl, (List.forall_mem_cons.2 ⟨rfl, (fun _ h_ => by cases h_)⟩)⟩)⟩) rfl) ?_
      rintro w109 ⟨b110, S111, K112⟩
      replace b92 := K112.blk 0 rfl b92
      replace b24 := K112.blk 1 rfl b24
      replace h6 := h6.move (K112.at 2 rfl)
      replace h10 := h10.move (K112.at 3 rfl)
      replace b3 := K112.blk 4 rfl b3
      clear b19
      refine wpList_nil ?_
      refine inb_n ?_
      refine then_n ?_
      have S113 := S111.pull (F := (is g2)) (Fr := [(is g18), (is g85), (is g23), F7, F11]) 5 rfl rfl
      have S114 := S113.pull (F := F11) (Fr := [(is g2), (is g18), (is g85), (is g23), F7]) 5 rfl rfl
      have S115 := S114.pull (F := F7) (Fr := [F11, (is g2), (is g18), (is g85), (is g23)]) 5 rfl rfl
      have S116 := S115.pull (F := (is g18)) (Fr := [F7, F11, (is g2), (is g85), (is g23)]) 3 rfl rfl
      have S117 := S116.pull (F := (is g23)) (Fr := [(is g18), F7, F11, (is g2), (is g85)]) 5 rfl rfl
      have S118 := St.first (Fa := [(is g23), (is g18), F7, F11, (is g2)]) (Fr := [(is g85)]) S117
      exact ⟨k44, (by omega), _, ((x1.cells_.getD ((x30).toNat) z36).kind), ((x1.cells_.getD ((x30).toNat) z36).n), ((x1.cells_.getD ((x30).toNat) z36).text), A78, c79, rfl, (by exact e36), (by exact e37), (by exact e38), b24, b110, h6, h10, b3, h81, l80, S118, M⟩
    replace M := ifn q97 M
    refine lskip (t := 20) (c := false) rfl (by kernel_rfl) rfl (bf q97 (by kernel_rfl)) rfl rfl ?_
    refine lskip (t := 20) (c := false) rfl (by kernel_rfl) rfl (bf q97 (by kernel_rfl)) rfl rfl ?_
    refine lskip (t := 20) (c := false) rfl (by kernel_rfl) rfl (bf q97 (by kernel_rfl)) rfl rfl ?_
    refine lskip (t := 20) (c := false) rfl (by kernel_rfl) rfl (bf q97 (by kernel_rfl)) rfl rfl ?_
    refine lskip (t := 20) (c := false) rfl (by kernel_rfl) rfl (bf q97 (by kernel_rfl)) rfl rfl ?_
    refine lv (d := 26) rfl rfl (by kernel_rfl) (e_pick_f (v := .bool false) (bf q97 (by kernel_rfl)) rfl) ?_
    refine wpList_nil ?_
    refine then_n ?_
    refine cond_f rfl (by kernel_rfl) ?_
    refine wp_skip ?_
    refine then_n ?_
    refine wp_region_lit ?_
    refine lv (d := 28) rfl rfl (by kernel_rfl) (e_loadS (b := g85) (off := 0) (cs := [.int .i64 ((x1.cells_.getD ((x30).toNat) z36).kind), .int .i64 ((x1.cells_.getD ((x30).toNat) z36).n), .slice A78 ((x1.cells_.getD ((x30).toNat) z36).text).length c79]) Try.underlying36 rfl (by kernel_rfl) (by kernel_rfl) (blk_cells b92 rfl)) ?_
    have S119 := S93.pull (F := (is g18)) (Fr := [(is g85), (is g23), F7, F11, (is g2)]) 2 rfl rfl
    refine lse rfl rfl (by kernel_rfl) (e_store (g := g18) (o := 0) (v := .agg #[.int .i64 ((x1.cells_.getD ((x30).toNat) z36).kind), .int .i64 ((x1.cells_.getD ((x30).toNat) z36).n), .slice A78 ((x1.cells_.getD ((x30).toNat) z36).text).length c79]) (cur' := #[.int .i64 ((x1.cells_.getD ((x30).toNat) z36).kind), .int .i64 ((x1.cells_.getD ((x30).toNat) z36).n), .slice A78 ((x1.cells_.getD ((x30).toNat) z36).text).length c79]) (vs := [.int .i64 ((x1.cells_.getD ((x30).toNat) z36).kind), .int .i64 ((x1.cells_.getD ((x30).toNat) z36).n), .slice A78 ((x1.cells_.getD ((x30).toNat) z36).text).length c79]) S119 (by exact e37) (by kernel_rfl) rfl (by kernel_rfl) b19 (Nat.le_of_ble_eq_true rfl) (List.forall_mem_cons.2 ⟨rfl, (List.forall_mem_cons.2 ⟨rfl, (List.forall_mem_cons.2 ⟨rfl, (fun _ h_ => by cases h_)⟩)⟩)⟩) rfl) ?_
    rintro w120 ⟨b121, S122, K123⟩
    replace b92 := K123.blk 0 rfl b92
    replace b24 := K123.blk 1 rfl b24
    replace h6 := h6.move (K123.at 2 rfl)
    replace h10 := h10.move (K123.at 3 rfl)
    replace b3 := K123.blk 4 rfl b3
    clear b19
    refine wpList_nil ?_
    refine inb_n ?_
    refine then_n ?_
    have S124 := S122.pull (F := (is g2)) (Fr := [(is g18), (is g85), (is g23), F7, F11]) 5 rfl rfl
    have S125 := S124.pull (F := F11) (Fr := [(is g2), (is g18), (is g85), (is g23), F7]) 5 rfl rfl
    have S126 := S125.pull (F := F7) (Fr := [F11, (is g2), (is g18), (is g85), (is g23)]) 5 rfl rfl
    have S127 := S126.pull (F := (is g18)) (Fr := [F7, F11, (is g2), (is g85), (is g23)]) 3 rfl rfl
    have S128 := S127.pull (F := (is g23)) (Fr := [(is g18), F7, F11, (is g2), (is g85)]) 5 rfl rfl
    have S129 := St.first (Fa := [(is g23), (is g18), F7, F11, (is g2)]) (Fr := [(is g85)]) S128
    exact ⟨k44, (by omega), _, ((x1.cells_.getD ((x30).toNat) z36).kind), ((x1.cells_.getD ((x30).toNat) z36).n), ((x1.cells_.getD ((x30).toNat) z36).text), A78, c79, rfl, (by exact e36), (by exact e37), (by exact e38), b24, b121, h6, h10, b3, h81, l80, S129, M⟩
  replace M := ifn q45 M
  refine cond_f rfl (bf q45 (by kernel_rfl)) ?_
  refine wp_exit ?_
  refine then_e ?_
  refine then_e ?_
  refine inb_hit ?_
  refine then_n ?_
  refine wp_seq ?_
  refine wp_region_lit ?_
  refine lv (d := 29) rfl rfl (by kernel_rfl) (e_loadS (b := g18) (off := 0) (cs := [.int .i64 x29, .int .i64 x30, .slice A32 x31.length c33]) Try.underlying36 rfl (by kernel_rfl) (by exact e37) (blk_cells b19 rfl)) ?_
  refine lse rfl rfl (by kernel_rfl) (e_store (g := g23) (o := 0) (v := .agg #[.int .i64 x29, .int .i64 x30, .slice A32 x31.length c33]) (cur' := #[.int .i64 x29, .int .i64 x30, .slice A32 x31.length c33]) (vs := [.int .i64 x29, .int .i64 x30, .slice A32 x31.length c33]) S39 (by exact e38) (by kernel_rfl) rfl (by kernel_rfl) b24 (Nat.le_of_ble_eq_true rfl) (List.forall_mem_cons.2 ⟨rfl, (List.forall_mem_cons.2 ⟨rfl, (List.forall_mem_cons.2 ⟨rfl, (fun _ h_ => by cases h_)⟩)⟩)⟩) rfl) ?_
  rintro w130 ⟨b131, S132, K133⟩
  replace b19 := K133.blk 0 rfl b19
  replace h6 := h6.move (K133.at 1 rfl)
  replace h10 := h10.move (K133.at 2 rfl)
  replace b3 := K133.blk 3 rfl b3
  clear b24
  refine wpList_nil ?_
  refine then_n ?_
  refine wp_ret ?_
  obtain rfl := Option.some.inj M
  have S134 := S132.pull (F := (is g2)) (Fr := [(is g23), (is g18), F7, F11]) 4 rfl rfl
  have S135 := S134.pull (F := F11) (Fr := [(is g2), (is g23), (is g18), F7]) 4 rfl rfl
  have S136 := S135.pull (F := F7) (Fr := [F11, (is g2), (is g23), (is g18)]) 4 rfl rfl
  have S137 := St.first (Fa := [F7, F11, (is g2)]) (Fr := [(is g23), (is g18)]) S136
  exact retS (ty := 36) (cur := #[.int .i64 x29, .int .i64 x30, .slice A32 x31.length c33]) rfl rfl (by exact e38) b131 Try.underlying36 rfl (by kernel_rfl) ⟨A32, c33, H, rfl, h6, h10, b3, h34, l35, S137⟩

/-! spec_l1copy -/
def spec_l1copy.f (x1 : List UInt8) : Option (List UInt8) := (if 0 + x1.length ≤ 140737488355328 then some x1 else none)
theorem spec_l1copy.calls (w : World) (H : Hp) (x1 : List UInt8) (A2 : Option Addr) (c3 : Nat) (h4 : Rd tByte H A2 x1) (l5 : x1.length ≤ c3) (S : Own [] H w) (r : List UInt8) (M : spec_l1copy.f x1 = some r) :
    Calls Try.prog 48 #[.slice A2 x1.length c3] w (fun e e_w => ∃ (A_1 : Option Addr) (c_1 : Nat) (F_1 : Foot) (H_ : Hp), e = .returned (.slice A_1 r.length c_1) ∧ Row tByte 5 H_ (hp e_w) F_1 A_1 c_1 r ∧ St (anyOf []) H w [F_1] H_ e_w) := by
  rw [spec_l1copy.f] at M
  refine enter (l := [.slice A2 x1.length c3]) 7 Try.func48 rfl rfl rfl ?_
  have S0_ := S.st
  refine wp_seq ?_
  refine wp_region_lit ?_
  refine lv (d := 2) rfl rfl (by kernel_rfl) (e_assign (v := .slice none 0 0) rfl) ?_
  refine wpList_nil ?_
  refine then_n ?_
  refine wp_seq ?_
  refine wp_region_lit ?_
  refine lv (d := 3) rfl rfl (by kernel_rfl) (e_assign (v := .slice none 0 0) rfl) ?_
  refine wpList_nil ?_
  refine then_n ?_
  refine wp_seq ?_
  refine wp_region_lit ?_
  refine lv (d := 4) rfl rfl (by kernel_rfl) (e_move (v := .slice none 0 0) (by kernel_rfl)) ?_
  refine lv (d := 5) rfl rfl (by kernel_rfl) (e_move (v := .slice A2 x1.length c3) (by kernel_rfl)) ?_
  obtain ⟨y6, h7, h8⟩ := Rd.news (d := tByte) (ro_scal _ _) S0_ h4
  obtain ⟨q9, M⟩ := chk M
  have S10 := S0_.unit
  have S11 := S10.unit
  have S12 := S11.pull (F := no) (Fr := [no]) 1 rfl rfl
  refine lve (d := 6) rfl rfl (by kernel_rfl) (e_append (d := tByte) (n := 0) (xs := []) (cap := 0) (A := none) (ys := x1) (A2 := A2) (c2 := c3) (z := .int .u8 0) (bytes := 1) S12 Try.underlying26 (by kernel_rfl) rfl (by decide) (by kernel_rfl) rfl (by kernel_rfl) (Row.nil _ _ _ _ no) h7 h8 (show (0 + x1.length) * 1 ≤ _ by first | omega | (simp only [List.length_cons, List.length_nil]; omega)) (by decide)) ?_
  rintro _ w13 ⟨A14, c15, F16, rfl, h17, S18, K19⟩
  replace h17 : Row tByte 5 H (hp w13) F16 A14 c15 x1 := h17
  refine lv (d := 2) rfl rfl (by kernel_rfl) (e_assign (v := .slice A14 x1.length c15) (by kernel_rfl)) ?_
  refine wpList_nil ?_
  refine then_n ?_
  refine wp_ret ?_
  obtain rfl := Option.some.inj M
  exact ret1 rfl rfl  (show _ = .slice A14 x1.length c15 from (by kernel_rfl)) ⟨A14, c15, F16, H, rfl, h17, S18⟩

/-! spec_l10get -/
mutual
def spec_l10get_2.l0 : Nat → GL10heap → Cell → (List Cell) → Bool → Int → Option ((List Cell) × Bool)
  | 0, _, _, _, _, _ => none
  | k256 + 1, x1, t30, x238, x243, x244 => (if x244 ≤ ((x1.cells_.getD ((t30.n).toNat) z36).n) then (if x243 = true then (if 0 ≤ (IntKind.i64.wrap (t30.n + x244)) then (if (IntKind.i64.wrap (t30.n + x244)) < (x1.cells_.length : Int) then ((spec_l10get_2.f k256 x1 (x1.cells_.getD (((IntKind.i64.wrap (t30.n + x244))).toNat) z36) x238).bind fun t315 => (spec_l10get_2.l0 k256 x1 t30 t315.1 t315.2 (IntKind.i64.wrap (x244 + 1)))) else none) else none) else some (x238, x243)) else some (x238, x243))
def spec_l10get_2.f : Nat → GL10heap → Cell → (List Cell) → Option ((List Cell) × Bool)
  | 0, _, _, _ => none
  | k1_ + 1, x1, x12, x17 => ((spec_l10deref.f k1_ x1 x12).bind fun t30 => (if (x17.length : Int) ≥ 2000 then some ([], false) else (if t30.kind = 0 then (if x17.length + 1 ≤ 3518437208883 then some ((x17 ++ [(⟨0, t30.n, []⟩ : Cell)]), true) else none) else (if t30.kind = 1 then (if x17.length + 1 ≤ 3518437208883 then some ((x17 ++ [(⟨1, t30.n, []⟩ : Cell)]), true) else none) else (if t30.kind = 2 then ((spec_l1copy.f t30.text).bind fun t99 => (if x17.length + 1 ≤ 3518437208883 then some ((x17 ++ [(⟨2, 0, t99⟩ : Cell)]), true) else none)) else (if 0 ≤ t30.n then (if t30.n < (x1.cells_.length : Int) then ((spec_l1copy.f ((x1.cells_.getD ((t30.n).toNat) z36).text)).bind fun t197 => (if x17.length + 1 ≤ 3518437208883 then (spec_l10get_2.l0 k1_ x1 t30 (x17 ++ [(⟨3, (x1.cells_.getD ((t30.n).toNat) z36).n, t197⟩ : Cell)]) true 1) else none)) else none) else none))))))
end
theorem spec_l10get_2.all : ∀ (K : Nat), (∀ (k : Nat), k < K → ∀ (w : World) (H : Hp) (x1 : GL10heap) (g2 : Nat) (A4 : Option Addr) (c5 : Nat) (F7 : Foot) (A8 : Option Addr) (c9 : Nat) (F11 : Foot) (x12 : Cell) (A13 : Option Addr) (c14 : Nat) (x17 : List Cell) (A18 : Option Addr) (c19 : Nat) (F21 : Foot) (h6 : Row (ro st36) 36 H (hp w) F7 A4 c5 x1.cells_) (h10 : Row tInt 3 H (hp w) F11 A8 c9 x1.trail_) (b3 : w.heap[g2]? = some (.cells #[.slice A4 x1.cells_.length c5, .slice A8 x1.trail_.length c9, .int .i64 x1.pairs_] 91 (0, 0))) (h15 : Rd tByte H A13 x12.text) (l16 : x12.text.length ≤ c14) (h20 : Row st36 36 H (hp w) F21 A18 c19 x17) (S : Own [F7, F11, (is g2), F21] H w) (r : (List Cell) × Bool) (M : spec_l10get_2.f k x1 x12 x17 = some r), Calls Try.prog 54 #[.pointer (some ⟨g2, 0, none⟩), .agg #[.int .i64 x12.kind, .int .i64 x12.n, .slice A13 x12.text.length c14], .slice A18 x17.length c19] w (fun e e_w => ∃ (A_1 : Option Addr) (c_1 : Nat) (F_1 : Foot) (H_ : Hp), e = .returned (.tuple #[.slice A_1 r.1.length c_1, .bool r.2]) ∧ Row (ro st36) 36 H_ (hp e_w) F7 A4 c5 x1.cells_ ∧ Row tInt 3 H_ (hp e_w) F11 A8 c9 x1.trail_ ∧ e_w.heap[g2]? = some (.cells #[.slice A4 x1.cells_.length c5, .slice A8 x1.trail_.length c9, .int .i64 x1.pairs_] 91 (0, 0)) ∧ Row st36 36 H_ (hp e_w) F_1 A_1 c_1 r.1 ∧ St (anyOf [F7, F11, (is g2), F21]) H w [F7, F11, (is g2), F_1] H_ e_w)) := by
  intro K
  induction K with
  | zero => intro k hk; omega
  | succ K ih =>
    intro k hk w H x1 g2 A4 c5 F7 A8 c9 F11 x12 A13 c14 x17 A18 c19 F21 h6 h10 b3 h15 l16 h20 S r M
    rcases k with _ | k1_
    · rw [spec_l10get_2.f] at M
      cases M
    rw [spec_l10get_2.f] at M
    refine enter (l := [.pointer (some ⟨g2, 0, none⟩), .agg #[.int .i64 x12.kind, .int .i64 x12.n, .slice A13 x12.text.length c14], .slice A18 x17.length c19]) 89 Try.func54 rfl rfl rfl ?_
    have S0_ := S.st
    refine wp_seq ?_
    refine wp_region_lit ?_
    refine lve (d := 4) rfl rfl (by kernel_rfl) (new_blk (v := fun g_ => .pointer (some ⟨g_, 0, none⟩)) (cs := #[.int .i64 x12.kind, .int .i64 x12.n, .slice A13 x12.text.length c14]) (t := 36) S0_ (by kernel_rfl)) ?_
    rintro _ w22 ⟨g23, rfl, b24, S25, K26⟩
    replace h6 := h6.move (K26.at 0 rfl)
    replace h10 := h10.move (K26.at 1 rfl)
    replace b3 := K26.blk 2 rfl b3
    replace h20 := h20.move (K26.at 3 rfl)
    refine lv (d := 6) rfl rfl (by kernel_rfl) (e_assign (v := .slice none 0 0) rfl) ?_
    refine lv (d := 7) rfl rfl (by kernel_rfl) (e_assign (v := .bool false) rfl) ?_
    refine wpList_nil ?_
    refine then_n ?_
    refine wp_seq ?_
    refine wp_region_lit ?_
    refine lv (d := 11) rfl rfl (by kernel_rfl) (e_move (v := .pointer (some ⟨g2, 0, none⟩)) (by kernel_rfl)) ?_
    refine lv (d := 12) rfl rfl (by kernel_rfl) (e_loadS (b := g23) (off := 0) (cs := [.int .i64 x12.kind, .int .i64 x12.n, .slice A13 x12.text.length c14]) Try.underlying36 rfl (by kernel_rfl) (by kernel_rfl) (blk_cells b24 rfl)) ?_
    have S27 := S25.pull (F := (is g2)) (Fr := [(is g23), F7, F11, F21]) 3 rfl rfl
    have S28 := S27.pull (F := F11) (Fr := [(is g2), (is g23), F7, F21]) 3 rfl rfl
    have S29 := S28.pull (F := F7) (Fr := [F11, (is g2), (is g23), F21]) 3 rfl rfl
    obtain ⟨t30, u31, M⟩ := bnd M
    refine lcall (d := 13) rfl rfl (by kernel_rfl) (e_call (l := [.tmp 11, .tmp 12]) (vs := [.pointer (some ⟨g2, 0, none⟩), .agg #[.int .i64 x12.kind, .int .i64 x12.n, .slice A13 x12.text.length c14]]) Try.func46 (by kernel_rfl) rfl (by kernel_rfl) rfl) (spec_l10deref.calls k1_ w22 H x1 g2 A4 c5 F7 A8 c9 F11 x12 A13 c14 h6 h10 b3 h15 l16 (St.own' (Fa := [F7, F11, (is g2)]) (Fr := [(is g23), F21]) S29) t30 u31) ?_
    rintro _ w32 ⟨A38, c39, H33, rfl, h35, h36, b37, h40, l41, T34⟩
    refine ⟨_, rfl, ?_⟩
    obtain ⟨S42, K43⟩ := St.call (Fa := [F7, F11, (is g2)]) (Fr := [(is g23), F21]) S29 T34
    replace b24 := K43.blk 0 rfl b24
    replace h20 := h20.move (K43.at 1 rfl)
    have E44 := T34.ext
    replace h20 := h20.ext E44
    have S45 := S42.pull (F := (is g23)) (Fr := [F7, F11, (is g2), F21]) 3 rfl rfl
    refine lse rfl rfl (by kernel_rfl) (e_store (g := g23) (o := 0) (v := .agg #[.int .i64 t30.kind, .int .i64 t30.n, .slice A38 t30.text.length c39]) (cur' := #[.int .i64 t30.kind, .int .i64 t30.n, .slice A38 t30.text.length c39]) (vs := [.int .i64 t30.kind, .int .i64 t30.n, .slice A38 t30.text.length c39]) S45 (by kernel_rfl) (by kernel_rfl) rfl (by kernel_rfl) b24 (Nat.le_of_ble_eq_true rfl) (List.forall_mem_cons.2 ⟨rfl, (List.forall_mem_cons.2 ⟨rfl, (List.forall_mem_cons.2 ⟨rfl, (fun _ h_ => by cases h_)⟩)⟩)⟩) rfl) ?_
    rintro w46 ⟨b47, S48, K49⟩
    replace h35 := h35.move (K49.at 0 rfl)
    replace h36 := h36.move (K49.at 1 rfl)
    replace b37 := K49.blk 2 rfl b37
    replace h20 := h20.move (K49.at 3 rfl)
    clear b24
    refine wpList_nil ?_
    refine then_n ?_
    refine wp_seq ?_
    refine wp_seq ?_
    refine wp_region_lit ?_
    refine lv (d := 14) rfl rfl (by kernel_rfl) (e_move (v := .slice A18 x17.length c19) (by kernel_rfl)) ?_
    refine lv (d := 15) rfl rfl (by kernel_rfl) (e_len (A := A18) (n := x17.length) (c := c19) Try.underlying32 (by kernel_rfl)) ?_
    refine lv (d := 16) rfl rfl (by kernel_rfl) (e_geq (k := .i64) (a := (x17.length : Int)) (b := 2000) (by kernel_rfl) rfl) ?_
    refine wpList_nil ?_
    refine then_n ?_
    by_cases q50 : (x17.length : Int) ≥ 2000
    · replace M := ifp q50 M
      refine cond_t rfl (bt q50 (by kernel_rfl)) ?_
      refine wp_seq ?_
      refine wp_region_lit ?_
      refine lv (d := 6) rfl rfl (by kernel_rfl) (e_assign (v := .slice none 0 0) rfl) ?_
      refine lv (d := 7) rfl rfl (by kernel_rfl) (e_assign (v := .bool false) rfl) ?_
      refine wpList_nil ?_
      refine then_n ?_
      refine wp_ret ?_
      refine then_r ?_
      obtain rfl := Option.some.inj M
      have S51 := S48.unit
      have S52 := S51.pull (F := (is g2)) (Fr := [no, (is g23), F7, F11, F21]) 4 rfl rfl
      have S53 := S52.pull (F := F11) (Fr := [(is g2), no, (is g23), F7, F21]) 4 rfl rfl
      have S54 := S53.pull (F := F7) (Fr := [F11, (is g2), no, (is g23), F21]) 4 rfl rfl
      have S55 := St.first (Fa := [F7, F11, (is g2), no]) (Fr := [(is g23), F21]) S54
      exact ret2 rfl rfl rfl (show _ = .slice none 0 0 from (by kernel_rfl)) (show _ = .bool false from (by kernel_rfl)) ⟨none, 0, no, H33, rfl, h35, h36, b37, (Row.nil _ _ _ _ no), S55⟩
    replace M := ifn q50 M
    refine cond_f rfl (bf q50 (by kernel_rfl)) ?_
    refine wp_skip ?_
    refine then_n ?_
    refine wp_seq ?_
    refine wp_seq ?_
    refine wp_region_lit ?_
    refine lv (d := 17) rfl rfl (by kernel_rfl) (e_fieldAddr (b := g23) (off := 0) (o := 0) Try.underlying36 rfl rfl (sz := 1) (by kernel_rfl) (by decide) (by kernel_rfl)) ?_
    refine lv (d := 18) rfl rfl (by kernel_rfl) (e_load1 (ad := ⟨g23, 0 + 0, none⟩) (v := .int .i64 t30.kind) Try.underlying3 rfl (by kernel_rfl) (blk_cell b47 rfl)) ?_
    refine lv (d := 19) rfl rfl (by kernel_rfl) (e_eql (k := .i64) (a := t30.kind) (b := 0) (by kernel_rfl) rfl) ?_
    refine wpList_nil ?_
    refine then_n ?_
    by_cases q56 : t30.kind = 0
    · replace M := ifp q56 M
      refine cond_t rfl (bt q56 (by kernel_rfl)) ?_
      refine wp_seq ?_
      refine wp_region_lit ?_
      refine lv (d := 20) rfl rfl (by kernel_rfl) (e_move (v := .slice A18 x17.length c19) (by kernel_rfl)) ?_
      refine lv (d := 21) rfl rfl (by kernel_rfl) (e_fieldAddr (b := g23) (off := 0) (o := 1) Try.underlying36 rfl rfl (sz := 1) (by kernel_rfl) (by decide) (by kernel_rfl)) ?_
      refine lv (d := 22) rfl rfl (by kernel_rfl) (e_load1 (ad := ⟨g23, 0 + 1, none⟩) (v := .int .i64 t30.n) Try.underlying3 rfl (by kernel_rfl) (blk_cell b47 rfl)) ?_
      refine lv (d := 23) rfl rfl (by kernel_rfl) (show _ = Result.ok (Next.value (.agg #[.int .i64 0, .int .i64 t30.n, .slice none 0 0])) w46 from by kernel_rfl) ?_
      refine lve (d := 24) rfl rfl (by kernel_rfl) (new_blk (v := fun g_ => .slice (some ⟨g_, 0, none⟩) 1 1) (cs := #[.int .i64 0, .int .i64 t30.n, .slice none 0 0]) (t := 36) S48 (by kernel_rfl)) ?_
      rintro _ w57 ⟨g58, rfl, b59, S60, K61⟩
      replace b47 := K61.blk 0 rfl b47
      replace h35 := h35.move (K61.at 1 rfl)
      replace h36 := h36.move (K61.at 2 rfl)
      replace b37 := K61.blk 3 rfl b37
      replace h20 := h20.move (K61.at 4 rfl)
      obtain ⟨q62, M⟩ := chk M
      have S63 := S60.pull (F := F21) (Fr := [(is g58), (is g23), F7, F11, (is g2)]) 5 rfl rfl
      have S64 := S63.unit
      have S65 := S64.pull (F := F21) (Fr := [no, (is g58), (is g23), F7, F11, (is g2)]) 1 rfl rfl
      refine lve (d := 25) rfl rfl (by kernel_rfl) (e_append (d := st36) (n := x17.length) (xs := x17) (cap := c19) (A := A18) (ys := [(⟨0, t30.n, []⟩ : Cell)]) (A2 := (some ⟨g58, 0, none⟩)) (c2 := 1) (z := .agg #[.int .i64 0, .int .i64 0, .slice none 0 0]) (bytes := 40) S65 Try.underlying32 (by kernel_rfl) rfl (by decide) (by kernel_rfl) rfl (by kernel_rfl) h20 (elsO_one1 (st36_mkO (x := (⟨0, t30.n, []⟩ : Cell)) (Row.nil _ _ _ _ no))) (.inr (blk_news b59 rfl)) (show (x17.length + [(⟨0, t30.n, []⟩ : Cell)].length) * 40 ≤ _ by first | omega | (simp only [List.length_cons, List.length_nil]; omega)) (by decide)) ?_
      rintro _ w66 ⟨A67, c68, F69, rfl, h70, S71, K72⟩
      replace b59 := K72.blk 0 rfl b59
      replace b47 := K72.blk 1 rfl b47
      replace h35 := h35.move (K72.at 2 rfl)
      replace h36 := h36.move (K72.at 3 rfl)
      replace b37 := K72.blk 4 rfl b37
      refine lv (d := 6) rfl rfl (by kernel_rfl) (e_assign (v := .slice A67 ((x17 ++ [(⟨0, t30.n, []⟩ : Cell)]).length) c68) (by kernel_rfl)) ?_
      refine lv (d := 7) rfl rfl (by kernel_rfl) (e_assign (v := .bool true) rfl) ?_
      refine wpList_nil ?_
      refine then_n ?_
      refine wp_ret ?_
      refine then_r ?_
      obtain rfl := Option.some.inj M
      have S73 := S71.pull (F := (is g2)) (Fr := [F69, (is g58), (is g23), F7, F11]) 5 rfl rfl
      have S74 := S73.pull (F := F11) (Fr := [(is g2), F69, (is g58), (is g23), F7]) 5 rfl rfl
      have S75 := S74.pull (F := F7) (Fr := [F11, (is g2), F69, (is g58), (is g23)]) 5 rfl rfl
      have S76 := St.first (Fa := [F7, F11, (is g2), F69]) (Fr := [(is g58), (is g23)]) S75
      exact ret2 rfl rfl rfl (show _ = .slice A67 ((x17 ++ [(⟨0, t30.n, []⟩ : Cell)]).length) c68 from (by kernel_rfl)) (show _ = .bool true from (by kernel_rfl)) ⟨A67, c68, F69, H33, rfl, h35, h36, b37, h70, S76⟩
    replace M := ifn q56 M
    refine cond_f rfl (bf q56 (by kernel_rfl)) ?_
    refine wp_skip ?_
    refine then_n ?_
    refine wp_seq ?_
    refine wp_seq ?_
    refine wp_region_lit ?_
    refine lv (d := 26) rfl rfl (by kernel_rfl) (e_fieldAddr (b := g23) (off := 0) (o := 0) Try.underlying36 rfl rfl (sz := 1) (by kernel_rfl) (by decide) (by kernel_rfl)) ?_
    refine lv (d := 27) rfl rfl (by kernel_rfl) (e_load1 (ad := ⟨g23, 0 + 0, none⟩) (v := .int .i64 t30.kind) Try.underlying3 rfl (by kernel_rfl) (blk_cell b47 rfl)) ?_
    refine lv (d := 28) rfl rfl (by kernel_rfl) (e_eql (k := .i64) (a := t30.kind) (b := 1) (by kernel_rfl) rfl) ?_
    refine wpList_nil ?_
    refine then_n ?_
    by_cases q77 : t30.kind = 1
    · replace M := ifp q77 M
      refine cond_t rfl (bt q77 (by kernel_rfl)) ?_
      refine wp_seq ?_
      refine wp_region_lit ?_
      refine lv (d := 29) rfl rfl (by kernel_rfl) (e_move (v := .slice A18 x17.length c19) (by kernel_rfl)) ?_
      refine lv (d := 30) rfl rfl (by kernel_rfl) (e_fieldAddr (b := g23) (off := 0) (o := 1) Try.underlying36 rfl rfl (sz := 1) (by kernel_rfl) (by decide) (by kernel_rfl)) ?_
      refine lv (d := 31) rfl rfl (by kernel_rfl) (e_load1 (ad := ⟨g23, 0 + 1, none⟩) (v := .int .i64 t30.n) Try.underlying3 rfl (by kernel_rfl) (blk_cell b47 rfl)) ?_
      refine lv (d := 32) rfl rfl (by kernel_rfl) (show _ = Result.ok (Next.value (.agg #[.int .i64 1, .int .i64 t30.n, .slice none 0 0])) w46 from by kernel_rfl) ?_
      refine lve (d := 33) rfl rfl (by kernel_rfl) (new_blk (v := fun g_ => .slice (some ⟨g_, 0, none⟩) 1 1) (cs := #[.int .i64 1, .int .i64 t30.n, .slice none 0 0]) (t := 36) S48 (by kernel_rfl)) ?_
      rintro _ w78 ⟨g79, rfl, b80, S81, K82⟩
      replace b47 := K82.blk 0 rfl b47
      replace h35 := h35.move (K82.at 1 rfl)
      replace h36 := h36.move (K82.at 2 rfl)
      replace b37 := K82.blk 3 rfl b37
      replace h20 := h20.move (K82.at 4 rfl)
      obtain ⟨q83, M⟩ := chk M
      have S84 := S81.pull (F := F21) (Fr := [(is g79), (is g23), F7, F11, (is g2)]) 5 rfl rfl
      have S85 := S84.unit
      have S86 := S85.pull (F := F21) (Fr := [no, (is g79), (is g23), F7, F11, (is g2)]) 1 rfl rfl
      refine lve (d := 34) rfl rfl (by kernel_rfl) (e_append (d := st36) (n := x17.length) (xs := x17) (cap := c19) (A := A18) (ys := [(⟨1, t30.n, []⟩ : Cell)]) (A2 := (some ⟨g79, 0, none⟩)) (c2 := 1) (z := .agg #[.int .i64 0, .int .i64 0, .slice none 0 0]) (bytes := 40) S86 Try.underlying32 (by kernel_rfl) rfl (by decide) (by kernel_rfl) rfl (by kernel_rfl) h20 (elsO_one1 (st36_mkO (x := (⟨1, t30.n, []⟩ : Cell)) (Row.nil _ _ _ _ no))) (.inr (blk_news b80 rfl)) (show (x17.length + [(⟨1, t30.n, []⟩ : Cell)].length) * 40 ≤ _ by first | omega | (simp only [List.length_cons, List.length_nil]; omega)) (by decide)) ?_
      rintro _ w87 ⟨A88, c89, F90, rfl, h91, S92, K93⟩
      replace b80 := K93.blk 0 rfl b80
      replace b47 := K93.blk 1 rfl b47
      replace h35 := h35.move (K93.at 2 rfl)
      replace h36 := h36.move (K93.at 3 rfl)
      replace b37 := K93.blk 4 rfl b37
      refine lv (d := 6) rfl rfl (by kernel_rfl) (e_assign (v := .slice A88 ((x17 ++ [(⟨1, t30.n, []⟩ : Cell)]).length) c89) (by kernel_rfl)) ?_
      refine lv (d := 7) rfl rfl (by kernel_rfl) (e_assign (v := .bool true) rfl) ?_
      refine wpList_nil ?_
      refine then_n ?_
      refine wp_ret ?_
      refine then_r ?_
      obtain rfl := Option.some.inj M
      have S94 := S92.pull (F := (is g2)) (Fr := [F90, (is g79), (is g23), F7, F11]) 5 rfl rfl
      have S95 := S94.pull (F := F11) (Fr := [(is g2), F90, (is g79), (is g23), F7]) 5 rfl rfl
      have S96 := S95.pull (F := F7) (Fr := [F11, (is g2), F90, (is g79), (is g23)]) 5 rfl rfl
      have S97 := St.first (Fa := [F7, F11, (is g2), F90]) (Fr := [(is g79), (is g23)]) S96
      exact ret2 rfl rfl rfl (show _ = .slice A88 ((x17 ++ [(⟨1, t30.n, []⟩ : Cell)]).length) c89 from (by kernel_rfl)) (show _ = .bool true from (by kernel_rfl)) ⟨A88, c89, F90, H33, rfl, h35, h36, b37, h91, S97⟩
    replace M := ifn q77 M
    refine cond_f rfl (bf q77 (by kernel_rfl)) ?_
    refine wp_skip ?_
    refine then_n ?_
    refine wp_seq ?_
    refine wp_seq ?_
    refine wp_region_lit ?_
    refine lv (d := 35) rfl rfl (by kernel_rfl) (e_fieldAddr (b := g23) (off := 0) (o := 0) Try.underlying36 rfl rfl (sz := 1) (by kernel_rfl) (by decide) (by kernel_rfl)) ?_
    refine lv (d := 36) rfl rfl (by kernel_rfl) (e_load1 (ad := ⟨g23, 0 + 0, none⟩) (v := .int .i64 t30.kind) Try.underlying3 rfl (by kernel_rfl) (blk_cell b47 rfl)) ?_
    refine lv (d := 37) rfl rfl (by kernel_rfl) (e_eql (k := .i64) (a := t30.kind) (b := 2) (by kernel_rfl) rfl) ?_
    refine wpList_nil ?_
    refine then_n ?_
    by_cases q98 : t30.kind = 2
    · replace M := ifp q98 M
      refine cond_t rfl (bt q98 (by kernel_rfl)) ?_
      refine wp_seq ?_
      refine wp_region_lit ?_
      refine lv (d := 38) rfl rfl (by kernel_rfl) (e_move (v := .slice A18 x17.length c19) (by kernel_rfl)) ?_
      refine lv (d := 39) rfl rfl (by kernel_rfl) (e_fieldAddr (b := g23) (off := 0) (o := 2) Try.underlying36 rfl rfl (sz := 1) (by kernel_rfl) (by decide) (by kernel_rfl)) ?_
      refine lv (d := 40) rfl rfl (by kernel_rfl) (e_load1 (ad := ⟨g23, 0 + 2, none⟩) (v := .slice A38 t30.text.length c39) Try.underlying26 rfl (by kernel_rfl) (blk_cell b47 rfl)) ?_
      obtain ⟨t99, u100, M⟩ := bnd M
      refine lcall (d := 41) rfl rfl (by kernel_rfl) (e_call (l := [.tmp 40]) (vs := [.slice A38 t30.text.length c39]) Try.func48 (by kernel_rfl) rfl (by kernel_rfl) rfl) (spec_l1copy.calls w46 H33 t30.text A38 c39 h40 l41 (St.own' (Fa := []) (Fr := [(is g23), F7, F11, (is g2), F21]) S48) t99 u100) ?_
      rintro _ w101 ⟨A104, c105, F107, H102, rfl, h106, T103⟩
      refine ⟨_, rfl, ?_⟩
      obtain ⟨S108, K109⟩ := St.call (Fa := []) (Fr := [(is g23), F7, F11, (is g2), F21]) S48 T103
      replace b47 := K109.blk 0 rfl b47
      replace h35 := h35.move (K109.at 1 rfl)
      replace h36 := h36.move (K109.at 2 rfl)
      replace b37 := K109.blk 3 rfl b37
      replace h20 := h20.move (K109.at 4 rfl)
      have E110 := T103.ext
      replace h35 := h35.ext E110
      replace h36 := h36.ext E110
      replace h20 := h20.ext E110
      refine lv (d := 42) rfl rfl (by kernel_rfl) (show _ = Result.ok (Next.value (.agg #[.int .i64 2, .int .i64 0, .slice A104 t99.length c105])) w101 from by kernel_rfl) ?_
      refine lve (d := 43) rfl rfl (by kernel_rfl) (new_blk (v := fun g_ => .slice (some ⟨g_, 0, none⟩) 1 1) (cs := #[.int .i64 2, .int .i64 0, .slice A104 t99.length c105]) (t := 36) S108 (by kernel_rfl)) ?_
      rintro _ w111 ⟨g112, rfl, b113, S114, K115⟩
      replace h106 := h106.move (K115.at 0 rfl)
      replace b47 := K115.blk 1 rfl b47
      replace h35 := h35.move (K115.at 2 rfl)
      replace h36 := h36.move (K115.at 3 rfl)
      replace b37 := K115.blk 4 rfl b37
      replace h20 := h20.move (K115.at 5 rfl)
      obtain ⟨q116, M⟩ := chk M
      have S117 := S114.pull (F := F107) (Fr := [(is g112), (is g23), F7, F11, (is g2), F21]) 1 rfl rfl
      have S118 := S117.pull (F := F21) (Fr := [F107, (is g112), (is g23), F7, F11, (is g2)]) 6 rfl rfl
      refine lve (d := 44) rfl rfl (by kernel_rfl) (e_append (d := st36) (n := x17.length) (xs := x17) (cap := c19) (A := A18) (ys := [(⟨2, 0, t99⟩ : Cell)]) (A2 := (some ⟨g112, 0, none⟩)) (c2 := 1) (z := .agg #[.int .i64 0, .int .i64 0, .slice none 0 0]) (bytes := 40) S118 Try.underlying32 (by kernel_rfl) rfl (by decide) (by kernel_rfl) rfl (by kernel_rfl) h20 (elsO_one1 (st36_mkO (x := (⟨2, 0, t99⟩ : Cell)) h106)) (.inr (blk_news b113 rfl)) (show (x17.length + [(⟨2, 0, t99⟩ : Cell)].length) * 40 ≤ _ by first | omega | (simp only [List.length_cons, List.length_nil]; omega)) (by decide)) ?_
      rintro _ w119 ⟨A120, c121, F122, rfl, h123, S124, K125⟩
      replace b113 := K125.blk 0 rfl b113
      replace b47 := K125.blk 1 rfl b47
      replace h35 := h35.move (K125.at 2 rfl)
      replace h36 := h36.move (K125.at 3 rfl)
      replace b37 := K125.blk 4 rfl b37
      refine lv (d := 6) rfl rfl (by kernel_rfl) (e_assign (v := .slice A120 ((x17 ++ [(⟨2, 0, t99⟩ : Cell)]).length) c121) (by kernel_rfl)) ?_
      refine lv (d := 7) rfl rfl (by kernel_rfl) (e_assign (v := .bool true) rfl) ?_
      refine wpList_nil ?_
      refine then_n ?_
      refine wp_ret ?_
      refine then_r ?_
      obtain rfl := Option.some.inj M
      have S126 := S124.pull (F := (is g2)) (Fr := [F122, (is g112), (is g23), F7, F11]) 5 rfl rfl
      have S127 := S126.pull (F := F11) (Fr := [(is g2), F122, (is g112), (is g23), F7]) 5 rfl rfl
      have S128 := S127.pull (F := F7) (Fr := [F11, (is g2), F122, (is g112), (is g23)]) 5 rfl rfl
      have S129 := St.first (Fa := [F7, F11, (is g2), F122]) (Fr := [(is g112), (is g23)]) S128
      exact ret2 rfl rfl rfl (show _ = .slice A120 ((x17 ++ [(⟨2, 0, t99⟩ : Cell)]).length) c121 from (by kernel_rfl)) (show _ = .bool true from (by kernel_rfl)) ⟨A120, c121, F122, H102, rfl, h35, h36, b37, h123, S129⟩
    replace M := ifn q98 M
    refine cond_f rfl (bf q98 (by kernel_rfl)) ?_
    refine wp_skip ?_
    refine then_n ?_
    refine wp_seq ?_
    refine region_mix (S := (fun (L_ : Array Bool) (w_ : World) => Ext H33 (hp w_) ∧ (∀ b_, (is g23) b_ → hp w_ b_ = hp w46 b_) ∧ (∀ b_, F7 b_ → hp w_ b_ = hp w46 b_) ∧ (∀ b_, (is g2) b_ → hp w_ b_ = hp w46 b_))) (by kernel_rfl) S48 ?_
    intro w130 S131 K132 hc133
    have o134 := b47
    have o135 := h35
    have o136 := b37
    have hs137 : (fun (L_ : Array Bool) (w_ : World) => Ext H33 (hp w_) ∧ (∀ b_, (is g23) b_ → hp w_ b_ = hp w46 b_) ∧ (∀ b_, F7 b_ → hp w_ b_ = hp w46 b_) ∧ (∀ b_, (is g2) b_ → hp w_ b_ = hp w46 b_)) (Array.replicate 10 false) w130 := ⟨S131.inv, (fun b_ h_ => K132.at 0 rfl b_ h_), (fun b_ h_ => K132.at 1 rfl b_ h_), (fun b_ h_ => K132.at 3 rfl b_ h_)⟩
    replace b47 := K132.blk 0 rfl b47
    replace h35 := h35.move (K132.at 1 rfl)
    replace h36 := h36.move (K132.at 2 rfl)
    replace b37 := K132.blk 3 rfl b37
    replace h20 := h20.move (K132.at 4 rfl)
    refine xv (i := 0) (d := 45) rfl rfl rfl (by kernel_rfl) (by kernel_rfl) (fun _ _ => Iff.rfl) hc133 hs137 (fun L_ w_ hc_ hu_ hs_ => e_move (v := .pointer (some ⟨g2, 0, none⟩)) (by kernel_rfl)) ?_; intro hc138 hs139
    refine xv (i := 1) (d := 46) rfl rfl rfl (by kernel_rfl) (by kernel_rfl) (fun _ _ => Iff.rfl) hc138 hs139 (fun L_ w_ hc_ hu_ hs_ => e_nilCheck (ad := ⟨g2, 0, none⟩) (by kernel_rfl)) ?_; intro hc140 hs141
    refine xv (i := 2) (d := 47) rfl rfl rfl (by kernel_rfl) (by kernel_rfl) (fun _ _ => Iff.rfl) hc140 hs141 (fun L_ w_ hc_ hu_ hs_ => e_fieldAddr (b := g2) (off := 0) (o := 0) Try.underlying91 rfl rfl (sz := 1) (by kernel_rfl) (by decide) (by kernel_rfl)) ?_; intro hc142 hs143
    refine xv (i := 3) (d := 48) rfl rfl rfl (by kernel_rfl) (by kernel_rfl) (fun _ _ => Iff.rfl) hc142 hs143 (fun L_ w_ hc_ hu_ hs_ => e_load1 (ad := ⟨g2, 0 + 0, none⟩) (v := .slice A4 x1.cells_.length c5) Try.underlying32 rfl (by kernel_rfl) (blk_cell ((hs_.2.2.2 _ rfl).trans o136) rfl)) ?_; intro hc144 hs145
    refine xv (i := 4) (d := 49) rfl rfl rfl (by kernel_rfl) (by kernel_rfl) (fun _ _ => Iff.rfl) hc144 hs145 (fun L_ w_ hc_ hu_ hs_ => e_fieldAddr (b := g23) (off := 0) (o := 1) Try.underlying36 rfl rfl (sz := 1) (by kernel_rfl) (by decide) (by kernel_rfl)) ?_; intro hc146 hs147
    refine xv (i := 5) (d := 50) rfl rfl rfl (by kernel_rfl) (by kernel_rfl) (fun _ _ => Iff.rfl) hc146 hs147 (fun L_ w_ hc_ hu_ hs_ => e_load1 (ad := ⟨g23, 0 + 1, none⟩) (v := .int .i64 t30.n) Try.underlying3 rfl (by kernel_rfl) (blk_cell ((hs_.2.1 _ rfl).trans o134) rfl)) ?_; intro hc148 hs149
    obtain ⟨q150, M⟩ := chk M
    obtain ⟨q151, M⟩ := chk M
    obtain ⟨b152, e154⟩ := Row.addr h35 (show (t30.n).toNat < x1.cells_.length by omega)
    refine xv (i := 6) (d := 51) rfl rfl rfl (by kernel_rfl) (by kernel_rfl) (fun _ _ => Iff.rfl) hc148 hs149 (fun L_ w_ hc_ hu_ hs_ => e_indexAddr (b := b152) (off := 0) (n := x1.cells_.length) (c := c5) (sz := 3) (i := t30.n) (k := .i64) Try.underlying32 e154 (by kernel_rfl) (by kernel_rfl) (by kernel_rfl) q150 q151) ?_; intro hc155 hs156
    obtain ⟨y157, F158, r159, s160, k161⟩ := Row.at o135 e154 (getD_some z36 (show (t30.n).toNat < x1.cells_.length by omega))
    obtain ⟨A162, c163, rfl, l164, h165⟩ := st36_open r159
    refine xv (i := 7) (d := 52) rfl rfl rfl (by kernel_rfl) (by kernel_rfl) (fun _ _ => Iff.rfl) hc155 hs156 (fun L_ w_ hc_ hu_ hs_ => e_loadS (b := b152) (off := 0 + (t30.n : Int).toNat * 3) (cs := [.int .i64 ((x1.cells_.getD ((t30.n).toNat) z36).kind), .int .i64 ((x1.cells_.getD ((t30.n).toNat) z36).n), .slice A162 ((x1.cells_.getD ((t30.n).toNat) z36).text).length c163]) Try.underlying36 rfl (by kernel_rfl) (by kernel_rfl) (fun j_ u_ e_ => (hpx (cell_same (hs_.2.2.1 _ (Row.foot o135 e154)) (k161 j_ u_ e_))))) ?_; intro hc166 hs167
    refine xone (i := 8) (by kernel_rfl) hc166 ?_
    refine ye (i := 8) (d := 8) rfl rfl (wanted_none rfl _) (by kernel_rfl) (by kernel_rfl) (new_blk (v := fun g_ => .pointer (some ⟨g_, 0, none⟩)) (cs := #[.int .i64 0, .int .i64 0, .slice none 0 0]) (t := 36) S131 (by kernel_rfl)) ?_
    rintro hc173 _ w168 ⟨g169, rfl, b170, S171, K172⟩
    replace b47 := K172.blk 0 rfl b47
    replace h35 := h35.move (K172.at 1 rfl)
    replace h36 := h36.move (K172.at 2 rfl)
    replace b37 := K172.blk 3 rfl b37
    replace h20 := h20.move (K172.at 4 rfl)
    refine ⟨⟨S171.inv, (fun b_ h_ => (K172.at 0 rfl b_ h_).trans (hs167.2.1 b_ h_)), (fun b_ h_ => (K172.at 1 rfl b_ h_).trans (hs167.2.2.1 b_ h_)), (fun b_ h_ => (K172.at 3 rfl b_ h_).trans (hs167.2.2.2 b_ h_))⟩, fun hs174 => ?_⟩
    refine xone (i := 9) (by kernel_rfl) hc173 ?_
    refine ys (i := 9) rfl rfl (wanted_none rfl _) (by kernel_rfl) (by kernel_rfl) (e_store (g := g169) (o := 0) (v := .agg #[.int .i64 ((x1.cells_.getD ((t30.n).toNat) z36).kind), .int .i64 ((x1.cells_.getD ((t30.n).toNat) z36).n), .slice A162 ((x1.cells_.getD ((t30.n).toNat) z36).text).length c163]) (cur' := #[.int .i64 ((x1.cells_.getD ((t30.n).toNat) z36).kind), .int .i64 ((x1.cells_.getD ((t30.n).toNat) z36).n), .slice A162 ((x1.cells_.getD ((t30.n).toNat) z36).text).length c163]) (vs := [.int .i64 ((x1.cells_.getD ((t30.n).toNat) z36).kind), .int .i64 ((x1.cells_.getD ((t30.n).toNat) z36).n), .slice A162 ((x1.cells_.getD ((t30.n).toNat) z36).text).length c163]) S171 (by kernel_rfl) (by kernel_rfl) rfl (by kernel_rfl) b170 (Nat.le_of_ble_eq_true rfl) (List.forall_mem_cons.2 ⟨rfl, (List.forall_mem_cons.2 ⟨rfl, (List.forall_mem_cons.2 ⟨rfl, (fun _ h_ => by cases h_)⟩)⟩)⟩) rfl) ?_
    rintro hc179 w175 ⟨b176, S177, K178⟩
    replace b47 := K178.blk 0 rfl b47
    replace h35 := h35.move (K178.at 1 rfl)
    replace h36 := h36.move (K178.at 2 rfl)
    replace b37 := K178.blk 3 rfl b37
    replace h20 := h20.move (K178.at 4 rfl)
    refine ⟨⟨S177.inv, (fun b_ h_ => (K178.at 0 rfl b_ h_).trans (hs174.2.1 b_ h_)), (fun b_ h_ => (K178.at 1 rfl b_ h_).trans (hs174.2.2.1 b_ h_)), (fun b_ h_ => (K178.at 3 rfl b_ h_).trans (hs174.2.2.2 b_ h_))⟩, fun hs180 => ?_⟩
    clear b170
    refine xn (by kernel_rfl) ?_ _
    refine then_n ?_
    refine wp_seq ?_
    refine region_mix (S := (fun (L_ : Array Bool) (w_ : World) => Ext H33 (hp w_) ∧ (∀ b_, (is g169) b_ → hp w_ b_ = hp w175 b_))) (by kernel_rfl) S177 ?_
    intro w181 S182 K183 hc184
    have o185 := b176
    have hs186 : (fun (L_ : Array Bool) (w_ : World) => Ext H33 (hp w_) ∧ (∀ b_, (is g169) b_ → hp w_ b_ = hp w175 b_)) (Array.replicate 10 false) w181 := ⟨S182.inv, (fun b_ h_ => K183.at 0 rfl b_ h_)⟩
    replace b176 := K183.blk 0 rfl b176
    replace b47 := K183.blk 1 rfl b47
    replace h35 := h35.move (K183.at 2 rfl)
    replace h36 := h36.move (K183.at 3 rfl)
    replace b37 := K183.blk 4 rfl b37
    replace h20 := h20.move (K183.at 5 rfl)
    refine xv (i := 0) (d := 53) rfl rfl rfl (by kernel_rfl) (by kernel_rfl) (fun _ _ => Iff.rfl) hc184 hs186 (fun L_ w_ hc_ hu_ hs_ => e_move (v := .slice A18 x17.length c19) (by kernel_rfl)) ?_; intro hc187 hs188
    refine xv (i := 1) (d := 54) rfl rfl rfl (by kernel_rfl) (by kernel_rfl) (fun _ _ => Iff.rfl) hc187 hs188 (fun L_ w_ hc_ hu_ hs_ => e_fieldAddr (b := g169) (off := 0) (o := 1) Try.underlying36 rfl rfl (sz := 1) (by kernel_rfl) (by decide) (by kernel_rfl)) ?_; intro hc189 hs190
    refine xv (i := 2) (d := 55) rfl rfl rfl (by kernel_rfl) (by kernel_rfl) (fun _ _ => Iff.rfl) hc189 hs190 (fun L_ w_ hc_ hu_ hs_ => e_load1 (ad := ⟨g169, 0 + 1, none⟩) (v := .int .i64 ((x1.cells_.getD ((t30.n).toNat) z36).n)) Try.underlying3 rfl (by kernel_rfl) (blk_cell ((hs_.2 _ rfl).trans o185) rfl)) ?_; intro hc191 hs192
    refine xone (i := 3) (by kernel_rfl) hc191 ?_
    refine yo (i := 3) (d := 56) rfl rfl (wanted_none rfl _) (by kernel_rfl) (by kernel_rfl) (fun _ _ => Iff.rfl) hs192 (e_fieldAddr (b := g169) (off := 0) (o := 2) Try.underlying36 rfl rfl (sz := 1) (by kernel_rfl) (by decide) (by kernel_rfl)) ?_; intro hc193 hs194
    refine xone (i := 4) (by kernel_rfl) hc193 ?_
    refine yo (i := 4) (d := 57) rfl rfl (wanted_none rfl _) (by kernel_rfl) (by kernel_rfl) (fun _ _ => Iff.rfl) hs194 (e_load1 (ad := ⟨g169, 0 + 2, none⟩) (v := .slice A162 ((x1.cells_.getD ((t30.n).toNat) z36).text).length c163) Try.underlying26 rfl (by kernel_rfl) (blk_cell b176 rfl)) ?_; intro hc195 hs196
    obtain ⟨t197, u198, M⟩ := bnd M
    refine xone (i := 5) (by kernel_rfl) hc195 ?_
    refine yc (i := 5) rfl (wanted_none rfl _) (by kernel_rfl) (by kernel_rfl) (e_call (l := [.tmp 57]) (vs := [.slice A162 ((x1.cells_.getD ((t30.n).toNat) z36).text).length c163]) Try.func48 (by kernel_rfl) rfl (by kernel_rfl) rfl) (spec_l1copy.calls w181 H33 ((x1.cells_.getD ((t30.n).toNat) z36).text) A162 c163 h165 l164 (St.own' (Fa := []) (Fr := [(is g169), (is g23), F7, F11, (is g2), F21]) S182) t197 u198) ?_
    rintro hc206 _ w199 ⟨A202, c203, F205, H200, rfl, h204, T201⟩
    refine ⟨_, rfl, ?_⟩
    obtain ⟨S207, K208⟩ := St.call (Fa := []) (Fr := [(is g169), (is g23), F7, F11, (is g2), F21]) S182 T201
    replace b176 := K208.blk 0 rfl b176
    replace b47 := K208.blk 1 rfl b47
    replace h35 := h35.move (K208.at 2 rfl)
    replace h36 := h36.move (K208.at 3 rfl)
    replace b37 := K208.blk 4 rfl b37
    replace h20 := h20.move (K208.at 5 rfl)
    have E209 := T201.ext
    replace h35 := h35.ext E209
    replace h36 := h36.ext E209
    replace h20 := h20.ext E209
    refine ⟨⟨(Ext.trans E209 S207.inv), (fun b_ h_ => (K208.at 0 rfl b_ h_).trans (hs196.2 b_ h_))⟩, fun hs210 => ?_⟩
    refine xone (i := 6) (by kernel_rfl) hc206 ?_
    refine yo (i := 6) (d := 59) rfl rfl (wanted_none rfl _) (by kernel_rfl) (by kernel_rfl) (fun _ _ => Iff.rfl) hs210 (show _ = Result.ok (Next.value (.agg #[.int .i64 3, .int .i64 ((x1.cells_.getD ((t30.n).toNat) z36).n), .slice A202 t197.length c203])) w199 from by kernel_rfl) ?_; intro hc211 hs212
    refine xone (i := 7) (by kernel_rfl) hc211 ?_
    refine ye (i := 7) (d := 60) rfl rfl (wanted_none rfl _) (by kernel_rfl) (by kernel_rfl) (new_blk (v := fun g_ => .slice (some ⟨g_, 0, none⟩) 1 1) (cs := #[.int .i64 3, .int .i64 ((x1.cells_.getD ((t30.n).toNat) z36).n), .slice A202 t197.length c203]) (t := 36) S207 (by kernel_rfl)) ?_
    rintro hc218 _ w213 ⟨g214, rfl, b215, S216, K217⟩
    replace h204 := h204.move (K217.at 0 rfl)
    replace b176 := K217.blk 1 rfl b176
    replace b47 := K217.blk 2 rfl b47
    replace h35 := h35.move (K217.at 3 rfl)
    replace h36 := h36.move (K217.at 4 rfl)
    replace b37 := K217.blk 5 rfl b37
    replace h20 := h20.move (K217.at 6 rfl)
    refine ⟨⟨(Ext.trans E209 S216.inv), (fun b_ h_ => (K217.at 1 rfl b_ h_).trans (hs212.2 b_ h_))⟩, fun hs219 => ?_⟩
    obtain ⟨q220, M⟩ := chk M
    have S221 := S216.pull (F := F205) (Fr := [(is g214), (is g169), (is g23), F7, F11, (is g2), F21]) 1 rfl rfl
    have S222 := S221.pull (F := F21) (Fr := [F205, (is g214), (is g169), (is g23), F7, F11, (is g2)]) 7 rfl rfl
    refine xone (i := 8) (by kernel_rfl) hc218 ?_
    refine ye (i := 8) (d := 61) rfl rfl (wanted_none rfl _) (by kernel_rfl) (by kernel_rfl) (e_append (d := st36) (n := x17.length) (xs := x17) (cap := c19) (A := A18) (ys := [(⟨3, (x1.cells_.getD ((t30.n).toNat) z36).n, t197⟩ : Cell)]) (A2 := (some ⟨g214, 0, none⟩)) (c2 := 1) (z := .agg #[.int .i64 0, .int .i64 0, .slice none 0 0]) (bytes := 40) S222 Try.underlying32 (by kernel_rfl) rfl (by decide) (by kernel_rfl) rfl (by kernel_rfl) h20 (elsO_one1 (st36_mkO (x := (⟨3, (x1.cells_.getD ((t30.n).toNat) z36).n, t197⟩ : Cell)) h204)) (.inr (blk_news b215 rfl)) (show (x17.length + [(⟨3, (x1.cells_.getD ((t30.n).toNat) z36).n, t197⟩ : Cell)].length) * 40 ≤ _ by first | omega | (simp only [List.length_cons, List.length_nil]; omega)) (by decide)) ?_
    rintro hc230 _ w223 ⟨A224, c225, F226, rfl, h227, S228, K229⟩
    replace b215 := K229.blk 0 rfl b215
    replace b176 := K229.blk 1 rfl b176
    replace b47 := K229.blk 2 rfl b47
    replace h35 := h35.move (K229.at 3 rfl)
    replace h36 := h36.move (K229.at 4 rfl)
    replace b37 := K229.blk 5 rfl b37
    refine ⟨⟨(Ext.trans E209 S228.inv), (fun b_ h_ => (K229.at 1 rfl b_ h_).trans (hs219.2 b_ h_))⟩, fun hs231 => ?_⟩
    refine xone (i := 9) (by kernel_rfl) hc230 ?_
    refine yo (i := 9) (d := 2) rfl rfl (wanted_none rfl _) (by kernel_rfl) (by kernel_rfl) (fun _ _ => Iff.rfl) hs231 (e_assign (v := .slice A224 ((x17 ++ [(⟨3, (x1.cells_.getD ((t30.n).toNat) z36).n, t197⟩ : Cell)]).length) c225) (by kernel_rfl)) ?_; intro hc232 hs233
    refine xn (by kernel_rfl) ?_ _
    refine then_n ?_
    refine wp_seq ?_
    refine wp_region_lit ?_
    refine lv (d := 9) rfl rfl (by kernel_rfl) (e_assign (v := .bool true) rfl) ?_
    refine wpList_nil ?_
    refine then_n ?_
    refine wp_seq ?_
    refine wp_seq ?_
    refine wp_region_lit ?_
    refine lv (d := 10) rfl rfl (by kernel_rfl) (e_assign (v := .int .i64 1) rfl) ?_
    refine wpList_nil ?_
    refine then_n ?_
    refine wp_block ?_
    have S257 := S228.pull (F := (is g2)) (Fr := [F226, (is g214), (is g169), (is g23), F7, F11]) 6 rfl rfl
    have S258 := S257.pull (F := F11) (Fr := [(is g2), F226, (is g214), (is g169), (is g23), F7]) 6 rfl rfl
    have S259 := S258.pull (F := F7) (Fr := [F11, (is g2), F226, (is g214), (is g169), (is g23)]) 6 rfl rfl
    have S260 := S259.pull (F := (is g23)) (Fr := [F7, F11, (is g2), F226, (is g214), (is g169)]) 6 rfl rfl
    have S261 := S260.pull (F := (is g169)) (Fr := [(is g23), F7, F11, (is g2), F226, (is g214)]) 6 rfl rfl
    have S262 := St.first (Fa := [(is g169), (is g23), F7, F11, (is g2), F226]) (Fr := [(is g214)]) S261
    refine wp_loop_g (fun k254 a255 w234 => ∃ (f235 : Nat → Value) (H236 : Hp) (x238 : List Cell) (A239 : Option Addr) (c240 : Nat) (F241 : Foot) (x243 : Bool) (x244 : Int), k254 < K ∧ a255 = mk 89 f235 ∧ f235 0 = .pointer (some ⟨g2, 0, none⟩) ∧ f235 2 = .slice A239 x238.length c240 ∧ f235 4 = .pointer (some ⟨g23, 0, none⟩) ∧ f235 8 = .pointer (some ⟨g169, 0, none⟩) ∧ f235 9 = .bool x243 ∧ f235 10 = .int .i64 x244 ∧ w234.heap[g169]? = some (.cells #[.int .i64 ((x1.cells_.getD ((t30.n).toNat) z36).kind), .int .i64 ((x1.cells_.getD ((t30.n).toNat) z36).n), .slice A162 ((x1.cells_.getD ((t30.n).toNat) z36).text).length c163] 36 (0, 0)) ∧ w234.heap[g23]? = some (.cells #[.int .i64 t30.kind, .int .i64 t30.n, .slice A38 t30.text.length c39] 36 (0, 0)) ∧ Row (ro st36) 36 H236 (hp w234) F7 A4 c5 x1.cells_ ∧ Row tInt 3 H236 (hp w234) F11 A8 c9 x1.trail_ ∧ w234.heap[g2]? = some (.cells #[.slice A4 x1.cells_.length c5, .slice A8 x1.trail_.length c9, .int .i64 x1.pairs_] 91 (0, 0)) ∧ Row st36 36 H236 (hp w234) F241 A239 c240 x238 ∧ Ext H200 H236 ∧ St (anyOf [F7, F11, (is g2), F21]) H w [(is g169), (is g23), F7, F11, (is g2), F241] H236 w234 ∧ spec_l10get_2.l0 k254 x1 t30 x238 x243 x244 = some r) k1_ ⟨_, H200, (x17 ++ [(⟨3, (x1.cells_.getD ((t30.n).toNat) z36).n, t197⟩ : Cell)]), A224, c225, F226, true, 1, (by omega), rfl, (by kernel_rfl), (by kernel_rfl), (by kernel_rfl), (by kernel_rfl), (by kernel_rfl), (by kernel_rfl), b176, b47, h35, h36, b37, h227, (Ext.refl _), S262, M⟩ ?_
    clear M
    rintro k254 a255 w234 ⟨f235, H236, x238, A239, c240, F241, x243, x244, z252, rfl, e245, e246, e247, e248, e249, e250, b176, b47, h35, h36, b37, h242, Y237, S251, M⟩
    rcases k254 with _ | k256
    · rw [spec_l10get_2.l0] at M
      cases M
    rw [spec_l10get_2.l0] at M
    refine wp_seq ?_
    refine wp_seq ?_
    refine wp_region_lit ?_
    refine lv (d := 62) rfl rfl (by kernel_rfl) (e_move (v := .int .i64 x244) (by exact e250)) ?_
    refine lv (d := 63) rfl rfl (by kernel_rfl) (e_fieldAddr (b := g169) (off := 0) (o := 1) Try.underlying36 rfl rfl (sz := 1) (by kernel_rfl) (by decide) (by exact e248)) ?_
    refine lv (d := 64) rfl rfl (by kernel_rfl) (e_load1 (ad := ⟨g169, 0 + 1, none⟩) (v := .int .i64 ((x1.cells_.getD ((t30.n).toNat) z36).n)) Try.underlying3 rfl (by kernel_rfl) (blk_cell b176 rfl)) ?_
    refine lv (d := 65) rfl rfl (by kernel_rfl) (e_leq (k := .i64) (a := x244) (b := (x1.cells_.getD ((t30.n).toNat) z36).n) (by kernel_rfl) (by kernel_rfl)) ?_
    refine lv (d := 66) rfl rfl (by kernel_rfl) (e_move (v := .bool (decide (x244 ≤ ((x1.cells_.getD ((t30.n).toNat) z36).n)))) (by kernel_rfl)) ?_
    by_cases q263 : x244 ≤ ((x1.cells_.getD ((t30.n).toNat) z36).n)
    · replace M := ifp q263 M
      refine lvg (d := 67) (t := 66) rfl (by kernel_rfl) rfl (bt q263 (by kernel_rfl)) rfl (by kernel_rfl) (e_move (v := .bool x243) (by exact e249)) ?_
      refine lv (d := 68) rfl rfl (by kernel_rfl) (e_pick_t (v := .bool x243) (bt q263 (by kernel_rfl)) (by kernel_rfl)) ?_
      refine wpList_nil ?_
      refine then_n ?_
      by_cases q264 : x243 = true
      · replace M := ifp q264 M
        refine cond_t rfl (bvt q264 (by kernel_rfl)) ?_
        refine wp_skip ?_
        refine then_n ?_
        refine wp_seq ?_
        refine wp_block ?_
        refine region_mix (S := (fun (L_ : Array Bool) (w_ : World) => Ext H236 (hp w_) ∧ (∀ b_, (is g23) b_ → hp w_ b_ = hp w234 b_) ∧ (L_.getD 12 true = false → (∀ b_, F7 b_ → hp w_ b_ = hp w234 b_)) ∧ (L_.getD 12 true = false → (∀ b_, (is g2) b_ → hp w_ b_ = hp w234 b_)))) (by kernel_rfl) S251 ?_
        intro w265 S266 K267 hc268
        have o269 := b47
        have o270 := h35
        have o271 := b37
        have hs272 : (fun (L_ : Array Bool) (w_ : World) => Ext H236 (hp w_) ∧ (∀ b_, (is g23) b_ → hp w_ b_ = hp w234 b_) ∧ (L_.getD 12 true = false → (∀ b_, F7 b_ → hp w_ b_ = hp w234 b_)) ∧ (L_.getD 12 true = false → (∀ b_, (is g2) b_ → hp w_ b_ = hp w234 b_))) (Array.replicate 18 false) w265 := ⟨S266.inv, (fun b_ h_ => K267.at 1 rfl b_ h_), (fun _ => (fun b_ h_ => K267.at 2 rfl b_ h_)), (fun _ => (fun b_ h_ => K267.at 4 rfl b_ h_))⟩
        replace b176 := K267.blk 0 rfl b176
        replace b47 := K267.blk 1 rfl b47
        replace h35 := h35.move (K267.at 2 rfl)
        replace h36 := h36.move (K267.at 3 rfl)
        replace b37 := K267.blk 4 rfl b37
        replace h242 := h242.move (K267.at 5 rfl)
        refine xv (i := 0) (d := 72) rfl rfl rfl (by kernel_rfl) (by kernel_rfl) (fun L_ w_ => by simp only [getD_set_ne true (show (0 : Nat) ≠ 12 by decide)]) hc268 hs272 (fun L_ w_ hc_ hu_ hs_ => e_move (v := .pointer (some ⟨g2, 0, none⟩)) (by exact e245)) ?_; intro hc273 hs274
        refine xv (i := 1) (d := 73) rfl rfl rfl (by kernel_rfl) (by kernel_rfl) (fun L_ w_ => by simp only [getD_set_ne true (show (1 : Nat) ≠ 12 by decide)]) hc273 hs274 (fun L_ w_ hc_ hu_ hs_ => e_move (v := .pointer (some ⟨g2, 0, none⟩)) (by exact e245)) ?_; intro hc275 hs276
        refine xv (i := 2) (d := 74) rfl rfl rfl (by kernel_rfl) (by kernel_rfl) (fun L_ w_ => by simp only [getD_set_ne true (show (2 : Nat) ≠ 12 by decide)]) hc275 hs276 (fun L_ w_ hc_ hu_ hs_ => e_nilCheck (ad := ⟨g2, 0, none⟩) (by kernel_rfl)) ?_; intro hc277 hs278
        refine xv (i := 3) (d := 75) rfl rfl rfl (by kernel_rfl) (by kernel_rfl) (fun L_ w_ => by simp only [getD_set_ne true (show (3 : Nat) ≠ 12 by decide)]) hc277 hs278 (fun L_ w_ hc_ hu_ hs_ => e_fieldAddr (b := g2) (off := 0) (o := 0) Try.underlying91 rfl rfl (sz := 1) (by kernel_rfl) (by decide) (by kernel_rfl)) ?_; intro hc279 hs280
        refine xv (i := 4) (d := 76) rfl rfl rfl (by kernel_rfl) (by kernel_rfl) (fun L_ w_ => by simp only [getD_set_ne true (show (4 : Nat) ≠ 12 by decide)]) hc279 hs280 (fun L_ w_ hc_ hu_ hs_ => e_load1 (ad := ⟨g2, 0 + 0, none⟩) (v := .slice A4 x1.cells_.length c5) Try.underlying32 rfl (by kernel_rfl) (blk_cell (((hs_.2.2.2 (unl 9 12 4 hc_ hu_ (by kernel_rfl))) _ rfl).trans o271) rfl)) ?_; intro hc281 hs282
        refine xv (i := 5) (d := 77) rfl rfl rfl (by kernel_rfl) (by kernel_rfl) (fun L_ w_ => by simp only [getD_set_ne true (show (5 : Nat) ≠ 12 by decide)]) hc281 hs282 (fun L_ w_ hc_ hu_ hs_ => e_fieldAddr (b := g23) (off := 0) (o := 1) Try.underlying36 rfl rfl (sz := 1) (by kernel_rfl) (by decide) (by exact e247)) ?_; intro hc283 hs284
        refine xv (i := 6) (d := 78) rfl rfl rfl (by kernel_rfl) (by kernel_rfl) (fun L_ w_ => by simp only [getD_set_ne true (show (6 : Nat) ≠ 12 by decide)]) hc283 hs284 (fun L_ w_ hc_ hu_ hs_ => e_load1 (ad := ⟨g23, 0 + 1, none⟩) (v := .int .i64 t30.n) Try.underlying3 rfl (by kernel_rfl) (blk_cell ((hs_.2.1 _ rfl).trans o269) rfl)) ?_; intro hc285 hs286
        refine xv (i := 7) (d := 79) rfl rfl rfl (by kernel_rfl) (by kernel_rfl) (fun L_ w_ => by simp only [getD_set_ne true (show (7 : Nat) ≠ 12 by decide)]) hc285 hs286 (fun L_ w_ hc_ hu_ hs_ => e_move (v := .int .i64 x244) (by exact e250)) ?_; intro hc287 hs288
        refine xv (i := 8) (d := 80) rfl rfl rfl (by kernel_rfl) (by kernel_rfl) (fun L_ w_ => by simp only [getD_set_ne true (show (8 : Nat) ≠ 12 by decide)]) hc287 hs288 (fun L_ w_ hc_ hu_ hs_ => e_add (k := .i64) (a := t30.n) (b := x244) (by kernel_rfl) (by kernel_rfl)) ?_; intro hc289 hs290
        obtain ⟨q291, M⟩ := chk M
        obtain ⟨q292, M⟩ := chk M
        obtain ⟨b293, e295⟩ := Row.addr h35 (show ((IntKind.i64.wrap (t30.n + x244))).toNat < x1.cells_.length by omega)
        refine xv (i := 9) (d := 81) rfl rfl rfl (by kernel_rfl) (by kernel_rfl) (fun L_ w_ => by simp only [getD_set_ne true (show (9 : Nat) ≠ 12 by decide)]) hc289 hs290 (fun L_ w_ hc_ hu_ hs_ => e_indexAddr (b := b293) (off := 0) (n := x1.cells_.length) (c := c5) (sz := 3) (i := (IntKind.i64.wrap (t30.n + x244))) (k := .i64) Try.underlying32 e295 (by kernel_rfl) (by kernel_rfl) (by kernel_rfl) q291 q292) ?_; intro hc296 hs297
        obtain ⟨y298, F299, r300, s301, k302⟩ := Row.at o270 e295 (getD_some z36 (show ((IntKind.i64.wrap (t30.n + x244))).toNat < x1.cells_.length by omega))
        obtain ⟨A303, c304, rfl, l305, h306⟩ := st36_open r300
        refine xv (i := 10) (d := 82) rfl rfl rfl (by kernel_rfl) (by kernel_rfl) (fun L_ w_ => by simp only [getD_set_ne true (show (10 : Nat) ≠ 12 by decide)]) hc296 hs297 (fun L_ w_ hc_ hu_ hs_ => e_loadS (b := b293) (off := 0 + ((IntKind.i64.wrap (t30.n + x244)) : Int).toNat * 3) (cs := [.int .i64 ((x1.cells_.getD (((IntKind.i64.wrap (t30.n + x244))).toNat) z36).kind), .int .i64 ((x1.cells_.getD (((IntKind.i64.wrap (t30.n + x244))).toNat) z36).n), .slice A303 ((x1.cells_.getD (((IntKind.i64.wrap (t30.n + x244))).toNat) z36).text).length c304]) Try.underlying36 rfl (by kernel_rfl) (by kernel_rfl) (fun j_ u_ e_ => (hpx (cell_same ((hs_.2.2.1 (unl 9 12 10 hc_ hu_ (by kernel_rfl))) _ (Row.foot o270 e295)) (k302 j_ u_ e_))))) ?_; intro hc307 hs308
        refine xone (i := 11) (by kernel_rfl) hc307 ?_
        refine yo (i := 11) (d := 83) rfl rfl (wanted_none rfl _) (by kernel_rfl) (by kernel_rfl) (fun L_ w_ => by simp only [getD_set_ne true (show (11 : Nat) ≠ 12 by decide)]) hs308 (e_move (v := .slice A239 x238.length c240) (by exact e246)) ?_; intro hc309 hs310
        have S311 := S266.pull (F := F241) (Fr := [(is g169), (is g23), F7, F11, (is g2)]) 5 rfl rfl
        have S312 := S311.pull (F := (is g2)) (Fr := [F241, (is g169), (is g23), F7, F11]) 5 rfl rfl
        have S313 := S312.pull (F := F11) (Fr := [(is g2), F241, (is g169), (is g23), F7]) 5 rfl rfl
        have S314 := S313.pull (F := F7) (Fr := [F11, (is g2), F241, (is g169), (is g23)]) 5 rfl rfl
        obtain ⟨t315, u316, M⟩ := bnd M
        refine xone (i := 12) (by kernel_rfl) hc309 ?_
        refine yc (i := 12) rfl (wanted_none rfl _) (by kernel_rfl) (by kernel_rfl) (e_call (l := [.tmp 72, .tmp 82, .tmp 83]) (vs := [.pointer (some ⟨g2, 0, none⟩), .agg #[.int .i64 ((x1.cells_.getD (((IntKind.i64.wrap (t30.n + x244))).toNat) z36).kind), .int .i64 ((x1.cells_.getD (((IntKind.i64.wrap (t30.n + x244))).toNat) z36).n), .slice A303 ((x1.cells_.getD (((IntKind.i64.wrap (t30.n + x244))).toNat) z36).text).length c304], .slice A239 x238.length c240]) Try.func54 (by kernel_rfl) rfl (by kernel_rfl) rfl) (ih k256 (by omega) w265 H236 x1 g2 A4 c5 F7 A8 c9 F11 (x1.cells_.getD (((IntKind.i64.wrap (t30.n + x244))).toNat) z36) A303 c304 x238 A239 c240 F241 h35 h36 b37 h306 l305 h242 (St.own' (Fa := [F7, F11, (is g2), F241]) (Fr := [(is g169), (is g23)]) S314) t315 u316) ?_
        rintro hc327 _ w317 ⟨A323, c324, F326, H318, rfl, h320, h321, b322, h325, T319⟩
        refine ⟨_, rfl, ?_⟩
        obtain ⟨S328, K329⟩ := St.call (Fa := [F7, F11, (is g2), F241]) (Fr := [(is g169), (is g23)]) S314 T319
        replace b176 := K329.blk 0 rfl b176
        replace b47 := K329.blk 1 rfl b47
        have E330 := T319.ext
        refine ⟨⟨(Ext.trans E330 S328.inv), (fun b_ h_ => (K329.at 1 rfl b_ h_).trans (hs310.2.1 b_ h_)), (fun q_ => absurd q_ (by decide +kernel)), (fun q_ => absurd q_ (by decide +kernel))⟩, fun hs331 => ?_⟩
        refine xone (i := 13) (by kernel_rfl) hc327 ?_
        refine yo (i := 13) (d := 71) rfl rfl (wanted_none rfl _) (by kernel_rfl) (by kernel_rfl) (fun L_ w_ => by simp only [getD_set_ne true (show (13 : Nat) ≠ 12 by decide)]) hs331 (e_move (v := .tuple #[.slice A323 t315.1.length c324, .bool t315.2]) (by kernel_rfl)) ?_; intro hc332 hs333
        refine xv (i := 14) (d := 85) rfl rfl rfl (by kernel_rfl) (by kernel_rfl) (fun L_ w_ => by simp only [getD_set_ne true (show (14 : Nat) ≠ 12 by decide)]) hc332 hs333 (fun L_ w_ hc_ hu_ hs_ => e_extract (vs := #[.slice A323 t315.1.length c324, .bool t315.2]) (v := .slice A323 t315.1.length c324) (by kernel_rfl) rfl) ?_; intro hc334 hs335
        refine xv (i := 15) (d := 86) rfl rfl rfl (by kernel_rfl) (by kernel_rfl) (fun L_ w_ => by simp only [getD_set_ne true (show (15 : Nat) ≠ 12 by decide)]) hc334 hs335 (fun L_ w_ hc_ hu_ hs_ => e_extract (vs := #[.slice A323 t315.1.length c324, .bool t315.2]) (v := .bool t315.2) (by kernel_rfl) rfl) ?_; intro hc336 hs337
        refine xone (i := 16) (by kernel_rfl) hc336 ?_
        refine yo (i := 16) (d := 2) rfl rfl (wanted_none rfl _) (by kernel_rfl) (by kernel_rfl) (fun L_ w_ => by simp only [getD_set_ne true (show (16 : Nat) ≠ 12 by decide)]) hs337 (e_assign (v := .slice A323 t315.1.length c324) (by kernel_rfl)) ?_; intro hc338 hs339
        refine xone (i := 17) (by kernel_rfl) hc338 ?_
        refine yo (i := 17) (d := 9) rfl rfl (wanted_none rfl _) (by kernel_rfl) (by kernel_rfl) (fun L_ w_ => by simp only [getD_set_ne true (show (17 : Nat) ≠ 12 by decide)]) hs339 (e_assign (v := .bool t315.2) (by kernel_rfl)) ?_; intro hc340 hs341
        refine xn (by kernel_rfl) ?_ _
        refine inb_n ?_
        refine then_n ?_
        refine wp_region_lit ?_
        refine lv (d := 69) rfl rfl (by kernel_rfl) (e_move (v := .int .i64 x244) (by exact e250)) ?_
        refine lv (d := 70) rfl rfl (by kernel_rfl) (e_add (k := .i64) (a := x244) (b := 1) (by kernel_rfl) rfl) ?_
        refine lv (d := 10) rfl rfl (by kernel_rfl) (e_assign (v := .int .i64 (IntKind.i64.wrap (x244 + 1))) (by kernel_rfl)) ?_
        refine wpList_nil ?_
        refine then_n ?_
        have S342 := S328.pull (F := F326) (Fr := [F7, F11, (is g2), (is g169), (is g23)]) 3 rfl rfl
        have S343 := S342.pull (F := (is g2)) (Fr := [F326, F7, F11, (is g169), (is g23)]) 3 rfl rfl
        have S344 := S343.pull (F := F11) (Fr := [(is g2), F326, F7, (is g169), (is g23)]) 3 rfl rfl
        have S345 := S344.pull (F := F7) (Fr := [F11, (is g2), F326, (is g169), (is g23)]) 3 rfl rfl
        have S346 := S345.pull (F := (is g23)) (Fr := [F7, F11, (is g2), F326, (is g169)]) 5 rfl rfl
        have S347 := S346.pull (F := (is g169)) (Fr := [(is g23), F7, F11, (is g2), F326]) 5 rfl rfl
        exact ⟨k256, (by omega), _, H318, t315.1, A323, c324, F326, t315.2, (IntKind.i64.wrap (x244 + 1)), (by omega), rfl, (by exact e245), (by kernel_rfl), (by exact e247), (by exact e248), (by kernel_rfl), (by kernel_rfl), b176, b47, h320, h321, b322, h325, (Y237.trans E330), S347, M⟩
      replace M := ifn q264 M
      refine cond_f rfl (bvf q264 (by kernel_rfl)) ?_
      refine wp_exit ?_
      refine then_e ?_
      refine then_e ?_
      refine inb_hit ?_
      refine then_n ?_
      refine wp_seq ?_
      refine wp_region_lit ?_
      refine lv (d := 87) rfl rfl (by kernel_rfl) (e_move (v := .slice A239 x238.length c240) (by exact e246)) ?_
      refine lv (d := 88) rfl rfl (by kernel_rfl) (e_move (v := .bool x243) (by exact e249)) ?_
      refine lv (d := 6) rfl rfl (by kernel_rfl) (e_assign (v := .slice A239 x238.length c240) (by kernel_rfl)) ?_
      refine lv (d := 7) rfl rfl (by kernel_rfl) (e_assign (v := .bool x243) (by kernel_rfl)) ?_
      refine wpList_nil ?_
      refine then_n ?_
      refine wp_ret ?_
      obtain rfl := Option.some.inj M
      have S348 := S251.pull (F := F241) (Fr := [(is g169), (is g23), F7, F11, (is g2)]) 5 rfl rfl
      have S349 := S348.pull (F := (is g2)) (Fr := [F241, (is g169), (is g23), F7, F11]) 5 rfl rfl
      have S350 := S349.pull (F := F11) (Fr := [(is g2), F241, (is g169), (is g23), F7]) 5 rfl rfl
      have S351 := S350.pull (F := F7) (Fr := [F11, (is g2), F241, (is g169), (is g23)]) 5 rfl rfl
      have S352 := St.first (Fa := [F7, F11, (is g2), F241]) (Fr := [(is g169), (is g23)]) S351
      exact ret2 rfl rfl rfl (show _ = .slice A239 x238.length c240 from (by kernel_rfl)) (show _ = .bool x243 from (by kernel_rfl)) ⟨A239, c240, F241, H236, rfl, h35, h36, b37, h242, S352⟩
    replace M := ifn q263 M
    refine lskip (t := 66) (c := false) rfl (by kernel_rfl) rfl (bf q263 (by kernel_rfl)) rfl rfl ?_
    refine lv (d := 68) rfl rfl (by kernel_rfl) (e_pick_f (v := .bool false) (bf q263 (by kernel_rfl)) rfl) ?_
    refine wpList_nil ?_
    refine then_n ?_
    refine cond_f rfl (by kernel_rfl) ?_
    refine wp_exit ?_
    refine then_e ?_
    refine then_e ?_
    refine inb_hit ?_
    refine then_n ?_
    refine wp_seq ?_
    refine wp_region_lit ?_
    refine lv (d := 87) rfl rfl (by kernel_rfl) (e_move (v := .slice A239 x238.length c240) (by exact e246)) ?_
    refine lv (d := 88) rfl rfl (by kernel_rfl) (e_move (v := .bool x243) (by exact e249)) ?_
    refine lv (d := 6) rfl rfl (by kernel_rfl) (e_assign (v := .slice A239 x238.length c240) (by kernel_rfl)) ?_
    refine lv (d := 7) rfl rfl (by kernel_rfl) (e_assign (v := .bool x243) (by kernel_rfl)) ?_
    refine wpList_nil ?_
    refine then_n ?_
    refine wp_ret ?_
    obtain rfl := Option.some.inj M
    have S353 := S251.pull (F := F241) (Fr := [(is g169), (is g23), F7, F11, (is g2)]) 5 rfl rfl
    have S354 := S353.pull (F := (is g2)) (Fr := [F241, (is g169), (is g23), F7, F11]) 5 rfl rfl
    have S355 := S354.pull (F := F11) (Fr := [(is g2), F241, (is g169), (is g23), F7]) 5 rfl rfl
    have S356 := S355.pull (F := F7) (Fr := [F11, (is g2), F241, (is g169), (is g23)]) 5 rfl rfl
    have S357 := St.first (Fa := [F7, F11, (is g2), F241]) (Fr := [(is g169), (is g23)]) S356
    exact ret2 rfl rfl rfl (show _ = .slice A239 x238.length c240 from (by kernel_rfl)) (show _ = .bool x243 from (by kernel_rfl)) ⟨A239, c240, F241, H236, rfl, h35, h36, b37, h242, S357⟩
theorem spec_l10get_2.calls (k : Nat) (w : World) (H : Hp) (x1 : GL10heap) (g2 : Nat) (A4 : Option Addr) (c5 : Nat) (F7 : Foot) (A8 : Option Addr) (c9 : Nat) (F11 : Foot) (x12 : Cell) (A13 : Option Addr) (c14 : Nat) (x17 : List Cell) (A18 : Option Addr) (c19 : Nat) (F21 : Foot) (h6 : Row (ro st36) 36 H (hp w) F7 A4 c5 x1.cells_) (h10 : Row tInt 3 H (hp w) F11 A8 c9 x1.trail_) (b3 : w.heap[g2]? = some (.cells #[.slice A4 x1.cells_.length c5, .slice A8 x1.trail_.length c9, .int .i64 x1.pairs_] 91 (0, 0))) (h15 : Rd tByte H A13 x12.text) (l16 : x12.text.length ≤ c14) (h20 : Row st36 36 H (hp w) F21 A18 c19 x17) (S : Own [F7, F11, (is g2), F21] H w) (r : (List Cell) × Bool) (M : spec_l10get_2.f k x1 x12 x17 = some r) :
    Calls Try.prog 54 #[.pointer (some ⟨g2, 0, none⟩), .agg #[.int .i64 x12.kind, .int .i64 x12.n, .slice A13 x12.text.length c14], .slice A18 x17.length c19] w (fun e e_w => ∃ (A_1 : Option Addr) (c_1 : Nat) (F_1 : Foot) (H_ : Hp), e = .returned (.tuple #[.slice A_1 r.1.length c_1, .bool r.2]) ∧ Row (ro st36) 36 H_ (hp e_w) F7 A4 c5 x1.cells_ ∧ Row tInt 3 H_ (hp e_w) F11 A8 c9 x1.trail_ ∧ e_w.heap[g2]? = some (.cells #[.slice A4 x1.cells_.length c5, .slice A8 x1.trail_.length c9, .int .i64 x1.pairs_] 91 (0, 0)) ∧ Row st36 36 H_ (hp e_w) F_1 A_1 c_1 r.1 ∧ St (anyOf [F7, F11, (is g2), F21]) H w [F7, F11, (is g2), F_1] H_ e_w) := (spec_l10get_2.all (k + 1)) k (Nat.lt_succ_self k) w H x1 g2 A4 c5 F7 A8 c9 F11 x12 A13 c14 x17 A18 c19 F21 h6 h10 b3 h15 l16 h20 S r M

/-! spec_GetTerm -/
def spec_GetTerm.f (k : Nat) (x1 : Store) (x10 : Cell) : Option ((List Cell) × Int) := ((spec_ValidStore.f k x1 x10).bind fun t25 => (if ¬ (t25 = true) then some ([], 1) else ((spec_l10open.f x1).bind fun t45 => ((spec_l10get_2.f k t45 x10 []).bind fun t69 => (if ¬ (t69.2 = true) then some ([], 3) else some (t69.1, 0))))))
theorem spec_GetTerm.calls (k : Nat) (w : World) (H : Hp) (x1 : Store) (A2 : Option Addr) (c3 : Nat) (A6 : Option Addr) (c7 : Nat) (x10 : Cell) (A11 : Option Addr) (c12 : Nat) (h4 : Rd st36 H A2 x1.cells) (l5 : x1.cells.length ≤ c3) (h8 : Rd tInt H A6 x1.trail) (l9 : x1.trail.length ≤ c7) (h13 : Rd tByte H A11 x10.text) (l14 : x10.text.length ≤ c12) (S : Own [] H w) (r : (List Cell) × Int) (M : spec_GetTerm.f k x1 x10 = some r) :
    Calls Try.prog 22 #[.agg #[.slice A2 x1.cells.length c3, .slice A6 x1.trail.length c7], .agg #[.int .i64 x10.kind, .int .i64 x10.n, .slice A11 x10.text.length c12]] w (fun e e_w => ∃ (A_1 : Option Addr) (c_1 : Nat) (F_1 : Foot) (H_ : Hp), e = .returned (.tuple #[.slice A_1 r.1.length c_1, .int .i64 r.2]) ∧ Row st36 36 H_ (hp e_w) F_1 A_1 c_1 r.1 ∧ St (anyOf []) H w [F_1] H_ e_w) := by
  rw [spec_GetTerm.f] at M
  refine enter (l := [.agg #[.slice A2 x1.cells.length c3, .slice A6 x1.trail.length c7], .agg #[.int .i64 x10.kind, .int .i64 x10.n, .slice A11 x10.text.length c12]]) 22 Try.func22 rfl rfl rfl ?_
  have S0_ := S.st
  refine wp_seq ?_
  refine wp_region_lit ?_
  refine lve (d := 2) rfl rfl (by kernel_rfl) (new_blk (v := fun g_ => .pointer (some ⟨g_, 0, none⟩)) (cs := #[.slice A2 x1.cells.length c3, .slice A6 x1.trail.length c7]) (t := 34) S0_ (by kernel_rfl)) ?_
  rintro _ w15 ⟨g16, rfl, b17, S18, K19⟩
  refine lve (d := 3) rfl rfl (by kernel_rfl) (new_blk (v := fun g_ => .pointer (some ⟨g_, 0, none⟩)) (cs := #[.int .i64 x10.kind, .int .i64 x10.n, .slice A11 x10.text.length c12]) (t := 36) S18 (by kernel_rfl)) ?_
  rintro _ w20 ⟨g21, rfl, b22, S23, K24⟩
  replace b17 := K24.blk 0 rfl b17
  refine lv (d := 4) rfl rfl (by kernel_rfl) (e_assign (v := .slice none 0 0) rfl) ?_
  refine lv (d := 5) rfl rfl (by kernel_rfl) (e_assign (v := .int .i64 0) rfl) ?_
  refine wpList_nil ?_
  refine then_n ?_
  refine wp_seq ?_
  refine wp_seq ?_
  refine wp_region_lit ?_
  refine lv (d := 8) rfl rfl (by kernel_rfl) (e_loadS (b := g16) (off := 0) (cs := [.slice A2 x1.cells.length c3, .slice A6 x1.trail.length c7]) Try.underlying34 rfl (by kernel_rfl) (by kernel_rfl) (blk_cells b17 rfl)) ?_
  refine lv (d := 9) rfl rfl (by kernel_rfl) (e_loadS (b := g21) (off := 0) (cs := [.int .i64 x10.kind, .int .i64 x10.n, .slice A11 x10.text.length c12]) Try.underlying36 rfl (by kernel_rfl) (by kernel_rfl) (blk_cells b22 rfl)) ?_
  obtain ⟨t25, u26, M⟩ := bnd M
  refine lcall (d := 10) rfl rfl (by kernel_rfl) (e_call (l := [.tmp 8, .tmp 9]) (vs := [.agg #[.slice A2 x1.cells.length c3, .slice A6 x1.trail.length c7], .agg #[.int .i64 x10.kind, .int .i64 x10.n, .slice A11 x10.text.length c12]]) Try.func11 (by kernel_rfl) rfl (by kernel_rfl) rfl) (spec_ValidStore.calls k w20 H x1 A2 c3 A6 c7 x10 A11 c12 h4 l5 h8 l9 h13 l14 S23.own0 t25 u26) ?_
  rintro _ w27 ⟨rfl, C28⟩
  refine ⟨_, rfl, ?_⟩
  obtain ⟨S29, K30⟩ := S23.still C28
  replace b22 := K30.blk 0 rfl b22
  replace b17 := K30.blk 1 rfl b17
  refine lv (d := 11) rfl rfl (by kernel_rfl) (e_notv (c := t25) (by kernel_rfl)) ?_
  refine wpList_nil ?_
  refine then_n ?_
  by_cases q31 : ¬ (t25 = true)
  · replace M := ifp q31 M
    refine cond_t rfl (bt q31 (by kernel_rfl)) ?_
    refine wp_seq ?_
    refine wp_region_lit ?_
    refine lv (d := 4) rfl rfl (by kernel_rfl) (e_assign (v := .slice none 0 0) rfl) ?_
    refine lv (d := 5) rfl rfl (by kernel_rfl) (e_assign (v := .int .i64 1) rfl) ?_
    refine wpList_nil ?_
    refine then_n ?_
    refine wp_ret ?_
    refine then_r ?_
    obtain rfl := Option.some.inj M
    have S32 := S29.unit
    have S33 := St.first (Fa := [no]) (Fr := [(is g21), (is g16)]) S32
    exact ret2 rfl rfl rfl (show _ = .slice none 0 0 from (by kernel_rfl)) (show _ = .int .i64 1 from (by kernel_rfl)) ⟨none, 0, no, H, rfl, (Row.nil _ _ _ _ no), S33⟩
  replace M := ifn q31 M
  refine cond_f rfl (bf q31 (by kernel_rfl)) ?_
  refine wp_skip ?_
  refine then_n ?_
  refine wp_seq ?_
  refine region_mix (S := (fun (L_ : Array Bool) (w_ : World) => Ext H (hp w_) ∧ (∀ b_, (is g21) b_ → hp w_ b_ = hp w27 b_) ∧ (∀ b_, (is g16) b_ → hp w_ b_ = hp w27 b_))) (by kernel_rfl) S29 ?_
  intro w34 S35 K36 hc37
  have o38 := b22
  have o39 := b17
  have hs40 : (fun (L_ : Array Bool) (w_ : World) => Ext H (hp w_) ∧ (∀ b_, (is g21) b_ → hp w_ b_ = hp w27 b_) ∧ (∀ b_, (is g16) b_ → hp w_ b_ = hp w27 b_)) (Array.replicate 9 false) w34 := ⟨S35.inv, (fun b_ h_ => K36.at 0 rfl b_ h_), (fun b_ h_ => K36.at 1 rfl b_ h_)⟩
  replace b22 := K36.blk 0 rfl b22
  replace b17 := K36.blk 1 rfl b17
  refine xv (i := 0) (d := 13) rfl rfl rfl (by kernel_rfl) (by kernel_rfl) (fun _ _ => Iff.rfl) hc37 hs40 (fun L_ w_ hc_ hu_ hs_ => e_loadS (b := g16) (off := 0) (cs := [.slice A2 x1.cells.length c3, .slice A6 x1.trail.length c7]) Try.underlying34 rfl (by kernel_rfl) (by kernel_rfl) (blk_cells ((hs_.2.2 _ rfl).trans o39) rfl)) ?_; intro hc41 hs42
  refine xv (i := 2) (d := 15) rfl rfl rfl (by kernel_rfl) (by kernel_rfl) (fun _ _ => Iff.rfl) hc41 hs42 (fun L_ w_ hc_ hu_ hs_ => e_loadS (b := g21) (off := 0) (cs := [.int .i64 x10.kind, .int .i64 x10.n, .slice A11 x10.text.length c12]) Try.underlying36 rfl (by kernel_rfl) (by kernel_rfl) (blk_cells ((hs_.2.1 _ rfl).trans o38) rfl)) ?_; intro hc43 hs44
  obtain ⟨t45, u46, M⟩ := bnd M
  refine xone (i := 1) (by kernel_rfl) hc43 ?_
  refine yc (i := 1) rfl (wanted_none rfl _) (by kernel_rfl) (by kernel_rfl) (e_call (l := [.tmp 13]) (vs := [.agg #[.slice A2 x1.cells.length c3, .slice A6 x1.trail.length c7]]) Try.func47 (by kernel_rfl) rfl (by kernel_rfl) rfl) (spec_l10open.calls w34 H x1 A2 c3 A6 c7 h4 l5 h8 l9 (St.own' (Fa := []) (Fr := [(is g21), (is g16)]) S35) t45 u46) ?_
  rintro hc60 _ w47 ⟨g50, A52, c53, F55, A56, c57, F59, H48, rfl, h54, h58, b51, T49⟩
  refine ⟨_, rfl, ?_⟩
  obtain ⟨S61, K62⟩ := St.call (Fa := []) (Fr := [(is g21), (is g16)]) S35 T49
  replace b22 := K62.blk 0 rfl b22
  replace b17 := K62.blk 1 rfl b17
  have E63 := T49.ext
  refine ⟨⟨(Ext.trans E63 S61.inv), (fun b_ h_ => (K62.at 0 rfl b_ h_).trans (hs44.2.1 b_ h_)), (fun b_ h_ => (K62.at 1 rfl b_ h_).trans (hs44.2.2 b_ h_))⟩, fun hs64 => ?_⟩
  have S65 := S61.unit
  have S66 := S65.pull (F := (is g50)) (Fr := [no, F55, F59, (is g21), (is g16)]) 1 rfl rfl
  have S67 := S66.pull (F := F59) (Fr := [(is g50), no, F55, (is g21), (is g16)]) 3 rfl rfl
  have S68 := S67.pull (F := F55) (Fr := [F59, (is g50), no, (is g21), (is g16)]) 3 rfl rfl
  obtain ⟨t69, u70, M⟩ := bnd M
  refine xone (i := 3) (by kernel_rfl) hc60 ?_
  refine yc (i := 3) rfl (wanted_none rfl _) (by kernel_rfl) (by kernel_rfl) (e_call (l := [.tmp 14, .tmp 15, .const (.slice none 0 0)]) (vs := [.pointer (some ⟨g50, 0, none⟩), .agg #[.int .i64 x10.kind, .int .i64 x10.n, .slice A11 x10.text.length c12], .slice none 0 0]) Try.func54 (by kernel_rfl) rfl (by kernel_rfl) rfl) (spec_l10get_2.calls k w47 H48 t45 g50 A52 c53 F55 A56 c57 F59 x10 A11 c12 [] none 0 no h54 h58 b51 (h13.ext E63) l14 (Row.nil _ _ _ _ no) (St.own' (Fa := [F55, F59, (is g50), no]) (Fr := [(is g21), (is g16)]) S68) t69 u70) ?_
  rintro hc81 _ w71 ⟨A77, c78, F80, H72, rfl, h74, h75, b76, h79, T73⟩
  refine ⟨_, rfl, ?_⟩
  obtain ⟨S82, K83⟩ := St.call (Fa := [F55, F59, (is g50), no]) (Fr := [(is g21), (is g16)]) S68 T73
  replace b22 := K83.blk 0 rfl b22
  replace b17 := K83.blk 1 rfl b17
  have E84 := T73.ext
  refine ⟨⟨(Ext.trans (E63.trans E84) S82.inv), (fun b_ h_ => (K83.at 0 rfl b_ h_).trans (hs64.2.1 b_ h_)), (fun b_ h_ => (K83.at 1 rfl b_ h_).trans (hs64.2.2 b_ h_))⟩, fun hs85 => ?_⟩
  refine xone (i := 4) (by kernel_rfl) hc81 ?_
  refine yo (i := 4) (d := 12) rfl rfl (wanted_none rfl _) (by kernel_rfl) (by kernel_rfl) (fun _ _ => Iff.rfl) hs85 (e_move (v := .tuple #[.slice A77 t69.1.length c78, .bool t69.2]) (by kernel_rfl)) ?_; intro hc86 hs87
  refine xv (i := 5) (d := 17) rfl rfl rfl (by kernel_rfl) (by kernel_rfl) (fun _ _ => Iff.rfl) hc86 hs87 (fun L_ w_ hc_ hu_ hs_ => e_extract (vs := #[.slice A77 t69.1.length c78, .bool t69.2]) (v := .slice A77 t69.1.length c78) (by kernel_rfl) rfl) ?_; intro hc88 hs89
  refine xv (i := 6) (d := 18) rfl rfl rfl (by kernel_rfl) (by kernel_rfl) (fun _ _ => Iff.rfl) hc88 hs89 (fun L_ w_ hc_ hu_ hs_ => e_extract (vs := #[.slice A77 t69.1.length c78, .bool t69.2]) (v := .bool t69.2) (by kernel_rfl) rfl) ?_; intro hc90 hs91
  refine xone (i := 7) (by kernel_rfl) hc90 ?_
  refine yo (i := 7) (d := 6) rfl rfl (wanted_none rfl _) (by kernel_rfl) (by kernel_rfl) (fun _ _ => Iff.rfl) hs91 (e_assign (v := .slice A77 t69.1.length c78) (by kernel_rfl)) ?_; intro hc92 hs93
  refine xone (i := 8) (by kernel_rfl) hc92 ?_
  refine yo (i := 8) (d := 7) rfl rfl (wanted_none rfl _) (by kernel_rfl) (by kernel_rfl) (fun _ _ => Iff.rfl) hs93 (e_assign (v := .bool t69.2) (by kernel_rfl)) ?_; intro hc94 hs95
  refine xn (by kernel_rfl) ?_ _
  refine then_n ?_
  refine wp_seq ?_
  refine wp_seq ?_
  refine wp_region_lit ?_
  refine lv (d := 19) rfl rfl (by kernel_rfl) (e_move (v := .bool t69.2) (by kernel_rfl)) ?_
  refine lv (d := 20) rfl rfl (by kernel_rfl) (e_notv (c := t69.2) (by kernel_rfl)) ?_
  refine wpList_nil ?_
  refine then_n ?_
  by_cases q96 : ¬ (t69.2 = true)
  · replace M := ifp q96 M
    refine cond_t rfl (bt q96 (by kernel_rfl)) ?_
    refine wp_seq ?_
    refine wp_region_lit ?_
    refine lv (d := 4) rfl rfl (by kernel_rfl) (e_assign (v := .slice none 0 0) rfl) ?_
    refine lv (d := 5) rfl rfl (by kernel_rfl) (e_assign (v := .int .i64 3) rfl) ?_
    refine wpList_nil ?_
    refine then_n ?_
    refine wp_ret ?_
    refine then_r ?_
    obtain rfl := Option.some.inj M
    have S97 := S82.unit
    have S98 := St.first (Fa := [no]) (Fr := [F55, F59, (is g50), F80, (is g21), (is g16)]) S97
    exact ret2 rfl rfl rfl (show _ = .slice none 0 0 from (by kernel_rfl)) (show _ = .int .i64 3 from (by kernel_rfl)) ⟨none, 0, no, H72, rfl, (Row.nil _ _ _ _ no), S98⟩
  replace M := ifn q96 M
  refine cond_f rfl (bf q96 (by kernel_rfl)) ?_
  refine wp_skip ?_
  refine then_n ?_
  refine wp_seq ?_
  refine wp_region_lit ?_
  refine lv (d := 21) rfl rfl (by kernel_rfl) (e_move (v := .slice A77 t69.1.length c78) (by kernel_rfl)) ?_
  refine lv (d := 4) rfl rfl (by kernel_rfl) (e_assign (v := .slice A77 t69.1.length c78) (by kernel_rfl)) ?_
  refine lv (d := 5) rfl rfl (by kernel_rfl) (e_assign (v := .int .i64 0) rfl) ?_
  refine wpList_nil ?_
  refine then_n ?_
  refine wp_ret ?_
  obtain rfl := Option.some.inj M
  have S99 := S82.pull (F := F80) (Fr := [F55, F59, (is g50), (is g21), (is g16)]) 3 rfl rfl
  have S100 := St.first (Fa := [F80]) (Fr := [F55, F59, (is g50), (is g21), (is g16)]) S99
  exact ret2 rfl rfl rfl (show _ = .slice A77 t69.1.length c78 from (by kernel_rfl)) (show _ = .int .i64 0 from (by kernel_rfl)) ⟨A77, c78, F80, H72, rfl, h79, S100⟩

/-! impl_wordOk -/
def impl_wordOk.l0 (_k : Nat) (x1 : Cell) (x13 : Bool) : Option Bool := (if x13 = true then some (decide ((x1.text.length : Int) = 0)) else (if x1.kind = 1 then (if x1.n ≥ (-1000000000000000) then (if x1.n ≤ 1000000000000000 then some (decide ((x1.text.length : Int) = 0)) else some false) else some false) else (if x1.kind = 2 then (if x1.n = 0 then some (decide ((x1.text.length : Int) ≤ 100)) else some false) else some false)))
def impl_wordOk.f (x1 : Cell) : Option Bool := (if x1.kind = 0 then (impl_wordOk.l0 0 x1 (decide (x1.kind = 0))) else (impl_wordOk.l0 0 x1 (decide (x1.kind = 4))))
theorem impl_wordOk.calls (w : World) (H : Hp) (x1 : Cell) (A2 : Option Addr) (c3 : Nat) (h4 : Rd tByte H A2 x1.text) (l5 : x1.text.length ≤ c3) (S : Own [] H w) (r : Bool) (M : impl_wordOk.f x1 = some r) :
    Calls Try.prog 67 #[.agg #[.int .i64 x1.kind, .int .i64 x1.n, .slice A2 x1.text.length c3]] w (fun e e_w => e = .returned (.bool r) ∧ Chg no w e_w) := by
  rw [impl_wordOk.f] at M
  refine enter (l := [.agg #[.int .i64 x1.kind, .int .i64 x1.n, .slice A2 x1.text.length c3]]) 39 Try.func67 rfl rfl rfl ?_
  have S0_ := S.st
  refine wp_seq ?_
  refine wp_region_lit ?_
  refine lve (d := 1) rfl rfl (by kernel_rfl) (new_blk (v := fun g_ => .pointer (some ⟨g_, 0, none⟩)) (cs := #[.int .i64 x1.kind, .int .i64 x1.n, .slice A2 x1.text.length c3]) (t := 36) S0_ (by kernel_rfl)) ?_
  rintro _ w6 ⟨g7, rfl, b8, S9, K10⟩
  refine lv (d := 2) rfl rfl (by kernel_rfl) (e_assign (v := .bool false) rfl) ?_
  refine wpList_nil ?_
  refine then_n ?_
  refine wp_seq ?_
  refine wp_seq ?_
  refine wp_region_lit ?_
  refine lv (d := 3) rfl rfl (by kernel_rfl) (e_fieldAddr (b := g7) (off := 0) (o := 0) Try.underlying36 rfl rfl (sz := 1) (by kernel_rfl) (by decide) (by kernel_rfl)) ?_
  refine lv (d := 4) rfl rfl (by kernel_rfl) (e_load1 (ad := ⟨g7, 0 + 0, none⟩) (v := .int .i64 x1.kind) Try.underlying3 rfl (by kernel_rfl) (blk_cell b8 rfl)) ?_
  refine wpList_nil ?_
  refine then_n ?_
  refine wp_block ?_
  refine wp_seq_cut (fun a20 w11 => ∃ (f12 : Nat → Value) (x13 : Bool), a20 = mk 39 f12 ∧ f12 1 = .pointer (some ⟨g7, 0, none⟩) ∧ f12 4 = .int .i64 x1.kind ∧ f12 5 = .bool x13 ∧ w11.heap[g7]? = some (.cells #[.int .i64 x1.kind, .int .i64 x1.n, .slice A2 x1.text.length c3] 36 (0, 0)) ∧ St (anyOf []) H w [(is g7)] H w11 ∧ impl_wordOk.l0 0 x1 x13 = some r) ?_ ?_
  · refine wp_seq ?_
    refine wp_region_lit ?_
    refine lv (d := 6) rfl rfl (by kernel_rfl) (e_eql (k := .i64) (a := x1.kind) (b := 0) (by kernel_rfl) rfl) ?_
    refine lv (d := 5) rfl rfl (by kernel_rfl) (e_assign (v := .bool (decide (x1.kind = 0))) (by kernel_rfl)) ?_
    refine wpList_nil ?_
    refine then_n ?_
    by_cases q21 : x1.kind = 0
    · replace M := ifp q21 M
      refine cond_t rfl (bt q21 (by kernel_rfl)) ?_
      refine wp_skip ?_
      refine then_n ?_
      exact ⟨_, (decide (x1.kind = 0)), rfl, (by kernel_rfl), (by kernel_rfl), (by kernel_rfl), b8, S9, M⟩
    replace M := ifn q21 M
    refine cond_f rfl (bf q21 (by kernel_rfl)) ?_
    refine wp_region_lit ?_
    refine lv (d := 7) rfl rfl (by kernel_rfl) (e_eql (k := .i64) (a := x1.kind) (b := 4) (by kernel_rfl) rfl) ?_
    refine lv (d := 5) rfl rfl (by kernel_rfl) (e_assign (v := .bool (decide (x1.kind = 4))) (by kernel_rfl)) ?_
    refine wpList_nil ?_
    refine then_n ?_
    exact ⟨_, (decide (x1.kind = 4)), rfl, (by kernel_rfl), (by kernel_rfl), (by kernel_rfl), b8, S9, M⟩
  clear M
  rintro a20 w11 ⟨f12, x13, rfl, e14, e15, e16, b8, S17, M⟩
  rw [impl_wordOk.l0] at M
  by_cases q22 : x13 = true
  · replace M := ifp q22 M
    refine cond_t rfl (bvt q22 (by exact e16)) ?_
    refine wp_seq ?_
    refine wp_region_lit ?_
    refine lv (d := 8) rfl rfl (by kernel_rfl) (e_fieldAddr (b := g7) (off := 0) (o := 2) Try.underlying36 rfl rfl (sz := 1) (by kernel_rfl) (by decide) (by exact e14)) ?_
    refine lv (d := 9) rfl rfl (by kernel_rfl) (e_load1 (ad := ⟨g7, 0 + 2, none⟩) (v := .slice A2 x1.text.length c3) Try.underlying26 rfl (by kernel_rfl) (blk_cell b8 rfl)) ?_
    refine lv (d := 10) rfl rfl (by kernel_rfl) (e_len (A := A2) (n := x1.text.length) (c := c3) Try.underlying26 (by kernel_rfl)) ?_
    refine lv (d := 11) rfl rfl (by kernel_rfl) (e_eql (k := .i64) (a := (x1.text.length : Int)) (b := 0) (by kernel_rfl) rfl) ?_
    refine lv (d := 2) rfl rfl (by kernel_rfl) (e_assign (v := .bool (decide ((x1.text.length : Int) = 0))) (by kernel_rfl)) ?_
    refine wpList_nil ?_
    refine then_n ?_
    refine wp_ret ?_
    refine inb_r ?_
    refine then_r ?_
    obtain rfl := Option.some.inj M
    exact ret1 rfl rfl  (show _ = .bool (decide ((x1.text.length : Int) = 0)) from (by kernel_rfl)) ⟨rfl, S17.chg⟩
  replace M := ifn q22 M
  refine cond_f rfl (bvf q22 (by exact e16)) ?_
  refine wp_seq ?_
  refine wp_region_lit ?_
  refine lv (d := 13) rfl rfl (by kernel_rfl) (e_eql (k := .i64) (a := x1.kind) (b := 1) (by exact e15) rfl) ?_
  refine lv (d := 12) rfl rfl (by kernel_rfl) (e_assign (v := .bool (decide (x1.kind = 1))) (by kernel_rfl)) ?_
  refine wpList_nil ?_
  refine then_n ?_
  by_cases q23 : x1.kind = 1
  · replace M := ifp q23 M
    refine cond_t rfl (bt q23 (by kernel_rfl)) ?_
    refine wp_seq ?_
    refine wp_region_lit ?_
    refine lv (d := 14) rfl rfl (by kernel_rfl) (e_fieldAddr (b := g7) (off := 0) (o := 1) Try.underlying36 rfl rfl (sz := 1) (by kernel_rfl) (by decide) (by exact e14)) ?_
    refine lv (d := 15) rfl rfl (by kernel_rfl) (e_load1 (ad := ⟨g7, 0 + 1, none⟩) (v := .int .i64 x1.n) Try.underlying3 rfl (by kernel_rfl) (blk_cell b8 rfl)) ?_
    refine lv (d := 16) rfl rfl (by kernel_rfl) (e_geq (k := .i64) (a := x1.n) (b := (-1000000000000000)) (by kernel_rfl) rfl) ?_
    refine lv (d := 17) rfl rfl (by kernel_rfl) (e_move (v := .bool (decide (x1.n ≥ (-1000000000000000)))) (by kernel_rfl)) ?_
    by_cases q24 : x1.n ≥ (-1000000000000000)
    · replace M := ifp q24 M
      refine lvg (d := 18) (t := 17) rfl (by kernel_rfl) rfl (bt q24 (by kernel_rfl)) rfl (by kernel_rfl) (e_fieldAddr (b := g7) (off := 0) (o := 1) Try.underlying36 rfl rfl (sz := 1) (by kernel_rfl) (by decide) (by exact e14)) ?_
      refine lvg (d := 19) (t := 17) rfl (by kernel_rfl) rfl (bt q24 (by kernel_rfl)) rfl (by kernel_rfl) (e_load1 (ad := ⟨g7, 0 + 1, none⟩) (v := .int .i64 x1.n) Try.underlying3 rfl (by kernel_rfl) (blk_cell b8 rfl)) ?_
      refine lvg (d := 20) (t := 17) rfl (by kernel_rfl) rfl (bt q24 (by kernel_rfl)) rfl (by kernel_rfl) (e_leq (k := .i64) (a := x1.n) (b := 1000000000000000) (by kernel_rfl) rfl) ?_
      refine lv (d := 21) rfl rfl (by kernel_rfl) (e_pick_t (v := .bool (decide (x1.n ≤ 1000000000000000))) (bt q24 (by kernel_rfl)) (by kernel_rfl)) ?_
      refine lv (d := 22) rfl rfl (by kernel_rfl) (e_move (v := .bool (decide (x1.n ≤ 1000000000000000))) (by kernel_rfl)) ?_
      by_cases q25 : x1.n ≤ 1000000000000000
      · replace M := ifp q25 M
        refine lvg (d := 23) (t := 22) rfl (by kernel_rfl) rfl (bt q25 (by kernel_rfl)) rfl (by kernel_rfl) (e_fieldAddr (b := g7) (off := 0) (o := 2) Try.underlying36 rfl rfl (sz := 1) (by kernel_rfl) (by decide) (by exact e14)) ?_
        refine lvg (d := 24) (t := 22) rfl (by kernel_rfl) rfl (bt q25 (by kernel_rfl)) rfl (by kernel_rfl) (e_load1 (ad := ⟨g7, 0 + 2, none⟩) (v := .slice A2 x1.text.length c3) Try.underlying26 rfl (by kernel_rfl) (blk_cell b8 rfl)) ?_
        refine lvg (d := 25) (t := 22) rfl (by kernel_rfl) rfl (bt q25 (by kernel_rfl)) rfl (by kernel_rfl) (e_len (A := A2) (n := x1.text.length) (c := c3) Try.underlying26 (by kernel_rfl)) ?_
        refine lvg (d := 26) (t := 22) rfl (by kernel_rfl) rfl (bt q25 (by kernel_rfl)) rfl (by kernel_rfl) (e_eql (k := .i64) (a := (x1.text.length : Int)) (b := 0) (by kernel_rfl) rfl) ?_
        refine lv (d := 27) rfl rfl (by kernel_rfl) (e_pick_t (v := .bool (decide ((x1.text.length : Int) = 0))) (bt q25 (by kernel_rfl)) (by kernel_rfl)) ?_
        refine lv (d := 2) rfl rfl (by kernel_rfl) (e_assign (v := .bool (decide ((x1.text.length : Int) = 0))) (by kernel_rfl)) ?_
        refine wpList_nil ?_
        refine then_n ?_
        refine wp_ret ?_
        refine inb_r ?_
        refine then_r ?_
        obtain rfl := Option.some.inj M
        exact ret1 rfl rfl  (show _ = .bool (decide ((x1.text.length : Int) = 0)) from (by kernel_rfl)) ⟨rfl, S17.chg⟩
      replace M := ifn q25 M
      refine lskip (t := 22) (c := false) rfl (by kernel_rfl) rfl (bf q25 (by kernel_rfl)) rfl rfl ?_
      refine lskip (t := 22) (c := false) rfl (by kernel_rfl) rfl (bf q25 (by kernel_rfl)) rfl rfl ?_
      refine lskip (t := 22) (c := false) rfl (by kernel_rfl) rfl (bf q25 (by kernel_rfl)) rfl rfl ?_
      refine lskip (t := 22) (c := false) rfl (by kernel_rfl) rfl (bf q25 (by kernel_rfl)) rfl rfl ?_
      refine lv (d := 27) rfl rfl (by kernel_rfl) (e_pick_f (v := .bool false) (bf q25 (by kernel_rfl)) rfl) ?_
      refine lv (d := 2) rfl rfl (by kernel_rfl) (e_assign (v := .bool false) (by kernel_rfl)) ?_
      refine wpList_nil ?_
      refine then_n ?_
      refine wp_ret ?_
      refine inb_r ?_
      refine then_r ?_
      obtain rfl := Option.some.inj M
      exact ret1 rfl rfl  (show _ = .bool false from (by kernel_rfl)) ⟨rfl, S17.chg⟩
    replace M := ifn q24 M
    refine lskip (t := 17) (c := false) rfl (by kernel_rfl) rfl (bf q24 (by kernel_rfl)) rfl rfl ?_
    refine lskip (t := 17) (c := false) rfl (by kernel_rfl) rfl (bf q24 (by kernel_rfl)) rfl rfl ?_
    refine lskip (t := 17) (c := false) rfl (by kernel_rfl) rfl (bf q24 (by kernel_rfl)) rfl rfl ?_
    refine lv (d := 21) rfl rfl (by kernel_rfl) (e_pick_f (v := .bool false) (bf q24 (by kernel_rfl)) rfl) ?_
    refine lv (d := 22) rfl rfl (by kernel_rfl) (e_move (v := .bool false) (by kernel_rfl)) ?_
    refine lskip (t := 22) (c := false) rfl (by kernel_rfl) rfl (by kernel_rfl) rfl rfl ?_
    refine lskip (t := 22) (c := false) rfl (by kernel_rfl) rfl (by kernel_rfl) rfl rfl ?_
    refine lskip (t := 22) (c := false) rfl (by kernel_rfl) rfl (by kernel_rfl) rfl rfl ?_
    refine lskip (t := 22) (c := false) rfl (by kernel_rfl) rfl (by kernel_rfl) rfl rfl ?_
    refine lv (d := 27) rfl rfl (by kernel_rfl) (e_pick_f (v := .bool false) (by kernel_rfl) rfl) ?_
    refine lv (d := 2) rfl rfl (by kernel_rfl) (e_assign (v := .bool false) (by kernel_rfl)) ?_
    refine wpList_nil ?_
    refine then_n ?_
    refine wp_ret ?_
    refine inb_r ?_
    refine then_r ?_
    obtain rfl := Option.some.inj M
    exact ret1 rfl rfl  (show _ = .bool false from (by kernel_rfl)) ⟨rfl, S17.chg⟩
  replace M := ifn q23 M
  refine cond_f rfl (bf q23 (by kernel_rfl)) ?_
  refine wp_seq ?_
  refine wp_region_lit ?_
  refine lv (d := 29) rfl rfl (by kernel_rfl) (e_eql (k := .i64) (a := x1.kind) (b := 2) (by exact e15) rfl) ?_
  refine lv (d := 28) rfl rfl (by kernel_rfl) (e_assign (v := .bool (decide (x1.kind = 2))) (by kernel_rfl)) ?_
  refine wpList_nil ?_
  refine then_n ?_
  by_cases q26 : x1.kind = 2
  · replace M := ifp q26 M
    refine cond_t rfl (bt q26 (by kernel_rfl)) ?_
    refine wp_seq ?_
    refine wp_region_lit ?_
    refine lv (d := 30) rfl rfl (by kernel_rfl) (e_fieldAddr (b := g7) (off := 0) (o := 1) Try.underlying36 rfl rfl (sz := 1) (by kernel_rfl) (by decide) (by exact e14)) ?_
    refine lv (d := 31) rfl rfl (by kernel_rfl) (e_load1 (ad := ⟨g7, 0 + 1, none⟩) (v := .int .i64 x1.n) Try.underlying3 rfl (by kernel_rfl) (blk_cell b8 rfl)) ?_
    refine lv (d := 32) rfl rfl (by kernel_rfl) (e_eql (k := .i64) (a := x1.n) (b := 0) (by kernel_rfl) rfl) ?_
    refine lv (d := 33) rfl rfl (by kernel_rfl) (e_move (v := .bool (decide (x1.n = 0))) (by kernel_rfl)) ?_
    by_cases q27 : x1.n = 0
    · replace M := ifp q27 M
      refine lvg (d := 34) (t := 33) rfl (by kernel_rfl) rfl (bt q27 (by kernel_rfl)) rfl (by kernel_rfl) (e_fieldAddr (b := g7) (off := 0) (o := 2) Try.underlying36 rfl rfl (sz := 1) (by kernel_rfl) (by decide) (by exact e14)) ?_
      refine lvg (d := 35) (t := 33) rfl (by kernel_rfl) rfl (bt q27 (by kernel_rfl)) rfl (by kernel_rfl) (e_load1 (ad := ⟨g7, 0 + 2, none⟩) (v := .slice A2 x1.text.length c3) Try.underlying26 rfl (by kernel_rfl) (blk_cell b8 rfl)) ?_
      refine lvg (d := 36) (t := 33) rfl (by kernel_rfl) rfl (bt q27 (by kernel_rfl)) rfl (by kernel_rfl) (e_len (A := A2) (n := x1.text.length) (c := c3) Try.underlying26 (by kernel_rfl)) ?_
      refine lvg (d := 37) (t := 33) rfl (by kernel_rfl) rfl (bt q27 (by kernel_rfl)) rfl (by kernel_rfl) (e_leq (k := .i64) (a := (x1.text.length : Int)) (b := 100) (by kernel_rfl) rfl) ?_
      refine lv (d := 38) rfl rfl (by kernel_rfl) (e_pick_t (v := .bool (decide ((x1.text.length : Int) ≤ 100))) (bt q27 (by kernel_rfl)) (by kernel_rfl)) ?_
      refine lv (d := 2) rfl rfl (by kernel_rfl) (e_assign (v := .bool (decide ((x1.text.length : Int) ≤ 100))) (by kernel_rfl)) ?_
      refine wpList_nil ?_
      refine then_n ?_
      refine wp_ret ?_
      refine inb_r ?_
      refine then_r ?_
      obtain rfl := Option.some.inj M
      exact ret1 rfl rfl  (show _ = .bool (decide ((x1.text.length : Int) ≤ 100)) from (by kernel_rfl)) ⟨rfl, S17.chg⟩
    replace M := ifn q27 M
    refine lskip (t := 33) (c := false) rfl (by kernel_rfl) rfl (bf q27 (by kernel_rfl)) rfl rfl ?_
    refine lskip (t := 33) (c := false) rfl (by kernel_rfl) rfl (bf q27 (by kernel_rfl)) rfl rfl ?_
    refine lskip (t := 33) (c := false) rfl (by kernel_rfl) rfl (bf q27 (by kernel_rfl)) rfl rfl ?_
    refine lskip (t := 33) (c := false) rfl (by kernel_rfl) rfl (bf q27 (by kernel_rfl)) rfl rfl ?_
    refine lv (d := 38) rfl rfl (by kernel_rfl) (e_pick_f (v := .bool false) (bf q27 (by kernel_rfl)) rfl) ?_
    refine lv (d := 2) rfl rfl (by kernel_rfl) (e_assign (v := .bool false) (by kernel_rfl)) ?_
    refine wpList_nil ?_
    refine then_n ?_
    refine wp_ret ?_
    refine inb_r ?_
    refine then_r ?_
    obtain rfl := Option.some.inj M
    exact ret1 rfl rfl  (show _ = .bool false from (by kernel_rfl)) ⟨rfl, S17.chg⟩
  replace M := ifn q26 M
  refine cond_f rfl (bf q26 (by kernel_rfl)) ?_
  refine wp_skip ?_
  refine inb_n ?_
  refine then_n ?_
  refine wp_seq ?_
  refine wp_region_lit ?_
  refine lv (d := 2) rfl rfl (by kernel_rfl) (e_assign (v := .bool false) rfl) ?_
  refine wpList_nil ?_
  refine then_n ?_
  refine wp_ret ?_
  obtain rfl := Option.some.inj M
  exact ret1 rfl rfl  (show _ = .bool false from (by kernel_rfl)) ⟨rfl, S17.chg⟩

/-! impl_Store_points -/
def impl_Store_points.f (x1 : Store) (x10 : Cell) : Option Bool := ((impl_wordOk.f x10).bind fun t25 => (if ¬ (t25 = true) then some false else (if x10.kind = 0 then (if x10.n ≥ 0 then (if x10.n < (x1.cells.length : Int) then (if 0 ≤ x10.n then some (decide (((x1.cells.getD ((x10.n).toNat) z36).kind) ≠ 3)) else none) else some false) else some false) else (if x10.kind = 4 then (if x10.n ≥ 0 then (if x10.n < (x1.cells.length : Int) then (if 0 ≤ x10.n then some (decide (((x1.cells.getD ((x10.n).toNat) z36).kind) = 3)) else none) else some false) else some false) else some true))))
theorem impl_Store_points.calls (w : World) (H : Hp) (x1 : Store) (A2 : Option Addr) (c3 : Nat) (A6 : Option Addr) (c7 : Nat) (x10 : Cell) (A11 : Option Addr) (c12 : Nat) (h4 : Rd st36 H A2 x1.cells) (l5 : x1.cells.length ≤ c3) (h8 : Rd tInt H A6 x1.trail) (l9 : x1.trail.length ≤ c7) (h13 : Rd tByte H A11 x10.text) (l14 : x10.text.length ≤ c12) (S : Own [] H w) (r : Bool) (M : impl_Store_points.f x1 x10 = some r) :
    Calls Try.prog 43 #[.agg #[.slice A2 x1.cells.length c3, .slice A6 x1.trail.length c7], .agg #[.int .i64 x10.kind, .int .i64 x10.n, .slice A11 x10.text.length c12]] w (fun e e_w => e = .returned (.bool r) ∧ Chg no w e_w) := by
  rw [impl_Store_points.f] at M
  refine enter (l := [.agg #[.slice A2 x1.cells.length c3, .slice A6 x1.trail.length c7], .agg #[.int .i64 x10.kind, .int .i64 x10.n, .slice A11 x10.text.length c12]]) 56 Try.func43 rfl rfl rfl ?_
  have S0_ := S.st
  refine wp_seq ?_
  refine wp_region_lit ?_
  refine lve (d := 2) rfl rfl (by kernel_rfl) (new_blk (v := fun g_ => .pointer (some ⟨g_, 0, none⟩)) (cs := #[.slice A2 x1.cells.length c3, .slice A6 x1.trail.length c7]) (t := 34) S0_ (by kernel_rfl)) ?_
  rintro _ w15 ⟨g16, rfl, b17, S18, K19⟩
  refine lve (d := 3) rfl rfl (by kernel_rfl) (new_blk (v := fun g_ => .pointer (some ⟨g_, 0, none⟩)) (cs := #[.int .i64 x10.kind, .int .i64 x10.n, .slice A11 x10.text.length c12]) (t := 36) S18 (by kernel_rfl)) ?_
  rintro _ w20 ⟨g21, rfl, b22, S23, K24⟩
  replace b17 := K24.blk 0 rfl b17
  refine lv (d := 4) rfl rfl (by kernel_rfl) (e_assign (v := .bool false) rfl) ?_
  refine wpList_nil ?_
  refine then_n ?_
  refine wp_seq ?_
  refine wp_seq ?_
  refine wp_region_lit ?_
  refine lv (d := 5) rfl rfl (by kernel_rfl) (e_loadS (b := g21) (off := 0) (cs := [.int .i64 x10.kind, .int .i64 x10.n, .slice A11 x10.text.length c12]) Try.underlying36 rfl (by kernel_rfl) (by kernel_rfl) (blk_cells b22 rfl)) ?_
  obtain ⟨t25, u26, M⟩ := bnd M
  refine lcall (d := 6) rfl rfl (by kernel_rfl) (e_call (l := [.tmp 5]) (vs := [.agg #[.int .i64 x10.kind, .int .i64 x10.n, .slice A11 x10.text.length c12]]) Try.func67 (by kernel_rfl) rfl (by kernel_rfl) rfl) (impl_wordOk.calls w20 H x10 A11 c12 h13 l14 S23.own0 t25 u26) ?_
  rintro _ w27 ⟨rfl, C28⟩
  refine ⟨_, rfl, ?_⟩
  obtain ⟨S29, K30⟩ := S23.still C28
  replace b22 := K30.blk 0 rfl b22
  replace b17 := K30.blk 1 rfl b17
  refine lv (d := 7) rfl rfl (by kernel_rfl) (e_notv (c := t25) (by kernel_rfl)) ?_
  refine wpList_nil ?_
  refine then_n ?_
  by_cases q31 : ¬ (t25 = true)
  · replace M := ifp q31 M
    refine cond_t rfl (bt q31 (by kernel_rfl)) ?_
    refine wp_seq ?_
    refine wp_region_lit ?_
    refine lv (d := 4) rfl rfl (by kernel_rfl) (e_assign (v := .bool false) rfl) ?_
    refine wpList_nil ?_
    refine then_n ?_
    refine wp_ret ?_
    refine then_r ?_
    obtain rfl := Option.some.inj M
    exact ret1 rfl rfl  (show _ = .bool false from (by kernel_rfl)) ⟨rfl, S29.chg⟩
  replace M := ifn q31 M
  refine cond_f rfl (bf q31 (by kernel_rfl)) ?_
  refine wp_skip ?_
  refine then_n ?_
  refine wp_seq ?_
  refine wp_seq ?_
  refine wp_region_lit ?_
  refine lv (d := 8) rfl rfl (by kernel_rfl) (e_fieldAddr (b := g21) (off := 0) (o := 0) Try.underlying36 rfl rfl (sz := 1) (by kernel_rfl) (by decide) (by kernel_rfl)) ?_
  refine lv (d := 9) rfl rfl (by kernel_rfl) (e_load1 (ad := ⟨g21, 0 + 0, none⟩) (v := .int .i64 x10.kind) Try.underlying3 rfl (by kernel_rfl) (blk_cell b22 rfl)) ?_
  refine wpList_nil ?_
  refine then_n ?_
  refine wp_block ?_
  refine wp_seq ?_
  refine wp_region_lit ?_
  refine lv (d := 11) rfl rfl (by kernel_rfl) (e_eql (k := .i64) (a := x10.kind) (b := 0) (by kernel_rfl) rfl) ?_
  refine lv (d := 10) rfl rfl (by kernel_rfl) (e_assign (v := .bool (decide (x10.kind = 0))) (by kernel_rfl)) ?_
  refine wpList_nil ?_
  refine then_n ?_
  by_cases q32 : x10.kind = 0
  · replace M := ifp q32 M
    refine cond_t rfl (bt q32 (by kernel_rfl)) ?_
    refine wp_seq ?_
    refine wp_region_lit ?_
    refine lv (d := 12) rfl rfl (by kernel_rfl) (e_fieldAddr (b := g21) (off := 0) (o := 1) Try.underlying36 rfl rfl (sz := 1) (by kernel_rfl) (by decide) (by kernel_rfl)) ?_
    refine lv (d := 13) rfl rfl (by kernel_rfl) (e_load1 (ad := ⟨g21, 0 + 1, none⟩) (v := .int .i64 x10.n) Try.underlying3 rfl (by kernel_rfl) (blk_cell b22 rfl)) ?_
    refine lv (d := 14) rfl rfl (by kernel_rfl) (e_geq (k := .i64) (a := x10.n) (b := 0) (by kernel_rfl) rfl) ?_
    refine lv (d := 15) rfl rfl (by kernel_rfl) (e_move (v := .bool (decide (x10.n ≥ 0))) (by kernel_rfl)) ?_
    by_cases q33 : x10.n ≥ 0
    · replace M := ifp q33 M
      refine lvg (d := 16) (t := 15) rfl (by kernel_rfl) rfl (bt q33 (by kernel_rfl)) rfl (by kernel_rfl) (e_fieldAddr (b := g21) (off := 0) (o := 1) Try.underlying36 rfl rfl (sz := 1) (by kernel_rfl) (by decide) (by kernel_rfl)) ?_
      refine lvg (d := 17) (t := 15) rfl (by kernel_rfl) rfl (bt q33 (by kernel_rfl)) rfl (by kernel_rfl) (e_load1 (ad := ⟨g21, 0 + 1, none⟩) (v := .int .i64 x10.n) Try.underlying3 rfl (by kernel_rfl) (blk_cell b22 rfl)) ?_
      refine lvg (d := 18) (t := 15) rfl (by kernel_rfl) rfl (bt q33 (by kernel_rfl)) rfl (by kernel_rfl) (e_fieldAddr (b := g16) (off := 0) (o := 0) Try.underlying34 rfl rfl (sz := 1) (by kernel_rfl) (by decide) (by kernel_rfl)) ?_
      refine lvg (d := 19) (t := 15) rfl (by kernel_rfl) rfl (bt q33 (by kernel_rfl)) rfl (by kernel_rfl) (e_load1 (ad := ⟨g16, 0 + 0, none⟩) (v := .slice A2 x1.cells.length c3) Try.underlying32 rfl (by kernel_rfl) (blk_cell b17 rfl)) ?_
      refine lvg (d := 20) (t := 15) rfl (by kernel_rfl) rfl (bt q33 (by kernel_rfl)) rfl (by kernel_rfl) (e_len (A := A2) (n := x1.cells.length) (c := c3) Try.underlying32 (by kernel_rfl)) ?_
      refine lvg (d := 21) (t := 15) rfl (by kernel_rfl) rfl (bt q33 (by kernel_rfl)) rfl (by kernel_rfl) (e_lss (k := .i64) (a := x10.n) (b := (x1.cells.length : Int)) (by kernel_rfl) (by kernel_rfl)) ?_
      refine lv (d := 22) rfl rfl (by kernel_rfl) (e_pick_t (v := .bool (decide (x10.n < (x1.cells.length : Int)))) (bt q33 (by kernel_rfl)) (by kernel_rfl)) ?_
      refine lv (d := 23) rfl rfl (by kernel_rfl) (e_move (v := .bool (decide (x10.n < (x1.cells.length : Int)))) (by kernel_rfl)) ?_
      by_cases q34 : x10.n < (x1.cells.length : Int)
      · replace M := ifp q34 M
        refine lvg (d := 24) (t := 23) rfl (by kernel_rfl) rfl (bt q34 (by kernel_rfl)) rfl (by kernel_rfl) (e_fieldAddr (b := g16) (off := 0) (o := 0) Try.underlying34 rfl rfl (sz := 1) (by kernel_rfl) (by decide) (by kernel_rfl)) ?_
        refine lvg (d := 25) (t := 23) rfl (by kernel_rfl) rfl (bt q34 (by kernel_rfl)) rfl (by kernel_rfl) (e_load1 (ad := ⟨g16, 0 + 0, none⟩) (v := .slice A2 x1.cells.length c3) Try.underlying32 rfl (by kernel_rfl) (blk_cell b17 rfl)) ?_
        refine lvg (d := 26) (t := 23) rfl (by kernel_rfl) rfl (bt q34 (by kernel_rfl)) rfl (by kernel_rfl) (e_fieldAddr (b := g21) (off := 0) (o := 1) Try.underlying36 rfl rfl (sz := 1) (by kernel_rfl) (by decide) (by kernel_rfl)) ?_
        refine lvg (d := 27) (t := 23) rfl (by kernel_rfl) rfl (bt q34 (by kernel_rfl)) rfl (by kernel_rfl) (e_load1 (ad := ⟨g21, 0 + 1, none⟩) (v := .int .i64 x10.n) Try.underlying3 rfl (by kernel_rfl) (blk_cell b22 rfl)) ?_
        obtain ⟨q35, M⟩ := chk M
        obtain ⟨b36, o37, e38⟩ := Rd.addr h4 (show (x10.n).toNat < x1.cells.length by omega)
        obtain ⟨y39, r40, k41⟩ := Rd.at h4 e38 (getD_some z36 (show (x10.n).toNat < x1.cells.length by omega))
        obtain ⟨A42, c43, rfl, l44, h45⟩ := st36_open r40
        refine lvg (d := 28) (t := 23) rfl (by kernel_rfl) rfl (bt q34 (by kernel_rfl)) rfl (by kernel_rfl) (e_indexAddr (b := b36) (off := o37) (n := x1.cells.length) (c := c3) (sz := 3) (i := x10.n) (k := .i64) Try.underlying32 e38 (by kernel_rfl) (by kernel_rfl) (by kernel_rfl) q35 q34) ?_
        refine lvg (d := 29) (t := 23) rfl (by kernel_rfl) rfl (bt q34 (by kernel_rfl)) rfl (by kernel_rfl) (e_fieldAddr (b := b36) (off := o37 + (x10.n : Int).toNat * 3) (o := 0) Try.underlying36 rfl rfl (sz := 1) (by kernel_rfl) (by decide) (by kernel_rfl)) ?_
        refine lvg (d := 30) (t := 23) rfl (by kernel_rfl) rfl (bt q34 (by kernel_rfl)) rfl (by kernel_rfl) (e_load1 (ad := ⟨b36, o37 + (x10.n : Int).toNat * 3 + 0, none⟩) (v := .int .i64 ((x1.cells.getD ((x10.n).toNat) z36).kind)) Try.underlying3 rfl (by kernel_rfl) (hpx (S29.inv.cell (k41 0 _ rfl)))) ?_
        refine lvg (d := 31) (t := 23) rfl (by kernel_rfl) rfl (bt q34 (by kernel_rfl)) rfl (by kernel_rfl) (e_neq (k := .i64) (a := (x1.cells.getD ((x10.n).toNat) z36).kind) (b := 3) (by kernel_rfl) rfl) ?_
        refine lv (d := 32) rfl rfl (by kernel_rfl) (e_pick_t (v := .bool (decide (((x1.cells.getD ((x10.n).toNat) z36).kind) ≠ 3))) (bt q34 (by kernel_rfl)) (by kernel_rfl)) ?_
        refine lv (d := 4) rfl rfl (by kernel_rfl) (e_assign (v := .bool (decide (((x1.cells.getD ((x10.n).toNat) z36).kind) ≠ 3))) (by kernel_rfl)) ?_
        refine wpList_nil ?_
        refine then_n ?_
        refine wp_ret ?_
        refine inb_r ?_
        refine then_r ?_
        obtain rfl := Option.some.inj M
        exact ret1 rfl rfl  (show _ = .bool (decide (((x1.cells.getD ((x10.n).toNat) z36).kind) ≠ 3)) from (by kernel_rfl)) ⟨rfl, S29.chg⟩
      replace M := ifn q34 M
      refine lskip (t := 23) (c := false) rfl (by kernel_rfl) rfl (bf q34 (by kernel_rfl)) rfl rfl ?_
      refine lskip (t := 23) (c := false) rfl (by kernel_rfl) rfl (bf q34 (by kernel_rfl)) rfl rfl ?_
      refine lskip (t := 23) (c := false) rfl (by kernel_rfl) rfl (bf q34 (by kernel_rfl)) rfl rfl ?_
      refine lskip (t := 23) (c := false) rfl (by kernel_rfl) rfl (bf q34 (by kernel_rfl)) rfl rfl ?_
      refine lskip (t := 23) (c := false) rfl (by kernel_rfl) rfl (bf q34 (by kernel_rfl)) rfl rfl ?_
      refine lskip (t := 23) (c := false) rfl (by kernel_rfl) rfl (bf q34 (by kernel_rfl)) rfl rfl ?_
      refine lskip (t := 23) (c := false) rfl (by kernel_rfl) rfl (bf q34 (by kernel_rfl)) rfl rfl ?_
      refine lskip (t := 23) (c := false) rfl (by kernel_rfl) rfl (bf q34 (by kernel_rfl)) rfl rfl ?_
      refine lv (d := 32) rfl rfl (by kernel_rfl) (e_pick_f (v := .bool false) (bf q34 (by kernel_rfl)) rfl) ?_
      refine lv (d := 4) rfl rfl (by kernel_rfl) (e_assign (v := .bool false) (by kernel_rfl)) ?_
      refine wpList_nil ?_
      refine then_n ?_
      refine wp_ret ?_
      refine inb_r ?_
      refine then_r ?_
      obtain rfl := Option.some.inj M
      exact ret1 rfl rfl  (show _ = .bool false from (by kernel_rfl)) ⟨rfl, S29.chg⟩
    replace M := ifn q33 M
    refine lskip (t := 15) (c := false) rfl (by kernel_rfl) rfl (bf q33 (by kernel_rfl)) rfl rfl ?_
    refine lskip (t := 15) (c := false) rfl (by kernel_rfl) rfl (bf q33 (by kernel_rfl)) rfl rfl ?_
    refine lskip (t := 15) (c := false) rfl (by kernel_rfl) rfl (bf q33 (by kernel_rfl)) rfl rfl ?_
    refine lskip (t := 15) (c := false) rfl (by kernel_rfl) rfl (bf q33 (by kernel_rfl)) rfl rfl ?_
    refine lskip (t := 15) (c := false) rfl (by kernel_rfl) rfl (bf q33 (by kernel_rfl)) rfl rfl ?_
    refine lskip (t := 15) (c := false) rfl (by kernel_rfl) rfl (bf q33 (by kernel_rfl)) rfl rfl ?_
    refine lv (d := 22) rfl rfl (by kernel_rfl) (e_pick_f (v := .bool false) (bf q33 (by kernel_rfl)) rfl) ?_
    refine lv (d := 23) rfl rfl (by kernel_rfl) (e_move (v := .bool false) (by kernel_rfl)) ?_
    refine lskip (t := 23) (c := false) rfl (by kernel_rfl) rfl (by kernel_rfl) rfl rfl ?_
    refine lskip (t := 23) (c := false) rfl (by kernel_rfl) rfl (by kernel_rfl) rfl rfl ?_
    refine lskip (t := 23) (c := false) rfl (by kernel_rfl) rfl (by kernel_rfl) rfl rfl ?_
    refine lskip (t := 23) (c := false) rfl (by kernel_rfl) rfl (by kernel_rfl) rfl rfl ?_
    refine lskip (t := 23) (c := false) rfl (by kernel_rfl) rfl (by kernel_rfl) rfl rfl ?_
    refine lskip (t := 23) (c := false) rfl (by kernel_rfl) rfl (by kernel_rfl) rfl rfl ?_
    refine lskip (t := 23) (c := false) rfl (by kernel_rfl) rfl (by kernel_rfl) rfl rfl ?_
    refine lskip (t := 23) (c := false) rfl (by kernel_rfl) rfl (by kernel_rfl) rfl rfl ?_
    refine lv (d := 32) rfl rfl (by kernel_rfl) (e_pick_f (v := .bool false) (by kernel_rfl) rfl) ?_
    refine lv (d := 4) rfl rfl (by kernel_rfl) (e_assign (v := .bool false) (by kernel_rfl)) ?_
    refine wpList_nil ?_
    refine then_n ?_
    refine wp_ret ?_
    refine inb_r ?_
    refine then_r ?_
    obtain rfl := Option.some.inj M
    exact ret1 rfl rfl  (show _ = .bool false from (by kernel_rfl)) ⟨rfl, S29.chg⟩
  replace M := ifn q32 M
  refine cond_f rfl (bf q32 (by kernel_rfl)) ?_
  refine wp_seq ?_
  refine wp_region_lit ?_
  refine lv (d := 34) rfl rfl (by kernel_rfl) (e_eql (k := .i64) (a := x10.kind) (b := 4) (by kernel_rfl) rfl) ?_
  refine lv (d := 33) rfl rfl (by kernel_rfl) (e_assign (v := .bool (decide (x10.kind = 4))) (by kernel_rfl)) ?_
  refine wpList_nil ?_
  refine then_n ?_
  by_cases q46 : x10.kind = 4
  · replace M := ifp q46 M
    refine cond_t rfl (bt q46 (by kernel_rfl)) ?_
    refine wp_seq ?_
    refine wp_region_lit ?_
    refine lv (d := 35) rfl rfl (by kernel_rfl) (e_fieldAddr (b := g21) (off := 0) (o := 1) Try.underlying36 rfl rfl (sz := 1) (by kernel_rfl) (by decide) (by kernel_rfl)) ?_
    refine lv (d := 36) rfl rfl (by kernel_rfl) (e_load1 (ad := ⟨g21, 0 + 1, none⟩) (v := .int .i64 x10.n) Try.underlying3 rfl (by kernel_rfl) (blk_cell b22 rfl)) ?_
    refine lv (d := 37) rfl rfl (by kernel_rfl) (e_geq (k := .i64) (a := x10.n) (b := 0) (by kernel_rfl) rfl) ?_
    refine lv (d := 38) rfl rfl (by kernel_rfl) (e_move (v := .bool (decide (x10.n ≥ 0))) (by kernel_rfl)) ?_
    by_cases q47 : x10.n ≥ 0
    · replace M := ifp q47 M
      refine lvg (d := 39) (t := 38) rfl (by kernel_rfl) rfl (bt q47 (by kernel_rfl)) rfl (by kernel_rfl) (e_fieldAddr (b := g21) (off := 0) (o := 1) Try.underlying36 rfl rfl (sz := 1) (by kernel_rfl) (by decide) (by kernel_rfl)) ?_
      refine lvg (d := 40) (t := 38) rfl (by kernel_rfl) rfl (bt q47 (by kernel_rfl)) rfl (by kernel_rfl) (e_load1 (ad := ⟨g21, 0 + 1, none⟩) (v := .int .i64 x10.n) Try.underlying3 rfl (by kernel_rfl) (blk_cell b22 rfl)) ?_
      refine lvg (d := 41) (t := 38) rfl (by kernel_rfl) rfl (bt q47 (by kernel_rfl)) rfl (by kernel_rfl) (e_fieldAddr (b := g16) (off := 0) (o := 0) Try.underlying34 rfl rfl (sz := 1) (by kernel_rfl) (by decide) (by kernel_rfl)) ?_
      refine lvg (d := 42) (t := 38) rfl (by kernel_rfl) rfl (bt q47 (by kernel_rfl)) rfl (by kernel_rfl) (e_load1 (ad := ⟨g16, 0 + 0, none⟩) (v := .slice A2 x1.cells.length c3) Try.underlying32 rfl (by kernel_rfl) (blk_cell b17 rfl)) ?_
      refine lvg (d := 43) (t := 38) rfl (by kernel_rfl) rfl (bt q47 (by kernel_rfl)) rfl (by kernel_rfl) (e_len (A := A2) (n := x1.cells.length) (c := c3) Try.underlying32 (by kernel_rfl)) ?_
      refine lvg (d := 44) (t := 38) rfl (by kernel_rfl) rfl (bt q47 (by kernel_rfl)) rfl (by kernel_rfl) (e_lss (k := .i64) (a := x10.n) (b := (x1.cells.length : Int)) (by kernel_rfl) (by kernel_rfl)) ?_
      refine lv (d := 45) rfl rfl (by kernel_rfl) (e_pick_t (v := .bool (decide (x10.n < (x1.cells.length : Int)))) (bt q47 (by kernel_rfl)) (by kernel_rfl)) ?_
      refine lv (d := 46) rfl rfl (by kernel_rfl) (e_move (v := .bool (decide (x10.n < (x1.cells.length : Int)))) (by kernel_rfl)) ?_
      by_cases q48 : x10.n < (x1.cells.length : Int)
      · replace M := ifp q48 M
        refine lvg (d := 47) (t := 46) rfl (by kernel_rfl) rfl (bt q48 (by kernel_rfl)) rfl (by kernel_rfl) (e_fieldAddr (b := g16) (off := 0) (o := 0) Try.underlying34 rfl rfl (sz := 1) (by kernel_rfl) (by decide) (by kernel_rfl)) ?_
        refine lvg (d := 48) (t := 46) rfl (by kernel_rfl) rfl (bt q48 (by kernel_rfl)) rfl (by kernel_rfl) (e_load1 (ad := ⟨g16, 0 + 0, none⟩) (v := .slice A2 x1.cells.length c3) Try.underlying32 rfl (by kernel_rfl) (blk_cell b17 rfl)) ?_
        refine lvg (d := 49) (t := 46) rfl (by kernel_rfl) rfl (bt q48 (by kernel_rfl)) rfl (by kernel_rfl) (e_fieldAddr (b := g21) (off := 0) (o := 1) Try.underlying36 rfl rfl (sz := 1) (by kernel_rfl) (by decide) (by kernel_rfl)) ?_
        refine lvg (d := 50) (t := 46) rfl (by kernel_rfl) rfl (bt q48 (by kernel_rfl)) rfl (by kernel_rfl) (e_load1 (ad := ⟨g21, 0 + 1, none⟩) (v := .int .i64 x10.n) Try.underlying3 rfl (by kernel_rfl) (blk_cell b22 rfl)) ?_
        obtain ⟨q49, M⟩ := chk M
        obtain ⟨b50, o51, e52⟩ := Rd.addr h4 (show (x10.n).toNat < x1.cells.length by omega)
        obtain ⟨y53, r54, k55⟩ := Rd.at h4 e52 (getD_some z36 (show (x10.n).toNat < x1.cells.length by omega))
        obtain ⟨A56, c57, rfl, l58, h59⟩ := st36_open r54
        refine lvg (d := 51) (t := 46) rfl (by kernel_rfl) rfl (bt q48 (by kernel_rfl)) rfl (by kernel_rfl) (e_indexAddr (b := b50) (off := o51) (n := x1.cells.length) (c := c3) (sz := 3) (i := x10.n) (k := .i64) Try.underlying32 e52 (by kernel_rfl) (by kernel_rfl) (by kernel_rfl) q49 q48) ?_
        refine lvg (d := 52) (t := 46) rfl (by kernel_rfl) rfl (bt q48 (by kernel_rfl)) rfl (by kernel_rfl) (e_fieldAddr (b := b50) (off := o51 + (x10.n : Int).toNat * 3) (o := 0) Try.underlying36 rfl rfl (sz := 1) (by kernel_rfl) (by decide) (by kernel_rfl)) ?_
        refine lvg (d := 53) (t := 46) rfl (by kernel_rfl) rfl (bt q48 (by kernel_rfl)) rfl (by kernel_rfl) (e_load1 (ad := ⟨b50, o51 + (x10.n : Int).toNat * 3 + 0, none⟩) (v := .int .i64 ((x1.cells.getD ((x10.n).toNat) z36).kind)) Try.underlying3 rfl (by kernel_rfl) (hpx (S29.inv.cell (k55 0 _ rfl)))) ?_
        refine lvg (d := 54) (t := 46) rfl (by kernel_rfl) rfl (bt q48 (by kernel_rfl)) rfl (by kernel_rfl) (e_eql (k := .i64) (a := (x1.cells.getD ((x10.n).toNat) z36).kind) (b := 3) (by kernel_rfl) rfl) ?_
        refine lv (d := 55) rfl rfl (by kernel_rfl) (e_pick_t (v := .bool (decide (((x1.cells.getD ((x10.n).toNat) z36).kind) = 3))) (bt q48 (by kernel_rfl)) (by kernel_rfl)) ?_
        refine lv (d := 4) rfl rfl (by kernel_rfl) (e_assign (v := .bool (decide (((x1.cells.getD ((x10.n).toNat) z36).kind) = 3))) (by kernel_rfl)) ?_
        refine wpList_nil ?_
        refine then_n ?_
        refine wp_ret ?_
        refine inb_r ?_
        refine then_r ?_
        obtain rfl := Option.some.inj M
        exact ret1 rfl rfl  (show _ = .bool (decide (((x1.cells.getD ((x10.n).toNat) z36).kind) = 3)) from (by kernel_rfl)) ⟨rfl, S29.chg⟩
      replace M := ifn q48 M
      refine lskip (t := 46) (c := false) rfl (by kernel_rfl) rfl (bf q48 (by kernel_rfl)) rfl rfl ?_
      refine lskip (t := 46) (c := false) rfl (by kernel_rfl) rfl (bf q48 (by kernel_rfl)) rfl rfl ?_
      refine lskip (t := 46) (c := false) rfl (by kernel_rfl) rfl (bf q48 (by kernel_rfl)) rfl rfl ?_
      refine lskip (t := 46) (c := false) rfl (by kernel_rfl) rfl (bf q48 (by kernel_rfl)) rfl rfl ?_
      refine lskip (t := 46) (c := false) rfl (by kernel_rfl) rfl (bf q48 (by kernel_rfl)) rfl rfl ?_
      refine lskip (t := 46) (c := false) rfl (by kernel_rfl) rfl (bf q48 (by kernel_rfl)) rfl rfl ?_
      refine lskip (t := 46) (c := false) rfl (by kernel_rfl) rfl (bf q48 (by kernel_rfl)) rfl rfl ?_
      refine lskip (t := 46) (c := false) rfl (by kernel_rfl) rfl (bf q48 (by kernel_rfl)) rfl rfl ?_
      refine lv (d := 55) rfl rfl (by kernel_rfl) (e_pick_f (v := .bool false) (bf q48 (by kernel_rfl)) rfl) ?_
      refine lv (d := 4) rfl rfl (by kernel_rfl) (e_assign (v := .bool false) (by kernel_rfl)) ?_
      refine wpList_nil ?_
      refine then_n ?_
      refine wp_ret ?_
      refine inb_r ?_
      refine then_r ?_
      obtain rfl := Option.some.inj M
      exact ret1 rfl rfl  (show _ = .bool false from (by kernel_rfl)) ⟨rfl, S29.chg⟩
    replace M := ifn q47 M
    refine lskip (t := 38) (c := false) rfl (by kernel_rfl) rfl (bf q47 (by kernel_rfl)) rfl rfl ?_
    refine lskip (t := 38) (c := false) rfl (by kernel_rfl) rfl (bf q47 (by kernel_rfl)) rfl rfl ?_
    refine lskip (t := 38) (c := false) rfl (by kernel_rfl) rfl (bf q47 (by kernel_rfl)) rfl rfl ?_
    refine lskip (t := 38) (c := false) rfl (by kernel_rfl) rfl (bf q47 (by kernel_rfl)) rfl rfl ?_
    refine lskip (t := 38) (c := false) rfl (by kernel_rfl) rfl (bf q47 (by kernel_rfl)) rfl rfl ?_
    refine lskip (t := 38) (c := false) rfl (by kernel_rfl) rfl (bf q47 (by kernel_rfl)) rfl rfl ?_
    refine lv (d := 45) rfl rfl (by kernel_rfl) (e_pick_f (v := .bool false) (bf q47 (by kernel_rfl)) rfl) ?_
    refine lv (d := 46) rfl rfl (by kernel_rfl) (e_move (v := .bool false) (by kernel_rfl)) ?_
    refine lskip (t := 46) (c := false) rfl (by kernel_rfl) rfl (by kernel_rfl) rfl rfl ?_
    refine lskip (t := 46) (c := false) rfl (by kernel_rfl) rfl (by kernel_rfl) rfl rfl ?_
    refine lskip (t := 46) (c := false) rfl (by kernel_rfl) rfl (by kernel_rfl) rfl rfl ?_
    refine lskip (t := 46) (c := false) rfl (by kernel_rfl) rfl (by kernel_rfl) rfl rfl ?_
    refine lskip (t := 46) (c := false) rfl (by kernel_rfl) rfl (by kernel_rfl) rfl rfl ?_
    refine lskip (t := 46) (c := false) rfl (by kernel_rfl) rfl (by kernel_rfl) rfl rfl ?_
    refine lskip (t := 46) (c := false) rfl (by kernel_rfl) rfl (by kernel_rfl) rfl rfl ?_
    refine lskip (t := 46) (c := false) rfl (by kernel_rfl) rfl (by kernel_rfl) rfl rfl ?_
    refine lv (d := 55) rfl rfl (by kernel_rfl) (e_pick_f (v := .bool false) (by kernel_rfl) rfl) ?_
    refine lv (d := 4) rfl rfl (by kernel_rfl) (e_assign (v := .bool false) (by kernel_rfl)) ?_
    refine wpList_nil ?_
    refine then_n ?_
    refine wp_ret ?_
    refine inb_r ?_
    refine then_r ?_
    obtain rfl := Option.some.inj M
    exact ret1 rfl rfl  (show _ = .bool false from (by kernel_rfl)) ⟨rfl, S29.chg⟩
  replace M := ifn q46 M
  refine cond_f rfl (bf q46 (by kernel_rfl)) ?_
  refine wp_skip ?_
  refine inb_n ?_
  refine then_n ?_
  refine wp_seq ?_
  refine wp_region_lit ?_
  refine lv (d := 4) rfl rfl (by kernel_rfl) (e_assign (v := .bool true) rfl) ?_
  refine wpList_nil ?_
  refine then_n ?_
  refine wp_ret ?_
  obtain rfl := Option.some.inj M
  exact ret1 rfl rfl  (show _ = .bool true from (by kernel_rfl)) ⟨rfl, S29.chg⟩

/-! impl_Store_ok_c1 -/
structure GStep where
  at_ : Int
  next_ : Int
  deriving Inhabited
def st86 : Ty GStep := iso (pair tInt tInt) (fun x => (x.at_, x.next_))
theorem st86_open {H : Hp} {x : GStep} {cs : List Value} (h : st86.R H x cs) : cs = [.int .i64 x.at_, .int .i64 x.next_] := by
  obtain ⟨_, _, rfl, rfl, rfl⟩ := h
  exact rfl
theorem st86_mkR {H : Hp} {x : GStep} : st86.R H x [.int .i64 x.at_, .int .i64 x.next_] := ⟨[.int .i64 x.at_], [.int .i64 x.next_], rfl, rfl, rfl⟩
theorem st86_mkO {H X : Hp} {x : GStep} : st86.O H X no x [.int .i64 x.at_, .int .i64 x.next_] := (pairO0 (a := tInt) (b := tInt) (x := (x.at_, x.next_)) (c0 := [.int .i64 x.at_]) (c1 := [.int .i64 x.next_]) (F := no) rfl rfl)
theorem st86_openO {H X : Hp} {F : Foot} {x : GStep} {cs : List Value} (h : st86.O H X F x cs) : cs = [.int .i64 x.at_, .int .i64 x.next_] := by
  obtain ⟨_, _, K0, L0, rfl, rfl, rfl, d0, s0⟩ := h
  exact rfl
theorem st86_RO : RO st86 := (ro_iso (ro_pair (ro_scal _ _) (ro_scal _ _)))
theorem st86_c0 {H X : Hp} {F : Foot} {x : GStep} {cs : List Value} (h : st86.O H X F x cs) : cs[0]? = some (.int .i64 x.at_) := by obtain rfl := st86_openO h; rfl
theorem st86_r0 {H : Hp} {x : GStep} {cs : List Value} (h : st86.R H x cs) : cs[0]? = some (.int .i64 x.at_) := by obtain rfl := st86_open h; rfl
theorem st86_c1 {H X : Hp} {F : Foot} {x : GStep} {cs : List Value} (h : st86.O H X F x cs) : cs[1]? = some (.int .i64 x.next_) := by obtain rfl := st86_openO h; rfl
theorem st86_r1 {H : Hp} {x : GStep} {cs : List Value} (h : st86.R H x cs) : cs[1]? = some (.int .i64 x.next_) := by obtain rfl := st86_open h; rfl
theorem st86_u0 {H X : Hp} {F1 F2 : Foot} {x : GStep} (y : Int) {cs : List Value} (h : st86.O H X F1 x cs) : st86.O H X (or2 F1 F2) {x with at_ := y} (cs.take 0 ++ [.int .i64 y] ++ cs.drop 1) := by
  obtain rfl := st86_openO h
  exact st86.O_mono (fun _ h => h.elim) (st86_mkO (x := {x with at_ := y}))
theorem st86_u1 {H X : Hp} {F1 F2 : Foot} {x : GStep} (y : Int) {cs : List Value} (h : st86.O H X F1 x cs) : st86.O H X (or2 F1 F2) {x with next_ := y} (cs.take 1 ++ [.int .i64 y] ++ cs.drop 2) := by
  obtain rfl := st86_openO h
  exact st86.O_mono (fun _ h => h.elim) (st86_mkO (x := {x with next_ := y}))
def z86 : GStep := ⟨(0 : Int), (0 : Int)⟩
theorem z86_O (H X : Hp) : st86.O H X no z86 [.int .i64 (0 : Int), .int .i64 (0 : Int)] := st86_mkO (x := z86)
theorem z86_R (H : Hp) : st86.R H z86 [.int .i64 (0 : Int), .int .i64 (0 : Int)] := st86_mkR (x := z86)
def impl_Store_ok_c1.f (x1 : Int) (x2 : Int) (x3 : Store) : Option (Int × Bool) := (if 0 ≤ x1 then (if x1 < (x3.cells.length : Int) then (if ((x3.cells.getD ((x1).toNat) z36).kind) = 0 then (if ((x3.cells.getD ((x1).toNat) z36).n) ≠ x1 then (if x2 = 0 then some ((x3.cells.getD ((x1).toNat) z36).n, true) else (if ((x3.cells.getD ((x1).toNat) z36).kind) = 4 then (if 0 ≤ ((x3.cells.getD ((x1).toNat) z36).n) then (if ((x3.cells.getD ((x1).toNat) z36).n) < (x3.cells.length : Int) then (if x2 < ((x3.cells.getD (((x3.cells.getD ((x1).toNat) z36).n).toNat) z36).n) then some ((IntKind.i64.wrap ((IntKind.i64.wrap (((x3.cells.getD ((x1).toNat) z36).n) + 1)) + x2)), true) else some (0, false)) else none) else none) else some (0, false))) else (if ((x3.cells.getD ((x1).toNat) z36).kind) = 4 then (if 0 ≤ ((x3.cells.getD ((x1).toNat) z36).n) then (if ((x3.cells.getD ((x1).toNat) z36).n) < (x3.cells.length : Int) then (if x2 < ((x3.cells.getD (((x3.cells.getD ((x1).toNat) z36).n).toNat) z36).n) then some ((IntKind.i64.wrap ((IntKind.i64.wrap (((x3.cells.getD ((x1).toNat) z36).n) + 1)) + x2)), true) else some (0, false)) else none) else none) else some (0, false))) else (if ((x3.cells.getD ((x1).toNat) z36).kind) = 4 then (if 0 ≤ ((x3.cells.getD ((x1).toNat) z36).n) then (if ((x3.cells.getD ((x1).toNat) z36).n) < (x3.cells.length : Int) then (if x2 < ((x3.cells.getD (((x3.cells.getD ((x1).toNat) z36).n).toNat) z36).n) then some ((IntKind.i64.wrap ((IntKind.i64.wrap (((x3.cells.getD ((x1).toNat) z36).n) + 1)) + x2)), true) else some (0, false)) else none) else none) else some (0, false))) else none) else none)
theorem impl_Store_ok_c1.calls (w : World) (H : Hp) (x1 : Int) (x2 : Int) (x3 : Store) (g4 : Nat) (A6 : Option Addr) (c7 : Nat) (A10 : Option Addr) (c11 : Nat) (h8 : Rd st36 H A6 x3.cells) (l9 : x3.cells.length ≤ c7) (h12 : Rd tInt H A10 x3.trail) (l13 : x3.trail.length ≤ c11) (b5 : H g4 = some (.cells #[.slice A6 x3.cells.length c7, .slice A10 x3.trail.length c11] 34 (0, 0))) (S : Own [] H w) (r : Int × Bool) (M : impl_Store_ok_c1.f x1 x2 x3 = some r) :
    Calls Try.prog 66 #[.int .i64 x1, .int .i64 x2, .pointer (some ⟨g4, 0, none⟩)] w (fun e e_w => e = .returned (.tuple #[.int .i64 r.1, .bool r.2]) ∧ Chg no w e_w) := by
  rw [impl_Store_ok_c1.f] at M
  refine enter (l := [.int .i64 x1, .int .i64 x2, .pointer (some ⟨g4, 0, none⟩)]) 49 Try.func66 rfl rfl rfl ?_
  have S0_ := S.st
  refine wp_seq ?_
  refine wp_region_lit ?_
  refine lv (d := 5) rfl rfl (by kernel_rfl) (e_assign (v := .int .i64 0) rfl) ?_
  refine lv (d := 6) rfl rfl (by kernel_rfl) (e_assign (v := .bool false) rfl) ?_
  refine wpList_nil ?_
  refine then_n ?_
  refine wp_seq ?_
  refine wp_region_lit ?_
  refine lv (d := 8) rfl rfl (by kernel_rfl) (e_fieldAddr (b := g4) (off := 0) (o := 0) Try.underlying34 rfl rfl (sz := 1) (by kernel_rfl) (by decide) (by kernel_rfl)) ?_
  refine lv (d := 9) rfl rfl (by kernel_rfl) (e_load1 (ad := ⟨g4, 0 + 0, none⟩) (v := .slice A6 x3.cells.length c7) Try.underlying32 rfl (by kernel_rfl) (blk_cell (S0_.inv _ _ b5) rfl)) ?_
  refine lv (d := 10) rfl rfl (by kernel_rfl) (e_move (v := .int .i64 x1) (by kernel_rfl)) ?_
  obtain ⟨q14, M⟩ := chk M
  obtain ⟨q15, M⟩ := chk M
  obtain ⟨b16, o17, e18⟩ := Rd.addr h8 (show (x1).toNat < x3.cells.length by omega)
  obtain ⟨y19, r20, k21⟩ := Rd.at h8 e18 (getD_some z36 (show (x1).toNat < x3.cells.length by omega))
  obtain ⟨A22, c23, rfl, l24, h25⟩ := st36_open r20
  refine lv (d := 11) rfl rfl (by kernel_rfl) (e_indexAddr (b := b16) (off := o17) (n := x3.cells.length) (c := c7) (sz := 3) (i := x1) (k := .i64) Try.underlying32 e18 (by kernel_rfl) (by kernel_rfl) (by kernel_rfl) q14 q15) ?_
  refine lv (d := 12) rfl rfl (by kernel_rfl) (e_loadS (b := b16) (off := o17 + (x1 : Int).toNat * 3) (cs := [.int .i64 ((x3.cells.getD ((x1).toNat) z36).kind), .int .i64 ((x3.cells.getD ((x1).toNat) z36).n), .slice A22 ((x3.cells.getD ((x1).toNat) z36).text).length c23]) Try.underlying36 rfl (by kernel_rfl) (by kernel_rfl) (fun j_ u_ e_ => (hpx (S0_.inv.cell (k21 j_ u_ e_))))) ?_
  refine lve (d := 7) rfl rfl (by kernel_rfl) (new_blk (v := fun g_ => .pointer (some ⟨g_, 0, none⟩)) (cs := #[.int .i64 0, .int .i64 0, .slice none 0 0]) (t := 36) S0_ (by kernel_rfl)) ?_
  rintro _ w26 ⟨g27, rfl, b28, S29, K30⟩
  refine lse rfl rfl (by kernel_rfl) (e_store (g := g27) (o := 0) (v := .agg #[.int .i64 ((x3.cells.getD ((x1).toNat) z36).kind), .int .i64 ((x3.cells.getD ((x1).toNat) z36).n), .slice A22 ((x3.cells.getD ((x1).toNat) z36).text).length c23]) (cur' := #[.int .i64 ((x3.cells.getD ((x1).toNat) z36).kind), .int .i64 ((x3.cells.getD ((x1).toNat) z36).n), .slice A22 ((x3.cells.getD ((x1).toNat) z36).text).length c23]) (vs := [.int .i64 ((x3.cells.getD ((x1).toNat) z36).kind), .int .i64 ((x3.cells.getD ((x1).toNat) z36).n), .slice A22 ((x3.cells.getD ((x1).toNat) z36).text).length c23]) S29 (by kernel_rfl) (by kernel_rfl) rfl (by kernel_rfl) b28 (Nat.le_of_ble_eq_true rfl) (List.forall_mem_cons.2 ⟨rfl, (List.forall_mem_cons.2 ⟨rfl, (List.forall_mem_cons.2 ⟨rfl, (fun _ h_ => by cases h_)⟩)⟩)⟩) rfl) ?_
  rintro w31 ⟨b32, S33, K34⟩
  clear b28
  refine wpList_nil ?_
  refine then_n ?_
  refine wp_seq ?_
  refine wp_block ?_
  refine wp_seq ?_
  refine wp_region_lit ?_
  refine lv (d := 14) rfl rfl (by kernel_rfl) (e_fieldAddr (b := g27) (off := 0) (o := 0) Try.underlying36 rfl rfl (sz := 1) (by kernel_rfl) (by decide) (by kernel_rfl)) ?_
  refine lv (d := 15) rfl rfl (by kernel_rfl) (e_load1 (ad := ⟨g27, 0 + 0, none⟩) (v := .int .i64 ((x3.cells.getD ((x1).toNat) z36).kind)) Try.underlying3 rfl (by kernel_rfl) (blk_cell b32 rfl)) ?_
  refine lv (d := 16) rfl rfl (by kernel_rfl) (e_eql (k := .i64) (a := (x3.cells.getD ((x1).toNat) z36).kind) (b := 0) (by kernel_rfl) rfl) ?_
  refine lv (d := 17) rfl rfl (by kernel_rfl) (e_move (v := .bool (decide (((x3.cells.getD ((x1).toNat) z36).kind) = 0))) (by kernel_rfl)) ?_
  by_cases q35 : ((x3.cells.getD ((x1).toNat) z36).kind) = 0
  · replace M := ifp q35 M
    refine lvg (d := 18) (t := 17) rfl (by kernel_rfl) rfl (bt q35 (by kernel_rfl)) rfl (by kernel_rfl) (e_fieldAddr (b := g27) (off := 0) (o := 1) Try.underlying36 rfl rfl (sz := 1) (by kernel_rfl) (by decide) (by kernel_rfl)) ?_
    refine lvg (d := 19) (t := 17) rfl (by kernel_rfl) rfl (bt q35 (by kernel_rfl)) rfl (by kernel_rfl) (e_load1 (ad := ⟨g27, 0 + 1, none⟩) (v := .int .i64 ((x3.cells.getD ((x1).toNat) z36).n)) Try.underlying3 rfl (by kernel_rfl) (blk_cell b32 rfl)) ?_
    refine lvg (d := 20) (t := 17) rfl (by kernel_rfl) rfl (bt q35 (by kernel_rfl)) rfl (by kernel_rfl) (e_move (v := .int .i64 x1) (by kernel_rfl)) ?_
    refine lvg (d := 21) (t := 17) rfl (by kernel_rfl) rfl (bt q35 (by kernel_rfl)) rfl (by kernel_rfl) (e_neq (k := .i64) (a := (x3.cells.getD ((x1).toNat) z36).n) (b := x1) (by kernel_rfl) (by kernel_rfl)) ?_
    refine lv (d := 22) rfl rfl (by kernel_rfl) (e_pick_t (v := .bool (decide (((x3.cells.getD ((x1).toNat) z36).n) ≠ x1))) (bt q35 (by kernel_rfl)) (by kernel_rfl)) ?_
    refine lv (d := 23) rfl rfl (by kernel_rfl) (e_move (v := .bool (decide (((x3.cells.getD ((x1).toNat) z36).n) ≠ x1))) (by kernel_rfl)) ?_
    by_cases q36 : ((x3.cells.getD ((x1).toNat) z36).n) ≠ x1
    · replace M := ifp q36 M
      refine lvg (d := 24) (t := 23) rfl (by kernel_rfl) rfl (bt q36 (by kernel_rfl)) rfl (by kernel_rfl) (e_move (v := .int .i64 x2) (by kernel_rfl)) ?_
      refine lvg (d := 25) (t := 23) rfl (by kernel_rfl) rfl (bt q36 (by kernel_rfl)) rfl (by kernel_rfl) (e_eql (k := .i64) (a := x2) (b := 0) (by kernel_rfl) rfl) ?_
      refine lv (d := 26) rfl rfl (by kernel_rfl) (e_pick_t (v := .bool (decide (x2 = 0))) (bt q36 (by kernel_rfl)) (by kernel_rfl)) ?_
      refine lv (d := 13) rfl rfl (by kernel_rfl) (e_assign (v := .bool (decide (x2 = 0))) (by kernel_rfl)) ?_
      refine wpList_nil ?_
      refine then_n ?_
      by_cases q37 : x2 = 0
      · replace M := ifp q37 M
        refine cond_t rfl (bt q37 (by kernel_rfl)) ?_
        refine wp_seq ?_
        refine wp_region_lit ?_
        refine lv (d := 27) rfl rfl (by kernel_rfl) (e_fieldAddr (b := g27) (off := 0) (o := 1) Try.underlying36 rfl rfl (sz := 1) (by kernel_rfl) (by decide) (by kernel_rfl)) ?_
        refine lv (d := 28) rfl rfl (by kernel_rfl) (e_load1 (ad := ⟨g27, 0 + 1, none⟩) (v := .int .i64 ((x3.cells.getD ((x1).toNat) z36).n)) Try.underlying3 rfl (by kernel_rfl) (blk_cell b32 rfl)) ?_
        refine lv (d := 5) rfl rfl (by kernel_rfl) (e_assign (v := .int .i64 ((x3.cells.getD ((x1).toNat) z36).n)) (by kernel_rfl)) ?_
        refine lv (d := 6) rfl rfl (by kernel_rfl) (e_assign (v := .bool true) rfl) ?_
        refine wpList_nil ?_
        refine then_n ?_
        refine wp_ret ?_
        refine inb_r ?_
        refine then_r ?_
        obtain rfl := Option.some.inj M
        exact ret2 rfl rfl rfl (show _ = .int .i64 ((x3.cells.getD ((x1).toNat) z36).n) from (by kernel_rfl)) (show _ = .bool true from (by kernel_rfl)) ⟨rfl, S33.chg⟩
      replace M := ifn q37 M
      refine cond_f rfl (bf q37 (by kernel_rfl)) ?_
      refine wp_seq ?_
      refine wp_region_lit ?_
      refine lv (d := 30) rfl rfl (by kernel_rfl) (e_fieldAddr (b := g27) (off := 0) (o := 0) Try.underlying36 rfl rfl (sz := 1) (by kernel_rfl) (by decide) (by kernel_rfl)) ?_
      refine lv (d := 31) rfl rfl (by kernel_rfl) (e_load1 (ad := ⟨g27, 0 + 0, none⟩) (v := .int .i64 ((x3.cells.getD ((x1).toNat) z36).kind)) Try.underlying3 rfl (by kernel_rfl) (blk_cell b32 rfl)) ?_
      refine lv (d := 32) rfl rfl (by kernel_rfl) (e_eql (k := .i64) (a := (x3.cells.getD ((x1).toNat) z36).kind) (b := 4) (by kernel_rfl) rfl) ?_
      refine lv (d := 33) rfl rfl (by kernel_rfl) (e_move (v := .bool (decide (((x3.cells.getD ((x1).toNat) z36).kind) = 4))) (by kernel_rfl)) ?_
      by_cases q38 : ((x3.cells.getD ((x1).toNat) z36).kind) = 4
      · replace M := ifp q38 M
        refine lvg (d := 34) (t := 33) rfl (by kernel_rfl) rfl (bt q38 (by kernel_rfl)) rfl (by kernel_rfl) (e_move (v := .int .i64 x2) (by kernel_rfl)) ?_
        refine lvg (d := 35) (t := 33) rfl (by kernel_rfl) rfl (bt q38 (by kernel_rfl)) rfl (by kernel_rfl) (e_fieldAddr (b := g4) (off := 0) (o := 0) Try.underlying34 rfl rfl (sz := 1) (by kernel_rfl) (by decide) (by kernel_rfl)) ?_
        refine lvg (d := 36) (t := 33) rfl (by kernel_rfl) rfl (bt q38 (by kernel_rfl)) rfl (by kernel_rfl) (e_load1 (ad := ⟨g4, 0 + 0, none⟩) (v := .slice A6 x3.cells.length c7) Try.underlying32 rfl (by kernel_rfl) (blk_cell (S33.inv _ _ b5) rfl)) ?_
        refine lvg (d := 37) (t := 33) rfl (by kernel_rfl) rfl (bt q38 (by kernel_rfl)) rfl (by kernel_rfl) (e_fieldAddr (b := g27) (off := 0) (o := 1) Try.underlying36 rfl rfl (sz := 1) (by kernel_rfl) (by decide) (by kernel_rfl)) ?_
        refine lvg (d := 38) (t := 33) rfl (by kernel_rfl) rfl (bt q38 (by kernel_rfl)) rfl (by kernel_rfl) (e_load1 (ad := ⟨g27, 0 + 1, none⟩) (v := .int .i64 ((x3.cells.getD ((x1).toNat) z36).n)) Try.underlying3 rfl (by kernel_rfl) (blk_cell b32 rfl)) ?_
        obtain ⟨q39, M⟩ := chk M
        obtain ⟨q40, M⟩ := chk M
        obtain ⟨b41, o42, e43⟩ := Rd.addr h8 (show ((x3.cells.getD ((x1).toNat) z36).n).toNat < x3.cells.length by omega)
        obtain ⟨y44, r45, k46⟩ := Rd.at h8 e43 (getD_some z36 (show ((x3.cells.getD ((x1).toNat) z36).n).toNat < x3.cells.length by omega))
        obtain ⟨A47, c48, rfl, l49, h50⟩ := st36_open r45
        refine lvg (d := 39) (t := 33) rfl (by kernel_rfl) rfl (bt q38 (by kernel_rfl)) rfl (by kernel_rfl) (e_indexAddr (b := b41) (off := o42) (n := x3.cells.length) (c := c7) (sz := 3) (i := (x3.cells.getD ((x1).toNat) z36).n) (k := .i64) Try.underlying32 e43 (by kernel_rfl) (by kernel_rfl) (by kernel_rfl) q39 q40) ?_
        refine lvg (d := 40) (t := 33) rfl (by kernel_rfl) rfl (bt q38 (by kernel_rfl)) rfl (by kernel_rfl) (e_fieldAddr (b := b41) (off := o42 + ((x3.cells.getD ((x1).toNat) z36).n : Int).toNat * 3) (o := 1) Try.underlying36 rfl rfl (sz := 1) (by kernel_rfl) (by decide) (by kernel_rfl)) ?_
        refine lvg (d := 41) (t := 33) rfl (by kernel_rfl) rfl (bt q38 (by kernel_rfl)) rfl (by kernel_rfl) (e_load1 (ad := ⟨b41, o42 + ((x3.cells.getD ((x1).toNat) z36).n : Int).toNat * 3 + 1, none⟩) (v := .int .i64 ((x3.cells.getD (((x3.cells.getD ((x1).toNat) z36).n).toNat) z36).n)) Try.underlying3 rfl (by kernel_rfl) (hpx (S33.inv.cell (k46 1 _ rfl)))) ?_
        refine lvg (d := 42) (t := 33) rfl (by kernel_rfl) rfl (bt q38 (by kernel_rfl)) rfl (by kernel_rfl) (e_lss (k := .i64) (a := x2) (b := (x3.cells.getD (((x3.cells.getD ((x1).toNat) z36).n).toNat) z36).n) (by kernel_rfl) (by kernel_rfl)) ?_
        refine lv (d := 43) rfl rfl (by kernel_rfl) (e_pick_t (v := .bool (decide (x2 < ((x3.cells.getD (((x3.cells.getD ((x1).toNat) z36).n).toNat) z36).n)))) (bt q38 (by kernel_rfl)) (by kernel_rfl)) ?_
        refine lv (d := 29) rfl rfl (by kernel_rfl) (e_assign (v := .bool (decide (x2 < ((x3.cells.getD (((x3.cells.getD ((x1).toNat) z36).n).toNat) z36).n)))) (by kernel_rfl)) ?_
        refine wpList_nil ?_
        refine then_n ?_
        by_cases q51 : x2 < ((x3.cells.getD (((x3.cells.getD ((x1).toNat) z36).n).toNat) z36).n)
        · replace M := ifp q51 M
          refine cond_t rfl (bt q51 (by kernel_rfl)) ?_
          refine wp_seq ?_
          refine wp_region_lit ?_
          refine lv (d := 44) rfl rfl (by kernel_rfl) (e_fieldAddr (b := g27) (off := 0) (o := 1) Try.underlying36 rfl rfl (sz := 1) (by kernel_rfl) (by decide) (by kernel_rfl)) ?_
          refine lv (d := 45) rfl rfl (by kernel_rfl) (e_load1 (ad := ⟨g27, 0 + 1, none⟩) (v := .int .i64 ((x3.cells.getD ((x1).toNat) z36).n)) Try.underlying3 rfl (by kernel_rfl) (blk_cell b32 rfl)) ?_
          refine lv (d := 46) rfl rfl (by kernel_rfl) (e_add (k := .i64) (a := (x3.cells.getD ((x1).toNat) z36).n) (b := 1) (by kernel_rfl) rfl) ?_
          refine lv (d := 47) rfl rfl (by kernel_rfl) (e_move (v := .int .i64 x2) (by kernel_rfl)) ?_
          refine lv (d := 48) rfl rfl (by kernel_rfl) (e_add (k := .i64) (a := (IntKind.i64.wrap (((x3.cells.getD ((x1).toNat) z36).n) + 1))) (b := x2) (by kernel_rfl) (by kernel_rfl)) ?_
          refine lv (d := 5) rfl rfl (by kernel_rfl) (e_assign (v := .int .i64 (IntKind.i64.wrap ((IntKind.i64.wrap (((x3.cells.getD ((x1).toNat) z36).n) + 1)) + x2))) (by kernel_rfl)) ?_
          refine lv (d := 6) rfl rfl (by kernel_rfl) (e_assign (v := .bool true) rfl) ?_
          refine wpList_nil ?_
          refine then_n ?_
          refine wp_ret ?_
          refine inb_r ?_
          refine then_r ?_
          obtain rfl := Option.some.inj M
          exact ret2 rfl rfl rfl (show _ = .int .i64 (IntKind.i64.wrap ((IntKind.i64.wrap (((x3.cells.getD ((x1).toNat) z36).n) + 1)) + x2)) from (by kernel_rfl)) (show _ = .bool true from (by kernel_rfl)) ⟨rfl, S33.chg⟩
        replace M := ifn q51 M
        refine cond_f rfl (bf q51 (by kernel_rfl)) ?_
        refine wp_skip ?_
        refine inb_n ?_
        refine then_n ?_
        refine wp_seq ?_
        refine wp_region_lit ?_
        refine lv (d := 5) rfl rfl (by kernel_rfl) (e_assign (v := .int .i64 0) rfl) ?_
        refine lv (d := 6) rfl rfl (by kernel_rfl) (e_assign (v := .bool false) rfl) ?_
        refine wpList_nil ?_
        refine then_n ?_
        refine wp_ret ?_
        obtain rfl := Option.some.inj M
        exact ret2 rfl rfl rfl (show _ = .int .i64 0 from (by kernel_rfl)) (show _ = .bool false from (by kernel_rfl)) ⟨rfl, S33.chg⟩
      replace M := ifn q38 M
      refine lskip (t := 33) (c := false) rfl (by kernel_rfl) rfl (bf q38 (by kernel_rfl)) rfl rfl ?_
      refine lskip (t := 33) (c := false) rfl (by kernel_rfl) rfl (bf q38 (by kernel_rfl)) rfl rfl ?_
      refine lskip (t := 33) (c := false) rfl (by kernel_rfl) rfl (bf q38 (by kernel_rfl)) rfl rfl ?_
      refine lskip (t := 33) (c := false) rfl (by kernel_rfl) rfl (bf q38 (by kernel_rfl)) rfl rfl ?_
      refine lskip (t := 33) (c := false) rfl (by kernel_rfl) rfl (bf q38 (by kernel_rfl)) rfl rfl ?_
      refine lskip (t := 33) (c := false) rfl (by kernel_rfl) rfl (bf q38 (by kernel_rfl)) rfl rfl ?_
      refine lskip (t := 33) (c := false) rfl (by kernel_rfl) rfl (bf q38 (by kernel_rfl)) rfl rfl ?_
      refine lskip (t := 33) (c := false) rfl (by kernel_rfl) rfl (bf q38 (by kernel_rfl)) rfl rfl ?_
      refine lskip (t := 33) (c := false) rfl (by kernel_rfl) rfl (bf q38 (by kernel_rfl)) rfl rfl ?_
      refine lv (d := 43) rfl rfl (by kernel_rfl) (e_pick_f (v := .bool false) (bf q38 (by kernel_rfl)) rfl) ?_
      refine lv (d := 29) rfl rfl (by kernel_rfl) (e_assign (v := .bool false) (by kernel_rfl)) ?_
      refine wpList_nil ?_
      refine then_n ?_
      refine cond_f rfl (by kernel_rfl) ?_
      refine wp_skip ?_
      refine inb_n ?_
      refine then_n ?_
      refine wp_seq ?_
      refine wp_region_lit ?_
      refine lv (d := 5) rfl rfl (by kernel_rfl) (e_assign (v := .int .i64 0) rfl) ?_
      refine lv (d := 6) rfl rfl (by kernel_rfl) (e_assign (v := .bool false) rfl) ?_
      refine wpList_nil ?_
      refine then_n ?_
      refine wp_ret ?_
      obtain rfl := Option.some.inj M
      exact ret2 rfl rfl rfl (show _ = .int .i64 0 from (by kernel_rfl)) (show _ = .bool false from (by kernel_rfl)) ⟨rfl, S33.chg⟩
    replace M := ifn q36 M
    refine lskip (t := 23) (c := false) rfl (by kernel_rfl) rfl (bf q36 (by kernel_rfl)) rfl rfl ?_
    refine lskip (t := 23) (c := false) rfl (by kernel_rfl) rfl (bf q36 (by kernel_rfl)) rfl rfl ?_
    refine lv (d := 26) rfl rfl (by kernel_rfl) (e_pick_f (v := .bool false) (bf q36 (by kernel_rfl)) rfl) ?_
    refine lv (d := 13) rfl rfl (by kernel_rfl) (e_assign (v := .bool false) (by kernel_rfl)) ?_
    refine wpList_nil ?_
    refine then_n ?_
    refine cond_f rfl (by kernel_rfl) ?_
    refine wp_seq ?_
    refine wp_region_lit ?_
    refine lv (d := 30) rfl rfl (by kernel_rfl) (e_fieldAddr (b := g27) (off := 0) (o := 0) Try.underlying36 rfl rfl (sz := 1) (by kernel_rfl) (by decide) (by kernel_rfl)) ?_
    refine lv (d := 31) rfl rfl (by kernel_rfl) (e_load1 (ad := ⟨g27, 0 + 0, none⟩) (v := .int .i64 ((x3.cells.getD ((x1).toNat) z36).kind)) Try.underlying3 rfl (by kernel_rfl) (blk_cell b32 rfl)) ?_
    refine lv (d := 32) rfl rfl (by kernel_rfl) (e_eql (k := .i64) (a := (x3.cells.getD ((x1).toNat) z36).kind) (b := 4) (by kernel_rfl) rfl) ?_
    refine lv (d := 33) rfl rfl (by kernel_rfl) (e_move (v := .bool (decide (((x3.cells.getD ((x1).toNat) z36).kind) = 4))) (by kernel_rfl)) ?_
    by_cases q52 : ((x3.cells.getD ((x1).toNat) z36).kind) = 4
    · replace M := ifp q52 M
      refine lvg (d := 34) (t := 33) rfl (by kernel_rfl) rfl (bt q52 (by kernel_rfl)) rfl (by kernel_rfl) (e_move (v := .int .i64 x2) (by kernel_rfl)) ?_
      refine lvg (d := 35) (t := 33) rfl (by kernel_rfl) rfl (bt q52 (by kernel_rfl)) rfl (by kernel_rfl) (e_fieldAddr (b := g4) (off := 0) (o := 0) Try.underlying34 rfl rfl (sz := 1) (by kernel_rfl) (by decide) (by kernel_rfl)) ?_
      refine lvg (d := 36) (t := 33) rfl (by kernel_rfl) rfl (bt q52 (by kernel_rfl)) rfl (by kernel_rfl) (e_load1 (ad := ⟨g4, 0 + 0, none⟩) (v := .slice A6 x3.cells.length c7) Try.underlying32 rfl (by kernel_rfl) (blk_cell (S33.inv _ _ b5) rfl)) ?_
      refine lvg (d := 37) (t := 33) rfl (by kernel_rfl) rfl (bt q52 (by kernel_rfl)) rfl (by kernel_rfl) (e_fieldAddr (b := g27) (off := 0) (o := 1) Try.underlying36 rfl rfl (sz := 1) (by kernel_rfl) (by decide) (by kernel_rfl)) ?_
      refine lvg (d := 38) (t := 33) rfl (by kernel_rfl) rfl (bt q52 (by kernel_rfl)) rfl (by kernel_rfl) (e_load1 (ad := ⟨g27, 0 + 1, none⟩) (v := .int .i64 ((x3.cells.getD ((x1).toNat) z36).n)) Try.underlying3 rfl (by kernel_rfl) (blk_cell b32 rfl)) ?_
      obtain ⟨q53, M⟩ := chk M
      obtain ⟨q54, M⟩ := chk M
      obtain ⟨b55, o56, e57⟩ := Rd.addr h8 (show ((x3.cells.getD ((x1).toNat) z36).n).toNat < x3.cells.length by omega)
      obtain ⟨y58, r59, k60⟩ := Rd.at h8 e57 (getD_some z36 (show ((x3.cells.getD ((x1).toNat) z36).n).toNat < x3.cells.length by omega))
      obtain ⟨A61, c62, rfl, l63, h64⟩ := st36_open r59
      refine lvg (d := 39) (t := 33) rfl (by kernel_rfl) rfl (bt q52 (by kernel_rfl)) rfl (by kernel_rfl) (e_indexAddr (b := b55) (off := o56) (n := x3.cells.length) (c := c7) (sz := 3) (i := (x3.cells.getD ((x1).toNat) z36).n) (k := .i64) Try.underlying32 e57 (by kernel_rfl) (by kernel_rfl) (by kernel_rfl) q53 q54) ?_
      refine lvg (d := 40) (t := 33) rfl (by kernel_rfl) rfl (bt q52 (by kernel_rfl)) rfl (by kernel_rfl) (e_fieldAddr (b := b55) (off := o56 + ((x3.cells.getD ((x1).toNat) z36).n : Int).toNat * 3) (o := 1) Try.underlying36 rfl rfl (sz := 1) (by kernel_rfl) (by decide) (by kernel_rfl)) ?_
      refine lvg (d := 41) (t := 33) rfl (by kernel_rfl) rfl (bt q52 (by kernel_rfl)) rfl (by kernel_rfl) (e_load1 (ad := ⟨b55, o56 + ((x3.cells.getD ((x1).toNat) z36).n : Int).toNat * 3 + 1, none⟩) (v := .int .i64 ((x3.cells.getD (((x3.cells.getD ((x1).toNat) z36).n).toNat) z36).n)) Try.underlying3 rfl (by kernel_rfl) (hpx (S33.inv.cell (k60 1 _ rfl)))) ?_
      refine lvg (d := 42) (t := 33) rfl (by kernel_rfl) rfl (bt q52 (by kernel_rfl)) rfl (by kernel_rfl) (e_lss (k := .i64) (a := x2) (b := (x3.cells.getD (((x3.cells.getD ((x1).toNat) z36).n).toNat) z36).n) (by kernel_rfl) (by kernel_rfl)) ?_
      refine lv (d := 43) rfl rfl (by kernel_rfl) (e_pick_t (v := .bool (decide (x2 < ((x3.cells.getD (((x3.cells.getD ((x1).toNat) z36).n).toNat) z36).n)))) (bt q52 (by kernel_rfl)) (by kernel_rfl)) ?_
      refine lv (d := 29) rfl rfl (by kernel_rfl) (e_assign (v := .bool (decide (x2 < ((x3.cells.getD (((x3.cells.getD ((x1).toNat) z36).n).toNat) z36).n)))) (by kernel_rfl)) ?_
      refine wpList_nil ?_
      refine then_n ?_
      by_cases q65 : x2 < ((x3.cells.getD (((x3.cells.getD ((x1).toNat) z36).n).toNat) z36).n)
      · replace M := ifp q65 M
        refine cond_t rfl (bt q65 (by kernel_rfl)) ?_
        refine wp_seq ?_
        refine wp_region_lit ?_
        refine lv (d := 44) rfl rfl (by kernel_rfl) (e_fieldAddr (b := g27) (off := 0) (o := 1) Try.underlying36 rfl rfl (sz := 1) (by kernel_rfl) (by decide) (by kernel_rfl)) ?_
        refine lv (d := 45) rfl rfl (by kernel_rfl) (e_load1 (ad := ⟨g27, 0 + 1, none⟩) (v := .int .i64 ((x3.cells.getD ((x1).toNat) z36).n)) Try.underlying3 rfl (by kernel_rfl) (blk_cell b32 rfl)) ?_
        refine lv (d := 46) rfl rfl (by kernel_rfl) (e_add (k := .i64) (a := (x3.cells.getD ((x1).toNat) z36).n) (b := 1) (by kernel_rfl) rfl) ?_
        refine lv (d := 47) rfl rfl (by kernel_rfl) (e_move (v := .int .i64 x2) (by kernel_rfl)) ?_
        refine lv (d := 48) rfl rfl (by kernel_rfl) (e_add (k := .i64) (a := (IntKind.i64.wrap (((x3.cells.getD ((x1).toNat) z36).n) + 1))) (b := x2) (by kernel_rfl) (by kernel_rfl)) ?_
        refine lv (d := 5) rfl rfl (by kernel_rfl) (e_assign (v := .int .i64 (IntKind.i64.wrap ((IntKind.i64.wrap (((x3.cells.getD ((x1).toNat) z36).n) + 1)) + x2))) (by kernel_rfl)) ?_
        refine lv (d := 6) rfl rfl (by kernel_rfl) (e_assign (v := .bool true) rfl) ?_
        refine wpList_nil ?_
        refine then_n ?_
        refine wp_ret ?_
        refine inb_r ?_
        refine then_r ?_
        obtain rfl := Option.some.inj M
        exact ret2 rfl rfl rfl (show _ = .int .i64 (IntKind.i64.wrap ((IntKind.i64.wrap (((x3.cells.getD ((x1).toNat) z36).n) + 1)) + x2)) from (by kernel_rfl)) (show _ = .bool true from (by kernel_rfl)) ⟨rfl, S33.chg⟩
      replace M := ifn q65 M
      refine cond_f rfl (bf q65 (by kernel_rfl)) ?_
      refine wp_skip ?_
      refine inb_n ?_
      refine then_n ?_
      refine wp_seq ?_
      refine wp_region_lit ?_
      refine lv (d := 5) rfl rfl (by kernel_rfl) (e_assign (v := .int .i64 0) rfl) ?_
      refine lv (d := 6) rfl rfl (by kernel_rfl) (e_assign (v := .bool false) rfl) ?_
      refine wpList_nil ?_
      refine then_n ?_
      refine wp_ret ?_
      obtain rfl := Option.some.inj M
      exact ret2 rfl rfl rfl (show _ = .int .i64 0 from (by kernel_rfl)) (show _ = .bool false from (by kernel_rfl)) ⟨rfl, S33.chg⟩
    replace M := ifn q52 M
    refine lskip (t := 33) (c := false) rfl (by kernel_rfl) rfl (bf q52 (by kernel_rfl)) rfl rfl ?_
    refine lskip (t := 33) (c := false) rfl (by kernel_rfl) rfl (bf q52 (by kernel_rfl)) rfl rfl ?_
    refine lskip (t := 33) (c := false) rfl (by kernel_rfl) rfl (bf q52 (by kernel_rfl)) rfl rfl ?_
    refine lskip (t := 33) (c := false) rfl (by kernel_rfl) rfl (bf q52 (by kernel_rfl)) rfl rfl ?_
    refine lskip (t := 33) (c := false) rfl (by kernel_rfl) rfl (bf q52 (by kernel_rfl)) rfl rfl ?_
    refine lskip (t := 33) (c := false) rfl (by kernel_rfl) rfl (bf q52 (by kernel_rfl)) rfl rfl ?_
    refine lskip (t := 33) (c := false) rfl (by kernel_rfl) rfl (bf q52 (by kernel_rfl)) rfl rfl ?_
    refine lskip (t := 33) (c := false) rfl (by kernel_rfl) rfl (bf q52 (by kernel_rfl)) rfl rfl ?_
    refine lskip (t := 33) (c := false) rfl (by kernel_rfl) rfl (bf q52 (by kernel_rfl)) rfl rfl ?_
    refine lv (d := 43) rfl rfl (by kernel_rfl) (e_pick_f (v := .bool false) (bf q52 (by kernel_rfl)) rfl) ?_
    refine lv (d := 29) rfl rfl (by kernel_rfl) (e_assign (v := .bool false) (by kernel_rfl)) ?_
    refine wpList_nil ?_
    refine then_n ?_
    refine cond_f rfl (by kernel_rfl) ?_
    refine wp_skip ?_
    refine inb_n ?_
    refine then_n ?_
    refine wp_seq ?_
    refine wp_region_lit ?_
    refine lv (d := 5) rfl rfl (by kernel_rfl) (e_assign (v := .int .i64 0) rfl) ?_
    refine lv (d := 6) rfl rfl (by kernel_rfl) (e_assign (v := .bool false) rfl) ?_
    refine wpList_nil ?_
    refine then_n ?_
    refine wp_ret ?_
    obtain rfl := Option.some.inj M
    exact ret2 rfl rfl rfl (show _ = .int .i64 0 from (by kernel_rfl)) (show _ = .bool false from (by kernel_rfl)) ⟨rfl, S33.chg⟩
  replace M := ifn q35 M
  refine lskip (t := 17) (c := false) rfl (by kernel_rfl) rfl (bf q35 (by kernel_rfl)) rfl rfl ?_
  refine lskip (t := 17) (c := false) rfl (by kernel_rfl) rfl (bf q35 (by kernel_rfl)) rfl rfl ?_
  refine lskip (t := 17) (c := false) rfl (by kernel_rfl) rfl (bf q35 (by kernel_rfl)) rfl rfl ?_
  refine lskip (t := 17) (c := false) rfl (by kernel_rfl) rfl (bf q35 (by kernel_rfl)) rfl rfl ?_
  refine lv (d := 22) rfl rfl (by kernel_rfl) (e_pick_f (v := .bool false) (bf q35 (by kernel_rfl)) rfl) ?_
  refine lv (d := 23) rfl rfl (by kernel_rfl) (e_move (v := .bool false) (by kernel_rfl)) ?_
  refine lskip (t := 23) (c := false) rfl (by kernel_rfl) rfl (by kernel_rfl) rfl rfl ?_
  refine lskip (t := 23) (c := false) rfl (by kernel_rfl) rfl (by kernel_rfl) rfl rfl ?_
  refine lv (d := 26) rfl rfl (by kernel_rfl) (e_pick_f (v := .bool false) (by kernel_rfl) rfl) ?_
  refine lv (d := 13) rfl rfl (by kernel_rfl) (e_assign (v := .bool false) (by kernel_rfl)) ?_
  refine wpList_nil ?_
  refine then_n ?_
  refine cond_f rfl (by kernel_rfl) ?_
  refine wp_seq ?_
  refine wp_region_lit ?_
  refine lv (d := 30) rfl rfl (by kernel_rfl) (e_fieldAddr (b := g27) (off := 0) (o := 0) Try.underlying36 rfl rfl (sz := 1) (by kernel_rfl) (by decide) (by kernel_rfl)) ?_
  refine lv (d := 31) rfl rfl (by kernel_rfl) (e_load1 (ad := ⟨g27, 0 + 0, none⟩) (v := .int .i64 ((x3.cells.getD ((x1).toNat) z36).kind)) Try.underlying3 rfl (by kernel_rfl) (blk_cell b32 rfl)) ?_
  refine lv (d := 32) rfl rfl (by kernel_rfl) (e_eql (k := .i64) (a := (x3.cells.getD ((x1).toNat) z36).kind) (b := 4) (by kernel_rfl) rfl) ?_
  refine lv (d := 33) rfl rfl (by kernel_rfl) (e_move (v := .bool (decide (((x3.cells.getD ((x1).toNat) z36).kind) = 4))) (by kernel_rfl)) ?_
  by_cases q66 : ((x3.cells.getD ((x1).toNat) z36).kind) = 4
  · replace M := ifp q66 M
    refine lvg (d := 34) (t := 33) rfl (by kernel_rfl) rfl (bt q66 (by kernel_rfl)) rfl (by kernel_rfl) (e_move (v := .int .i64 x2) (by kernel_rfl)) ?_
    refine lvg (d := 35) (t := 33) rfl (by kernel_rfl) rfl (bt q66 (by kernel_rfl)) rfl (by kernel_rfl) (e_fieldAddr (b := g4) (off := 0) (o := 0) Try.underlying34 rfl rfl (sz := 1) (by kernel_rfl) (by decide) (by kernel_rfl)) ?_
    refine lvg (d := 36) (t := 33) rfl (by kernel_rfl) rfl (bt q66 (by kernel_rfl)) rfl (by kernel_rfl) (e_load1 (ad := ⟨g4, 0 + 0, none⟩) (v := .slice A6 x3.cells.length c7) Try.underlying32 rfl (by kernel_rfl) (blk_cell (S33.inv _ _ b5) rfl)) ?_
    refine lvg (d := 37) (t := 33) rfl (by kernel_rfl) rfl (bt q66 (by kernel_rfl)) rfl (by kernel_rfl) (e_fieldAddr (b := g27) (off := 0) (o := 1) Try.underlying36 rfl rfl (sz := 1) (by kernel_rfl) (by decide) (by kernel_rfl)) ?_
    refine lvg (d := 38) (t := 33) rfl (by kernel_rfl) rfl (bt q66 (by kernel_rfl)) rfl (by kernel_rfl) (e_load1 (ad := ⟨g27, 0 + 1, none⟩) (v := .int .i64 ((x3.cells.getD ((x1).toNat) z36).n)) Try.underlying3 rfl (by kernel_rfl) (blk_cell b32 rfl)) ?_
    obtain ⟨q67, M⟩ := chk M
    obtain ⟨q68, M⟩ := chk M
    obtain ⟨b69, o70, e71⟩ := Rd.addr h8 (show ((x3.cells.getD ((x1).toNat) z36).n).toNat < x3.cells.length by omega)
    obtain ⟨y72, r73, k74⟩ := Rd.at h8 e71 (getD_some z36 (show ((x3.cells.getD ((x1).toNat) z36).n).toNat < x3.cells.length by omega))
    obtain ⟨A75, c76, rfl, l77, h78⟩ := st36_open r73
    refine lvg (d := 39) (t := 33) rfl (by kernel_rfl) rfl (bt q66 (by kernel_rfl)) rfl (by kernel_rfl) (e_indexAddr (b := b69) (off := o70) (n := x3.cells.length) (c := c7) (sz := 3) (i := (x3.cells.getD ((x1).toNat) z36).n) (k := .i64) Try.underlying32 e71 (by kernel_rfl) (by kernel_rfl) (by kernel_rfl) q67 q68) ?_
    refine lvg (d := 40) (t := 33) rfl (by kernel_rfl) rfl (bt q66 (by kernel_rfl)) rfl (by kernel_rfl) (e_fieldAddr (b := b69) (off := o70 + ((x3.cells.getD ((x1).toNat) z36).n : Int).toNat * 3) (o := 1) Try.underlying36 rfl rfl (sz := 1) (by kernel_rfl) (by decide) (by kernel_rfl)) ?_
    refine lvg (d := 41) (t := 33) rfl (by kernel_rfl) rfl (bt q66 (by kernel_rfl)) rfl (by kernel_rfl) (e_load1 (ad := ⟨b69, o70 + ((x3.cells.getD ((x1).toNat) z36).n : Int).toNat * 3 + 1, none⟩) (v := .int .i64 ((x3.cells.getD (((x3.cells.getD ((x1).toNat) z36).n).toNat) z36).n)) Try.underlying3 rfl (by kernel_rfl) (hpx (S33.inv.cell (k74 1 _ rfl)))) ?_
    refine lvg (d := 42) (t := 33) rfl (by kernel_rfl) rfl (bt q66 (by kernel_rfl)) rfl (by kernel_rfl) (e_lss (k := .i64) (a := x2) (b := (x3.cells.getD (((x3.cells.getD ((x1).toNat) z36).n).toNat) z36).n) (by kernel_rfl) (by kernel_rfl)) ?_
    refine lv (d := 43) rfl rfl (by kernel_rfl) (e_pick_t (v := .bool (decide (x2 < ((x3.cells.getD (((x3.cells.getD ((x1).toNat) z36).n).toNat) z36).n)))) (bt q66 (by kernel_rfl)) (by kernel_rfl)) ?_
    refine lv (d := 29) rfl rfl (by kernel_rfl) (e_assign (v := .bool (decide (x2 < ((x3.cells.getD (((x3.cells.getD ((x1).toNat) z36).n).toNat) z36).n)))) (by kernel_rfl)) ?_
    refine wpList_nil ?_
    refine then_n ?_
    by_cases q79 : x2 < ((x3.cells.getD (((x3.cells.getD ((x1).toNat) z36).n).toNat) z36).n)
    · replace M := ifp q79 M
      refine cond_t rfl (bt q79 (by kernel_rfl)) ?_
      refine wp_seq ?_
      refine wp_region_lit ?_
      refine lv (d := 44) rfl rfl (by kernel_rfl) (e_fieldAddr (b := g27) (off := 0) (o := 1) Try.underlying36 rfl rfl (sz := 1) (by kernel_rfl) (by decide) (by kernel_rfl)) ?_
      refine lv (d := 45) rfl rfl (by kernel_rfl) (e_load1 (ad := ⟨g27, 0 + 1, none⟩) (v := .int .i64 ((x3.cells.getD ((x1).toNat) z36).n)) Try.underlying3 rfl (by kernel_rfl) (blk_cell b32 rfl)) ?_
      refine lv (d := 46) rfl rfl (by kernel_rfl) (e_add (k := .i64) (a := (x3.cells.getD ((x1).toNat) z36).n) (b := 1) (by kernel_rfl) rfl) ?_
      refine lv (d := 47) rfl rfl (by kernel_rfl) (e_move (v := .int .i64 x2) (by kernel_rfl)) ?_
      refine lv (d := 48) rfl rfl (by kernel_rfl) (e_add (k := .i64) (a := (IntKind.i64.wrap (((x3.cells.getD ((x1).toNat) z36).n) + 1))) (b := x2) (by kernel_rfl) (by kernel_rfl)) ?_
      refine lv (d := 5) rfl rfl (by kernel_rfl) (e_assign (v := .int .i64 (IntKind.i64.wrap ((IntKind.i64.wrap (((x3.cells.getD ((x1).toNat) z36).n) + 1)) + x2))) (by kernel_rfl)) ?_
      refine lv (d := 6) rfl rfl (by kernel_rfl) (e_assign (v := .bool true) rfl) ?_
      refine wpList_nil ?_
      refine then_n ?_
      refine wp_ret ?_
      refine inb_r ?_
      refine then_r ?_
      obtain rfl := Option.some.inj M
      exact ret2 rfl rfl rfl (show _ = .int .i64 (IntKind.i64.wrap ((IntKind.i64.wrap (((x3.cells.getD ((x1).toNat) z36).n) + 1)) + x2)) from (by kernel_rfl)) (show _ = .bool true from (by kernel_rfl)) ⟨rfl, S33.chg⟩
    replace M := ifn q79 M
    refine cond_f rfl (bf q79 (by kernel_rfl)) ?_
    refine wp_skip ?_
    refine inb_n ?_
    refine then_n ?_
    refine wp_seq ?_
    refine wp_region_lit ?_
    refine lv (d := 5) rfl rfl (by kernel_rfl) (e_assign (v := .int .i64 0) rfl) ?_
    refine lv (d := 6) rfl rfl (by kernel_rfl) (e_assign (v := .bool false) rfl) ?_
    refine wpList_nil ?_
    refine then_n ?_
    refine wp_ret ?_
    obtain rfl := Option.some.inj M
    exact ret2 rfl rfl rfl (show _ = .int .i64 0 from (by kernel_rfl)) (show _ = .bool false from (by kernel_rfl)) ⟨rfl, S33.chg⟩
  replace M := ifn q66 M
  refine lskip (t := 33) (c := false) rfl (by kernel_rfl) rfl (bf q66 (by kernel_rfl)) rfl rfl ?_
  refine lskip (t := 33) (c := false) rfl (by kernel_rfl) rfl (bf q66 (by kernel_rfl)) rfl rfl ?_
  refine lskip (t := 33) (c := false) rfl (by kernel_rfl) rfl (bf q66 (by kernel_rfl)) rfl rfl ?_
  refine lskip (t := 33) (c := false) rfl (by kernel_rfl) rfl (bf q66 (by kernel_rfl)) rfl rfl ?_
  refine lskip (t := 33) (c := false) rfl (by kernel_rfl) rfl (bf q66 (by kernel_rfl)) rfl rfl ?_
  refine lskip (t := 33) (c := false) rfl (by kernel_rfl) rfl (bf q66 (by kernel_rfl)) rfl rfl ?_
  refine lskip (t := 33) (c := false) rfl (by kernel_rfl) rfl (bf q66 (by kernel_rfl)) rfl rfl ?_
  refine lskip (t := 33) (c := false) rfl (by kernel_rfl) rfl (bf q66 (by kernel_rfl)) rfl rfl ?_
  refine lskip (t := 33) (c := false) rfl (by kernel_rfl) rfl (bf q66 (by kernel_rfl)) rfl rfl ?_
  refine lv (d := 43) rfl rfl (by kernel_rfl) (e_pick_f (v := .bool false) (bf q66 (by kernel_rfl)) rfl) ?_
  refine lv (d := 29) rfl rfl (by kernel_rfl) (e_assign (v := .bool false) (by kernel_rfl)) ?_
  refine wpList_nil ?_
  refine then_n ?_
  refine cond_f rfl (by kernel_rfl) ?_
  refine wp_skip ?_
  refine inb_n ?_
  refine then_n ?_
  refine wp_seq ?_
  refine wp_region_lit ?_
  refine lv (d := 5) rfl rfl (by kernel_rfl) (e_assign (v := .int .i64 0) rfl) ?_
  refine lv (d := 6) rfl rfl (by kernel_rfl) (e_assign (v := .bool false) rfl) ?_
  refine wpList_nil ?_
  refine then_n ?_
  refine wp_ret ?_
  obtain rfl := Option.some.inj M
  exact ret2 rfl rfl rfl (show _ = .int .i64 0 from (by kernel_rfl)) (show _ = .bool false from (by kernel_rfl)) ⟨rfl, S33.chg⟩

/-! impl_Store_ok -/
mutual
def impl_Store_ok.l3 : Nat → Store → Int → (List UInt8) → Option Bool
  | 0, _, _, _ => none
  | k146 + 1, x1, x132, x134 => (if x132 < (x1.cells.length : Int) then (if 0 ≤ x132 then (if ((x1.cells.getD ((x132).toNat) z36).kind) = 3 then (impl_Store_ok.l3 k146 x1 (IntKind.i64.wrap (x132 + 1)) x134) else (if x132 < (((x1.cells.length : Int)).toNat : Int) then (if ((x134.getD ((x132).toNat) (0 : UInt8)).toNat : Int) ≠ 0 then (impl_Store_ok.l3 k146 x1 (IntKind.i64.wrap (x132 + 1)) x134) else (impl_Store_ok.l4 k146 x1 x132 [(⟨x132, 0⟩ : GStep)] (x134.set ((x132).toNat) (1 : UInt8)))) else none)) else none) else some true)
def impl_Store_ok.l4 : Nat → Store → Int → (List GStep) → (List UInt8) → Option Bool
  | 0, _, _, _, _ => none
  | k226 + 1, x1, x132, x202, x208 => (if (x202.length : Int) > 0 then (if 0 ≤ (IntKind.i64.wrap ((x202.length : Int) - 1)) then (if (IntKind.i64.wrap ((x202.length : Int) - 1)) < (x202.length : Int) then ((impl_Store_ok_c1.f ((x202.getD (((IntKind.i64.wrap ((x202.length : Int) - 1))).toNat) z86).at_) ((x202.getD (((IntKind.i64.wrap ((x202.length : Int) - 1))).toNat) z86).next_) x1).bind fun t261 => (if ¬ (t261.2 = true) then (if 0 ≤ ((x202.getD (((IntKind.i64.wrap ((x202.length : Int) - 1))).toNat) z86).at_) then (if ((x202.getD (((IntKind.i64.wrap ((x202.length : Int) - 1))).toNat) z86).at_) < (((x1.cells.length : Int)).toNat : Int) then (if (IntKind.i64.wrap ((x202.length : Int) - 1)) ≤ (x202.length : Int) then (impl_Store_ok.l4 k226 x1 x132 (x202.take (((IntKind.i64.wrap ((x202.length : Int) - 1)) : Int).toNat)) (x208.set (((x202.getD (((IntKind.i64.wrap ((x202.length : Int) - 1))).toNat) z86).at_).toNat) (2 : UInt8))) else none) else none) else none) else (if 0 ≤ t261.1 then (if t261.1 < (((x1.cells.length : Int)).toNat : Int) then (if ((x208.getD ((t261.1).toNat) (0 : UInt8)).toNat : Int) = 0 then (if x202.length + 1 ≤ 8796093022208 then (impl_Store_ok.l4 k226 x1 x132 ((x202.set (((IntKind.i64.wrap ((x202.length : Int) - 1))).toNat) ({(x202.getD (((IntKind.i64.wrap ((x202.length : Int) - 1))).toNat) z86) with next_ := (IntKind.i64.wrap (((x202.getD (((IntKind.i64.wrap ((x202.length : Int) - 1))).toNat) z86).next_) + 1))})) ++ [(⟨t261.1, 0⟩ : GStep)]) (x208.set ((t261.1).toNat) (1 : UInt8))) else none) else (if ((x208.getD ((t261.1).toNat) (0 : UInt8)).toNat : Int) = 1 then some false else (impl_Store_ok.l4 k226 x1 x132 (x202.set (((IntKind.i64.wrap ((x202.length : Int) - 1))).toNat) ({(x202.getD (((IntKind.i64.wrap ((x202.length : Int) - 1))).toNat) z86) with next_ := (IntKind.i64.wrap (((x202.getD (((IntKind.i64.wrap ((x202.length : Int) - 1))).toNat) z86).next_) + 1))})) x208))) else none) else none))) else none) else none) else (impl_Store_ok.l3 k226 x1 (IntKind.i64.wrap (x132 + 1)) x208))
end
def impl_Store_ok.l2 : Nat → Store → Int → Option Bool
  | 0, _, _ => none
  | k97 + 1, x1, x87 => (if x87 < (x1.trail.length : Int) then (if 0 ≤ x87 then (if (x1.trail.getD ((x87).toNat) (0 : Int)) < 0 then some false else (if (x1.trail.getD ((x87).toNat) (0 : Int)) ≥ (x1.cells.length : Int) then some false else (if 0 ≤ (x1.trail.getD ((x87).toNat) (0 : Int)) then (if (x1.trail.getD ((x87).toNat) (0 : Int)) < (x1.cells.length : Int) then (if ((x1.cells.getD (((x1.trail.getD ((x87).toNat) (0 : Int))).toNat) z36).kind) = 3 then some false else (impl_Store_ok.l2 k97 x1 (IntKind.i64.wrap (x87 + 1)))) else none) else none))) else none) else (if 0 ≤ (x1.cells.length : Int) then (if ((x1.cells.length : Int)).toNat ≤ 281474976710656 then (impl_Store_ok.l3 k97 x1 0 (List.replicate ((x1.cells.length : Int)).toNat (0 : UInt8))) else none) else none))
mutual
def impl_Store_ok.l0 : Nat → Store → Int → Int → Option Bool
  | 0, _, _, _ => none
  | k31 + 1, x1, x19, x20 => (if x20 < (x1.cells.length : Int) then (if 0 ≤ x20 then (if ((x1.cells.getD ((x20).toNat) z36).kind) = 3 then (if x19 > 0 then some false else (if ((x1.cells.getD ((x20).toNat) z36).n) < 1 then some false else (if ((x1.cells.getD ((x20).toNat) z36).n) > 20 then some false else (if (((x1.cells.getD ((x20).toNat) z36).text).length : Int) > 100 then some false else (impl_Store_ok.l1 k31 x1 x20 ((x1.cells.getD ((x20).toNat) z36).n)))))) else ((impl_Store_points.f x1 (x1.cells.getD ((x20).toNat) z36)).bind fun t74 => (if ¬ (t74 = true) then some false else (impl_Store_ok.l1 k31 x1 x20 (if (IntKind.i64.wrap (x19 - 1)) > 0 then (IntKind.i64.wrap (x19 - 1)) else 0))))) else none) else (if x19 > 0 then some false else (impl_Store_ok.l2 k31 x1 0)))
def impl_Store_ok.l1 : Nat → Store → Int → Int → Option Bool
  | 0, _, _, _ => none
  | k45 + 1, x1, x20, x35 => (impl_Store_ok.l0 k45 x1 x35 (IntKind.i64.wrap (x20 + 1)))
end
def impl_Store_ok.f (k : Nat) (x1 : Store) : Option Bool := (if (x1.cells.length : Int) > 20000 then some false else (if (x1.trail.length : Int) > 20000 then some false else (impl_Store_ok.l0 k x1 0 0)))
theorem impl_Store_ok.calls (k : Nat) (w : World) (H : Hp) (x1 : Store) (A2 : Option Addr) (c3 : Nat) (A6 : Option Addr) (c7 : Nat) (h4 : Rd st36 H A2 x1.cells) (l5 : x1.cells.length ≤ c3) (h8 : Rd tInt H A6 x1.trail) (l9 : x1.trail.length ≤ c7) (S : Own [] H w) (r : Bool) (M : impl_Store_ok.f k x1 = some r) :
    Calls Try.prog 42 #[.agg #[.slice A2 x1.cells.length c3, .slice A6 x1.trail.length c7]] w (fun e e_w => e = .returned (.bool r) ∧ Chg no w e_w) := by
  rw [impl_Store_ok.f] at M
  refine enter (l := [.agg #[.slice A2 x1.cells.length c3, .slice A6 x1.trail.length c7]]) 179 Try.func42 rfl rfl rfl ?_
  have S0_ := S.st
  refine wp_seq ?_
  refine wp_region_lit ?_
  refine lve (d := 1) rfl rfl (by kernel_rfl) (new_blk (v := fun g_ => .pointer (some ⟨g_, 0, none⟩)) (cs := #[.slice A2 x1.cells.length c3, .slice A6 x1.trail.length c7]) (t := 34) S0_ (by kernel_rfl)) ?_
  rintro _ w10 ⟨g11, rfl, b12, S13, K14⟩
  refine lv (d := 2) rfl rfl (by kernel_rfl) (e_assign (v := .bool false) rfl) ?_
  refine wpList_nil ?_
  refine then_n ?_
  refine wp_seq ?_
  refine wp_seq ?_
  refine wp_region_lit ?_
  refine lv (d := 16) rfl rfl (by kernel_rfl) (e_fieldAddr (b := g11) (off := 0) (o := 0) Try.underlying34 rfl rfl (sz := 1) (by kernel_rfl) (by decide) (by kernel_rfl)) ?_
  refine lv (d := 17) rfl rfl (by kernel_rfl) (e_load1 (ad := ⟨g11, 0 + 0, none⟩) (v := .slice A2 x1.cells.length c3) Try.underlying32 rfl (by kernel_rfl) (blk_cell b12 rfl)) ?_
  refine lv (d := 18) rfl rfl (by kernel_rfl) (e_len (A := A2) (n := x1.cells.length) (c := c3) Try.underlying32 (by kernel_rfl)) ?_
  refine lv (d := 19) rfl rfl (by kernel_rfl) (e_gtr (k := .i64) (a := (x1.cells.length : Int)) (b := 20000) (by kernel_rfl) rfl) ?_
  refine lv (d := 20) rfl rfl (by kernel_rfl) (e_move (v := .bool (decide ((x1.cells.length : Int) > 20000))) (by kernel_rfl)) ?_
  by_cases q15 : (x1.cells.length : Int) > 20000
  · replace M := ifp q15 M
    refine lskip (t := 20) (c := true) rfl (by kernel_rfl) rfl (bt q15 (by kernel_rfl)) rfl rfl ?_
    refine lskip (t := 20) (c := true) rfl (by kernel_rfl) rfl (bt q15 (by kernel_rfl)) rfl rfl ?_
    refine lskip (t := 20) (c := true) rfl (by kernel_rfl) rfl (bt q15 (by kernel_rfl)) rfl rfl ?_
    refine lskip (t := 20) (c := true) rfl (by kernel_rfl) rfl (bt q15 (by kernel_rfl)) rfl rfl ?_
    refine lv (d := 25) rfl rfl (by kernel_rfl) (e_pick_t (v := .bool true) (bt q15 (by kernel_rfl)) rfl) ?_
    refine wpList_nil ?_
    refine then_n ?_
    refine cond_t rfl (by kernel_rfl) ?_
    refine wp_seq ?_
    refine wp_region_lit ?_
    refine lv (d := 2) rfl rfl (by kernel_rfl) (e_assign (v := .bool false) rfl) ?_
    refine wpList_nil ?_
    refine then_n ?_
    refine wp_ret ?_
    refine then_r ?_
    obtain rfl := Option.some.inj M
    exact ret1 rfl rfl  (show _ = .bool false from (by kernel_rfl)) ⟨rfl, S13.chg⟩
  replace M := ifn q15 M
  refine lvg (d := 21) (t := 20) rfl (by kernel_rfl) rfl (bf q15 (by kernel_rfl)) rfl (by kernel_rfl) (e_fieldAddr (b := g11) (off := 0) (o := 1) Try.underlying34 rfl rfl (sz := 1) (by kernel_rfl) (by decide) (by kernel_rfl)) ?_
  refine lvg (d := 22) (t := 20) rfl (by kernel_rfl) rfl (bf q15 (by kernel_rfl)) rfl (by kernel_rfl) (e_load1 (ad := ⟨g11, 0 + 1, none⟩) (v := .slice A6 x1.trail.length c7) Try.underlying23 rfl (by kernel_rfl) (blk_cell b12 rfl)) ?_
  refine lvg (d := 23) (t := 20) rfl (by kernel_rfl) rfl (bf q15 (by kernel_rfl)) rfl (by kernel_rfl) (e_len (A := A6) (n := x1.trail.length) (c := c7) Try.underlying23 (by kernel_rfl)) ?_
  refine lvg (d := 24) (t := 20) rfl (by kernel_rfl) rfl (bf q15 (by kernel_rfl)) rfl (by kernel_rfl) (e_gtr (k := .i64) (a := (x1.trail.length : Int)) (b := 20000) (by kernel_rfl) rfl) ?_
  refine lv (d := 25) rfl rfl (by kernel_rfl) (e_pick_f (v := .bool (decide ((x1.trail.length : Int) > 20000))) (bf q15 (by kernel_rfl)) (by kernel_rfl)) ?_
  refine wpList_nil ?_
  refine then_n ?_
  by_cases q16 : (x1.trail.length : Int) > 20000
  · replace M := ifp q16 M
    refine cond_t rfl (bt q16 (by kernel_rfl)) ?_
    refine wp_seq ?_
    refine wp_region_lit ?_
    refine lv (d := 2) rfl rfl (by kernel_rfl) (e_assign (v := .bool false) rfl) ?_
    refine wpList_nil ?_
    refine then_n ?_
    refine wp_ret ?_
    refine then_r ?_
    obtain rfl := Option.some.inj M
    exact ret1 rfl rfl  (show _ = .bool false from (by kernel_rfl)) ⟨rfl, S13.chg⟩
  replace M := ifn q16 M
  refine cond_f rfl (bf q16 (by kernel_rfl)) ?_
  refine wp_skip ?_
  refine then_n ?_
  refine wp_seq ?_
  refine wp_region_lit ?_
  refine lv (d := 3) rfl rfl (by kernel_rfl) (e_assign (v := .int .i64 0) rfl) ?_
  refine wpList_nil ?_
  refine then_n ?_
  refine wp_seq ?_
  refine wp_seq ?_
  refine wp_region_lit ?_
  refine lv (d := 26) rfl rfl (by kernel_rfl) (e_fieldAddr (b := g11) (off := 0) (o := 0) Try.underlying34 rfl rfl (sz := 1) (by kernel_rfl) (by decide) (by kernel_rfl)) ?_
  refine lv (d := 27) rfl rfl (by kernel_rfl) (e_load1 (ad := ⟨g11, 0 + 0, none⟩) (v := .slice A2 x1.cells.length c3) Try.underlying32 rfl (by kernel_rfl) (blk_cell b12 rfl)) ?_
  refine lv (d := 28) rfl rfl (by kernel_rfl) (e_len (A := A2) (n := x1.cells.length) (c := c3) Try.underlying32 (by kernel_rfl)) ?_
  refine lv (d := 29) rfl rfl (by kernel_rfl) (e_move (v := .int .i64 0) rfl) ?_
  refine wpList_nil ?_
  refine then_n ?_
  refine wp_block ?_
  refine wp_loop_g (fun k29 a30 w17 => ∃ (f18 : Nat → Value) (x19 : Int) (x20 : Int), a30 = mk 179 f18 ∧ f18 1 = .pointer (some ⟨g11, 0, none⟩) ∧ f18 3 = .int .i64 x19 ∧ f18 27 = .slice A2 x1.cells.length c3 ∧ f18 28 = .int .i64 (x1.cells.length : Int) ∧ f18 29 = .int .i64 x20 ∧ w17.heap[g11]? = some (.cells #[.slice A2 x1.cells.length c3, .slice A6 x1.trail.length c7] 34 (0, 0)) ∧ St (anyOf []) H w [(is g11)] H w17 ∧ impl_Store_ok.l0 k29 x1 x19 x20 = some r) k ⟨_, 0, 0, rfl, (by kernel_rfl), (by kernel_rfl), (by kernel_rfl), (by kernel_rfl), (by kernel_rfl), b12, S13, M⟩ ?_
  clear M
  rintro k29 a30 w17 ⟨f18, x19, x20, rfl, e21, e22, e23, e24, e25, b12, S26, M⟩
  rcases k29 with _ | k31
  · rw [impl_Store_ok.l0] at M
    cases M
  rw [impl_Store_ok.l0] at M
  refine wp_seq ?_
  refine wp_region_lit ?_
  refine lv (d := 30) rfl rfl (by kernel_rfl) (e_lss (k := .i64) (a := x20) (b := (x1.cells.length : Int)) (by exact e25) (by exact e24)) ?_
  refine wpList_nil ?_
  refine then_n ?_
  refine wp_seq ?_
  by_cases q32 : x20 < (x1.cells.length : Int)
  · replace M := ifp q32 M
    refine cond_t rfl (bt q32 (by kernel_rfl)) ?_
    refine wp_skip ?_
    refine then_n ?_
    refine wp_seq_cut (fun a44 w33 => ∃ (k46 : Nat), k46 ≤ k31 ∧ ∃ (f34 : Nat → Value) (x35 : Int), a44 = mk 179 f34 ∧ f34 1 = .pointer (some ⟨g11, 0, none⟩) ∧ f34 3 = .int .i64 x35 ∧ f34 27 = .slice A2 x1.cells.length c3 ∧ f34 28 = .int .i64 (x1.cells.length : Int) ∧ f34 29 = .int .i64 x20 ∧ w33.heap[g11]? = some (.cells #[.slice A2 x1.cells.length c3, .slice A6 x1.trail.length c7] 34 (0, 0)) ∧ St (anyOf []) H w [(is g11)] H w33 ∧ impl_Store_ok.l1 k46 x1 x20 x35 = some r) ?_ ?_
    · refine wp_block ?_
      refine wp_seq ?_
      refine wp_region_lit ?_
      obtain ⟨q47, M⟩ := chk M
      obtain ⟨b48, o49, e50⟩ := Rd.addr h4 (show (x20).toNat < x1.cells.length by omega)
      obtain ⟨y51, r52, k53⟩ := Rd.at h4 e50 (getD_some z36 (show (x20).toNat < x1.cells.length by omega))
      obtain ⟨A54, c55, rfl, l56, h57⟩ := st36_open r52
      refine lv (d := 31) rfl rfl (by kernel_rfl) (e_indexAddr (b := b48) (off := o49) (n := x1.cells.length) (c := c3) (sz := 3) (i := x20) (k := .i64) Try.underlying32 e50 (by kernel_rfl) (by exact e23) (by exact e25) q47 q32) ?_
      refine lv (d := 32) rfl rfl (by kernel_rfl) (e_loadS (b := b48) (off := o49 + (x20 : Int).toNat * 3) (cs := [.int .i64 ((x1.cells.getD ((x20).toNat) z36).kind), .int .i64 ((x1.cells.getD ((x20).toNat) z36).n), .slice A54 ((x1.cells.getD ((x20).toNat) z36).text).length c55]) Try.underlying36 rfl (by kernel_rfl) (by kernel_rfl) (fun j_ u_ e_ => (hpx (S26.inv.cell (k53 j_ u_ e_))))) ?_
      refine lve (d := 5) rfl rfl (by kernel_rfl) (new_blk (v := fun g_ => .pointer (some ⟨g_, 0, none⟩)) (cs := #[.int .i64 0, .int .i64 0, .slice none 0 0]) (t := 36) S26 (by kernel_rfl)) ?_
      rintro _ w58 ⟨g59, rfl, b60, S61, K62⟩
      replace b12 := K62.blk 0 rfl b12
      refine lse rfl rfl (by kernel_rfl) (e_store (g := g59) (o := 0) (v := .agg #[.int .i64 ((x1.cells.getD ((x20).toNat) z36).kind), .int .i64 ((x1.cells.getD ((x20).toNat) z36).n), .slice A54 ((x1.cells.getD ((x20).toNat) z36).text).length c55]) (cur' := #[.int .i64 ((x1.cells.getD ((x20).toNat) z36).kind), .int .i64 ((x1.cells.getD ((x20).toNat) z36).n), .slice A54 ((x1.cells.getD ((x20).toNat) z36).text).length c55]) (vs := [.int .i64 ((x1.cells.getD ((x20).toNat) z36).kind), .int .i64 ((x1.cells.getD ((x20).toNat) z36).n), .slice A54 ((x1.cells.getD ((x20).toNat) z36).text).length c55]) S61 (by kernel_rfl) (by kernel_rfl) rfl (by kernel_rfl) b60 (Nat.le_of_ble_eq_true rfl) (List.forall_mem_cons.2 ⟨rfl, (List.forall_mem_cons.2 ⟨rfl, (List.forall_mem_cons.2 ⟨rfl, (fun _ h_ => by cases h_)⟩)⟩)⟩) rfl) ?_
      rintro w63 ⟨b64, S65, K66⟩
      replace b12 := K66.blk 0 rfl b12
      clear b60
      refine wpList_nil ?_
      refine then_n ?_
      refine wp_seq ?_
      refine wp_seq ?_
      refine wp_region_lit ?_
      refine lv (d := 33) rfl rfl (by kernel_rfl) (e_fieldAddr (b := g59) (off := 0) (o := 0) Try.underlying36 rfl rfl (sz := 1) (by kernel_rfl) (by decide) (by kernel_rfl)) ?_
      refine lv (d := 34) rfl rfl (by kernel_rfl) (e_load1 (ad := ⟨g59, 0 + 0, none⟩) (v := .int .i64 ((x1.cells.getD ((x20).toNat) z36).kind)) Try.underlying3 rfl (by kernel_rfl) (blk_cell b64 rfl)) ?_
      refine lv (d := 35) rfl rfl (by kernel_rfl) (e_eql (k := .i64) (a := (x1.cells.getD ((x20).toNat) z36).kind) (b := 3) (by kernel_rfl) rfl) ?_
      refine wpList_nil ?_
      refine then_n ?_
      by_cases q67 : ((x1.cells.getD ((x20).toNat) z36).kind) = 3
      · replace M := ifp q67 M
        refine cond_t rfl (bt q67 (by kernel_rfl)) ?_
        refine wp_seq ?_
        refine wp_seq ?_
        refine wp_region_lit ?_
        refine lv (d := 36) rfl rfl (by kernel_rfl) (e_move (v := .int .i64 x19) (by exact e22)) ?_
        refine lv (d := 37) rfl rfl (by kernel_rfl) (e_gtr (k := .i64) (a := x19) (b := 0) (by kernel_rfl) rfl) ?_
        refine lv (d := 38) rfl rfl (by kernel_rfl) (e_move (v := .bool (decide (x19 > 0))) (by kernel_rfl)) ?_
        by_cases q68 : x19 > 0
        · replace M := ifp q68 M
          refine lskip (t := 38) (c := true) rfl (by kernel_rfl) rfl (bt q68 (by kernel_rfl)) rfl rfl ?_
          refine lskip (t := 38) (c := true) rfl (by kernel_rfl) rfl (bt q68 (by kernel_rfl)) rfl rfl ?_
          refine lskip (t := 38) (c := true) rfl (by kernel_rfl) rfl (bt q68 (by kernel_rfl)) rfl rfl ?_
          refine lv (d := 42) rfl rfl (by kernel_rfl) (e_pick_t (v := .bool true) (bt q68 (by kernel_rfl)) rfl) ?_
          refine lv (d := 43) rfl rfl (by kernel_rfl) (e_move (v := .bool true) (by kernel_rfl)) ?_
          refine lskip (t := 43) (c := true) rfl (by kernel_rfl) rfl (by kernel_rfl) rfl rfl ?_
          refine lskip (t := 43) (c := true) rfl (by kernel_rfl) rfl (by kernel_rfl) rfl rfl ?_
          refine lskip (t := 43) (c := true) rfl (by kernel_rfl) rfl (by kernel_rfl) rfl rfl ?_
          refine lv (d := 47) rfl rfl (by kernel_rfl) (e_pick_t (v := .bool true) (by kernel_rfl) rfl) ?_
          refine lv (d := 48) rfl rfl (by kernel_rfl) (e_move (v := .bool true) (by kernel_rfl)) ?_
          refine lskip (t := 48) (c := true) rfl (by kernel_rfl) rfl (by kernel_rfl) rfl rfl ?_
          refine lskip (t := 48) (c := true) rfl (by kernel_rfl) rfl (by kernel_rfl) rfl rfl ?_
          refine lskip (t := 48) (c := true) rfl (by kernel_rfl) rfl (by kernel_rfl) rfl rfl ?_
          refine lskip (t := 48) (c := true) rfl (by kernel_rfl) rfl (by kernel_rfl) rfl rfl ?_
          refine lv (d := 53) rfl rfl (by kernel_rfl) (e_pick_t (v := .bool true) (by kernel_rfl) rfl) ?_
          refine wpList_nil ?_
          refine then_n ?_
          refine cond_t rfl (by kernel_rfl) ?_
          refine wp_seq ?_
          refine wp_region_lit ?_
          refine lv (d := 2) rfl rfl (by kernel_rfl) (e_assign (v := .bool false) rfl) ?_
          refine wpList_nil ?_
          refine then_n ?_
          refine wp_ret ?_
          refine then_r ?_
          refine then_r ?_
          refine inb_r ?_
          refine then_r ?_
          refine then_r ?_
          refine inb_r ?_
          refine then_r ?_
          obtain rfl := Option.some.inj M
          exact ret1 rfl rfl  (show _ = .bool false from (by kernel_rfl)) ⟨rfl, S65.chg⟩
        replace M := ifn q68 M
        refine lvg (d := 39) (t := 38) rfl (by kernel_rfl) rfl (bf q68 (by kernel_rfl)) rfl (by kernel_rfl) (e_fieldAddr (b := g59) (off := 0) (o := 1) Try.underlying36 rfl rfl (sz := 1) (by kernel_rfl) (by decide) (by kernel_rfl)) ?_
        refine lvg (d := 40) (t := 38) rfl (by kernel_rfl) rfl (bf q68 (by kernel_rfl)) rfl (by kernel_rfl) (e_load1 (ad := ⟨g59, 0 + 1, none⟩) (v := .int .i64 ((x1.cells.getD ((x20).toNat) z36).n)) Try.underlying3 rfl (by kernel_rfl) (blk_cell b64 rfl)) ?_
        refine lvg (d := 41) (t := 38) rfl (by kernel_rfl) rfl (bf q68 (by kernel_rfl)) rfl (by kernel_rfl) (e_lss (k := .i64) (a := (x1.cells.getD ((x20).toNat) z36).n) (b := 1) (by kernel_rfl) rfl) ?_
        refine lv (d := 42) rfl rfl (by kernel_rfl) (e_pick_f (v := .bool (decide (((x1.cells.getD ((x20).toNat) z36).n) < 1))) (bf q68 (by kernel_rfl)) (by kernel_rfl)) ?_
        refine lv (d := 43) rfl rfl (by kernel_rfl) (e_move (v := .bool (decide (((x1.cells.getD ((x20).toNat) z36).n) < 1))) (by kernel_rfl)) ?_
        by_cases q69 : ((x1.cells.getD ((x20).toNat) z36).n) < 1
        · replace M := ifp q69 M
          refine lskip (t := 43) (c := true) rfl (by kernel_rfl) rfl (bt q69 (by kernel_rfl)) rfl rfl ?_
          refine lskip (t := 43) (c := true) rfl (by kernel_rfl) rfl (bt q69 (by kernel_rfl)) rfl rfl ?_
          refine lskip (t := 43) (c := true) rfl (by kernel_rfl) rfl (bt q69 (by kernel_rfl)) rfl rfl ?_
          refine lv (d := 47) rfl rfl (by kernel_rfl) (e_pick_t (v := .bool true) (bt q69 (by kernel_rfl)) rfl) ?_
          refine lv (d := 48) rfl rfl (by kernel_rfl) (e_move (v := .bool true) (by kernel_rfl)) ?_
          refine lskip (t := 48) (c := true) rfl (by kernel_rfl) rfl (by kernel_rfl) rfl rfl ?_
          refine lskip (t := 48) (c := true) rfl (by kernel_rfl) rfl (by kernel_rfl) rfl rfl ?_
          refine lskip (t := 48) (c := true) rfl (by kernel_rfl) rfl (by kernel_rfl) rfl rfl ?_
          refine lskip (t := 48) (c := true) rfl (by kernel_rfl) rfl (by kernel_rfl) rfl rfl ?_
          refine lv (d := 53) rfl rfl (by kernel_rfl) (e_pick_t (v := .bool true) (by kernel_rfl) rfl) ?_
          refine wpList_nil ?_
          refine then_n ?_
          refine cond_t rfl (by kernel_rfl) ?_
          refine wp_seq ?_
          refine wp_region_lit ?_
          refine lv (d := 2) rfl rfl (by kernel_rfl) (e_assign (v := .bool false) rfl) ?_
          refine wpList_nil ?_
          refine then_n ?_
          refine wp_ret ?_
          refine then_r ?_
          refine then_r ?_
          refine inb_r ?_
          refine then_r ?_
          refine then_r ?_
          refine inb_r ?_
          refine then_r ?_
          obtain rfl := Option.some.inj M
          exact ret1 rfl rfl  (show _ = .bool false from (by kernel_rfl)) ⟨rfl, S65.chg⟩
        replace M := ifn q69 M
        refine lvg (d := 44) (t := 43) rfl (by kernel_rfl) rfl (bf q69 (by kernel_rfl)) rfl (by kernel_rfl) (e_fieldAddr (b := g59) (off := 0) (o := 1) Try.underlying36 rfl rfl (sz := 1) (by kernel_rfl) (by decide) (by kernel_rfl)) ?_
        refine lvg (d := 45) (t := 43) rfl (by kernel_rfl) rfl (bf q69 (by kernel_rfl)) rfl (by kernel_rfl) (e_load1 (ad := ⟨g59, 0 + 1, none⟩) (v := .int .i64 ((x1.cells.getD ((x20).toNat) z36).n)) Try.underlying3 rfl (by kernel_rfl) (blk_cell b64 rfl)) ?_
        refine lvg (d := 46) (t := 43) rfl (by kernel_rfl) rfl (bf q69 (by kernel_rfl)) rfl (by kernel_rfl) (e_gtr (k := .i64) (a := (x1.cells.getD ((x20).toNat) z36).n) (b := 20) (by kernel_rfl) rfl) ?_
        refine lv (d := 47) rfl rfl (by kernel_rfl) (e_pick_f (v := .bool (decide (((x1.cells.getD ((x20).toNat) z36).n) > 20))) (bf q69 (by kernel_rfl)) (by kernel_rfl)) ?_
        refine lv (d := 48) rfl rfl (by kernel_rfl) (e_move (v := .bool (decide (((x1.cells.getD ((x20).toNat) z36).n) > 20))) (by kernel_rfl)) ?_
        by_cases q70 : ((x1.cells.getD ((x20).toNat) z36).n) > 20
        · replace M := ifp q70 M
          refine lskip (t := 48) (c := true) rfl (by kernel_rfl) rfl (bt q70 (by kernel_rfl)) rfl rfl ?_
          refine lskip (t := 48) (c := true) rfl (by kernel_rfl) rfl (bt q70 (by kernel_rfl)) rfl rfl ?_
          refine lskip (t := 48) (c := true) rfl (by kernel_rfl) rfl (bt q70 (by kernel_rfl)) rfl rfl ?_
          refine lskip (t := 48) (c := true) rfl (by kernel_rfl) rfl (bt q70 (by kernel_rfl)) rfl rfl ?_
          refine lv (d := 53) rfl rfl (by kernel_rfl) (e_pick_t (v := .bool true) (bt q70 (by kernel_rfl)) rfl) ?_
          refine wpList_nil ?_
          refine then_n ?_
          refine cond_t rfl (by kernel_rfl) ?_
          refine wp_seq ?_
          refine wp_region_lit ?_
          refine lv (d := 2) rfl rfl (by kernel_rfl) (e_assign (v := .bool false) rfl) ?_
          refine wpList_nil ?_
          refine then_n ?_
          refine wp_ret ?_
          refine then_r ?_
          refine then_r ?_
          refine inb_r ?_
          refine then_r ?_
          refine then_r ?_
          refine inb_r ?_
          refine then_r ?_
          obtain rfl := Option.some.inj M
          exact ret1 rfl rfl  (show _ = .bool false from (by kernel_rfl)) ⟨rfl, S65.chg⟩
        replace M := ifn q70 M
        refine lvg (d := 49) (t := 48) rfl (by kernel_rfl) rfl (bf q70 (by kernel_rfl)) rfl (by kernel_rfl) (e_fieldAddr (b := g59) (off := 0) (o := 2) Try.underlying36 rfl rfl (sz := 1) (by kernel_rfl) (by decide) (by kernel_rfl)) ?_
        refine lvg (d := 50) (t := 48) rfl (by kernel_rfl) rfl (bf q70 (by kernel_rfl)) rfl (by kernel_rfl) (e_load1 (ad := ⟨g59, 0 + 2, none⟩) (v := .slice A54 ((x1.cells.getD ((x20).toNat) z36).text).length c55) Try.underlying26 rfl (by kernel_rfl) (blk_cell b64 rfl)) ?_
        refine lvg (d := 51) (t := 48) rfl (by kernel_rfl) rfl (bf q70 (by kernel_rfl)) rfl (by kernel_rfl) (e_len (A := A54) (n := ((x1.cells.getD ((x20).toNat) z36).text).length) (c := c55) Try.underlying26 (by kernel_rfl)) ?_
        refine lvg (d := 52) (t := 48) rfl (by kernel_rfl) rfl (bf q70 (by kernel_rfl)) rfl (by kernel_rfl) (e_gtr (k := .i64) (a := (((x1.cells.getD ((x20).toNat) z36).text).length : Int)) (b := 100) (by kernel_rfl) rfl) ?_
        refine lv (d := 53) rfl rfl (by kernel_rfl) (e_pick_f (v := .bool (decide ((((x1.cells.getD ((x20).toNat) z36).text).length : Int) > 100))) (bf q70 (by kernel_rfl)) (by kernel_rfl)) ?_
        refine wpList_nil ?_
        refine then_n ?_
        by_cases q71 : (((x1.cells.getD ((x20).toNat) z36).text).length : Int) > 100
        · replace M := ifp q71 M
          refine cond_t rfl (bt q71 (by kernel_rfl)) ?_
          refine wp_seq ?_
          refine wp_region_lit ?_
          refine lv (d := 2) rfl rfl (by kernel_rfl) (e_assign (v := .bool false) rfl) ?_
          refine wpList_nil ?_
          refine then_n ?_
          refine wp_ret ?_
          refine then_r ?_
          refine then_r ?_
          refine inb_r ?_
          refine then_r ?_
          refine then_r ?_
          refine inb_r ?_
          refine then_r ?_
          obtain rfl := Option.some.inj M
          exact ret1 rfl rfl  (show _ = .bool false from (by kernel_rfl)) ⟨rfl, S65.chg⟩
        replace M := ifn q71 M
        refine cond_f rfl (bf q71 (by kernel_rfl)) ?_
        refine wp_skip ?_
        refine then_n ?_
        refine wp_seq ?_
        refine wp_region_lit ?_
        refine lv (d := 54) rfl rfl (by kernel_rfl) (e_fieldAddr (b := g59) (off := 0) (o := 1) Try.underlying36 rfl rfl (sz := 1) (by kernel_rfl) (by decide) (by kernel_rfl)) ?_
        refine lv (d := 55) rfl rfl (by kernel_rfl) (e_load1 (ad := ⟨g59, 0 + 1, none⟩) (v := .int .i64 ((x1.cells.getD ((x20).toNat) z36).n)) Try.underlying3 rfl (by kernel_rfl) (blk_cell b64 rfl)) ?_
        refine lv (d := 3) rfl rfl (by kernel_rfl) (e_assign (v := .int .i64 ((x1.cells.getD ((x20).toNat) z36).n)) (by kernel_rfl)) ?_
        refine wpList_nil ?_
        refine then_n ?_
        refine wp_exit ?_
        refine then_e ?_
        refine inb_hit ?_
        refine then_n ?_
        have S72 := S65.pull (F := (is g11)) (Fr := [(is g59)]) 1 rfl rfl
        have S73 := St.first (Fa := [(is g11)]) (Fr := [(is g59)]) S72
        exact ⟨k31, (by omega), _, ((x1.cells.getD ((x20).toNat) z36).n), rfl, (by exact e21), (by kernel_rfl), (by exact e23), (by exact e24), (by exact e25), b12, S73, M⟩
      replace M := ifn q67 M
      refine cond_f rfl (bf q67 (by kernel_rfl)) ?_
      refine wp_skip ?_
      refine then_n ?_
      refine wp_seq ?_
      refine wp_seq ?_
      refine wp_region_lit ?_
      refine lv (d := 56) rfl rfl (by kernel_rfl) (e_loadS (b := g11) (off := 0) (cs := [.slice A2 x1.cells.length c3, .slice A6 x1.trail.length c7]) Try.underlying34 rfl (by kernel_rfl) (by exact e21) (blk_cells b12 rfl)) ?_
      refine lv (d := 57) rfl rfl (by kernel_rfl) (e_loadS (b := g59) (off := 0) (cs := [.int .i64 ((x1.cells.getD ((x20).toNat) z36).kind), .int .i64 ((x1.cells.getD ((x20).toNat) z36).n), .slice A54 ((x1.cells.getD ((x20).toNat) z36).text).length c55]) Try.underlying36 rfl (by kernel_rfl) (by kernel_rfl) (blk_cells b64 rfl)) ?_
      obtain ⟨t74, u75, M⟩ := bnd M
      refine lcall (d := 58) rfl rfl (by kernel_rfl) (e_call (l := [.tmp 56, .tmp 57]) (vs := [.agg #[.slice A2 x1.cells.length c3, .slice A6 x1.trail.length c7], .agg #[.int .i64 ((x1.cells.getD ((x20).toNat) z36).kind), .int .i64 ((x1.cells.getD ((x20).toNat) z36).n), .slice A54 ((x1.cells.getD ((x20).toNat) z36).text).length c55]]) Try.func43 (by kernel_rfl) rfl (by kernel_rfl) rfl) (impl_Store_points.calls w63 H x1 A2 c3 A6 c7 (x1.cells.getD ((x20).toNat) z36) A54 c55 h4 l5 h8 l9 h57 l56 S65.own0 t74 u75) ?_
      rintro _ w76 ⟨rfl, C77⟩
      refine ⟨_, rfl, ?_⟩
      obtain ⟨S78, K79⟩ := S65.still C77
      replace b64 := K79.blk 0 rfl b64
      replace b12 := K79.blk 1 rfl b12
      refine lv (d := 59) rfl rfl (by kernel_rfl) (e_notv (c := t74) (by kernel_rfl)) ?_
      refine wpList_nil ?_
      refine then_n ?_
      by_cases q80 : ¬ (t74 = true)
      · replace M := ifp q80 M
        refine cond_t rfl (bt q80 (by kernel_rfl)) ?_
        refine wp_seq ?_
        refine wp_region_lit ?_
        refine lv (d := 2) rfl rfl (by kernel_rfl) (e_assign (v := .bool false) rfl) ?_
        refine wpList_nil ?_
        refine then_n ?_
        refine wp_ret ?_
        refine then_r ?_
        refine inb_r ?_
        refine then_r ?_
        refine then_r ?_
        refine inb_r ?_
        refine then_r ?_
        obtain rfl := Option.some.inj M
        exact ret1 rfl rfl  (show _ = .bool false from (by kernel_rfl)) ⟨rfl, S78.chg⟩
      replace M := ifn q80 M
      refine cond_f rfl (bf q80 (by kernel_rfl)) ?_
      refine wp_skip ?_
      refine then_n ?_
      refine wp_region_lit ?_
      refine lv (d := 60) rfl rfl (by kernel_rfl) (e_move (v := .int .i64 x19) (by exact e22)) ?_
      refine lv (d := 61) rfl rfl (by kernel_rfl) (e_sub (k := .i64) (a := x19) (b := 1) (by kernel_rfl) rfl) ?_
      refine lv (d := 62) rfl rfl (by kernel_rfl) (e_max (k := .i64) (a := 0) (b := (IntKind.i64.wrap (x19 - 1))) rfl (by kernel_rfl)) ?_
      refine lv (d := 3) rfl rfl (by kernel_rfl) (e_assign (v := .int .i64 (if (IntKind.i64.wrap (x19 - 1)) > 0 then (IntKind.i64.wrap (x19 - 1)) else 0)) (by kernel_rfl)) ?_
      refine wpList_nil ?_
      refine inb_n ?_
      refine then_n ?_
      have S81 := S78.pull (F := (is g11)) (Fr := [(is g59)]) 1 rfl rfl
      have S82 := St.first (Fa := [(is g11)]) (Fr := [(is g59)]) S81
      exact ⟨k31, (by omega), _, (if (IntKind.i64.wrap (x19 - 1)) > 0 then (IntKind.i64.wrap (x19 - 1)) else 0), rfl, (by exact e21), (by kernel_rfl), (by exact e23), (by exact e24), (by exact e25), b12, S82, M⟩
    clear M
    rintro a44 w33 ⟨k46, z83, f34, x35, rfl, e36, e37, e38, e39, e40, b12, S41, M⟩
    rcases k46 with _ | k45
    · rw [impl_Store_ok.l1] at M
      cases M
    rw [impl_Store_ok.l1] at M
    refine wp_region_lit ?_
    refine lv (d := 63) rfl rfl (by kernel_rfl) (e_add (k := .i64) (a := x20) (b := 1) (by exact e40) rfl) ?_
    refine lv (d := 29) rfl rfl (by kernel_rfl) (e_move (v := .int .i64 (IntKind.i64.wrap (x20 + 1))) (by kernel_rfl)) ?_
    refine wpList_nil ?_
    refine then_n ?_
    exact ⟨k45, (by omega), _, x35, (IntKind.i64.wrap (x20 + 1)), rfl, (by exact e36), (by exact e37), (by exact e38), (by exact e39), (by kernel_rfl), b12, S41, M⟩
  replace M := ifn q32 M
  refine cond_f rfl (bf q32 (by kernel_rfl)) ?_
  refine wp_exit ?_
  refine then_e ?_
  refine then_e ?_
  refine inb_hit ?_
  refine then_n ?_
  refine wp_seq ?_
  refine wp_seq ?_
  refine wp_region_lit ?_
  refine lv (d := 64) rfl rfl (by kernel_rfl) (e_move (v := .int .i64 x19) (by exact e22)) ?_
  refine lv (d := 65) rfl rfl (by kernel_rfl) (e_gtr (k := .i64) (a := x19) (b := 0) (by kernel_rfl) rfl) ?_
  refine wpList_nil ?_
  refine then_n ?_
  by_cases q84 : x19 > 0
  · replace M := ifp q84 M
    refine cond_t rfl (bt q84 (by kernel_rfl)) ?_
    refine wp_seq ?_
    refine wp_region_lit ?_
    refine lv (d := 2) rfl rfl (by kernel_rfl) (e_assign (v := .bool false) rfl) ?_
    refine wpList_nil ?_
    refine then_n ?_
    refine wp_ret ?_
    refine then_r ?_
    obtain rfl := Option.some.inj M
    exact ret1 rfl rfl  (show _ = .bool false from (by kernel_rfl)) ⟨rfl, S26.chg⟩
  replace M := ifn q84 M
  refine cond_f rfl (bf q84 (by kernel_rfl)) ?_
  refine wp_skip ?_
  refine then_n ?_
  refine wp_seq ?_
  refine wp_seq ?_
  refine wp_region_lit ?_
  refine lv (d := 66) rfl rfl (by kernel_rfl) (e_fieldAddr (b := g11) (off := 0) (o := 1) Try.underlying34 rfl rfl (sz := 1) (by kernel_rfl) (by decide) (by exact e21)) ?_
  refine lv (d := 67) rfl rfl (by kernel_rfl) (e_load1 (ad := ⟨g11, 0 + 1, none⟩) (v := .slice A6 x1.trail.length c7) Try.underlying23 rfl (by kernel_rfl) (blk_cell b12 rfl)) ?_
  refine lv (d := 68) rfl rfl (by kernel_rfl) (e_len (A := A6) (n := x1.trail.length) (c := c7) Try.underlying23 (by kernel_rfl)) ?_
  refine lv (d := 69) rfl rfl (by kernel_rfl) (e_move (v := .int .i64 0) rfl) ?_
  refine wpList_nil ?_
  refine then_n ?_
  refine wp_block ?_
  refine wp_loop_g (fun k95 a96 w85 => ∃ (f86 : Nat → Value) (x87 : Int), k95 ≤ k31 ∧ a96 = mk 179 f86 ∧ f86 1 = .pointer (some ⟨g11, 0, none⟩) ∧ f86 67 = .slice A6 x1.trail.length c7 ∧ f86 68 = .int .i64 (x1.trail.length : Int) ∧ f86 69 = .int .i64 x87 ∧ w85.heap[g11]? = some (.cells #[.slice A2 x1.cells.length c3, .slice A6 x1.trail.length c7] 34 (0, 0)) ∧ St (anyOf []) H w [(is g11)] H w85 ∧ impl_Store_ok.l2 k95 x1 x87 = some r) k31 ⟨_, 0, (by omega), rfl, (by exact e21), (by kernel_rfl), (by kernel_rfl), (by kernel_rfl), b12, S26, M⟩ ?_
  clear M
  rintro k95 a96 w85 ⟨f86, x87, z94, rfl, e88, e89, e90, e91, b12, S92, M⟩
  rcases k95 with _ | k97
  · rw [impl_Store_ok.l2] at M
    cases M
  rw [impl_Store_ok.l2] at M
  refine wp_seq ?_
  refine wp_region_lit ?_
  refine lv (d := 70) rfl rfl (by kernel_rfl) (e_lss (k := .i64) (a := x87) (b := (x1.trail.length : Int)) (by exact e91) (by exact e90)) ?_
  refine wpList_nil ?_
  refine then_n ?_
  refine wp_seq ?_
  by_cases q98 : x87 < (x1.trail.length : Int)
  · replace M := ifp q98 M
    refine cond_t rfl (bt q98 (by kernel_rfl)) ?_
    refine wp_skip ?_
    refine then_n ?_
    refine wp_seq ?_
    refine wp_block ?_
    refine wp_seq ?_
    refine wp_region_lit ?_
    obtain ⟨q99, M⟩ := chk M
    obtain ⟨b100, o101, e102⟩ := Rd.addr h8 (show (x87).toNat < x1.trail.length by omega)
    obtain ⟨y103, r104, k105⟩ := Rd.at h8 e102 (getD_some (0 : Int) (show (x87).toNat < x1.trail.length by omega))
    obtain rfl := r104
    refine lv (d := 71) rfl rfl (by kernel_rfl) (e_indexAddr (b := b100) (off := o101) (n := x1.trail.length) (c := c7) (sz := 1) (i := x87) (k := .i64) Try.underlying23 e102 (by kernel_rfl) (by exact e89) (by exact e91) q99 q98) ?_
    refine lv (d := 72) rfl rfl (by kernel_rfl) (e_load1 (ad := ⟨b100, o101 + (x87 : Int).toNat * 1, none⟩) (v := .int .i64 (x1.trail.getD ((x87).toNat) (0 : Int))) Try.underlying3 rfl (by kernel_rfl) (hpx (S92.inv.cell (k105 0 _ rfl)))) ?_
    refine lv (d := 7) rfl rfl (by kernel_rfl) (e_assign (v := .int .i64 (x1.trail.getD ((x87).toNat) (0 : Int))) (by kernel_rfl)) ?_
    refine wpList_nil ?_
    refine then_n ?_
    refine wp_seq ?_
    refine wp_region_lit ?_
    refine lv (d := 73) rfl rfl (by kernel_rfl) (e_move (v := .int .i64 (x1.trail.getD ((x87).toNat) (0 : Int))) (by kernel_rfl)) ?_
    refine lv (d := 74) rfl rfl (by kernel_rfl) (e_lss (k := .i64) (a := (x1.trail.getD ((x87).toNat) (0 : Int))) (b := 0) (by kernel_rfl) rfl) ?_
    refine lv (d := 75) rfl rfl (by kernel_rfl) (e_move (v := .bool (decide ((x1.trail.getD ((x87).toNat) (0 : Int)) < 0))) (by kernel_rfl)) ?_
    by_cases q106 : (x1.trail.getD ((x87).toNat) (0 : Int)) < 0
    · replace M := ifp q106 M
      refine lskip (t := 75) (c := true) rfl (by kernel_rfl) rfl (bt q106 (by kernel_rfl)) rfl rfl ?_
      refine lskip (t := 75) (c := true) rfl (by kernel_rfl) rfl (bt q106 (by kernel_rfl)) rfl rfl ?_
      refine lskip (t := 75) (c := true) rfl (by kernel_rfl) rfl (bt q106 (by kernel_rfl)) rfl rfl ?_
      refine lskip (t := 75) (c := true) rfl (by kernel_rfl) rfl (bt q106 (by kernel_rfl)) rfl rfl ?_
      refine lskip (t := 75) (c := true) rfl (by kernel_rfl) rfl (bt q106 (by kernel_rfl)) rfl rfl ?_
      refine lv (d := 81) rfl rfl (by kernel_rfl) (e_pick_t (v := .bool true) (bt q106 (by kernel_rfl)) rfl) ?_
      refine lv (d := 82) rfl rfl (by kernel_rfl) (e_move (v := .bool true) (by kernel_rfl)) ?_
      refine lskip (t := 82) (c := true) rfl (by kernel_rfl) rfl (by kernel_rfl) rfl rfl ?_
      refine lskip (t := 82) (c := true) rfl (by kernel_rfl) rfl (by kernel_rfl) rfl rfl ?_
      refine lskip (t := 82) (c := true) rfl (by kernel_rfl) rfl (by kernel_rfl) rfl rfl ?_
      refine lskip (t := 82) (c := true) rfl (by kernel_rfl) rfl (by kernel_rfl) rfl rfl ?_
      refine lskip (t := 82) (c := true) rfl (by kernel_rfl) rfl (by kernel_rfl) rfl rfl ?_
      refine lskip (t := 82) (c := true) rfl (by kernel_rfl) rfl (by kernel_rfl) rfl rfl ?_
      refine lskip (t := 82) (c := true) rfl (by kernel_rfl) rfl (by kernel_rfl) rfl rfl ?_
      refine lv (d := 90) rfl rfl (by kernel_rfl) (e_pick_t (v := .bool true) (by kernel_rfl) rfl) ?_
      refine wpList_nil ?_
      refine then_n ?_
      refine cond_t rfl (by kernel_rfl) ?_
      refine wp_seq ?_
      refine wp_region_lit ?_
      refine lv (d := 2) rfl rfl (by kernel_rfl) (e_assign (v := .bool false) rfl) ?_
      refine wpList_nil ?_
      refine then_n ?_
      refine wp_ret ?_
      refine inb_r ?_
      refine then_r ?_
      refine then_r ?_
      refine inb_r ?_
      refine then_r ?_
      obtain rfl := Option.some.inj M
      exact ret1 rfl rfl  (show _ = .bool false from (by kernel_rfl)) ⟨rfl, S92.chg⟩
    replace M := ifn q106 M
    refine lvg (d := 76) (t := 75) rfl (by kernel_rfl) rfl (bf q106 (by kernel_rfl)) rfl (by kernel_rfl) (e_move (v := .int .i64 (x1.trail.getD ((x87).toNat) (0 : Int))) (by kernel_rfl)) ?_
    refine lvg (d := 77) (t := 75) rfl (by kernel_rfl) rfl (bf q106 (by kernel_rfl)) rfl (by kernel_rfl) (e_fieldAddr (b := g11) (off := 0) (o := 0) Try.underlying34 rfl rfl (sz := 1) (by kernel_rfl) (by decide) (by exact e88)) ?_
    refine lvg (d := 78) (t := 75) rfl (by kernel_rfl) rfl (bf q106 (by kernel_rfl)) rfl (by kernel_rfl) (e_load1 (ad := ⟨g11, 0 + 0, none⟩) (v := .slice A2 x1.cells.length c3) Try.underlying32 rfl (by kernel_rfl) (blk_cell b12 rfl)) ?_
    refine lvg (d := 79) (t := 75) rfl (by kernel_rfl) rfl (bf q106 (by kernel_rfl)) rfl (by kernel_rfl) (e_len (A := A2) (n := x1.cells.length) (c := c3) Try.underlying32 (by kernel_rfl)) ?_
    refine lvg (d := 80) (t := 75) rfl (by kernel_rfl) rfl (bf q106 (by kernel_rfl)) rfl (by kernel_rfl) (e_geq (k := .i64) (a := (x1.trail.getD ((x87).toNat) (0 : Int))) (b := (x1.cells.length : Int)) (by kernel_rfl) (by kernel_rfl)) ?_
    refine lv (d := 81) rfl rfl (by kernel_rfl) (e_pick_f (v := .bool (decide ((x1.trail.getD ((x87).toNat) (0 : Int)) ≥ (x1.cells.length : Int)))) (bf q106 (by kernel_rfl)) (by kernel_rfl)) ?_
    refine lv (d := 82) rfl rfl (by kernel_rfl) (e_move (v := .bool (decide ((x1.trail.getD ((x87).toNat) (0 : Int)) ≥ (x1.cells.length : Int)))) (by kernel_rfl)) ?_
    by_cases q107 : (x1.trail.getD ((x87).toNat) (0 : Int)) ≥ (x1.cells.length : Int)
    · replace M := ifp q107 M
      refine lskip (t := 82) (c := true) rfl (by kernel_rfl) rfl (bt q107 (by kernel_rfl)) rfl rfl ?_
      refine lskip (t := 82) (c := true) rfl (by kernel_rfl) rfl (bt q107 (by kernel_rfl)) rfl rfl ?_
      refine lskip (t := 82) (c := true) rfl (by kernel_rfl) rfl (bt q107 (by kernel_rfl)) rfl rfl ?_
      refine lskip (t := 82) (c := true) rfl (by kernel_rfl) rfl (bt q107 (by kernel_rfl)) rfl rfl ?_
      refine lskip (t := 82) (c := true) rfl (by kernel_rfl) rfl (bt q107 (by kernel_rfl)) rfl rfl ?_
      refine lskip (t := 82) (c := true) rfl (by kernel_rfl) rfl (bt q107 (by kernel_rfl)) rfl rfl ?_
      refine lskip (t := 82) (c := true) rfl (by kernel_rfl) rfl (bt q107 (by kernel_rfl)) rfl rfl ?_
      refine lv (d := 90) rfl rfl (by kernel_rfl) (e_pick_t (v := .bool true) (bt q107 (by kernel_rfl)) rfl) ?_
      refine wpList_nil ?_
      refine then_n ?_
      refine cond_t rfl (by kernel_rfl) ?_
      refine wp_seq ?_
      refine wp_region_lit ?_
      refine lv (d := 2) rfl rfl (by kernel_rfl) (e_assign (v := .bool false) rfl) ?_
      refine wpList_nil ?_
      refine then_n ?_
      refine wp_ret ?_
      refine inb_r ?_
      refine then_r ?_
      refine then_r ?_
      refine inb_r ?_
      refine then_r ?_
      obtain rfl := Option.some.inj M
      exact ret1 rfl rfl  (show _ = .bool false from (by kernel_rfl)) ⟨rfl, S92.chg⟩
    replace M := ifn q107 M
    refine lvg (d := 83) (t := 82) rfl (by kernel_rfl) rfl (bf q107 (by kernel_rfl)) rfl (by kernel_rfl) (e_fieldAddr (b := g11) (off := 0) (o := 0) Try.underlying34 rfl rfl (sz := 1) (by kernel_rfl) (by decide) (by exact e88)) ?_
    refine lvg (d := 84) (t := 82) rfl (by kernel_rfl) rfl (bf q107 (by kernel_rfl)) rfl (by kernel_rfl) (e_load1 (ad := ⟨g11, 0 + 0, none⟩) (v := .slice A2 x1.cells.length c3) Try.underlying32 rfl (by kernel_rfl) (blk_cell b12 rfl)) ?_
    refine lvg (d := 85) (t := 82) rfl (by kernel_rfl) rfl (bf q107 (by kernel_rfl)) rfl (by kernel_rfl) (e_move (v := .int .i64 (x1.trail.getD ((x87).toNat) (0 : Int))) (by kernel_rfl)) ?_
    obtain ⟨q108, M⟩ := chk M
    obtain ⟨q109, M⟩ := chk M
    obtain ⟨b110, o111, e112⟩ := Rd.addr h4 (show ((x1.trail.getD ((x87).toNat) (0 : Int))).toNat < x1.cells.length by omega)
    obtain ⟨y113, r114, k115⟩ := Rd.at h4 e112 (getD_some z36 (show ((x1.trail.getD ((x87).toNat) (0 : Int))).toNat < x1.cells.length by omega))
    obtain ⟨A116, c117, rfl, l118, h119⟩ := st36_open r114
    refine lvg (d := 86) (t := 82) rfl (by kernel_rfl) rfl (bf q107 (by kernel_rfl)) rfl (by kernel_rfl) (e_indexAddr (b := b110) (off := o111) (n := x1.cells.length) (c := c3) (sz := 3) (i := (x1.trail.getD ((x87).toNat) (0 : Int))) (k := .i64) Try.underlying32 e112 (by kernel_rfl) (by kernel_rfl) (by kernel_rfl) q108 q109) ?_
    refine lvg (d := 87) (t := 82) rfl (by kernel_rfl) rfl (bf q107 (by kernel_rfl)) rfl (by kernel_rfl) (e_fieldAddr (b := b110) (off := o111 + ((x1.trail.getD ((x87).toNat) (0 : Int)) : Int).toNat * 3) (o := 0) Try.underlying36 rfl rfl (sz := 1) (by kernel_rfl) (by decide) (by kernel_rfl)) ?_
    refine lvg (d := 88) (t := 82) rfl (by kernel_rfl) rfl (bf q107 (by kernel_rfl)) rfl (by kernel_rfl) (e_load1 (ad := ⟨b110, o111 + ((x1.trail.getD ((x87).toNat) (0 : Int)) : Int).toNat * 3 + 0, none⟩) (v := .int .i64 ((x1.cells.getD (((x1.trail.getD ((x87).toNat) (0 : Int))).toNat) z36).kind)) Try.underlying3 rfl (by kernel_rfl) (hpx (S92.inv.cell (k115 0 _ rfl)))) ?_
    refine lvg (d := 89) (t := 82) rfl (by kernel_rfl) rfl (bf q107 (by kernel_rfl)) rfl (by kernel_rfl) (e_eql (k := .i64) (a := (x1.cells.getD (((x1.trail.getD ((x87).toNat) (0 : Int))).toNat) z36).kind) (b := 3) (by kernel_rfl) rfl) ?_
    refine lv (d := 90) rfl rfl (by kernel_rfl) (e_pick_f (v := .bool (decide (((x1.cells.getD (((x1.trail.getD ((x87).toNat) (0 : Int))).toNat) z36).kind) = 3))) (bf q107 (by kernel_rfl)) (by kernel_rfl)) ?_
    refine wpList_nil ?_
    refine then_n ?_
    by_cases q120 : ((x1.cells.getD (((x1.trail.getD ((x87).toNat) (0 : Int))).toNat) z36).kind) = 3
    · replace M := ifp q120 M
      refine cond_t rfl (bt q120 (by kernel_rfl)) ?_
      refine wp_seq ?_
      refine wp_region_lit ?_
      refine lv (d := 2) rfl rfl (by kernel_rfl) (e_assign (v := .bool false) rfl) ?_
      refine wpList_nil ?_
      refine then_n ?_
      refine wp_ret ?_
      refine inb_r ?_
      refine then_r ?_
      refine then_r ?_
      refine inb_r ?_
      refine then_r ?_
      obtain rfl := Option.some.inj M
      exact ret1 rfl rfl  (show _ = .bool false from (by kernel_rfl)) ⟨rfl, S92.chg⟩
    replace M := ifn q120 M
    refine cond_f rfl (bf q120 (by kernel_rfl)) ?_
    refine wp_skip ?_
    refine inb_n ?_
    refine then_n ?_
    refine wp_region_lit ?_
    refine lv (d := 91) rfl rfl (by kernel_rfl) (e_add (k := .i64) (a := x87) (b := 1) (by exact e91) rfl) ?_
    refine lv (d := 69) rfl rfl (by kernel_rfl) (e_move (v := .int .i64 (IntKind.i64.wrap (x87 + 1))) (by kernel_rfl)) ?_
    refine wpList_nil ?_
    refine then_n ?_
    exact ⟨k97, (by omega), _, (IntKind.i64.wrap (x87 + 1)), (by omega), rfl, (by exact e88), (by exact e89), (by exact e90), (by kernel_rfl), b12, S92, M⟩
  replace M := ifn q98 M
  refine cond_f rfl (bf q98 (by kernel_rfl)) ?_
  refine wp_exit ?_
  refine then_e ?_
  refine then_e ?_
  refine inb_hit ?_
  refine then_n ?_
  refine wp_seq ?_
  refine wp_region_lit ?_
  refine lv (d := 92) rfl rfl (by kernel_rfl) (e_fieldAddr (b := g11) (off := 0) (o := 0) Try.underlying34 rfl rfl (sz := 1) (by kernel_rfl) (by decide) (by exact e88)) ?_
  refine lv (d := 93) rfl rfl (by kernel_rfl) (e_load1 (ad := ⟨g11, 0 + 0, none⟩) (v := .slice A2 x1.cells.length c3) Try.underlying32 rfl (by kernel_rfl) (blk_cell b12 rfl)) ?_
  refine lv (d := 94) rfl rfl (by kernel_rfl) (e_len (A := A2) (n := x1.cells.length) (c := c3) Try.underlying32 (by kernel_rfl)) ?_
  obtain ⟨q121, M⟩ := chk M
  obtain ⟨q122, M⟩ := chk M
  refine lve (d := 95) rfl rfl (by kernel_rfl) (e_make (d := tByte) (k := .i64) (k2 := .i64) (n := (x1.cells.length : Int)) (z := .int .u8 0) (zx := (0 : UInt8)) (bytes := 1) S92 Try.underlying26 (by kernel_rfl) rfl (by decide) (fun _ => rfl) (by kernel_rfl) (by kernel_rfl) q121 (by omega) (by omega)) ?_
  rintro _ w123 ⟨A124, c125, F126, rfl, h127, S128, K129⟩
  replace b12 := K129.blk 0 rfl b12
  refine lv (d := 8) rfl rfl (by kernel_rfl) (e_assign (v := .slice A124 (((x1.cells.length : Int)).toNat) c125) (by kernel_rfl)) ?_
  refine wpList_nil ?_
  refine then_n ?_
  refine wp_seq ?_
  refine wp_region_lit ?_
  refine lv (d := 96) rfl rfl (by kernel_rfl) (e_makeFunc (cs := [.tmp 1]) (vs := [.pointer (some ⟨g11, 0, none⟩)]) (map_c (by exact e88) rfl)) ?_
  refine lv (d := 9) rfl rfl (by kernel_rfl) (e_assign (v := .func (.func 66) #[] #[.pointer (some ⟨g11, 0, none⟩)]) (by kernel_rfl)) ?_
  refine wpList_nil ?_
  refine then_n ?_
  refine wp_seq ?_
  refine wp_seq ?_
  refine wp_region_lit ?_
  refine lv (d := 97) rfl rfl (by kernel_rfl) (e_fieldAddr (b := g11) (off := 0) (o := 0) Try.underlying34 rfl rfl (sz := 1) (by kernel_rfl) (by decide) (by exact e88)) ?_
  refine lv (d := 98) rfl rfl (by kernel_rfl) (e_load1 (ad := ⟨g11, 0 + 0, none⟩) (v := .slice A2 x1.cells.length c3) Try.underlying32 rfl (by kernel_rfl) (blk_cell b12 rfl)) ?_
  refine lv (d := 99) rfl rfl (by kernel_rfl) (e_len (A := A2) (n := x1.cells.length) (c := c3) Try.underlying32 (by kernel_rfl)) ?_
  refine lv (d := 100) rfl rfl (by kernel_rfl) (e_move (v := .int .i64 0) rfl) ?_
  refine wpList_nil ?_
  refine then_n ?_
  refine wp_block ?_
  refine wp_loop_g (fun k144 a145 w130 => ∃ (f131 : Nat → Value) (x132 : Int) (F133 : Foot) (x134 : List UInt8), k144 ≤ k97 ∧ a145 = mk 179 f131 ∧ f131 8 = .slice A124 (((x1.cells.length : Int)).toNat) c125 ∧ f131 9 = .func (.func 66) #[] #[.pointer (some ⟨g11, 0, none⟩)] ∧ f131 98 = .slice A2 x1.cells.length c3 ∧ f131 99 = .int .i64 (x1.cells.length : Int) ∧ f131 100 = .int .i64 x132 ∧ Row tByte 5 H (hp w130) F133 A124 c125 x134 ∧ w130.heap[g11]? = some (.cells #[.slice A2 x1.cells.length c3, .slice A6 x1.trail.length c7] 34 (0, 0)) ∧ x134.length = ((x1.cells.length : Int)).toNat ∧ St (anyOf []) H w [F133, (is g11)] H w130 ∧ impl_Store_ok.l3 k144 x1 x132 x134 = some r) k97 ⟨_, 0, F126, (List.replicate ((x1.cells.length : Int)).toNat (0 : UInt8)), (by omega), rfl, (by kernel_rfl), (by kernel_rfl), (by kernel_rfl), (by kernel_rfl), (by kernel_rfl), h127, b12, List.length_replicate, S128, M⟩ ?_
  clear M
  rintro k144 a145 w130 ⟨f131, x132, F133, x134, z143, rfl, e136, e137, e138, e139, e140, h127, b12, n135, S141, M⟩
  rcases k144 with _ | k146
  · rw [impl_Store_ok.l3] at M
    cases M
  rw [impl_Store_ok.l3] at M
  refine wp_seq ?_
  refine wp_region_lit ?_
  refine lv (d := 101) rfl rfl (by kernel_rfl) (e_lss (k := .i64) (a := x132) (b := (x1.cells.length : Int)) (by exact e140) (by exact e139)) ?_
  refine wpList_nil ?_
  refine then_n ?_
  refine wp_seq ?_
  by_cases q147 : x132 < (x1.cells.length : Int)
  · replace M := ifp q147 M
    refine cond_t rfl (bt q147 (by kernel_rfl)) ?_
    refine wp_skip ?_
    refine then_n ?_
    refine wp_seq ?_
    refine wp_block ?_
    refine wp_seq ?_
    refine wp_region_lit ?_
    refine lv (d := 102) rfl rfl (by kernel_rfl) (e_move (v := .int .i64 x132) (by exact e140)) ?_
    obtain ⟨q148, M⟩ := chk M
    obtain ⟨b149, o150, e151⟩ := Rd.addr h4 (show (x132).toNat < x1.cells.length by omega)
    obtain ⟨y152, r153, k154⟩ := Rd.at h4 e151 (getD_some z36 (show (x132).toNat < x1.cells.length by omega))
    obtain ⟨A155, c156, rfl, l157, h158⟩ := st36_open r153
    refine lv (d := 103) rfl rfl (by kernel_rfl) (e_indexAddr (b := b149) (off := o150) (n := x1.cells.length) (c := c3) (sz := 3) (i := x132) (k := .i64) Try.underlying32 e151 (by kernel_rfl) (by exact e138) (by exact e140) q148 q147) ?_
    refine lv (d := 104) rfl rfl (by kernel_rfl) (e_loadS (b := b149) (off := o150 + (x132 : Int).toNat * 3) (cs := [.int .i64 ((x1.cells.getD ((x132).toNat) z36).kind), .int .i64 ((x1.cells.getD ((x132).toNat) z36).n), .slice A155 ((x1.cells.getD ((x132).toNat) z36).text).length c156]) Try.underlying36 rfl (by kernel_rfl) (by kernel_rfl) (fun j_ u_ e_ => (hpx (S141.inv.cell (k154 j_ u_ e_))))) ?_
    refine lve (d := 11) rfl rfl (by kernel_rfl) (new_blk (v := fun g_ => .pointer (some ⟨g_, 0, none⟩)) (cs := #[.int .i64 0, .int .i64 0, .slice none 0 0]) (t := 36) S141 (by kernel_rfl)) ?_
    rintro _ w159 ⟨g160, rfl, b161, S162, K163⟩
    replace h127 := h127.move (K163.at 0 rfl)
    replace b12 := K163.blk 1 rfl b12
    refine lv (d := 10) rfl rfl (by kernel_rfl) (e_assign (v := .int .i64 x132) (by kernel_rfl)) ?_
    refine lse rfl rfl (by kernel_rfl) (e_store (g := g160) (o := 0) (v := .agg #[.int .i64 ((x1.cells.getD ((x132).toNat) z36).kind), .int .i64 ((x1.cells.getD ((x132).toNat) z36).n), .slice A155 ((x1.cells.getD ((x132).toNat) z36).text).length c156]) (cur' := #[.int .i64 ((x1.cells.getD ((x132).toNat) z36).kind), .int .i64 ((x1.cells.getD ((x132).toNat) z36).n), .slice A155 ((x1.cells.getD ((x132).toNat) z36).text).length c156]) (vs := [.int .i64 ((x1.cells.getD ((x132).toNat) z36).kind), .int .i64 ((x1.cells.getD ((x132).toNat) z36).n), .slice A155 ((x1.cells.getD ((x132).toNat) z36).text).length c156]) S162 (by kernel_rfl) (by kernel_rfl) rfl (by kernel_rfl) b161 (Nat.le_of_ble_eq_true rfl) (List.forall_mem_cons.2 ⟨rfl, (List.forall_mem_cons.2 ⟨rfl, (List.forall_mem_cons.2 ⟨rfl, (fun _ h_ => by cases h_)⟩)⟩)⟩) rfl) ?_
    rintro w164 ⟨b165, S166, K167⟩
    replace h127 := h127.move (K167.at 0 rfl)
    replace b12 := K167.blk 1 rfl b12
    clear b161
    refine wpList_nil ?_
    refine then_n ?_
    refine wp_seq ?_
    refine wp_seq ?_
    refine wp_region_lit ?_
    refine lv (d := 105) rfl rfl (by kernel_rfl) (e_fieldAddr (b := g160) (off := 0) (o := 0) Try.underlying36 rfl rfl (sz := 1) (by kernel_rfl) (by decide) (by kernel_rfl)) ?_
    refine lv (d := 106) rfl rfl (by kernel_rfl) (e_load1 (ad := ⟨g160, 0 + 0, none⟩) (v := .int .i64 ((x1.cells.getD ((x132).toNat) z36).kind)) Try.underlying3 rfl (by kernel_rfl) (blk_cell b165 rfl)) ?_
    refine lv (d := 107) rfl rfl (by kernel_rfl) (e_eql (k := .i64) (a := (x1.cells.getD ((x132).toNat) z36).kind) (b := 3) (by kernel_rfl) rfl) ?_
    refine lv (d := 108) rfl rfl (by kernel_rfl) (e_move (v := .bool (decide (((x1.cells.getD ((x132).toNat) z36).kind) = 3))) (by kernel_rfl)) ?_
    by_cases q168 : ((x1.cells.getD ((x132).toNat) z36).kind) = 3
    · replace M := ifp q168 M
      refine lskip (t := 108) (c := true) rfl (by kernel_rfl) rfl (bt q168 (by kernel_rfl)) rfl rfl ?_
      refine lskip (t := 108) (c := true) rfl (by kernel_rfl) rfl (bt q168 (by kernel_rfl)) rfl rfl ?_
      refine lskip (t := 108) (c := true) rfl (by kernel_rfl) rfl (bt q168 (by kernel_rfl)) rfl rfl ?_
      refine lskip (t := 108) (c := true) rfl (by kernel_rfl) rfl (bt q168 (by kernel_rfl)) rfl rfl ?_
      refine lskip (t := 108) (c := true) rfl (by kernel_rfl) rfl (bt q168 (by kernel_rfl)) rfl rfl ?_
      refine lv (d := 114) rfl rfl (by kernel_rfl) (e_pick_t (v := .bool true) (bt q168 (by kernel_rfl)) rfl) ?_
      refine wpList_nil ?_
      refine then_n ?_
      refine cond_t rfl (by kernel_rfl) ?_
      refine wp_exit ?_
      refine then_e ?_
      refine inb_hit ?_
      refine then_n ?_
      refine wp_region_lit ?_
      refine lv (d := 178) rfl rfl (by kernel_rfl) (e_add (k := .i64) (a := x132) (b := 1) (by exact e140) rfl) ?_
      refine lv (d := 100) rfl rfl (by kernel_rfl) (e_move (v := .int .i64 (IntKind.i64.wrap (x132 + 1))) (by kernel_rfl)) ?_
      refine wpList_nil ?_
      refine then_n ?_
      have S169 := S166.pull (F := (is g11)) (Fr := [(is g160), F133]) 2 rfl rfl
      have S170 := S169.pull (F := F133) (Fr := [(is g11), (is g160)]) 2 rfl rfl
      have S171 := St.first (Fa := [F133, (is g11)]) (Fr := [(is g160)]) S170
      exact ⟨k146, (by omega), _, (IntKind.i64.wrap (x132 + 1)), F133, x134, (by omega), rfl, (by exact e136), (by exact e137), (by exact e138), (by exact e139), (by kernel_rfl), h127, b12, n135, S171, M⟩
    replace M := ifn q168 M
    refine lvg (d := 109) (t := 108) rfl (by kernel_rfl) rfl (bf q168 (by kernel_rfl)) rfl (by kernel_rfl) (e_move (v := .slice A124 (((x1.cells.length : Int)).toNat) c125) (by exact e136)) ?_
    refine lvg (d := 110) (t := 108) rfl (by kernel_rfl) rfl (bf q168 (by kernel_rfl)) rfl (by kernel_rfl) (e_move (v := .int .i64 x132) (by kernel_rfl)) ?_
    obtain ⟨q172, M⟩ := chk M
    obtain ⟨b173, e175⟩ := Row.addr h127 (show (x132).toNat < x134.length by have : x134.length = ((x1.cells.length : Int)).toNat := n135; omega)
    refine lvg (d := 111) (t := 108) rfl (by kernel_rfl) rfl (bf q168 (by kernel_rfl)) rfl (by kernel_rfl) (e_indexAddr (b := b173) (off := 0) (n := ((x1.cells.length : Int)).toNat) (c := c125) (sz := 1) (i := x132) (k := .i64) Try.underlying26 e175 (by kernel_rfl) (by kernel_rfl) (by kernel_rfl) q148 q172) ?_
    refine lvg (d := 112) (t := 108) rfl (by kernel_rfl) rfl (bf q168 (by kernel_rfl)) rfl (by kernel_rfl) (e_load1 (ad := ⟨b173, 0 + (x132 : Int).toNat * 1, none⟩) (v := .int .u8 ((x134.getD ((x132).toNat) (0 : UInt8)).toNat : Int)) Try.underlying5 rfl (by kernel_rfl) (hpx (Row.pick (j := 0) (u := .int .u8 ((x134.getD ((x132).toNat) (0 : UInt8)).toNat : Int)) h127 e175 (getD_some (0 : UInt8) (show (x132).toNat < x134.length by have : x134.length = ((x1.cells.length : Int)).toNat := n135; omega)) (fun _ _ o_ => by rw [show _ = _ from o_]; rfl)))) ?_
    refine lvg (d := 113) (t := 108) rfl (by kernel_rfl) rfl (bf q168 (by kernel_rfl)) rfl (by kernel_rfl) (e_neq (k := .u8) (a := ((x134.getD ((x132).toNat) (0 : UInt8)).toNat : Int)) (b := 0) (by kernel_rfl) rfl) ?_
    refine lv (d := 114) rfl rfl (by kernel_rfl) (e_pick_f (v := .bool (decide (((x134.getD ((x132).toNat) (0 : UInt8)).toNat : Int) ≠ 0))) (bf q168 (by kernel_rfl)) (by kernel_rfl)) ?_
    refine wpList_nil ?_
    refine then_n ?_
    by_cases q176 : ((x134.getD ((x132).toNat) (0 : UInt8)).toNat : Int) ≠ 0
    · replace M := ifp q176 M
      refine cond_t rfl (bt q176 (by kernel_rfl)) ?_
      refine wp_exit ?_
      refine then_e ?_
      refine inb_hit ?_
      refine then_n ?_
      refine wp_region_lit ?_
      refine lv (d := 178) rfl rfl (by kernel_rfl) (e_add (k := .i64) (a := x132) (b := 1) (by exact e140) rfl) ?_
      refine lv (d := 100) rfl rfl (by kernel_rfl) (e_move (v := .int .i64 (IntKind.i64.wrap (x132 + 1))) (by kernel_rfl)) ?_
      refine wpList_nil ?_
      refine then_n ?_
      have S177 := S166.pull (F := (is g11)) (Fr := [(is g160), F133]) 2 rfl rfl
      have S178 := S177.pull (F := F133) (Fr := [(is g11), (is g160)]) 2 rfl rfl
      have S179 := St.first (Fa := [F133, (is g11)]) (Fr := [(is g160)]) S178
      exact ⟨k146, (by omega), _, (IntKind.i64.wrap (x132 + 1)), F133, x134, (by omega), rfl, (by exact e136), (by exact e137), (by exact e138), (by exact e139), (by kernel_rfl), h127, b12, n135, S179, M⟩
    replace M := ifn q176 M
    refine cond_f rfl (bf q176 (by kernel_rfl)) ?_
    refine wp_skip ?_
    refine then_n ?_
    refine wp_seq ?_
    refine wp_region_lit ?_
    refine lv (d := 115) rfl rfl (by kernel_rfl) (e_move (v := .int .i64 x132) (by kernel_rfl)) ?_
    refine lv (d := 116) rfl rfl (by kernel_rfl) (show _ = Result.ok (Next.value (.agg #[.int .i64 x132, .int .i64 0])) w164 from by kernel_rfl) ?_
    refine lve (d := 117) rfl rfl (by kernel_rfl) (new_blk (v := fun g_ => .slice (some ⟨g_, 0, none⟩) 1 1) (cs := #[.int .i64 x132, .int .i64 0]) (t := 86) S166 (by kernel_rfl)) ?_
    rintro _ w180 ⟨g181, rfl, b182, S183, K184⟩
    replace b165 := K184.blk 0 rfl b165
    replace h127 := h127.move (K184.at 1 rfl)
    replace b12 := K184.blk 2 rfl b12
    have S185 := S183.unit
    have S186 := S185.pull (F := (is g181)) (Fr := [no, (is g160), F133, (is g11)]) 1 rfl rfl
    obtain ⟨h187, S188⟩ := row_lit (d := st86) (xs := [(⟨x132, 0⟩ : GStep)]) S186 b182 rfl (elsO_one1 (st86_mkO (x := (⟨x132, 0⟩ : GStep)))) (Nat.le_of_ble_eq_true rfl)
    refine lv (d := 12) rfl rfl (by kernel_rfl) (e_assign (v := .slice (some ⟨g181, 0, none⟩) 1 1) (by kernel_rfl)) ?_
    refine wpList_nil ?_
    refine then_n ?_
    refine wp_seq ?_
    refine wp_region_lit ?_
    refine lv (d := 118) rfl rfl (by kernel_rfl) (e_move (v := .slice A124 (((x1.cells.length : Int)).toNat) c125) (by exact e136)) ?_
    refine lv (d := 119) rfl rfl (by kernel_rfl) (e_move (v := .int .i64 x132) (by kernel_rfl)) ?_
    obtain ⟨b189, e191⟩ := Row.addr h127 (show (x132).toNat < x134.length by have : x134.length = ((x1.cells.length : Int)).toNat := n135; omega)
    refine lv (d := 120) rfl rfl (by kernel_rfl) (e_indexAddr (b := b189) (off := 0) (n := ((x1.cells.length : Int)).toNat) (c := c125) (sz := 1) (i := x132) (k := .i64) Try.underlying26 e191 (by kernel_rfl) (by kernel_rfl) (by kernel_rfl) q148 q172) ?_
    have S192 := S188.pull (F := F133) (Fr := [(or2 (is g181) no), (is g160), (is g11)]) 2 rfl rfl
    have S193 := S192.unit
    have S194 := S193.pull (F := F133) (Fr := [no, (or2 (is g181) no), (is g160), (is g11)]) 1 rfl rfl
    refine lse rfl rfl (by kernel_rfl) (e_setel (d := tByte) (b := b189) (i := (x132).toNat) (v := .int .u8 1) (vs := [.int .u8 1]) (yv := (1 : UInt8)) S194 (by kernel_rfl) e191 rfl rfl (by kernel_rfl) h127 (show (x132).toNat < x134.length by have : x134.length = ((x1.cells.length : Int)).toNat := n135; omega) rfl) ?_
    rintro w195 ⟨F197, h196, S198, K199⟩
    replace h187 := h187.move (K199.at 0 rfl)
    replace b165 := K199.blk 1 rfl b165
    replace b12 := K199.blk 2 rfl b12
    clear h127
    refine wpList_nil ?_
    refine then_n ?_
    refine wp_block ?_
    have S227 := S198.pull (F := (or2 (is g181) no)) (Fr := [F197, (is g160), (is g11)]) 1 rfl rfl
    have S228 := S227.pull (F := (is g11)) (Fr := [(or2 (is g181) no), F197, (is g160)]) 3 rfl rfl
    have S229 := S228.pull (F := F197) (Fr := [(is g11), (or2 (is g181) no), (is g160)]) 2 rfl rfl
    have S230 := St.first (Fa := [F197, (is g11), (or2 (is g181) no)]) (Fr := [(is g160)]) S229
    refine wp_loop_g (fun k224 a225 w200 => ∃ (f201 : Nat → Value) (x202 : List GStep) (A203 : Option Addr) (c204 : Nat) (F205 : Foot) (F207 : Foot) (x208 : List UInt8), k224 ≤ k146 ∧ a225 = mk 179 f201 ∧ f201 8 = .slice A124 (((x1.cells.length : Int)).toNat) c125 ∧ f201 9 = .func (.func 66) #[] #[.pointer (some ⟨g11, 0, none⟩)] ∧ f201 12 = .slice A203 x202.length c204 ∧ f201 98 = .slice A2 x1.cells.length c3 ∧ f201 99 = .int .i64 (x1.cells.length : Int) ∧ f201 100 = .int .i64 x132 ∧ f201 109 = .slice A124 (((x1.cells.length : Int)).toNat) c125 ∧ f201 110 = .int .i64 x132 ∧ f201 111 = .pointer (some ⟨b173, 0 + (x132 : Int).toNat * 1, none⟩) ∧ f201 112 = .int .u8 ((x134.getD ((x132).toNat) (0 : UInt8)).toNat : Int) ∧ f201 113 = .bool (decide (((x134.getD ((x132).toNat) (0 : UInt8)).toNat : Int) ≠ 0)) ∧ Row tByte 5 H (hp w200) F207 A124 c125 x208 ∧ w200.heap[g11]? = some (.cells #[.slice A2 x1.cells.length c3, .slice A6 x1.trail.length c7] 34 (0, 0)) ∧ Row st86 86 H (hp w200) F205 A203 c204 x202 ∧ x208.length = ((x1.cells.length : Int)).toNat ∧ St (anyOf []) H w [F207, (is g11), F205] H w200 ∧ impl_Store_ok.l4 k224 x1 x132 x202 x208 = some r) k146 ⟨_, [(⟨x132, 0⟩ : GStep)], (some ⟨g181, 0, none⟩), 1, (or2 (is g181) no), F197, (x134.set ((x132).toNat) (1 : UInt8)), (by omega), rfl, (by exact e136), (by exact e137), (by kernel_rfl), (by exact e138), (by exact e139), (by exact e140), (by kernel_rfl), (by kernel_rfl), (by kernel_rfl), (by kernel_rfl), (by kernel_rfl), h196, b12, h187, (List.length_set.trans n135), S230, M⟩ ?_
    clear M
    rintro k224 a225 w200 ⟨f201, x202, A203, c204, F205, F207, x208, z223, rfl, e210, e211, e212, e213, e214, e215, e216, e217, e218, e219, e220, h196, b12, h206, n209, S221, M⟩
    rcases k224 with _ | k226
    · rw [impl_Store_ok.l4] at M
      cases M
    rw [impl_Store_ok.l4] at M
    refine wp_seq ?_
    refine wp_seq ?_
    refine wp_region_lit ?_
    refine lv (d := 121) rfl rfl (by kernel_rfl) (e_move (v := .slice A203 x202.length c204) (by exact e212)) ?_
    refine lv (d := 122) rfl rfl (by kernel_rfl) (e_len (A := A203) (n := x202.length) (c := c204) Try.underlying87 (by kernel_rfl)) ?_
    refine lv (d := 123) rfl rfl (by kernel_rfl) (e_gtr (k := .i64) (a := (x202.length : Int)) (b := 0) (by kernel_rfl) rfl) ?_
    refine wpList_nil ?_
    refine then_n ?_
    by_cases q231 : (x202.length : Int) > 0
    · replace M := ifp q231 M
      refine cond_t rfl (bt q231 (by kernel_rfl)) ?_
      refine wp_skip ?_
      refine then_n ?_
      refine wp_block ?_
      refine wp_seq ?_
      refine wp_region_lit ?_
      refine lv (d := 124) rfl rfl (by kernel_rfl) (e_move (v := .slice A203 x202.length c204) (by exact e212)) ?_
      refine lv (d := 125) rfl rfl (by kernel_rfl) (e_move (v := .slice A203 x202.length c204) (by exact e212)) ?_
      refine lv (d := 126) rfl rfl (by kernel_rfl) (e_len (A := A203) (n := x202.length) (c := c204) Try.underlying87 (by kernel_rfl)) ?_
      refine lv (d := 127) rfl rfl (by kernel_rfl) (e_sub (k := .i64) (a := (x202.length : Int)) (b := 1) (by kernel_rfl) rfl) ?_
      obtain ⟨q232, M⟩ := chk M
      obtain ⟨q233, M⟩ := chk M
      obtain ⟨b234, e236⟩ := Row.addr h206 (show ((IntKind.i64.wrap ((x202.length : Int) - 1))).toNat < x202.length by omega)
      refine lv (d := 128) rfl rfl (by kernel_rfl) (e_indexAddr (b := b234) (off := 0) (n := x202.length) (c := c204) (sz := 2) (i := (IntKind.i64.wrap ((x202.length : Int) - 1))) (k := .i64) Try.underlying87 e236 (by kernel_rfl) (by kernel_rfl) (by kernel_rfl) q232 q233) ?_
      refine lv (d := 13) rfl rfl (by kernel_rfl) (e_assign (v := .pointer (some ⟨b234, 0 + ((IntKind.i64.wrap ((x202.length : Int) - 1)) : Int).toNat * 2, none⟩)) (by kernel_rfl)) ?_
      refine wpList_nil ?_
      refine then_n ?_
      refine wp_seq ?_
      refine region_mix (S := (fun (L_ : Array Bool) (w_ : World) => Ext H (hp w_) ∧ (∀ b_, F205 b_ → hp w_ b_ = hp w200 b_))) (by kernel_rfl) S221 ?_
      intro w237 S238 K239 hc240
      have o241 := h206
      have hs242 : (fun (L_ : Array Bool) (w_ : World) => Ext H (hp w_) ∧ (∀ b_, F205 b_ → hp w_ b_ = hp w200 b_)) (Array.replicate 15 false) w237 := ⟨S238.inv, (fun b_ h_ => K239.at 2 rfl b_ h_)⟩
      replace h196 := h196.move (K239.at 0 rfl)
      replace b12 := K239.blk 1 rfl b12
      replace h206 := h206.move (K239.at 2 rfl)
      refine xv (i := 0) (d := 130) rfl rfl rfl (by kernel_rfl) (by kernel_rfl) (fun _ _ => Iff.rfl) hc240 hs242 (fun L_ w_ hc_ hu_ hs_ => e_move (v := .func (.func 66) #[] #[.pointer (some ⟨g11, 0, none⟩)]) (by exact e211)) ?_; intro hc243 hs244
      refine xv (i := 1) (d := 131) rfl rfl rfl (by kernel_rfl) (by kernel_rfl) (fun _ _ => Iff.rfl) hc243 hs244 (fun L_ w_ hc_ hu_ hs_ => e_move (v := .pointer (some ⟨b234, 0 + ((IntKind.i64.wrap ((x202.length : Int) - 1)) : Int).toNat * 2, none⟩)) (by kernel_rfl)) ?_; intro hc245 hs246
      refine xv (i := 2) (d := 132) rfl rfl rfl (by kernel_rfl) (by kernel_rfl) (fun _ _ => Iff.rfl) hc245 hs246 (fun L_ w_ hc_ hu_ hs_ => e_nilCheck (ad := ⟨b234, 0 + ((IntKind.i64.wrap ((x202.length : Int) - 1)) : Int).toNat * 2, none⟩) (by kernel_rfl)) ?_; intro hc247 hs248
      refine xv (i := 3) (d := 133) rfl rfl rfl (by kernel_rfl) (by kernel_rfl) (fun _ _ => Iff.rfl) hc247 hs248 (fun L_ w_ hc_ hu_ hs_ => e_fieldAddr (b := b234) (off := 0 + ((IntKind.i64.wrap ((x202.length : Int) - 1)) : Int).toNat * 2) (o := 0) Try.underlying86 rfl rfl (sz := 1) (by kernel_rfl) (by decide) (by kernel_rfl)) ?_; intro hc249 hs250
      refine xv (i := 4) (d := 134) rfl rfl rfl (by kernel_rfl) (by kernel_rfl) (fun _ _ => Iff.rfl) hc249 hs250 (fun L_ w_ hc_ hu_ hs_ => e_load1 (ad := ⟨b234, 0 + ((IntKind.i64.wrap ((x202.length : Int) - 1)) : Int).toNat * 2 + 0, none⟩) (v := .int .i64 ((x202.getD (((IntKind.i64.wrap ((x202.length : Int) - 1))).toNat) z86).at_)) Try.underlying3 rfl (by kernel_rfl) (hpx (Row.pick (j := 0) (u := .int .i64 ((x202.getD (((IntKind.i64.wrap ((x202.length : Int) - 1))).toNat) z86).at_)) (o241.move hs_.2) e236 (getD_some z86 (show ((IntKind.i64.wrap ((x202.length : Int) - 1))).toNat < x202.length by omega)) (fun _ _ o_ => st86_c0 o_)))) ?_; intro hc251 hs252
      refine xone (i := 5) (by kernel_rfl) hc251 ?_
      refine yo (i := 5) (d := 135) rfl rfl (wanted_none rfl _) (by kernel_rfl) (by kernel_rfl) (fun _ _ => Iff.rfl) hs252 (e_move (v := .pointer (some ⟨b234, 0 + ((IntKind.i64.wrap ((x202.length : Int) - 1)) : Int).toNat * 2, none⟩)) (by kernel_rfl)) ?_; intro hc253 hs254
      refine xone (i := 6) (by kernel_rfl) hc253 ?_
      refine yo (i := 6) (d := 136) rfl rfl (wanted_none rfl _) (by kernel_rfl) (by kernel_rfl) (fun _ _ => Iff.rfl) hs254 (e_nilCheck (ad := ⟨b234, 0 + ((IntKind.i64.wrap ((x202.length : Int) - 1)) : Int).toNat * 2, none⟩) (by kernel_rfl)) ?_; intro hc255 hs256
      refine xone (i := 7) (by kernel_rfl) hc255 ?_
      refine yo (i := 7) (d := 137) rfl rfl (wanted_none rfl _) (by kernel_rfl) (by kernel_rfl) (fun _ _ => Iff.rfl) hs256 (e_fieldAddr (b := b234) (off := 0 + ((IntKind.i64.wrap ((x202.length : Int) - 1)) : Int).toNat * 2) (o := 1) Try.underlying86 rfl rfl (sz := 1) (by kernel_rfl) (by decide) (by kernel_rfl)) ?_; intro hc257 hs258
      refine xone (i := 8) (by kernel_rfl) hc257 ?_
      refine yo (i := 8) (d := 138) rfl rfl (wanted_none rfl _) (by kernel_rfl) (by kernel_rfl) (fun _ _ => Iff.rfl) hs258 (e_load1 (ad := ⟨b234, 0 + ((IntKind.i64.wrap ((x202.length : Int) - 1)) : Int).toNat * 2 + 1, none⟩) (v := .int .i64 ((x202.getD (((IntKind.i64.wrap ((x202.length : Int) - 1))).toNat) z86).next_)) Try.underlying3 rfl (by kernel_rfl) (hpx (Row.pick (j := 1) (u := .int .i64 ((x202.getD (((IntKind.i64.wrap ((x202.length : Int) - 1))).toNat) z86).next_)) h206 e236 (getD_some z86 (show ((IntKind.i64.wrap ((x202.length : Int) - 1))).toNat < x202.length by omega)) (fun _ _ o_ => st86_c1 o_)))) ?_; intro hc259 hs260
      obtain ⟨t261, u262, M⟩ := bnd M
      refine xone (i := 9) (by kernel_rfl) hc259 ?_
      refine yc (i := 9) rfl (wanted_none rfl _) (by kernel_rfl) (by kernel_rfl) (e_callv (l := [.tmp 134, .tmp 138]) (vs := [.int .i64 ((x202.getD (((IntKind.i64.wrap ((x202.length : Int) - 1))).toNat) z86).at_), .int .i64 ((x202.getD (((IntKind.i64.wrap ((x202.length : Int) - 1))).toNat) z86).next_)]) (cs := [.pointer (some ⟨g11, 0, none⟩)]) Try.func66 (by kernel_rfl) rfl (by kernel_rfl) (by kernel_rfl)) (by have S263 := S238.pull (F := (is g11)) (Fr := [F207, F205]) 1 rfl rfl; obtain ⟨H264, S265, E266, h267, z268⟩ := S263.frzBlk b12; replace h196 := h196.ext E266; replace h206 := h206.ext E266; exact (impl_Store_ok_c1.calls w237 H264 ((x202.getD (((IntKind.i64.wrap ((x202.length : Int) - 1))).toNat) z86).at_) ((x202.getD (((IntKind.i64.wrap ((x202.length : Int) - 1))).toNat) z86).next_) x1 g11 A2 c3 A6 c7 (h4.ext E266) l5 (h8.ext E266) l9 h267 S265.own0 t261 u262)) ?_
      rintro hc271 _ w269 ⟨rfl, C270⟩
      refine ⟨_, rfl, ?_⟩
      obtain ⟨S272, K273⟩ := S238.still C270
      replace h196 := h196.move (K273.at 0 rfl)
      replace b12 := K273.blk 1 rfl b12
      replace h206 := h206.move (K273.at 2 rfl)
      refine ⟨⟨S272.inv, (fun b_ h_ => (K273.at 2 rfl b_ h_).trans (hs260.2 b_ h_))⟩, fun hs274 => ?_⟩
      refine xone (i := 10) (by kernel_rfl) hc271 ?_
      refine yo (i := 10) (d := 129) rfl rfl (wanted_none rfl _) (by kernel_rfl) (by kernel_rfl) (fun _ _ => Iff.rfl) hs274 (e_move (v := .tuple #[.int .i64 t261.1, .bool t261.2]) (by kernel_rfl)) ?_; intro hc275 hs276
      refine xv (i := 11) (d := 140) rfl rfl rfl (by kernel_rfl) (by kernel_rfl) (fun _ _ => Iff.rfl) hc275 hs276 (fun L_ w_ hc_ hu_ hs_ => e_extract (vs := #[.int .i64 t261.1, .bool t261.2]) (v := .int .i64 t261.1) (by kernel_rfl) rfl) ?_; intro hc277 hs278
      refine xv (i := 12) (d := 141) rfl rfl rfl (by kernel_rfl) (by kernel_rfl) (fun _ _ => Iff.rfl) hc277 hs278 (fun L_ w_ hc_ hu_ hs_ => e_extract (vs := #[.int .i64 t261.1, .bool t261.2]) (v := .bool t261.2) (by kernel_rfl) rfl) ?_; intro hc279 hs280
      refine xone (i := 13) (by kernel_rfl) hc279 ?_
      refine yo (i := 13) (d := 14) rfl rfl (wanted_none rfl _) (by kernel_rfl) (by kernel_rfl) (fun _ _ => Iff.rfl) hs280 (e_assign (v := .int .i64 t261.1) (by kernel_rfl)) ?_; intro hc281 hs282
      refine xone (i := 14) (by kernel_rfl) hc281 ?_
      refine yo (i := 14) (d := 15) rfl rfl (wanted_none rfl _) (by kernel_rfl) (by kernel_rfl) (fun _ _ => Iff.rfl) hs282 (e_assign (v := .bool t261.2) (by kernel_rfl)) ?_; intro hc283 hs284
      refine xn (by kernel_rfl) ?_ _
      refine then_n ?_
      refine wp_seq ?_
      refine wp_seq ?_
      refine wp_region_lit ?_
      refine lv (d := 142) rfl rfl (by kernel_rfl) (e_move (v := .bool t261.2) (by kernel_rfl)) ?_
      refine lv (d := 143) rfl rfl (by kernel_rfl) (e_notv (c := t261.2) (by kernel_rfl)) ?_
      refine wpList_nil ?_
      refine then_n ?_
      by_cases q285 : ¬ (t261.2 = true)
      · replace M := ifp q285 M
        refine cond_t rfl (bt q285 (by kernel_rfl)) ?_
        refine wp_seq ?_
        refine wp_region_lit ?_
        refine lv (d := 144) rfl rfl (by kernel_rfl) (e_move (v := .slice A124 (((x1.cells.length : Int)).toNat) c125) (by exact e210)) ?_
        refine lv (d := 145) rfl rfl (by kernel_rfl) (e_move (v := .pointer (some ⟨b234, 0 + ((IntKind.i64.wrap ((x202.length : Int) - 1)) : Int).toNat * 2, none⟩)) (by kernel_rfl)) ?_
        refine lv (d := 146) rfl rfl (by kernel_rfl) (e_nilCheck (ad := ⟨b234, 0 + ((IntKind.i64.wrap ((x202.length : Int) - 1)) : Int).toNat * 2, none⟩) (by kernel_rfl)) ?_
        refine lv (d := 147) rfl rfl (by kernel_rfl) (e_fieldAddr (b := b234) (off := 0 + ((IntKind.i64.wrap ((x202.length : Int) - 1)) : Int).toNat * 2) (o := 0) Try.underlying86 rfl rfl (sz := 1) (by kernel_rfl) (by decide) (by kernel_rfl)) ?_
        refine lv (d := 148) rfl rfl (by kernel_rfl) (e_load1 (ad := ⟨b234, 0 + ((IntKind.i64.wrap ((x202.length : Int) - 1)) : Int).toNat * 2 + 0, none⟩) (v := .int .i64 ((x202.getD (((IntKind.i64.wrap ((x202.length : Int) - 1))).toNat) z86).at_)) Try.underlying3 rfl (by kernel_rfl) (hpx (Row.pick (j := 0) (u := .int .i64 ((x202.getD (((IntKind.i64.wrap ((x202.length : Int) - 1))).toNat) z86).at_)) h206 e236 (getD_some z86 (show ((IntKind.i64.wrap ((x202.length : Int) - 1))).toNat < x202.length by omega)) (fun _ _ o_ => st86_c0 o_)))) ?_
        obtain ⟨q286, M⟩ := chk M
        obtain ⟨q287, M⟩ := chk M
        obtain ⟨b288, e290⟩ := Row.addr h196 (show ((x202.getD (((IntKind.i64.wrap ((x202.length : Int) - 1))).toNat) z86).at_).toNat < x208.length by have : x208.length = ((x1.cells.length : Int)).toNat := n209; omega)
        refine lv (d := 149) rfl rfl (by kernel_rfl) (e_indexAddr (b := b288) (off := 0) (n := ((x1.cells.length : Int)).toNat) (c := c125) (sz := 1) (i := (x202.getD (((IntKind.i64.wrap ((x202.length : Int) - 1))).toNat) z86).at_) (k := .i64) Try.underlying26 e290 (by kernel_rfl) (by kernel_rfl) (by kernel_rfl) q286 q287) ?_
        have S291 := S272.unit
        have S292 := S291.pull (F := F207) (Fr := [no, (is g11), F205]) 1 rfl rfl
        refine lse rfl rfl (by kernel_rfl) (e_setel (d := tByte) (b := b288) (i := ((x202.getD (((IntKind.i64.wrap ((x202.length : Int) - 1))).toNat) z86).at_).toNat) (v := .int .u8 2) (vs := [.int .u8 2]) (yv := (2 : UInt8)) S292 (by kernel_rfl) e290 rfl rfl (by kernel_rfl) h196 (show ((x202.getD (((IntKind.i64.wrap ((x202.length : Int) - 1))).toNat) z86).at_).toNat < x208.length by have : x208.length = ((x1.cells.length : Int)).toNat := n209; omega) rfl) ?_
        rintro w293 ⟨F295, h294, S296, K297⟩
        replace b12 := K297.blk 0 rfl b12
        replace h206 := h206.move (K297.at 1 rfl)
        clear h196
        refine wpList_nil ?_
        refine then_n ?_
        refine wp_seq ?_
        refine wp_region_lit ?_
        refine lv (d := 150) rfl rfl (by kernel_rfl) (e_move (v := .slice A203 x202.length c204) (by exact e212)) ?_
        refine lv (d := 151) rfl rfl (by kernel_rfl) (e_move (v := .slice A203 x202.length c204) (by exact e212)) ?_
        refine lv (d := 152) rfl rfl (by kernel_rfl) (e_len (A := A203) (n := x202.length) (c := c204) Try.underlying87 (by kernel_rfl)) ?_
        refine lv (d := 153) rfl rfl (by kernel_rfl) (e_sub (k := .i64) (a := (x202.length : Int)) (b := 1) (by kernel_rfl) rfl) ?_
        obtain ⟨q298, M⟩ := chk M
        refine lv (d := 154) rfl rfl (by kernel_rfl) (e_slice_h (xs := x202) (n := x202.length) (m := 2) (cap := c204) (A := A203) (b := (IntKind.i64.wrap ((x202.length : Int) - 1))) (k2 := .i64) Try.underlying87 (by kernel_rfl) (by kernel_rfl) (by kernel_rfl) q232 q298 (by have := h206.le; have := (rfl : x202.length = x202.length); omega) (take_len q232 q298 rfl)) ?_
        have h299 := h206.cut (n := ((IntKind.i64.wrap ((x202.length : Int) - 1)) : Int).toNat) (by have := (rfl : x202.length = x202.length); omega)
        clear h206
        refine lv (d := 12) rfl rfl (by kernel_rfl) (e_assign (v := .slice A203 ((x202.take (((IntKind.i64.wrap ((x202.length : Int) - 1)) : Int).toNat)).length) c204) (by kernel_rfl)) ?_
        refine wpList_nil ?_
        refine then_n ?_
        refine wp_exit ?_
        refine then_e ?_
        refine inb_hit ?_
        refine then_n ?_
        exact ⟨k226, (by omega), _, (x202.take (((IntKind.i64.wrap ((x202.length : Int) - 1)) : Int).toNat)), A203, c204, F205, F295, (x208.set (((x202.getD (((IntKind.i64.wrap ((x202.length : Int) - 1))).toNat) z86).at_).toNat) (2 : UInt8)), (by omega), rfl, (by exact e210), (by exact e211), (by kernel_rfl), (by exact e213), (by exact e214), (by exact e215), (by exact e216), (by exact e217), (by exact e218), (by exact e219), (by exact e220), h294, b12, h299, (List.length_set.trans n209), S296, M⟩
      replace M := ifn q285 M
      refine cond_f rfl (bf q285 (by kernel_rfl)) ?_
      refine wp_skip ?_
      refine then_n ?_
      refine wp_seq ?_
      refine wp_region_lit ?_
      refine lv (d := 155) rfl rfl (by kernel_rfl) (e_move (v := .pointer (some ⟨b234, 0 + ((IntKind.i64.wrap ((x202.length : Int) - 1)) : Int).toNat * 2, none⟩)) (by kernel_rfl)) ?_
      refine lv (d := 156) rfl rfl (by kernel_rfl) (e_nilCheck (ad := ⟨b234, 0 + ((IntKind.i64.wrap ((x202.length : Int) - 1)) : Int).toNat * 2, none⟩) (by kernel_rfl)) ?_
      refine lv (d := 157) rfl rfl (by kernel_rfl) (e_fieldAddr (b := b234) (off := 0 + ((IntKind.i64.wrap ((x202.length : Int) - 1)) : Int).toNat * 2) (o := 1) Try.underlying86 rfl rfl (sz := 1) (by kernel_rfl) (by decide) (by kernel_rfl)) ?_
      refine lv (d := 158) rfl rfl (by kernel_rfl) (e_load1 (ad := ⟨b234, 0 + ((IntKind.i64.wrap ((x202.length : Int) - 1)) : Int).toNat * 2 + 1, none⟩) (v := .int .i64 ((x202.getD (((IntKind.i64.wrap ((x202.length : Int) - 1))).toNat) z86).next_)) Try.underlying3 rfl (by kernel_rfl) (hpx (Row.pick (j := 1) (u := .int .i64 ((x202.getD (((IntKind.i64.wrap ((x202.length : Int) - 1))).toNat) z86).next_)) h206 e236 (getD_some z86 (show ((IntKind.i64.wrap ((x202.length : Int) - 1))).toNat < x202.length by omega)) (fun _ _ o_ => st86_c1 o_)))) ?_
      refine lv (d := 159) rfl rfl (by kernel_rfl) (e_add (k := .i64) (a := (x202.getD (((IntKind.i64.wrap ((x202.length : Int) - 1))).toNat) z86).next_) (b := 1) (by kernel_rfl) rfl) ?_
      refine lv (d := 160) rfl rfl (by kernel_rfl) (e_nilCheck (ad := ⟨b234, 0 + ((IntKind.i64.wrap ((x202.length : Int) - 1)) : Int).toNat * 2, none⟩) (by kernel_rfl)) ?_
      refine lv (d := 161) rfl rfl (by kernel_rfl) (e_fieldAddr (b := b234) (off := 0 + ((IntKind.i64.wrap ((x202.length : Int) - 1)) : Int).toNat * 2) (o := 1) Try.underlying86 rfl rfl (sz := 1) (by kernel_rfl) (by decide) (by kernel_rfl)) ?_
      have S300 := S272.pull (F := F205) (Fr := [F207, (is g11)]) 2 rfl rfl
      have S301 := S300.unit
      have S302 := S301.pull (F := F205) (Fr := [no, F207, (is g11)]) 1 rfl rfl
      refine lse rfl rfl (by kernel_rfl) (e_setpart (d := st86) (b := b234) (i := ((IntKind.i64.wrap ((x202.length : Int) - 1))).toNat) (j := 1) (v := .int .i64 (IntKind.i64.wrap (((x202.getD (((IntKind.i64.wrap ((x202.length : Int) - 1))).toNat) z86).next_) + 1))) (vs := [.int .i64 (IntKind.i64.wrap (((x202.getD (((IntKind.i64.wrap ((x202.length : Int) - 1))).toNat) z86).next_) + 1))]) (yv := {(x202.getD (((IntKind.i64.wrap ((x202.length : Int) - 1))).toNat) z86) with next_ := (IntKind.i64.wrap (((x202.getD (((IntKind.i64.wrap ((x202.length : Int) - 1))).toNat) z86).next_) + 1))}) S302 (by kernel_rfl) e236 (by kernel_rfl) rfl (by kernel_rfl) h206 (getD_some z86 (show ((IntKind.i64.wrap ((x202.length : Int) - 1))).toNat < x202.length by omega)) (Nat.le_of_ble_eq_true rfl) (List.forall_mem_cons.2 ⟨rfl, (fun _ h_ => by cases h_)⟩) (fun _ _ _ o_ => st86_u1 (IntKind.i64.wrap (((x202.getD (((IntKind.i64.wrap ((x202.length : Int) - 1))).toNat) z86).next_) + 1)) o_)) ?_
      rintro w303 ⟨F305, h304, S306, K307⟩
      replace h196 := h196.move (K307.at 0 rfl)
      replace b12 := K307.blk 1 rfl b12
      clear h206
      refine wpList_nil ?_
      refine then_n ?_
      refine wp_seq ?_
      refine wp_region_lit ?_
      refine lv (d := 162) rfl rfl (by kernel_rfl) (e_move (v := .slice A124 (((x1.cells.length : Int)).toNat) c125) (by exact e210)) ?_
      refine lv (d := 163) rfl rfl (by kernel_rfl) (e_move (v := .int .i64 t261.1) (by kernel_rfl)) ?_
      obtain ⟨q308, M⟩ := chk M
      obtain ⟨q309, M⟩ := chk M
      obtain ⟨b310, e312⟩ := Row.addr h196 (show (t261.1).toNat < x208.length by have : x208.length = ((x1.cells.length : Int)).toNat := n209; omega)
      refine lv (d := 164) rfl rfl (by kernel_rfl) (e_indexAddr (b := b310) (off := 0) (n := ((x1.cells.length : Int)).toNat) (c := c125) (sz := 1) (i := t261.1) (k := .i64) Try.underlying26 e312 (by kernel_rfl) (by kernel_rfl) (by kernel_rfl) q308 q309) ?_
      refine lv (d := 165) rfl rfl (by kernel_rfl) (e_load1 (ad := ⟨b310, 0 + (t261.1 : Int).toNat * 1, none⟩) (v := .int .u8 ((x208.getD ((t261.1).toNat) (0 : UInt8)).toNat : Int)) Try.underlying5 rfl (by kernel_rfl) (hpx (Row.pick (j := 0) (u := .int .u8 ((x208.getD ((t261.1).toNat) (0 : UInt8)).toNat : Int)) h196 e312 (getD_some (0 : UInt8) (show (t261.1).toNat < x208.length by have : x208.length = ((x1.cells.length : Int)).toNat := n209; omega)) (fun _ _ o_ => by rw [show _ = _ from o_]; rfl)))) ?_
      refine wpList_nil ?_
      refine then_n ?_
      refine wp_block ?_
      refine wp_seq ?_
      refine wp_region_lit ?_
      refine lv (d := 167) rfl rfl (by kernel_rfl) (e_eql (k := .u8) (a := ((x208.getD ((t261.1).toNat) (0 : UInt8)).toNat : Int)) (b := 0) (by kernel_rfl) rfl) ?_
      refine lv (d := 166) rfl rfl (by kernel_rfl) (e_assign (v := .bool (decide (((x208.getD ((t261.1).toNat) (0 : UInt8)).toNat : Int) = 0))) (by kernel_rfl)) ?_
      refine wpList_nil ?_
      refine then_n ?_
      by_cases q313 : ((x208.getD ((t261.1).toNat) (0 : UInt8)).toNat : Int) = 0
      · replace M := ifp q313 M
        refine cond_t rfl (bt q313 (by kernel_rfl)) ?_
        refine wp_seq ?_
        refine wp_region_lit ?_
        refine lv (d := 168) rfl rfl (by kernel_rfl) (e_move (v := .slice A124 (((x1.cells.length : Int)).toNat) c125) (by exact e210)) ?_
        refine lv (d := 169) rfl rfl (by kernel_rfl) (e_move (v := .int .i64 t261.1) (by kernel_rfl)) ?_
        obtain ⟨b314, e316⟩ := Row.addr h196 (show (t261.1).toNat < x208.length by have : x208.length = ((x1.cells.length : Int)).toNat := n209; omega)
        refine lv (d := 170) rfl rfl (by kernel_rfl) (e_indexAddr (b := b314) (off := 0) (n := ((x1.cells.length : Int)).toNat) (c := c125) (sz := 1) (i := t261.1) (k := .i64) Try.underlying26 e316 (by kernel_rfl) (by kernel_rfl) (by kernel_rfl) q308 q309) ?_
        have S317 := S306.pull (F := F207) (Fr := [F305, (is g11)]) 1 rfl rfl
        have S318 := S317.unit
        have S319 := S318.pull (F := F207) (Fr := [no, F305, (is g11)]) 1 rfl rfl
        refine lse rfl rfl (by kernel_rfl) (e_setel (d := tByte) (b := b314) (i := (t261.1).toNat) (v := .int .u8 1) (vs := [.int .u8 1]) (yv := (1 : UInt8)) S319 (by kernel_rfl) e316 rfl rfl (by kernel_rfl) h196 (show (t261.1).toNat < x208.length by have : x208.length = ((x1.cells.length : Int)).toNat := n209; omega) rfl) ?_
        rintro w320 ⟨F322, h321, S323, K324⟩
        replace h304 := h304.move (K324.at 0 rfl)
        replace b12 := K324.blk 1 rfl b12
        clear h196
        refine wpList_nil ?_
        refine then_n ?_
        refine wp_region_lit ?_
        refine lv (d := 171) rfl rfl (by kernel_rfl) (e_move (v := .slice A203 x202.length c204) (by exact e212)) ?_
        refine lv (d := 172) rfl rfl (by kernel_rfl) (e_move (v := .int .i64 t261.1) (by kernel_rfl)) ?_
        refine lv (d := 173) rfl rfl (by kernel_rfl) (show _ = Result.ok (Next.value (.agg #[.int .i64 t261.1, .int .i64 0])) w320 from by kernel_rfl) ?_
        refine lve (d := 174) rfl rfl (by kernel_rfl) (new_blk (v := fun g_ => .slice (some ⟨g_, 0, none⟩) 1 1) (cs := #[.int .i64 t261.1, .int .i64 0]) (t := 86) S323 (by kernel_rfl)) ?_
        rintro _ w325 ⟨g326, rfl, b327, S328, K329⟩
        replace h321 := h321.move (K329.at 0 rfl)
        replace h304 := h304.move (K329.at 1 rfl)
        replace b12 := K329.blk 2 rfl b12
        obtain ⟨q330, M⟩ := chk M
        have S331 := S328.pull (F := F305) (Fr := [(is g326), F322, (is g11)]) 2 rfl rfl
        have S332 := S331.unit
        have S333 := S332.pull (F := F305) (Fr := [no, (is g326), F322, (is g11)]) 1 rfl rfl
        refine lve (d := 175) rfl rfl (by kernel_rfl) (e_append (d := st86) (n := x202.length) (xs := (x202.set (((IntKind.i64.wrap ((x202.length : Int) - 1))).toNat) ({(x202.getD (((IntKind.i64.wrap ((x202.length : Int) - 1))).toNat) z86) with next_ := (IntKind.i64.wrap (((x202.getD (((IntKind.i64.wrap ((x202.length : Int) - 1))).toNat) z86).next_) + 1))}))) (cap := c204) (A := A203) (ys := [(⟨t261.1, 0⟩ : GStep)]) (A2 := (some ⟨g326, 0, none⟩)) (c2 := 1) (z := .agg #[.int .i64 0, .int .i64 0]) (bytes := 16) S333 Try.underlying87 (by kernel_rfl) rfl (by decide) (by kernel_rfl) (List.length_set.trans rfl) (by kernel_rfl) h304 (elsO_one1 (st86_mkO (x := (⟨t261.1, 0⟩ : GStep)))) (.inr (blk_news b327 rfl)) (show (x202.length + [(⟨t261.1, 0⟩ : GStep)].length) * 16 ≤ _ by first | omega | (simp only [List.length_cons, List.length_nil]; omega)) (by decide)) ?_
        rintro _ w334 ⟨A335, c336, F337, rfl, h338, S339, K340⟩
        replace b327 := K340.blk 0 rfl b327
        replace h321 := h321.move (K340.at 1 rfl)
        replace b12 := K340.blk 2 rfl b12
        refine lv (d := 12) rfl rfl (by kernel_rfl) (e_assign (v := .slice A335 (((x202.set (((IntKind.i64.wrap ((x202.length : Int) - 1))).toNat) ({(x202.getD (((IntKind.i64.wrap ((x202.length : Int) - 1))).toNat) z86) with next_ := (IntKind.i64.wrap (((x202.getD (((IntKind.i64.wrap ((x202.length : Int) - 1))).toNat) z86).next_) + 1))})) ++ [(⟨t261.1, 0⟩ : GStep)]).length) c336) (by kernel_rfl)) ?_
        refine wpList_nil ?_
        refine inb_n ?_
        refine inb_n ?_
        refine then_n ?_
        have S341 := S339.pull (F := (is g11)) (Fr := [F337, (is g326), F322]) 3 rfl rfl
        have S342 := S341.pull (F := F322) (Fr := [(is g11), F337, (is g326)]) 3 rfl rfl
        have S343 := St.first (Fa := [F322, (is g11), F337]) (Fr := [(is g326)]) S342
        exact ⟨k226, (by omega), _, ((x202.set (((IntKind.i64.wrap ((x202.length : Int) - 1))).toNat) ({(x202.getD (((IntKind.i64.wrap ((x202.length : Int) - 1))).toNat) z86) with next_ := (IntKind.i64.wrap (((x202.getD (((IntKind.i64.wrap ((x202.length : Int) - 1))).toNat) z86).next_) + 1))})) ++ [(⟨t261.1, 0⟩ : GStep)]), A335, c336, F337, F322, (x208.set ((t261.1).toNat) (1 : UInt8)), (by omega), rfl, (by exact e210), (by exact e211), (by kernel_rfl), (by exact e213), (by exact e214), (by exact e215), (by exact e216), (by exact e217), (by exact e218), (by exact e219), (by exact e220), h321, b12, h338, (List.length_set.trans n209), S343, M⟩
      replace M := ifn q313 M
      refine cond_f rfl (bf q313 (by kernel_rfl)) ?_
      refine wp_seq ?_
      refine wp_region_lit ?_
      refine lv (d := 177) rfl rfl (by kernel_rfl) (e_eql (k := .u8) (a := ((x208.getD ((t261.1).toNat) (0 : UInt8)).toNat : Int)) (b := 1) (by kernel_rfl) rfl) ?_
      refine lv (d := 176) rfl rfl (by kernel_rfl) (e_assign (v := .bool (decide (((x208.getD ((t261.1).toNat) (0 : UInt8)).toNat : Int) = 1))) (by kernel_rfl)) ?_
      refine wpList_nil ?_
      refine then_n ?_
      by_cases q344 : ((x208.getD ((t261.1).toNat) (0 : UInt8)).toNat : Int) = 1
      · replace M := ifp q344 M
        refine cond_t rfl (bt q344 (by kernel_rfl)) ?_
        refine wp_seq ?_
        refine wp_region_lit ?_
        refine lv (d := 2) rfl rfl (by kernel_rfl) (e_assign (v := .bool false) rfl) ?_
        refine wpList_nil ?_
        refine then_n ?_
        refine wp_ret ?_
        refine inb_r ?_
        refine inb_r ?_
        refine then_r ?_
        refine inb_r ?_
        refine inb_r ?_
        refine then_r ?_
        refine then_r ?_
        refine inb_r ?_
        refine then_r ?_
        obtain rfl := Option.some.inj M
        exact ret1 rfl rfl  (show _ = .bool false from (by kernel_rfl)) ⟨rfl, S306.chg⟩
      replace M := ifn q344 M
      refine cond_f rfl (bf q344 (by kernel_rfl)) ?_
      refine wp_skip ?_
      refine inb_n ?_
      refine inb_n ?_
      refine then_n ?_
      have S345 := S306.pull (F := (is g11)) (Fr := [F305, F207]) 2 rfl rfl
      have S346 := S345.pull (F := F207) (Fr := [(is g11), F305]) 2 rfl rfl
      exact ⟨k226, (by omega), _, (x202.set (((IntKind.i64.wrap ((x202.length : Int) - 1))).toNat) ({(x202.getD (((IntKind.i64.wrap ((x202.length : Int) - 1))).toNat) z86) with next_ := (IntKind.i64.wrap (((x202.getD (((IntKind.i64.wrap ((x202.length : Int) - 1))).toNat) z86).next_) + 1))})), A203, c204, F305, F207, x208, (by omega), rfl, (by exact e210), (by exact e211), (by rw [(show (x202.set (((IntKind.i64.wrap ((x202.length : Int) - 1))).toNat) ({(x202.getD (((IntKind.i64.wrap ((x202.length : Int) - 1))).toNat) z86) with next_ := (IntKind.i64.wrap (((x202.getD (((IntKind.i64.wrap ((x202.length : Int) - 1))).toNat) z86).next_) + 1))})).length = x202.length from (List.length_set.trans rfl))]; exact (by exact e212)), (by exact e213), (by exact e214), (by exact e215), (by exact e216), (by exact e217), (by exact e218), (by exact e219), (by exact e220), h196, b12, h304, n209, S346, M⟩
    replace M := ifn q231 M
    refine cond_f rfl (bf q231 (by kernel_rfl)) ?_
    refine wp_exit ?_
    refine then_e ?_
    refine then_e ?_
    refine inb_hit ?_
    refine inb_n ?_
    refine then_n ?_
    refine wp_region_lit ?_
    refine lv (d := 178) rfl rfl (by kernel_rfl) (e_add (k := .i64) (a := x132) (b := 1) (by exact e215) rfl) ?_
    refine lv (d := 100) rfl rfl (by kernel_rfl) (e_move (v := .int .i64 (IntKind.i64.wrap (x132 + 1))) (by kernel_rfl)) ?_
    refine wpList_nil ?_
    refine then_n ?_
    have S347 := S221.pull (F := (is g11)) (Fr := [F207, F205]) 1 rfl rfl
    have S348 := S347.pull (F := F207) (Fr := [(is g11), F205]) 1 rfl rfl
    have S349 := St.first (Fa := [F207, (is g11)]) (Fr := [F205]) S348
    exact ⟨k226, (by omega), _, (IntKind.i64.wrap (x132 + 1)), F207, x208, (by omega), rfl, (by exact e210), (by exact e211), (by exact e213), (by exact e214), (by kernel_rfl), h196, b12, n209, S349, M⟩
  replace M := ifn q147 M
  refine cond_f rfl (bf q147 (by kernel_rfl)) ?_
  refine wp_exit ?_
  refine then_e ?_
  refine then_e ?_
  refine inb_hit ?_
  refine then_n ?_
  refine wp_seq ?_
  refine wp_region_lit ?_
  refine lv (d := 2) rfl rfl (by kernel_rfl) (e_assign (v := .bool true) rfl) ?_
  refine wpList_nil ?_
  refine then_n ?_
  refine wp_ret ?_
  obtain rfl := Option.some.inj M
  exact ret1 rfl rfl  (show _ = .bool true from (by kernel_rfl)) ⟨rfl, S141.chg⟩
end Go.Proofs.Ytnigifmkjmbfiaa
