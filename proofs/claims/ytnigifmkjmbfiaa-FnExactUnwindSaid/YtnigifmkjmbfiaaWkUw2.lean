import Derived.Test.YtnigifmkjmbfiaaWkUw1
namespace Go.Proofs.Ytnigifmkjmbfiaa
open Go.Sx Go.Sy
attribute [local irreducible] Go.wpList Go.wpStill Go.wpQuiet Go.Code.wp
set_option maxRecDepth 100000
set_option maxHeartbeats 1000000
set_option linter.unusedVariables false
set_option linter.unusedSimpArgs false

/-! spec_l10open -/
structure GL10heap where
  cells_ : List Cell
  trail_ : List Int
  pairs_ : Int
  deriving Inhabited
def spec_l10open.f (x1 : Store) : Option GL10heap := (if 0 + x1.cells.length ≤ 3518437208883 then (if 0 + x1.trail.length ≤ 17592186044416 then some (⟨x1.cells, x1.trail, 0⟩ : GL10heap) else none) else none)
theorem spec_l10open.calls (w : World) (H : Hp) (x1 : Store) (A2 : Option Addr) (c3 : Nat) (A6 : Option Addr) (c7 : Nat) (h4 : Rd st36 H A2 x1.cells) (l5 : x1.cells.length ≤ c3) (h8 : Rd tInt H A6 x1.trail) (l9 : x1.trail.length ≤ c7) (S : Own [] H w) (r : GL10heap) (M : spec_l10open.f x1 = some r) :
    Calls Try.prog 47 #[.agg #[.slice A2 x1.cells.length c3, .slice A6 x1.trail.length c7]] w (fun e e_w => ∃ (g_1 : Nat) (A_1 : Option Addr) (c_1 : Nat) (F_1 : Foot) (A_2 : Option Addr) (c_2 : Nat) (F_2 : Foot) (H_ : Hp), e = .returned (.pointer (some ⟨g_1, 0, none⟩)) ∧ Row (ro st36) 36 H_ (hp e_w) F_1 A_1 c_1 r.cells_ ∧ Row tInt 3 H_ (hp e_w) F_2 A_2 c_2 r.trail_ ∧ e_w.heap[g_1]? = some (.cells #[.slice A_1 r.cells_.length c_1, .slice A_2 r.trail_.length c_2, .int .i64 r.pairs_] 91 (0, 0)) ∧ St (anyOf []) H w [(is g_1), F_1, F_2] H_ e_w) := by
  rw [spec_l10open.f] at M
  refine enter (l := [.agg #[.slice A2 x1.cells.length c3, .slice A6 x1.trail.length c7]]) 27 Try.func47 rfl rfl rfl ?_
  have S0_ := S.st
  refine wp_seq ?_
  refine wp_region_lit ?_
  refine lve (d := 1) rfl rfl (by kernel_rfl) (new_blk (v := fun g_ => .pointer (some ⟨g_, 0, none⟩)) (cs := #[.slice A2 x1.cells.length c3, .slice A6 x1.trail.length c7]) (t := 34) S0_ (by kernel_rfl)) ?_
  rintro _ w10 ⟨g11, rfl, b12, S13, K14⟩
  refine lv (d := 2) rfl rfl (by kernel_rfl) (e_assign (v := .pointer none) rfl) ?_
  refine wpList_nil ?_
  refine then_n ?_
  refine wp_seq ?_
  refine wp_region_lit ?_
  refine lv (d := 4) rfl rfl (by kernel_rfl) (show _ = Result.ok (Next.value (.agg #[.slice none 0 0, .slice none 0 0, .int .i64 0])) w10 from by kernel_rfl) ?_
  refine lve (d := 5) rfl rfl (by kernel_rfl) (new_blk (v := fun g_ => .pointer (some ⟨g_, 0, none⟩)) (cs := #[.slice none 0 0, .slice none 0 0, .int .i64 0]) (t := 91) S13 (by kernel_rfl)) ?_
  rintro _ w15 ⟨g16, rfl, b17, S18, K19⟩
  replace b12 := K19.blk 0 rfl b12
  refine lv (d := 3) rfl rfl (by kernel_rfl) (e_assign (v := .pointer (some ⟨g16, 0, none⟩)) (by kernel_rfl)) ?_
  refine wpList_nil ?_
  refine then_n ?_
  refine wp_seq ?_
  refine region_mix (S := (fun (L_ : Array Bool) (w_ : World) => Ext H (hp w_) ∧ (L_.getD 10 true = false → (∀ b_, (is g16) b_ → hp w_ b_ = hp w15 b_)))) (by kernel_rfl) S18 ?_
  intro w20 S21 K22 hc23
  have o24 := b17
  have hs25 : (fun (L_ : Array Bool) (w_ : World) => Ext H (hp w_) ∧ (L_.getD 10 true = false → (∀ b_, (is g16) b_ → hp w_ b_ = hp w15 b_))) (Array.replicate 11 false) w20 := ⟨S21.inv, (fun _ => (fun b_ h_ => K22.at 0 rfl b_ h_))⟩
  replace b17 := K22.blk 0 rfl b17
  replace b12 := K22.blk 1 rfl b12
  refine xv (i := 0) (d := 6) rfl rfl rfl (by kernel_rfl) (by kernel_rfl) (fun L_ w_ => by simp only [getD_set_ne true (show (0 : Nat) ≠ 10 by decide)]) hc23 hs25 (fun L_ w_ hc_ hu_ hs_ => e_move (v := .pointer (some ⟨g16, 0, none⟩)) (by kernel_rfl)) ?_; intro hc26 hs27
  refine xv (i := 1) (d := 7) rfl rfl rfl (by kernel_rfl) (by kernel_rfl) (fun L_ w_ => by simp only [getD_set_ne true (show (1 : Nat) ≠ 10 by decide)]) hc26 hs27 (fun L_ w_ hc_ hu_ hs_ => e_move (v := .pointer (some ⟨g16, 0, none⟩)) (by kernel_rfl)) ?_; intro hc28 hs29
  refine xv (i := 2) (d := 8) rfl rfl rfl (by kernel_rfl) (by kernel_rfl) (fun L_ w_ => by simp only [getD_set_ne true (show (2 : Nat) ≠ 10 by decide)]) hc28 hs29 (fun L_ w_ hc_ hu_ hs_ => e_nilCheck (ad := ⟨g16, 0, none⟩) (by kernel_rfl)) ?_; intro hc30 hs31
  refine xv (i := 3) (d := 9) rfl rfl rfl (by kernel_rfl) (by kernel_rfl) (fun L_ w_ => by simp only [getD_set_ne true (show (3 : Nat) ≠ 10 by decide)]) hc30 hs31 (fun L_ w_ hc_ hu_ hs_ => e_fieldAddr (b := g16) (off := 0) (o := 0) Try.underlying91 rfl rfl (sz := 1) (by kernel_rfl) (by decide) (by kernel_rfl)) ?_; intro hc32 hs33
  refine xv (i := 4) (d := 10) rfl rfl rfl (by kernel_rfl) (by kernel_rfl) (fun L_ w_ => by simp only [getD_set_ne true (show (4 : Nat) ≠ 10 by decide)]) hc32 hs33 (fun L_ w_ hc_ hu_ hs_ => e_load1 (ad := ⟨g16, 0 + 0, none⟩) (v := .slice none 0 0) Try.underlying32 rfl (by kernel_rfl) (blk_cell (((hs_.2 (unl 9 10 4 hc_ hu_ (by kernel_rfl))) _ rfl).trans o24) rfl)) ?_; intro hc34 hs35
  refine xone (i := 5) (by kernel_rfl) hc34 ?_
  refine yo (i := 5) (d := 11) rfl rfl (wanted_none rfl _) (by kernel_rfl) (by kernel_rfl) (fun L_ w_ => by simp only [getD_set_ne true (show (5 : Nat) ≠ 10 by decide)]) hs35 (e_fieldAddr (b := g11) (off := 0) (o := 0) Try.underlying34 rfl rfl (sz := 1) (by kernel_rfl) (by decide) (by kernel_rfl)) ?_; intro hc36 hs37
  refine xone (i := 6) (by kernel_rfl) hc36 ?_
  refine yo (i := 6) (d := 12) rfl rfl (wanted_none rfl _) (by kernel_rfl) (by kernel_rfl) (fun L_ w_ => by simp only [getD_set_ne true (show (6 : Nat) ≠ 10 by decide)]) hs37 (e_load1 (ad := ⟨g11, 0 + 0, none⟩) (v := .slice A2 x1.cells.length c3) Try.underlying32 rfl (by kernel_rfl) (blk_cell b12 rfl)) ?_; intro hc38 hs39
  obtain ⟨y40, h41, h42⟩ := Rd.news (d := (ro st36)) (ro_ro _) S21 (Rd.toro h4)
  obtain ⟨q43, M⟩ := chk M
  have S44 := S21.unit
  have S45 := S44.unit
  have S46 := S45.pull (F := no) (Fr := [no, (is g16), (is g11)]) 1 rfl rfl
  refine xone (i := 7) (by kernel_rfl) hc38 ?_
  refine ye (i := 7) (d := 13) rfl rfl (wanted_none rfl _) (by kernel_rfl) (by kernel_rfl) (e_append (d := (ro st36)) (n := 0) (xs := []) (cap := 0) (A := none) (ys := x1.cells) (A2 := A2) (c2 := c3) (z := .agg #[.int .i64 0, .int .i64 0, .slice none 0 0]) (bytes := 40) S46 Try.underlying32 (by kernel_rfl) rfl (by decide) (by kernel_rfl) rfl (by kernel_rfl) (Row.nil _ _ _ _ no) h41 h42 (show (0 + x1.cells.length) * 40 ≤ _ by first | omega | (simp only [List.length_cons, List.length_nil]; omega)) (by decide)) ?_
  rintro hc54 _ w47 ⟨A48, c49, F50, rfl, h51, S52, K53⟩
  replace b17 := K53.blk 0 rfl b17
  replace b12 := K53.blk 1 rfl b12
  refine ⟨⟨S52.inv, (fun q_ => (fun b_ h_ => (K53.at 0 rfl b_ h_).trans ((hs39.2 (by decide +kernel)) b_ h_)))⟩, fun hs55 => ?_⟩
  replace h51 : Row (ro st36) 36 H (hp w47) F50 A48 c49 x1.cells := h51
  refine xone (i := 8) (by kernel_rfl) hc54 ?_
  refine yo (i := 8) (d := 14) rfl rfl (wanted_none rfl _) (by kernel_rfl) (by kernel_rfl) (fun L_ w_ => by simp only [getD_set_ne true (show (8 : Nat) ≠ 10 by decide)]) hs55 (e_nilCheck (ad := ⟨g16, 0, none⟩) (by kernel_rfl)) ?_; intro hc56 hs57
  refine xone (i := 9) (by kernel_rfl) hc56 ?_
  refine yo (i := 9) (d := 15) rfl rfl (wanted_none rfl _) (by kernel_rfl) (by kernel_rfl) (fun L_ w_ => by simp only [getD_set_ne true (show (9 : Nat) ≠ 10 by decide)]) hs57 (e_fieldAddr (b := g16) (off := 0) (o := 0) Try.underlying91 rfl rfl (sz := 1) (by kernel_rfl) (by decide) (by kernel_rfl)) ?_; intro hc58 hs59
  have S60 := S52.pull (F := (is g16)) (Fr := [F50, (is g11)]) 1 rfl rfl
  refine xone (i := 10) (by kernel_rfl) hc58 ?_
  refine ys (i := 10) rfl rfl (wanted_none rfl _) (by kernel_rfl) (by kernel_rfl) (e_store (g := g16) (o := 0 + 0) (v := .slice A48 x1.cells.length c49) (cur' := #[.slice A48 x1.cells.length c49, .slice none 0 0, .int .i64 0]) (vs := [.slice A48 x1.cells.length c49]) S60 (by kernel_rfl) (by kernel_rfl) rfl (by kernel_rfl) b17 (Nat.le_of_ble_eq_true rfl) (List.forall_mem_cons.2 ⟨rfl, (fun _ h_ => by cases h_)⟩) rfl) ?_
  rintro hc65 w61 ⟨b62, S63, K64⟩
  replace h51 := h51.move (K64.at 0 rfl)
  replace b12 := K64.blk 1 rfl b12
  refine ⟨⟨S63.inv, (fun q_ => absurd q_ (by decide +kernel))⟩, fun hs66 => ?_⟩
  clear b17
  refine xn (by kernel_rfl) ?_ _
  refine then_n ?_
  refine wp_seq ?_
  refine region_mix (S := (fun (L_ : Array Bool) (w_ : World) => Ext H (hp w_) ∧ (L_.getD 10 true = false → (∀ b_, (is g16) b_ → hp w_ b_ = hp w61 b_)))) (by kernel_rfl) S63 ?_
  intro w67 S68 K69 hc70
  have o71 := b62
  have hs72 : (fun (L_ : Array Bool) (w_ : World) => Ext H (hp w_) ∧ (L_.getD 10 true = false → (∀ b_, (is g16) b_ → hp w_ b_ = hp w61 b_))) (Array.replicate 11 false) w67 := ⟨S68.inv, (fun _ => (fun b_ h_ => K69.at 0 rfl b_ h_))⟩
  replace b62 := K69.blk 0 rfl b62
  replace h51 := h51.move (K69.at 1 rfl)
  replace b12 := K69.blk 2 rfl b12
  refine xv (i := 0) (d := 16) rfl rfl rfl (by kernel_rfl) (by kernel_rfl) (fun L_ w_ => by simp only [getD_set_ne true (show (0 : Nat) ≠ 10 by decide)]) hc70 hs72 (fun L_ w_ hc_ hu_ hs_ => e_move (v := .pointer (some ⟨g16, 0, none⟩)) (by kernel_rfl)) ?_; intro hc73 hs74
  refine xv (i := 1) (d := 17) rfl rfl rfl (by kernel_rfl) (by kernel_rfl) (fun L_ w_ => by simp only [getD_set_ne true (show (1 : Nat) ≠ 10 by decide)]) hc73 hs74 (fun L_ w_ hc_ hu_ hs_ => e_move (v := .pointer (some ⟨g16, 0, none⟩)) (by kernel_rfl)) ?_; intro hc75 hs76
  refine xv (i := 2) (d := 18) rfl rfl rfl (by kernel_rfl) (by kernel_rfl) (fun L_ w_ => by simp only [getD_set_ne true (show (2 : Nat) ≠ 10 by decide)]) hc75 hs76 (fun L_ w_ hc_ hu_ hs_ => e_nilCheck (ad := ⟨g16, 0, none⟩) (by kernel_rfl)) ?_; intro hc77 hs78
  refine xv (i := 3) (d := 19) rfl rfl rfl (by kernel_rfl) (by kernel_rfl) (fun L_ w_ => by simp only [getD_set_ne true (show (3 : Nat) ≠ 10 by decide)]) hc77 hs78 (fun L_ w_ hc_ hu_ hs_ => e_fieldAddr (b := g16) (off := 0) (o := 1) Try.underlying91 rfl rfl (sz := 1) (by kernel_rfl) (by decide) (by kernel_rfl)) ?_; intro hc79 hs80
  refine xv (i := 4) (d := 20) rfl rfl rfl (by kernel_rfl) (by kernel_rfl) (fun L_ w_ => by simp only [getD_set_ne true (show (4 : Nat) ≠ 10 by decide)]) hc79 hs80 (fun L_ w_ hc_ hu_ hs_ => e_load1 (ad := ⟨g16, 0 + 1, none⟩) (v := .slice none 0 0) Try.underlying23 rfl (by kernel_rfl) (blk_cell (((hs_.2 (unl 9 10 4 hc_ hu_ (by kernel_rfl))) _ rfl).trans o71) rfl)) ?_; intro hc81 hs82
  refine xone (i := 5) (by kernel_rfl) hc81 ?_
  refine yo (i := 5) (d := 21) rfl rfl (wanted_none rfl _) (by kernel_rfl) (by kernel_rfl) (fun L_ w_ => by simp only [getD_set_ne true (show (5 : Nat) ≠ 10 by decide)]) hs82 (e_fieldAddr (b := g11) (off := 0) (o := 1) Try.underlying34 rfl rfl (sz := 1) (by kernel_rfl) (by decide) (by kernel_rfl)) ?_; intro hc83 hs84
  refine xone (i := 6) (by kernel_rfl) hc83 ?_
  refine yo (i := 6) (d := 22) rfl rfl (wanted_none rfl _) (by kernel_rfl) (by kernel_rfl) (fun L_ w_ => by simp only [getD_set_ne true (show (6 : Nat) ≠ 10 by decide)]) hs84 (e_load1 (ad := ⟨g11, 0 + 1, none⟩) (v := .slice A6 x1.trail.length c7) Try.underlying23 rfl (by kernel_rfl) (blk_cell b12 rfl)) ?_; intro hc85 hs86
  obtain ⟨y87, h88, h89⟩ := Rd.news (d := tInt) (ro_scal _ _) S68 h8
  obtain ⟨q90, M⟩ := chk M
  have S91 := S68.unit
  have S92 := S91.unit
  have S93 := S92.pull (F := no) (Fr := [no, (is g16), F50, (is g11)]) 1 rfl rfl
  refine xone (i := 7) (by kernel_rfl) hc85 ?_
  refine ye (i := 7) (d := 23) rfl rfl (wanted_none rfl _) (by kernel_rfl) (by kernel_rfl) (e_append (d := tInt) (n := 0) (xs := []) (cap := 0) (A := none) (ys := x1.trail) (A2 := A6) (c2 := c7) (z := .int .i64 0) (bytes := 8) S93 Try.underlying23 (by kernel_rfl) rfl (by decide) (by kernel_rfl) rfl (by kernel_rfl) (Row.nil _ _ _ _ no) h88 h89 (show (0 + x1.trail.length) * 8 ≤ _ by first | omega | (simp only [List.length_cons, List.length_nil]; omega)) (by decide)) ?_
  rintro hc101 _ w94 ⟨A95, c96, F97, rfl, h98, S99, K100⟩
  replace b62 := K100.blk 0 rfl b62
  replace h51 := h51.move (K100.at 1 rfl)
  replace b12 := K100.blk 2 rfl b12
  refine ⟨⟨S99.inv, (fun q_ => (fun b_ h_ => (K100.at 0 rfl b_ h_).trans ((hs86.2 (by decide +kernel)) b_ h_)))⟩, fun hs102 => ?_⟩
  replace h98 : Row tInt 3 H (hp w94) F97 A95 c96 x1.trail := h98
  refine xone (i := 8) (by kernel_rfl) hc101 ?_
  refine yo (i := 8) (d := 24) rfl rfl (wanted_none rfl _) (by kernel_rfl) (by kernel_rfl) (fun L_ w_ => by simp only [getD_set_ne true (show (8 : Nat) ≠ 10 by decide)]) hs102 (e_nilCheck (ad := ⟨g16, 0, none⟩) (by kernel_rfl)) ?_; intro hc103 hs104
  refine xone (i := 9) (by kernel_rfl) hc103 ?_
  refine yo (i := 9) (d := 25) rfl rfl (wanted_none rfl _) (by kernel_rfl) (by kernel_rfl) (fun L_ w_ => by simp only [getD_set_ne true (show (9 : Nat) ≠ 10 by decide)]) hs104 (e_fieldAddr (b := g16) (off := 0) (o := 1) Try.underlying91 rfl rfl (sz := 1) (by kernel_rfl) (by decide) (by kernel_rfl)) ?_; intro hc105 hs106
  have S107 := S99.pull (F := (is g16)) (Fr := [F97, F50, (is g11)]) 1 rfl rfl
  refine xone (i := 10) (by kernel_rfl) hc105 ?_
  refine ys (i := 10) rfl rfl (wanted_none rfl _) (by kernel_rfl) (by kernel_rfl) (e_store (g := g16) (o := 0 + 1) (v := .slice A95 x1.trail.length c96) (cur' := #[.slice A48 x1.cells.length c49, .slice A95 x1.trail.length c96, .int .i64 0]) (vs := [.slice A95 x1.trail.length c96]) S107 (by kernel_rfl) (by kernel_rfl) rfl (by kernel_rfl) b62 (Nat.le_of_ble_eq_true rfl) (List.forall_mem_cons.2 ⟨rfl, (fun _ h_ => by cases h_)⟩) rfl) ?_
  rintro hc112 w108 ⟨b109, S110, K111⟩
  replace h98 := h98.move (K111.at 0 rfl)
  replace h51 := h51.move (K111.at 1 rfl)
  replace b12 := K111.blk 2 rfl b12
  refine ⟨⟨S110.inv, (fun q_ => absurd q_ (by decide +kernel))⟩, fun hs113 => ?_⟩
  clear b62
  refine xn (by kernel_rfl) ?_ _
  refine then_n ?_
  refine wp_seq ?_
  refine wp_region_lit ?_
  refine lv (d := 26) rfl rfl (by kernel_rfl) (e_move (v := .pointer (some ⟨g16, 0, none⟩)) (by kernel_rfl)) ?_
  refine lv (d := 2) rfl rfl (by kernel_rfl) (e_assign (v := .pointer (some ⟨g16, 0, none⟩)) (by kernel_rfl)) ?_
  refine wpList_nil ?_
  refine then_n ?_
  refine wp_ret ?_
  obtain rfl := Option.some.inj M
  have S114 := S110.pull (F := F97) (Fr := [(is g16), F50, (is g11)]) 1 rfl rfl
  have S115 := S114.pull (F := F50) (Fr := [F97, (is g16), (is g11)]) 2 rfl rfl
  have S116 := S115.pull (F := (is g16)) (Fr := [F50, F97, (is g11)]) 2 rfl rfl
  have S117 := St.first (Fa := [(is g16), F50, F97]) (Fr := [(is g11)]) S116
  exact ret1 rfl rfl  (show _ = .pointer (some ⟨g16, 0, none⟩) from (by kernel_rfl)) ⟨g16, A48, c49, F50, A95, c96, F97, H, rfl, h51, h98, b109, S117⟩

/-! spec_l10ref -/
def spec_l10ref.f (x1 : Int) : Option Cell := some (⟨0, x1, []⟩ : Cell)
theorem spec_l10ref.calls (w : World) (H : Hp) (x1 : Int) (S : Own [] H w) (r : Cell) (M : spec_l10ref.f x1 = some r) :
    Calls Try.prog 68 #[.int .i64 x1] w (fun e e_w => ∃ (A_1 : Option Addr) (c_1 : Nat) (F_1 : Foot) (H_ : Hp), e = .returned (.agg #[.int .i64 r.kind, .int .i64 r.n, .slice A_1 r.text.length c_1]) ∧ Row tByte 5 H_ (hp e_w) F_1 A_1 c_1 r.text ∧ St (anyOf []) H w [F_1] H_ e_w) := by
  rw [spec_l10ref.f] at M
  refine enter (l := [.int .i64 x1]) 5 Try.func68 rfl rfl rfl ?_
  have S0_ := S.st
  refine wp_seq ?_
  refine wp_region_lit ?_
  refine lve (d := 2) rfl rfl (by kernel_rfl) (new_blk (v := fun g_ => .pointer (some ⟨g_, 0, none⟩)) (cs := #[.int .i64 0, .int .i64 0, .slice none 0 0]) (t := 36) S0_ (by kernel_rfl)) ?_
  rintro _ w2 ⟨g3, rfl, b4, S5, K6⟩
  refine wpList_nil ?_
  refine then_n ?_
  refine wp_seq ?_
  refine wp_region_lit ?_
  refine lv (d := 3) rfl rfl (by kernel_rfl) (e_move (v := .int .i64 x1) (by kernel_rfl)) ?_
  refine lv (d := 4) rfl rfl (by kernel_rfl) (show _ = Result.ok (Next.value (.agg #[.int .i64 0, .int .i64 x1, .slice none 0 0])) w2 from by kernel_rfl) ?_
  refine lse rfl rfl (by kernel_rfl) (e_store (g := g3) (o := 0) (v := .agg #[.int .i64 0, .int .i64 x1, .slice none 0 0]) (cur' := #[.int .i64 0, .int .i64 x1, .slice none 0 0]) (vs := [.int .i64 0, .int .i64 x1, .slice none 0 0]) S5 (by kernel_rfl) (by kernel_rfl) rfl (by kernel_rfl) b4 (Nat.le_of_ble_eq_true rfl) (List.forall_mem_cons.2 ⟨rfl, (List.forall_mem_cons.2 ⟨rfl, (List.forall_mem_cons.2 ⟨rfl, (fun _ h_ => by cases h_)⟩)⟩)⟩) rfl) ?_
  rintro w7 ⟨b8, S9, K10⟩
  clear b4
  refine wpList_nil ?_
  refine then_n ?_
  refine wp_ret ?_
  obtain rfl := Option.some.inj M
  have S11 := S9.unit
  have S12 := St.first (Fa := [no]) (Fr := [(is g3)]) S11
  exact retS (ty := 36) (cur := #[.int .i64 0, .int .i64 x1, .slice none 0 0]) rfl rfl (by kernel_rfl) b8 Try.underlying36 rfl (by kernel_rfl) ⟨none, 0, no, H, rfl, (Row.nil _ _ _ _ no), S12⟩

/-! spec_l10unwind -/
def spec_l10unwind.l0 : Nat → GL10heap → Int → Int → Int → (List Cell) → Option GL10heap
  | 0, _, _, _, _, _ => none
  | k31 + 1, x1, x12, x13, x18, x20 => (if x18 ≥ x12 then (if 0 ≤ x18 then (if x18 < (x1.trail_.length : Int) then ((spec_l10ref.f (x1.trail_.getD ((x18).toNat) (0 : Int))).bind fun t56 => (if 0 ≤ (x1.trail_.getD ((x18).toNat) (0 : Int)) then (if (x1.trail_.getD ((x18).toNat) (0 : Int)) < (x1.cells_.length : Int) then (spec_l10unwind.l0 k31 x1 x12 x13 (IntKind.i64.wrap (x18 - 1)) (x20.set (((x1.trail_.getD ((x18).toNat) (0 : Int))).toNat) t56)) else none) else none)) else none) else none) else (if 0 ≤ x12 then (if x12 ≤ (x1.trail_.length : Int) then (if 0 ≤ x13 then (if x13 ≤ (x1.cells_.length : Int) then some (⟨(x20.take ((x13 : Int).toNat)), (x1.trail_.take ((x12 : Int).toNat)), x1.pairs_⟩ : GL10heap) else none) else none) else none) else none))
def spec_l10unwind.f (k : Nat) (x1 : GL10heap) (x12 : Int) (x13 : Int) : Option GL10heap := (spec_l10unwind.l0 k x1 x12 x13 (IntKind.i64.wrap ((x1.trail_.length : Int) - 1)) x1.cells_)
theorem spec_l10unwind.calls (k : Nat) (w : World) (H : Hp) (x1 : GL10heap) (g2 : Nat) (A4 : Option Addr) (c5 : Nat) (F7 : Foot) (A8 : Option Addr) (c9 : Nat) (F11 : Foot) (x12 : Int) (x13 : Int) (h6 : Row (ro st36) 36 H (hp w) F7 A4 c5 x1.cells_) (h10 : Row tInt 3 H (hp w) F11 A8 c9 x1.trail_) (b3 : w.heap[g2]? = some (.cells #[.slice A4 x1.cells_.length c5, .slice A8 x1.trail_.length c9, .int .i64 x1.pairs_] 91 (0, 0))) (S : Own [F7, F11, (is g2)] H w) (r : GL10heap) (M : spec_l10unwind.f k x1 x12 x13 = some r) :
    Calls Try.prog 56 #[.pointer (some ⟨g2, 0, none⟩), .int .i64 x12, .int .i64 x13] w (fun e e_w => ∃ (A_1 : Option Addr) (c_1 : Nat) (F_1 : Foot) (A_2 : Option Addr) (c_2 : Nat) (F_2 : Foot) (H_ : Hp), e = .returned (.tuple #[]) ∧ Row (ro st36) 36 H_ (hp e_w) F_1 A_1 c_1 r.cells_ ∧ Row tInt 3 H_ (hp e_w) F_2 A_2 c_2 r.trail_ ∧ e_w.heap[g2]? = some (.cells #[.slice A_1 r.cells_.length c_1, .slice A_2 r.trail_.length c_2, .int .i64 r.pairs_] 91 (0, 0)) ∧ St (anyOf [F7, F11, (is g2)]) H w [(is g2), F_1, F_2] H_ e_w) := by
  rw [spec_l10unwind.f] at M
  refine enter (l := [.pointer (some ⟨g2, 0, none⟩), .int .i64 x12, .int .i64 x13]) 52 Try.func56 rfl rfl rfl ?_
  have S0_ := S.st
  refine wp_seq ?_
  refine wp_seq ?_
  refine wp_region_lit ?_
  refine lv (d := 8) rfl rfl (by kernel_rfl) (e_move (v := .pointer (some ⟨g2, 0, none⟩)) (by kernel_rfl)) ?_
  refine lv (d := 9) rfl rfl (by kernel_rfl) (e_nilCheck (ad := ⟨g2, 0, none⟩) (by kernel_rfl)) ?_
  refine lv (d := 10) rfl rfl (by kernel_rfl) (e_fieldAddr (b := g2) (off := 0) (o := 1) Try.underlying91 rfl rfl (sz := 1) (by kernel_rfl) (by decide) (by kernel_rfl)) ?_
  refine lv (d := 11) rfl rfl (by kernel_rfl) (e_load1 (ad := ⟨g2, 0 + 1, none⟩) (v := .slice A8 x1.trail_.length c9) Try.underlying23 rfl (by kernel_rfl) (blk_cell b3 rfl)) ?_
  refine lv (d := 12) rfl rfl (by kernel_rfl) (e_len (A := A8) (n := x1.trail_.length) (c := c9) Try.underlying23 (by kernel_rfl)) ?_
  refine lv (d := 13) rfl rfl (by kernel_rfl) (e_sub (k := .i64) (a := (x1.trail_.length : Int)) (b := 1) (by kernel_rfl) rfl) ?_
  refine lv (d := 6) rfl rfl (by kernel_rfl) (e_assign (v := .int .i64 (IntKind.i64.wrap ((x1.trail_.length : Int) - 1))) (by kernel_rfl)) ?_
  refine wpList_nil ?_
  refine then_n ?_
  refine wp_block ?_
  refine wp_loop_g (fun k29 a30 w14 => ∃ (f15 : Nat → Value) (H16 : Hp) (x18 : Int) (F19 : Foot) (x20 : List Cell), a30 = mk 52 f15 ∧ f15 0 = .pointer (some ⟨g2, 0, none⟩) ∧ f15 1 = .int .i64 x12 ∧ f15 2 = .int .i64 x13 ∧ f15 6 = .int .i64 x18 ∧ Row (ro st36) 36 H16 (hp w14) F19 A4 c5 x20 ∧ Row tInt 3 H16 (hp w14) F11 A8 c9 x1.trail_ ∧ w14.heap[g2]? = some (.cells #[.slice A4 x1.cells_.length c5, .slice A8 x1.trail_.length c9, .int .i64 x1.pairs_] 91 (0, 0)) ∧ x20.length = x1.cells_.length ∧ Ext H H16 ∧ St (anyOf [F7, F11, (is g2)]) H w [F19, F11, (is g2)] H16 w14 ∧ spec_l10unwind.l0 k29 x1 x12 x13 x18 x20 = some r) k ⟨_, H, (IntKind.i64.wrap ((x1.trail_.length : Int) - 1)), F7, x1.cells_, rfl, (by kernel_rfl), (by kernel_rfl), (by kernel_rfl), (by kernel_rfl), h6, h10, b3, rfl, (Ext.refl _), S0_, M⟩ ?_
  clear M
  rintro k29 a30 w14 ⟨f15, H16, x18, F19, x20, rfl, e22, e23, e24, e25, h6, h10, b3, n21, Y17, S26, M⟩
  rcases k29 with _ | k31
  · rw [spec_l10unwind.l0] at M
    cases M
  rw [spec_l10unwind.l0] at M
  refine wp_seq ?_
  refine wp_seq ?_
  refine wp_region_lit ?_
  refine lv (d := 14) rfl rfl (by kernel_rfl) (e_move (v := .int .i64 x18) (by exact e25)) ?_
  refine lv (d := 15) rfl rfl (by kernel_rfl) (e_move (v := .int .i64 x12) (by exact e23)) ?_
  refine lv (d := 16) rfl rfl (by kernel_rfl) (e_geq (k := .i64) (a := x18) (b := x12) (by kernel_rfl) (by kernel_rfl)) ?_
  refine wpList_nil ?_
  refine then_n ?_
  by_cases q32 : x18 ≥ x12
  · replace M := ifp q32 M
    refine cond_t rfl (bt q32 (by kernel_rfl)) ?_
    refine wp_skip ?_
    refine then_n ?_
    refine wp_seq ?_
    refine wp_block ?_
    refine wp_seq ?_
    refine wp_region_lit ?_
    refine lv (d := 19) rfl rfl (by kernel_rfl) (e_move (v := .pointer (some ⟨g2, 0, none⟩)) (by exact e22)) ?_
    refine lv (d := 20) rfl rfl (by kernel_rfl) (e_nilCheck (ad := ⟨g2, 0, none⟩) (by kernel_rfl)) ?_
    refine lv (d := 21) rfl rfl (by kernel_rfl) (e_fieldAddr (b := g2) (off := 0) (o := 1) Try.underlying91 rfl rfl (sz := 1) (by kernel_rfl) (by decide) (by kernel_rfl)) ?_
    refine lv (d := 22) rfl rfl (by kernel_rfl) (e_load1 (ad := ⟨g2, 0 + 1, none⟩) (v := .slice A8 x1.trail_.length c9) Try.underlying23 rfl (by kernel_rfl) (blk_cell b3 rfl)) ?_
    refine lv (d := 23) rfl rfl (by kernel_rfl) (e_move (v := .int .i64 x18) (by exact e25)) ?_
    obtain ⟨q33, M⟩ := chk M
    obtain ⟨q34, M⟩ := chk M
    obtain ⟨b35, e37⟩ := Row.addr h10 (show (x18).toNat < x1.trail_.length by omega)
    refine lv (d := 24) rfl rfl (by kernel_rfl) (e_indexAddr (b := b35) (off := 0) (n := x1.trail_.length) (c := c9) (sz := 1) (i := x18) (k := .i64) Try.underlying23 e37 (by kernel_rfl) (by kernel_rfl) (by kernel_rfl) q33 q34) ?_
    refine lv (d := 25) rfl rfl (by kernel_rfl) (e_load1 (ad := ⟨b35, 0 + (x18 : Int).toNat * 1, none⟩) (v := .int .i64 (x1.trail_.getD ((x18).toNat) (0 : Int))) Try.underlying3 rfl (by kernel_rfl) (hpx (Row.pick (j := 0) (u := .int .i64 (x1.trail_.getD ((x18).toNat) (0 : Int))) h10 e37 (getD_some (0 : Int) (show (x18).toNat < x1.trail_.length by omega)) (fun _ _ o_ => by rw [show _ = _ from o_]; rfl)))) ?_
    refine lv (d := 7) rfl rfl (by kernel_rfl) (e_assign (v := .int .i64 (x1.trail_.getD ((x18).toNat) (0 : Int))) (by kernel_rfl)) ?_
    refine wpList_nil ?_
    refine then_n ?_
    refine region_mix (S := (fun (L_ : Array Bool) (w_ : World) => Ext H16 (hp w_) ∧ (∀ b_, (is g2) b_ → hp w_ b_ = hp w14 b_))) (by kernel_rfl) S26 ?_
    intro w38 S39 K40 hc41
    have o42 := b3
    have hs43 : (fun (L_ : Array Bool) (w_ : World) => Ext H16 (hp w_) ∧ (∀ b_, (is g2) b_ → hp w_ b_ = hp w14 b_)) (Array.replicate 9 false) w38 := ⟨S39.inv, (fun b_ h_ => K40.at 2 rfl b_ h_)⟩
    replace h6 := h6.move (K40.at 0 rfl)
    replace h10 := h10.move (K40.at 1 rfl)
    replace b3 := K40.blk 2 rfl b3
    refine xv (i := 0) (d := 26) rfl rfl rfl (by kernel_rfl) (by kernel_rfl) (fun _ _ => Iff.rfl) hc41 hs43 (fun L_ w_ hc_ hu_ hs_ => e_move (v := .pointer (some ⟨g2, 0, none⟩)) (by exact e22)) ?_; intro hc44 hs45
    refine xv (i := 1) (d := 27) rfl rfl rfl (by kernel_rfl) (by kernel_rfl) (fun _ _ => Iff.rfl) hc44 hs45 (fun L_ w_ hc_ hu_ hs_ => e_nilCheck (ad := ⟨g2, 0, none⟩) (by kernel_rfl)) ?_; intro hc46 hs47
    refine xv (i := 2) (d := 28) rfl rfl rfl (by kernel_rfl) (by kernel_rfl) (fun _ _ => Iff.rfl) hc46 hs47 (fun L_ w_ hc_ hu_ hs_ => e_fieldAddr (b := g2) (off := 0) (o := 0) Try.underlying91 rfl rfl (sz := 1) (by kernel_rfl) (by decide) (by kernel_rfl)) ?_; intro hc48 hs49
    refine xv (i := 3) (d := 29) rfl rfl rfl (by kernel_rfl) (by kernel_rfl) (fun _ _ => Iff.rfl) hc48 hs49 (fun L_ w_ hc_ hu_ hs_ => e_load1 (ad := ⟨g2, 0 + 0, none⟩) (v := .slice A4 x1.cells_.length c5) Try.underlying32 rfl (by kernel_rfl) (blk_cell ((hs_.2 _ rfl).trans o42) rfl)) ?_; intro hc50 hs51
    refine xv (i := 4) (d := 30) rfl rfl rfl (by kernel_rfl) (by kernel_rfl) (fun _ _ => Iff.rfl) hc50 hs51 (fun L_ w_ hc_ hu_ hs_ => e_move (v := .int .i64 (x1.trail_.getD ((x18).toNat) (0 : Int))) (by kernel_rfl)) ?_; intro hc52 hs53
    refine xone (i := 5) (by kernel_rfl) hc52 ?_
    refine yo (i := 5) (d := 31) rfl rfl (wanted_none rfl _) (by kernel_rfl) (by kernel_rfl) (fun _ _ => Iff.rfl) hs53 (e_move (v := .int .i64 (x1.trail_.getD ((x18).toNat) (0 : Int))) (by kernel_rfl)) ?_; intro hc54 hs55
    obtain ⟨t56, u57, M⟩ := bnd M
    refine xone (i := 6) (by kernel_rfl) hc54 ?_
    refine yc (i := 6) rfl (wanted_none rfl _) (by kernel_rfl) (by kernel_rfl) (e_call (l := [.tmp 31]) (vs := [.int .i64 (x1.trail_.getD ((x18).toNat) (0 : Int))]) Try.func68 (by kernel_rfl) rfl (by kernel_rfl) rfl) (spec_l10ref.calls w38 H16 (x1.trail_.getD ((x18).toNat) (0 : Int))  (St.own' (Fa := []) (Fr := [F19, F11, (is g2)]) S39) t56 u57) ?_
    rintro hc65 _ w58 ⟨A61, c62, F64, H59, rfl, h63, T60⟩
    refine ⟨_, rfl, ?_⟩
    obtain ⟨S66, K67⟩ := St.call (Fa := []) (Fr := [F19, F11, (is g2)]) S39 T60
    replace h6 := h6.move (K67.at 0 rfl)
    replace h10 := h10.move (K67.at 1 rfl)
    replace b3 := K67.blk 2 rfl b3
    have E68 := T60.ext
    replace h6 := h6.ext E68
    replace h10 := h10.ext E68
    refine ⟨⟨(Ext.trans E68 S66.inv), (fun b_ h_ => (K67.at 2 rfl b_ h_).trans (hs55.2 b_ h_))⟩, fun hs69 => ?_⟩
    obtain ⟨q70, M⟩ := chk M
    obtain ⟨q71, M⟩ := chk M
    obtain ⟨b72, e74⟩ := Row.addr h6 (show ((x1.trail_.getD ((x18).toNat) (0 : Int))).toNat < x20.length by have : x20.length = x1.cells_.length := n21; omega)
    refine xone (i := 7) (by kernel_rfl) hc65 ?_
    refine yo (i := 7) (d := 33) rfl rfl (wanted_none rfl _) (by kernel_rfl) (by kernel_rfl) (fun _ _ => Iff.rfl) hs69 (e_indexAddr (b := b72) (off := 0) (n := x1.cells_.length) (c := c5) (sz := 3) (i := (x1.trail_.getD ((x18).toNat) (0 : Int))) (k := .i64) Try.underlying32 e74 (by kernel_rfl) (by kernel_rfl) (by kernel_rfl) q70 q71) ?_; intro hc75 hs76
    have l77 := h63.le
    obtain ⟨H78, S79, E80, h81, z82⟩ := S66.frzRow h63
    replace h6 := h6.ext E80
    replace h10 := h10.ext E80
    have S83 := S79.unit
    have S84 := S83.pull (F := F19) (Fr := [no, F11, (is g2)]) 1 rfl rfl
    refine xone (i := 8) (by kernel_rfl) hc75 ?_
    refine ys (i := 8) rfl rfl (wanted_none rfl _) (by kernel_rfl) (by kernel_rfl) (e_setel (d := (ro st36)) (b := b72) (i := ((x1.trail_.getD ((x18).toNat) (0 : Int))).toNat) (v := .agg #[.int .i64 t56.kind, .int .i64 t56.n, .slice A61 t56.text.length c62]) (vs := [.int .i64 t56.kind, .int .i64 t56.n, .slice A61 t56.text.length c62]) (yv := t56) S84 (by kernel_rfl) e74 (by kernel_rfl) rfl (by kernel_rfl) h6 (show ((x1.trail_.getD ((x18).toNat) (0 : Int))).toNat < x20.length by have : x20.length = x1.cells_.length := n21; omega) (st36_mkR (x := t56) l77 h81)) ?_
    rintro hc90 w85 ⟨F87, h86, S88, K89⟩
    replace h10 := h10.move (K89.at 0 rfl)
    replace b3 := K89.blk 1 rfl b3
    refine ⟨⟨(Ext.trans (E68.trans E80) S88.inv), (fun b_ h_ => (K89.at 1 rfl b_ h_).trans (hs76.2 b_ h_))⟩, fun hs91 => ?_⟩
    clear h6
    refine xn (by kernel_rfl) ?_ _
    refine inb_n ?_
    refine then_n ?_
    refine wp_region_lit ?_
    refine lv (d := 17) rfl rfl (by kernel_rfl) (e_move (v := .int .i64 x18) (by exact e25)) ?_
    refine lv (d := 18) rfl rfl (by kernel_rfl) (e_sub (k := .i64) (a := x18) (b := 1) (by kernel_rfl) rfl) ?_
    refine lv (d := 6) rfl rfl (by kernel_rfl) (e_assign (v := .int .i64 (IntKind.i64.wrap (x18 - 1))) (by kernel_rfl)) ?_
    refine wpList_nil ?_
    refine then_n ?_
    exact ⟨k31, (by omega), _, H78, (IntKind.i64.wrap (x18 - 1)), F87, (x20.set (((x1.trail_.getD ((x18).toNat) (0 : Int))).toNat) t56), rfl, (by exact e22), (by exact e23), (by exact e24), (by kernel_rfl), h86, h10, b3, (List.length_set.trans n21), ((Y17.trans E68).trans E80), S88, M⟩
  replace M := ifn q32 M
  refine cond_f rfl (bf q32 (by kernel_rfl)) ?_
  refine wp_exit ?_
  refine then_e ?_
  refine then_e ?_
  refine inb_hit ?_
  refine then_n ?_
  refine wp_seq ?_
  refine wp_region_lit ?_
  refine lv (d := 34) rfl rfl (by kernel_rfl) (e_move (v := .pointer (some ⟨g2, 0, none⟩)) (by exact e22)) ?_
  refine lv (d := 35) rfl rfl (by kernel_rfl) (e_move (v := .pointer (some ⟨g2, 0, none⟩)) (by exact e22)) ?_
  refine lv (d := 36) rfl rfl (by kernel_rfl) (e_nilCheck (ad := ⟨g2, 0, none⟩) (by kernel_rfl)) ?_
  refine lv (d := 37) rfl rfl (by kernel_rfl) (e_fieldAddr (b := g2) (off := 0) (o := 1) Try.underlying91 rfl rfl (sz := 1) (by kernel_rfl) (by decide) (by kernel_rfl)) ?_
  refine lv (d := 38) rfl rfl (by kernel_rfl) (e_load1 (ad := ⟨g2, 0 + 1, none⟩) (v := .slice A8 x1.trail_.length c9) Try.underlying23 rfl (by kernel_rfl) (blk_cell b3 rfl)) ?_
  refine lv (d := 39) rfl rfl (by kernel_rfl) (e_move (v := .int .i64 x12) (by exact e23)) ?_
  obtain ⟨q92, M⟩ := chk M
  obtain ⟨q93, M⟩ := chk M
  refine lv (d := 40) rfl rfl (by kernel_rfl) (e_slice_h (xs := x1.trail_) (n := x1.trail_.length) (m := 1) (cap := c9) (A := A8) (b := x12) (k2 := .i64) Try.underlying23 (by kernel_rfl) (by kernel_rfl) (by kernel_rfl) q92 q93 (by have := h10.le; have := (rfl : x1.trail_.length = x1.trail_.length); omega) (take_len q92 q93 rfl)) ?_
  have h94 := h10.cut (n := (x12 : Int).toNat) (by have := (rfl : x1.trail_.length = x1.trail_.length); omega)
  clear h10
  refine lv (d := 41) rfl rfl (by kernel_rfl) (e_nilCheck (ad := ⟨g2, 0, none⟩) (by kernel_rfl)) ?_
  refine lv (d := 42) rfl rfl (by kernel_rfl) (e_fieldAddr (b := g2) (off := 0) (o := 1) Try.underlying91 rfl rfl (sz := 1) (by kernel_rfl) (by decide) (by kernel_rfl)) ?_
  have S95 := S26.pull (F := (is g2)) (Fr := [F19, F11]) 2 rfl rfl
  refine lse rfl rfl (by kernel_rfl) (e_store (g := g2) (o := 0 + 1) (v := .slice A8 ((x1.trail_.take ((x12 : Int).toNat)).length) c9) (cur' := #[.slice A4 x1.cells_.length c5, .slice A8 ((x1.trail_.take ((x12 : Int).toNat)).length) c9, .int .i64 x1.pairs_]) (vs := [.slice A8 ((x1.trail_.take ((x12 : Int).toNat)).length) c9]) S95 (by kernel_rfl) (by kernel_rfl) rfl (by kernel_rfl) b3 (Nat.le_of_ble_eq_true rfl) (List.forall_mem_cons.2 ⟨rfl, (fun _ h_ => by cases h_)⟩) rfl) ?_
  rintro w96 ⟨b97, S98, K99⟩
  replace h6 := h6.move (K99.at 0 rfl)
  replace h94 := h94.move (K99.at 1 rfl)
  clear b3
  refine wpList_nil ?_
  refine then_n ?_
  refine wp_region_lit ?_
  refine lv (d := 43) rfl rfl (by kernel_rfl) (e_move (v := .pointer (some ⟨g2, 0, none⟩)) (by exact e22)) ?_
  refine lv (d := 44) rfl rfl (by kernel_rfl) (e_move (v := .pointer (some ⟨g2, 0, none⟩)) (by exact e22)) ?_
  refine lv (d := 45) rfl rfl (by kernel_rfl) (e_nilCheck (ad := ⟨g2, 0, none⟩) (by kernel_rfl)) ?_
  refine lv (d := 46) rfl rfl (by kernel_rfl) (e_fieldAddr (b := g2) (off := 0) (o := 0) Try.underlying91 rfl rfl (sz := 1) (by kernel_rfl) (by decide) (by kernel_rfl)) ?_
  refine lv (d := 47) rfl rfl (by kernel_rfl) (e_load1 (ad := ⟨g2, 0 + 0, none⟩) (v := .slice A4 x1.cells_.length c5) Try.underlying32 rfl (by kernel_rfl) (blk_cell b97 rfl)) ?_
  refine lv (d := 48) rfl rfl (by kernel_rfl) (e_move (v := .int .i64 x13) (by exact e24)) ?_
  obtain ⟨q100, M⟩ := chk M
  obtain ⟨q101, M⟩ := chk M
  refine lv (d := 49) rfl rfl (by kernel_rfl) (e_slice_h (xs := x20) (n := x1.cells_.length) (m := 3) (cap := c5) (A := A4) (b := x13) (k2 := .i64) Try.underlying32 (by kernel_rfl) (by kernel_rfl) (by kernel_rfl) q100 q101 (by have := h6.le; have := (n21 : x20.length = x1.cells_.length); omega) (take_len q100 q101 n21)) ?_
  have h102 := h6.cut (n := (x13 : Int).toNat) (by have := (n21 : x20.length = x1.cells_.length); omega)
  clear h6
  refine lv (d := 50) rfl rfl (by kernel_rfl) (e_nilCheck (ad := ⟨g2, 0, none⟩) (by kernel_rfl)) ?_
  refine lv (d := 51) rfl rfl (by kernel_rfl) (e_fieldAddr (b := g2) (off := 0) (o := 0) Try.underlying91 rfl rfl (sz := 1) (by kernel_rfl) (by decide) (by kernel_rfl)) ?_
  refine lse rfl rfl (by kernel_rfl) (e_store (g := g2) (o := 0 + 0) (v := .slice A4 ((x20.take ((x13 : Int).toNat)).length) c5) (cur' := #[.slice A4 ((x20.take ((x13 : Int).toNat)).length) c5, .slice A8 ((x1.trail_.take ((x12 : Int).toNat)).length) c9, .int .i64 x1.pairs_]) (vs := [.slice A4 ((x20.take ((x13 : Int).toNat)).length) c5]) S98 (by kernel_rfl) (by kernel_rfl) rfl (by kernel_rfl) b97 (Nat.le_of_ble_eq_true rfl) (List.forall_mem_cons.2 ⟨rfl, (fun _ h_ => by cases h_)⟩) rfl) ?_
  rintro w103 ⟨b104, S105, K106⟩
  replace h102 := h102.move (K106.at 0 rfl)
  replace h94 := h94.move (K106.at 1 rfl)
  clear b97
  refine wpList_nil ?_
  obtain rfl := Option.some.inj M
  exact end0 rfl ⟨A4, c5, F19, A8, c9, F11, H16, rfl, h102, h94, b104, S105⟩

/-! spec_l1copy -/
def spec_l1copy.f (x1 : List UInt8) : Option (List UInt8) := (if 0 + x1.length ≤ 140737488355328 then some x1 else none)
theorem spec_l1copy.calls (w : World) (H : Hp) (x1 : List UInt8) (A2 : Option Addr) (c3 : Nat) (h4 : Rd tByte H A2 x1) (l5 : x1.length ≤ c3) (S : Own [] H w) (r : List UInt8) (M : spec_l1copy.f x1 = some r) :
    Calls Try.prog 48 #[.slice A2 x1.length c3] w (fun e e_w => ∃ (A_1 : Option Addr) (c_1 : Nat) (F_1 : Foot) (H_ : Hp), e = .returned (.slice A_1 r.length c_1) ∧ Row tByte 5 H_ (hp e_w) F_1 A_1 c_1 r ∧ St (anyOf []) H w [F_1] H_ e_w) := by
  rw [spec_l1copy.f] at M
  refine enter (l := [.slice A2 x1.length c3]) 7 Try.func48 rfl rfl rfl ?_
  have S0_ := S.st
  refine wp_seq ?_
  refine wp_region_lit ?_
  refine lv (d := 2) rfl rfl (by kernel_rfl) (e_assign (v := .slice none 0 0) rfl) ?_
  refine wpList_nil ?_
  refine then_n ?_
  refine wp_seq ?_
  refine wp_region_lit ?_
  refine lv (d := 3) rfl rfl (by kernel_rfl) (e_assign (v := .slice none 0 0) rfl) ?_
  refine wpList_nil ?_
  refine then_n ?_
  refine wp_seq ?_
  refine wp_region_lit ?_
  refine lv (d := 4) rfl rfl (by kernel_rfl) (e_move (v := .slice none 0 0) (by kernel_rfl)) ?_
  refine lv (d := 5) rfl rfl (by kernel_rfl) (e_move (v := .slice A2 x1.length c3) (by kernel_rfl)) ?_
  obtain ⟨y6, h7, h8⟩ := Rd.news (d := tByte) (ro_scal _ _) S0_ h4
  obtain ⟨q9, M⟩ := chk M
  have S10 := S0_.unit
  have S11 := S10.unit
  have S12 := S11.pull (F := no) (Fr := [no]) 1 rfl rfl
  refine lve (d := 6) rfl rfl (by kernel_rfl) (e_append (d := tByte) (n := 0) (xs := []) (cap := 0) (A := none) (ys := x1) (A2 := A2) (c2 := c3) (z := .int .u8 0) (bytes := 1) S12 Try.underlying26 (by kernel_rfl) rfl (by decide) (by kernel_rfl) rfl (by kernel_rfl) (Row.nil _ _ _ _ no) h7 h8 (show (0 + x1.length) * 1 ≤ _ by first | omega | (simp only [List.length_cons, List.length_nil]; omega)) (by decide)) ?_
  rintro _ w13 ⟨A14, c15, F16, rfl, h17, S18, K19⟩
  replace h17 : Row tByte 5 H (hp w13) F16 A14 c15 x1 := h17
  refine lv (d := 2) rfl rfl (by kernel_rfl) (e_assign (v := .slice A14 x1.length c15) (by kernel_rfl)) ?_
  refine wpList_nil ?_
  refine then_n ?_
  refine wp_ret ?_
  obtain rfl := Option.some.inj M
  exact ret1 rfl rfl  (show _ = .slice A14 x1.length c15 from (by kernel_rfl)) ⟨A14, c15, F16, H, rfl, h17, S18⟩

/-! spec_l10close -/
def spec_l10close.l0 : Nat → GL10heap → Int → (List Cell) → Option Store
  | 0, _, _, _ => none
  | k41 + 1, x1, x26, x27 => (if x26 < (x1.cells_.length : Int) then (if 0 ≤ x26 then ((spec_l1copy.f ((x1.cells_.getD ((x26).toNat) z36).text)).bind fun t128 => (if x27.length + 1 ≤ 3518437208883 then (spec_l10close.l0 k41 x1 (IntKind.i64.wrap (x26 + 1)) (x27 ++ [(⟨(x1.cells_.getD ((x26).toNat) z36).kind, (x1.cells_.getD ((x26).toNat) z36).n, t128⟩ : Cell)])) else none)) else none) else (if 0 + x1.trail_.length ≤ 17592186044416 then some (⟨x27, x1.trail_⟩ : Store) else none))
def spec_l10close.f (k : Nat) (x1 : GL10heap) : Option Store := (spec_l10close.l0 k x1 0 [])
theorem spec_l10close.calls (k : Nat) (w : World) (H : Hp) (x1 : GL10heap) (g2 : Nat) (A4 : Option Addr) (c5 : Nat) (F7 : Foot) (A8 : Option Addr) (c9 : Nat) (F11 : Foot) (h6 : Row (ro st36) 36 H (hp w) F7 A4 c5 x1.cells_) (h10 : Row tInt 3 H (hp w) F11 A8 c9 x1.trail_) (b3 : w.heap[g2]? = some (.cells #[.slice A4 x1.cells_.length c5, .slice A8 x1.trail_.length c9, .int .i64 x1.pairs_] 91 (0, 0))) (S : Own [F7, F11, (is g2)] H w) (r : Store) (M : spec_l10close.f k x1 = some r) :
    Calls Try.prog 57 #[.pointer (some ⟨g2, 0, none⟩)] w (fun e e_w => ∃ (A_1 : Option Addr) (c_1 : Nat) (F_1 : Foot) (A_2 : Option Addr) (c_2 : Nat) (F_2 : Foot) (H_ : Hp), e = .returned (.agg #[.slice A_1 r.cells.length c_1, .slice A_2 r.trail.length c_2]) ∧ Row (ro st36) 36 H_ (hp e_w) F7 A4 c5 x1.cells_ ∧ Row tInt 3 H_ (hp e_w) F11 A8 c9 x1.trail_ ∧ e_w.heap[g2]? = some (.cells #[.slice A4 x1.cells_.length c5, .slice A8 x1.trail_.length c9, .int .i64 x1.pairs_] 91 (0, 0)) ∧ Row st36 36 H_ (hp e_w) F_1 A_1 c_1 r.cells ∧ Row tInt 3 H_ (hp e_w) F_2 A_2 c_2 r.trail ∧ St (anyOf [F7, F11, (is g2)]) H w [F7, F11, (is g2), F_1, F_2] H_ e_w) := by
  rw [spec_l10close.f] at M
  refine enter (l := [.pointer (some ⟨g2, 0, none⟩)]) 54 Try.func57 rfl rfl rfl ?_
  have S0_ := S.st
  refine wp_seq ?_
  refine wp_region_lit ?_
  refine lve (d := 2) rfl rfl (by kernel_rfl) (new_blk (v := fun g_ => .pointer (some ⟨g_, 0, none⟩)) (cs := #[.slice none 0 0, .slice none 0 0]) (t := 34) S0_ (by kernel_rfl)) ?_
  rintro _ w12 ⟨g13, rfl, b14, S15, K16⟩
  replace h6 := h6.move (K16.at 0 rfl)
  replace h10 := h10.move (K16.at 1 rfl)
  replace b3 := K16.blk 2 rfl b3
  refine wpList_nil ?_
  refine then_n ?_
  refine wp_seq ?_
  refine wp_region_lit ?_
  refine lve (d := 3) rfl rfl (by kernel_rfl) (new_blk (v := fun g_ => .pointer (some ⟨g_, 0, none⟩)) (cs := #[.slice none 0 0, .slice none 0 0]) (t := 34) S15 (by kernel_rfl)) ?_
  rintro _ w17 ⟨g18, rfl, b19, S20, K21⟩
  replace b14 := K21.blk 0 rfl b14
  replace h6 := h6.move (K21.at 1 rfl)
  replace h10 := h10.move (K21.at 2 rfl)
  replace b3 := K21.blk 3 rfl b3
  refine wpList_nil ?_
  refine then_n ?_
  refine wp_seq ?_
  refine wp_seq ?_
  refine wp_region_lit ?_
  refine lv (d := 4) rfl rfl (by kernel_rfl) (e_assign (v := .int .i64 0) rfl) ?_
  refine wpList_nil ?_
  refine then_n ?_
  refine wp_block ?_
  have S42 := S20.unit
  have S43 := S42.pull (F := (is g2)) (Fr := [no, (is g18), (is g13), F7, F11]) 5 rfl rfl
  have S44 := S43.pull (F := F11) (Fr := [(is g2), no, (is g18), (is g13), F7]) 5 rfl rfl
  have S45 := S44.pull (F := F7) (Fr := [F11, (is g2), no, (is g18), (is g13)]) 5 rfl rfl
  have S46 := S45.pull (F := (is g13)) (Fr := [F7, F11, (is g2), no, (is g18)]) 5 rfl rfl
  have S47 := S46.pull (F := (is g18)) (Fr := [(is g13), F7, F11, (is g2), no]) 5 rfl rfl
  refine wp_loop_g (fun k39 a40 w22 => ∃ (f23 : Nat → Value) (H24 : Hp) (x26 : Int) (x27 : List Cell) (A28 : Option Addr) (c29 : Nat) (F30 : Foot), a40 = mk 54 f23 ∧ f23 0 = .pointer (some ⟨g2, 0, none⟩) ∧ f23 2 = .pointer (some ⟨g13, 0, none⟩) ∧ f23 3 = .pointer (some ⟨g18, 0, none⟩) ∧ f23 4 = .int .i64 x26 ∧ w22.heap[g18]? = some (.cells #[.slice A28 x27.length c29, .slice none 0 0] 34 (0, 0)) ∧ w22.heap[g13]? = some (.cells #[.slice none 0 0, .slice none 0 0] 34 (0, 0)) ∧ Row (ro st36) 36 H24 (hp w22) F7 A4 c5 x1.cells_ ∧ Row tInt 3 H24 (hp w22) F11 A8 c9 x1.trail_ ∧ w22.heap[g2]? = some (.cells #[.slice A4 x1.cells_.length c5, .slice A8 x1.trail_.length c9, .int .i64 x1.pairs_] 91 (0, 0)) ∧ Row st36 36 H24 (hp w22) F30 A28 c29 x27 ∧ Ext H H24 ∧ St (anyOf [F7, F11, (is g2)]) H w [(is g18), (is g13), F7, F11, (is g2), F30] H24 w22 ∧ spec_l10close.l0 k39 x1 x26 x27 = some r) k ⟨_, H, 0, [], none, 0, no, rfl, (by kernel_rfl), (by kernel_rfl), (by kernel_rfl), (by kernel_rfl), b19, b14, h6, h10, b3, (Row.nil _ _ _ _ _), (Ext.refl _), S47, M⟩ ?_
  clear M
  rintro k39 a40 w22 ⟨f23, H24, x26, x27, A28, c29, F30, rfl, e32, e33, e34, e35, b19, b14, h6, h10, b3, h31, Y25, S36, M⟩
  rcases k39 with _ | k41
  · rw [spec_l10close.l0] at M
    cases M
  rw [spec_l10close.l0] at M
  refine wp_seq ?_
  refine wp_seq ?_
  refine wp_region_lit ?_
  refine lv (d := 5) rfl rfl (by kernel_rfl) (e_move (v := .int .i64 x26) (by exact e35)) ?_
  refine lv (d := 6) rfl rfl (by kernel_rfl) (e_move (v := .pointer (some ⟨g2, 0, none⟩)) (by exact e32)) ?_
  refine lv (d := 7) rfl rfl (by kernel_rfl) (e_nilCheck (ad := ⟨g2, 0, none⟩) (by kernel_rfl)) ?_
  refine lv (d := 8) rfl rfl (by kernel_rfl) (e_fieldAddr (b := g2) (off := 0) (o := 0) Try.underlying91 rfl rfl (sz := 1) (by kernel_rfl) (by decide) (by kernel_rfl)) ?_
  refine lv (d := 9) rfl rfl (by kernel_rfl) (e_load1 (ad := ⟨g2, 0 + 0, none⟩) (v := .slice A4 x1.cells_.length c5) Try.underlying32 rfl (by kernel_rfl) (blk_cell b3 rfl)) ?_
  refine lv (d := 10) rfl rfl (by kernel_rfl) (e_len (A := A4) (n := x1.cells_.length) (c := c5) Try.underlying32 (by kernel_rfl)) ?_
  refine lv (d := 11) rfl rfl (by kernel_rfl) (e_lss (k := .i64) (a := x26) (b := (x1.cells_.length : Int)) (by kernel_rfl) (by kernel_rfl)) ?_
  refine wpList_nil ?_
  refine then_n ?_
  by_cases q48 : x26 < (x1.cells_.length : Int)
  · replace M := ifp q48 M
    refine cond_t rfl (bt q48 (by kernel_rfl)) ?_
    refine wp_skip ?_
    refine then_n ?_
    refine wp_seq ?_
    refine wp_block ?_
    refine region_mix (S := (fun (L_ : Array Bool) (w_ : World) => Ext H24 (hp w_) ∧ (L_.getD 31 true = false → (∀ b_, (is g18) b_ → hp w_ b_ = hp w22 b_)) ∧ (∀ b_, F7 b_ → hp w_ b_ = hp w22 b_) ∧ (∀ b_, (is g2) b_ → hp w_ b_ = hp w22 b_))) (by kernel_rfl) S36 ?_
    intro w49 S50 K51 hc52
    have o53 := b19
    have o54 := h6
    have o55 := b3
    have hs56 : (fun (L_ : Array Bool) (w_ : World) => Ext H24 (hp w_) ∧ (L_.getD 31 true = false → (∀ b_, (is g18) b_ → hp w_ b_ = hp w22 b_)) ∧ (∀ b_, F7 b_ → hp w_ b_ = hp w22 b_) ∧ (∀ b_, (is g2) b_ → hp w_ b_ = hp w22 b_)) (Array.replicate 32 false) w49 := ⟨S50.inv, (fun _ => (fun b_ h_ => K51.at 0 rfl b_ h_)), (fun b_ h_ => K51.at 2 rfl b_ h_), (fun b_ h_ => K51.at 4 rfl b_ h_)⟩
    replace b19 := K51.blk 0 rfl b19
    replace b14 := K51.blk 1 rfl b14
    replace h6 := h6.move (K51.at 2 rfl)
    replace h10 := h10.move (K51.at 3 rfl)
    replace b3 := K51.blk 4 rfl b3
    replace h31 := h31.move (K51.at 5 rfl)
    refine xv (i := 0) (d := 14) rfl rfl rfl (by kernel_rfl) (by kernel_rfl) (fun L_ w_ => by simp only [getD_set_ne true (show (0 : Nat) ≠ 31 by decide)]) hc52 hs56 (fun L_ w_ hc_ hu_ hs_ => e_fieldAddr (b := g18) (off := 0) (o := 0) Try.underlying34 rfl rfl (sz := 1) (by kernel_rfl) (by decide) (by exact e34)) ?_; intro hc57 hs58
    refine xv (i := 1) (d := 15) rfl rfl rfl (by kernel_rfl) (by kernel_rfl) (fun L_ w_ => by simp only [getD_set_ne true (show (1 : Nat) ≠ 31 by decide)]) hc57 hs58 (fun L_ w_ hc_ hu_ hs_ => e_load1 (ad := ⟨g18, 0 + 0, none⟩) (v := .slice A28 x27.length c29) Try.underlying32 rfl (by kernel_rfl) (blk_cell (((hs_.2.1 (unl 9 31 1 hc_ hu_ (by kernel_rfl))) _ rfl).trans o53) rfl)) ?_; intro hc59 hs60
    refine xv (i := 2) (d := 16) rfl rfl rfl (by kernel_rfl) (by kernel_rfl) (fun L_ w_ => by simp only [getD_set_ne true (show (2 : Nat) ≠ 31 by decide)]) hc59 hs60 (fun L_ w_ hc_ hu_ hs_ => e_move (v := .pointer (some ⟨g2, 0, none⟩)) (by exact e32)) ?_; intro hc61 hs62
    refine xv (i := 3) (d := 17) rfl rfl rfl (by kernel_rfl) (by kernel_rfl) (fun L_ w_ => by simp only [getD_set_ne true (show (3 : Nat) ≠ 31 by decide)]) hc61 hs62 (fun L_ w_ hc_ hu_ hs_ => e_nilCheck (ad := ⟨g2, 0, none⟩) (by kernel_rfl)) ?_; intro hc63 hs64
    refine xv (i := 4) (d := 18) rfl rfl rfl (by kernel_rfl) (by kernel_rfl) (fun L_ w_ => by simp only [getD_set_ne true (show (4 : Nat) ≠ 31 by decide)]) hc63 hs64 (fun L_ w_ hc_ hu_ hs_ => e_fieldAddr (b := g2) (off := 0) (o := 0) Try.underlying91 rfl rfl (sz := 1) (by kernel_rfl) (by decide) (by kernel_rfl)) ?_; intro hc65 hs66
    refine xv (i := 5) (d := 19) rfl rfl rfl (by kernel_rfl) (by kernel_rfl) (fun L_ w_ => by simp only [getD_set_ne true (show (5 : Nat) ≠ 31 by decide)]) hc65 hs66 (fun L_ w_ hc_ hu_ hs_ => e_load1 (ad := ⟨g2, 0 + 0, none⟩) (v := .slice A4 x1.cells_.length c5) Try.underlying32 rfl (by kernel_rfl) (blk_cell ((hs_.2.2.2 _ rfl).trans o55) rfl)) ?_; intro hc67 hs68
    refine xv (i := 6) (d := 20) rfl rfl rfl (by kernel_rfl) (by kernel_rfl) (fun L_ w_ => by simp only [getD_set_ne true (show (6 : Nat) ≠ 31 by decide)]) hc67 hs68 (fun L_ w_ hc_ hu_ hs_ => e_move (v := .int .i64 x26) (by exact e35)) ?_; intro hc69 hs70
    obtain ⟨q71, M⟩ := chk M
    obtain ⟨b72, e74⟩ := Row.addr h6 (show (x26).toNat < x1.cells_.length by omega)
    refine xv (i := 7) (d := 21) rfl rfl rfl (by kernel_rfl) (by kernel_rfl) (fun L_ w_ => by simp only [getD_set_ne true (show (7 : Nat) ≠ 31 by decide)]) hc69 hs70 (fun L_ w_ hc_ hu_ hs_ => e_indexAddr (b := b72) (off := 0) (n := x1.cells_.length) (c := c5) (sz := 3) (i := x26) (k := .i64) Try.underlying32 e74 (by kernel_rfl) (by kernel_rfl) (by kernel_rfl) q71 q48) ?_; intro hc75 hs76
    refine xv (i := 8) (d := 22) rfl rfl rfl (by kernel_rfl) (by kernel_rfl) (fun L_ w_ => by simp only [getD_set_ne true (show (8 : Nat) ≠ 31 by decide)]) hc75 hs76 (fun L_ w_ hc_ hu_ hs_ => e_fieldAddr (b := b72) (off := 0 + (x26 : Int).toNat * 3) (o := 0) Try.underlying36 rfl rfl (sz := 1) (by kernel_rfl) (by decide) (by kernel_rfl)) ?_; intro hc77 hs78
    refine xv (i := 9) (d := 23) rfl rfl rfl (by kernel_rfl) (by kernel_rfl) (fun L_ w_ => by simp only [getD_set_ne true (show (9 : Nat) ≠ 31 by decide)]) hc77 hs78 (fun L_ w_ hc_ hu_ hs_ => e_load1 (ad := ⟨b72, 0 + (x26 : Int).toNat * 3 + 0, none⟩) (v := .int .i64 ((x1.cells_.getD ((x26).toNat) z36).kind)) Try.underlying3 rfl (by kernel_rfl) (hpx (Row.pick (j := 0) (u := .int .i64 ((x1.cells_.getD ((x26).toNat) z36).kind)) (o54.move hs_.2.2.1) e74 (getD_some z36 (show (x26).toNat < x1.cells_.length by omega)) (fun _ _ o_ => st36_r0 o_)))) ?_; intro hc79 hs80
    refine xv (i := 10) (d := 24) rfl rfl rfl (by kernel_rfl) (by kernel_rfl) (fun L_ w_ => by simp only [getD_set_ne true (show (10 : Nat) ≠ 31 by decide)]) hc79 hs80 (fun L_ w_ hc_ hu_ hs_ => e_move (v := .pointer (some ⟨g2, 0, none⟩)) (by exact e32)) ?_; intro hc81 hs82
    refine xv (i := 11) (d := 25) rfl rfl rfl (by kernel_rfl) (by kernel_rfl) (fun L_ w_ => by simp only [getD_set_ne true (show (11 : Nat) ≠ 31 by decide)]) hc81 hs82 (fun L_ w_ hc_ hu_ hs_ => e_nilCheck (ad := ⟨g2, 0, none⟩) (by kernel_rfl)) ?_; intro hc83 hs84
    refine xv (i := 12) (d := 26) rfl rfl rfl (by kernel_rfl) (by kernel_rfl) (fun L_ w_ => by simp only [getD_set_ne true (show (12 : Nat) ≠ 31 by decide)]) hc83 hs84 (fun L_ w_ hc_ hu_ hs_ => e_fieldAddr (b := g2) (off := 0) (o := 0) Try.underlying91 rfl rfl (sz := 1) (by kernel_rfl) (by decide) (by kernel_rfl)) ?_; intro hc85 hs86
    refine xv (i := 13) (d := 27) rfl rfl rfl (by kernel_rfl) (by kernel_rfl) (fun L_ w_ => by simp only [getD_set_ne true (show (13 : Nat) ≠ 31 by decide)]) hc85 hs86 (fun L_ w_ hc_ hu_ hs_ => e_load1 (ad := ⟨g2, 0 + 0, none⟩) (v := .slice A4 x1.cells_.length c5) Try.underlying32 rfl (by kernel_rfl) (blk_cell ((hs_.2.2.2 _ rfl).trans o55) rfl)) ?_; intro hc87 hs88
    refine xv (i := 14) (d := 28) rfl rfl rfl (by kernel_rfl) (by kernel_rfl) (fun L_ w_ => by simp only [getD_set_ne true (show (14 : Nat) ≠ 31 by decide)]) hc87 hs88 (fun L_ w_ hc_ hu_ hs_ => e_move (v := .int .i64 x26) (by exact e35)) ?_; intro hc89 hs90
    obtain ⟨b91, e93⟩ := Row.addr h6 (show (x26).toNat < x1.cells_.length by omega)
    refine xv (i := 15) (d := 29) rfl rfl rfl (by kernel_rfl) (by kernel_rfl) (fun L_ w_ => by simp only [getD_set_ne true (show (15 : Nat) ≠ 31 by decide)]) hc89 hs90 (fun L_ w_ hc_ hu_ hs_ => e_indexAddr (b := b91) (off := 0) (n := x1.cells_.length) (c := c5) (sz := 3) (i := x26) (k := .i64) Try.underlying32 e93 (by kernel_rfl) (by kernel_rfl) (by kernel_rfl) q71 q48) ?_; intro hc94 hs95
    refine xv (i := 16) (d := 30) rfl rfl rfl (by kernel_rfl) (by kernel_rfl) (fun L_ w_ => by simp only [getD_set_ne true (show (16 : Nat) ≠ 31 by decide)]) hc94 hs95 (fun L_ w_ hc_ hu_ hs_ => e_fieldAddr (b := b91) (off := 0 + (x26 : Int).toNat * 3) (o := 1) Try.underlying36 rfl rfl (sz := 1) (by kernel_rfl) (by decide) (by kernel_rfl)) ?_; intro hc96 hs97
    refine xv (i := 17) (d := 31) rfl rfl rfl (by kernel_rfl) (by kernel_rfl) (fun L_ w_ => by simp only [getD_set_ne true (show (17 : Nat) ≠ 31 by decide)]) hc96 hs97 (fun L_ w_ hc_ hu_ hs_ => e_load1 (ad := ⟨b91, 0 + (x26 : Int).toNat * 3 + 1, none⟩) (v := .int .i64 ((x1.cells_.getD ((x26).toNat) z36).n)) Try.underlying3 rfl (by kernel_rfl) (hpx (Row.pick (j := 1) (u := .int .i64 ((x1.cells_.getD ((x26).toNat) z36).n)) (o54.move hs_.2.2.1) e93 (getD_some z36 (show (x26).toNat < x1.cells_.length by omega)) (fun _ _ o_ => st36_r1 o_)))) ?_; intro hc98 hs99
    refine xv (i := 18) (d := 32) rfl rfl rfl (by kernel_rfl) (by kernel_rfl) (fun L_ w_ => by simp only [getD_set_ne true (show (18 : Nat) ≠ 31 by decide)]) hc98 hs99 (fun L_ w_ hc_ hu_ hs_ => e_move (v := .pointer (some ⟨g2, 0, none⟩)) (by exact e32)) ?_; intro hc100 hs101
    refine xv (i := 19) (d := 33) rfl rfl rfl (by kernel_rfl) (by kernel_rfl) (fun L_ w_ => by simp only [getD_set_ne true (show (19 : Nat) ≠ 31 by decide)]) hc100 hs101 (fun L_ w_ hc_ hu_ hs_ => e_nilCheck (ad := ⟨g2, 0, none⟩) (by kernel_rfl)) ?_; intro hc102 hs103
    refine xv (i := 20) (d := 34) rfl rfl rfl (by kernel_rfl) (by kernel_rfl) (fun L_ w_ => by simp only [getD_set_ne true (show (20 : Nat) ≠ 31 by decide)]) hc102 hs103 (fun L_ w_ hc_ hu_ hs_ => e_fieldAddr (b := g2) (off := 0) (o := 0) Try.underlying91 rfl rfl (sz := 1) (by kernel_rfl) (by decide) (by kernel_rfl)) ?_; intro hc104 hs105
    refine xv (i := 21) (d := 35) rfl rfl rfl (by kernel_rfl) (by kernel_rfl) (fun L_ w_ => by simp only [getD_set_ne true (show (21 : Nat) ≠ 31 by decide)]) hc104 hs105 (fun L_ w_ hc_ hu_ hs_ => e_load1 (ad := ⟨g2, 0 + 0, none⟩) (v := .slice A4 x1.cells_.length c5) Try.underlying32 rfl (by kernel_rfl) (blk_cell ((hs_.2.2.2 _ rfl).trans o55) rfl)) ?_; intro hc106 hs107
    refine xone (i := 22) (by kernel_rfl) hc106 ?_
    refine yo (i := 22) (d := 36) rfl rfl (wanted_none rfl _) (by kernel_rfl) (by kernel_rfl) (fun L_ w_ => by simp only [getD_set_ne true (show (22 : Nat) ≠ 31 by decide)]) hs107 (e_move (v := .int .i64 x26) (by exact e35)) ?_; intro hc108 hs109
    obtain ⟨b110, e112⟩ := Row.addr h6 (show (x26).toNat < x1.cells_.length by omega)
    refine xone (i := 23) (by kernel_rfl) hc108 ?_
    refine yo (i := 23) (d := 37) rfl rfl (wanted_none rfl _) (by kernel_rfl) (by kernel_rfl) (fun L_ w_ => by simp only [getD_set_ne true (show (23 : Nat) ≠ 31 by decide)]) hs109 (e_indexAddr (b := b110) (off := 0) (n := x1.cells_.length) (c := c5) (sz := 3) (i := x26) (k := .i64) Try.underlying32 e112 (by kernel_rfl) (by kernel_rfl) (by kernel_rfl) q71 q48) ?_; intro hc113 hs114
    refine xone (i := 24) (by kernel_rfl) hc113 ?_
    refine yo (i := 24) (d := 38) rfl rfl (wanted_none rfl _) (by kernel_rfl) (by kernel_rfl) (fun L_ w_ => by simp only [getD_set_ne true (show (24 : Nat) ≠ 31 by decide)]) hs114 (e_fieldAddr (b := b110) (off := 0 + (x26 : Int).toNat * 3) (o := 2) Try.underlying36 rfl rfl (sz := 1) (by kernel_rfl) (by decide) (by kernel_rfl)) ?_; intro hc115 hs116
    obtain ⟨y117, F118, r119, s120, k121⟩ := Row.at h6 e112 (getD_some z36 (show (x26).toNat < x1.cells_.length by omega))
    obtain ⟨A122, c123, rfl, l124, h125⟩ := st36_open r119
    refine xone (i := 25) (by kernel_rfl) hc115 ?_
    refine yo (i := 25) (d := 39) rfl rfl (wanted_none rfl _) (by kernel_rfl) (by kernel_rfl) (fun L_ w_ => by simp only [getD_set_ne true (show (25 : Nat) ≠ 31 by decide)]) hs116 (e_load1 (ad := ⟨b110, 0 + (x26 : Int).toNat * 3 + 2, none⟩) (v := .slice A122 ((x1.cells_.getD ((x26).toNat) z36).text).length c123) Try.underlying26 rfl (by kernel_rfl) (hpx (k121 2 _ rfl))) ?_; intro hc126 hs127
    obtain ⟨t128, u129, M⟩ := bnd M
    refine xone (i := 26) (by kernel_rfl) hc126 ?_
    refine yc (i := 26) rfl (wanted_none rfl _) (by kernel_rfl) (by kernel_rfl) (e_call (l := [.tmp 39]) (vs := [.slice A122 ((x1.cells_.getD ((x26).toNat) z36).text).length c123]) Try.func48 (by kernel_rfl) rfl (by kernel_rfl) rfl) (spec_l1copy.calls w49 H24 ((x1.cells_.getD ((x26).toNat) z36).text) A122 c123 h125 l124 (St.own' (Fa := []) (Fr := [(is g18), (is g13), F7, F11, (is g2), F30]) S50) t128 u129) ?_
    rintro hc137 _ w130 ⟨A133, c134, F136, H131, rfl, h135, T132⟩
    refine ⟨_, rfl, ?_⟩
    obtain ⟨S138, K139⟩ := St.call (Fa := []) (Fr := [(is g18), (is g13), F7, F11, (is g2), F30]) S50 T132
    replace b19 := K139.blk 0 rfl b19
    replace b14 := K139.blk 1 rfl b14
    replace h6 := h6.move (K139.at 2 rfl)
    replace h10 := h10.move (K139.at 3 rfl)
    replace b3 := K139.blk 4 rfl b3
    replace h31 := h31.move (K139.at 5 rfl)
    have E140 := T132.ext
    replace h6 := h6.ext E140
    replace h10 := h10.ext E140
    replace h31 := h31.ext E140
    refine ⟨⟨(Ext.trans E140 S138.inv), (fun q_ => (fun b_ h_ => (K139.at 0 rfl b_ h_).trans ((hs127.2.1 (by decide +kernel)) b_ h_))), (fun b_ h_ => (K139.at 2 rfl b_ h_).trans (hs127.2.2.1 b_ h_)), (fun b_ h_ => (K139.at 4 rfl b_ h_).trans (hs127.2.2.2 b_ h_))⟩, fun hs141 => ?_⟩
    refine xone (i := 27) (by kernel_rfl) hc137 ?_
    refine yo (i := 27) (d := 41) rfl rfl (wanted_none rfl _) (by kernel_rfl) (by kernel_rfl) (fun L_ w_ => by simp only [getD_set_ne true (show (27 : Nat) ≠ 31 by decide)]) hs141 (show _ = Result.ok (Next.value (.agg #[.int .i64 ((x1.cells_.getD ((x26).toNat) z36).kind), .int .i64 ((x1.cells_.getD ((x26).toNat) z36).n), .slice A133 t128.length c134])) w130 from by kernel_rfl) ?_; intro hc142 hs143
    refine xone (i := 28) (by kernel_rfl) hc142 ?_
    refine ye (i := 28) (d := 42) rfl rfl (wanted_none rfl _) (by kernel_rfl) (by kernel_rfl) (new_blk (v := fun g_ => .slice (some ⟨g_, 0, none⟩) 1 1) (cs := #[.int .i64 ((x1.cells_.getD ((x26).toNat) z36).kind), .int .i64 ((x1.cells_.getD ((x26).toNat) z36).n), .slice A133 t128.length c134]) (t := 36) S138 (by kernel_rfl)) ?_
    rintro hc149 _ w144 ⟨g145, rfl, b146, S147, K148⟩
    replace h135 := h135.move (K148.at 0 rfl)
    replace b19 := K148.blk 1 rfl b19
    replace b14 := K148.blk 2 rfl b14
    replace h6 := h6.move (K148.at 3 rfl)
    replace h10 := h10.move (K148.at 4 rfl)
    replace b3 := K148.blk 5 rfl b3
    replace h31 := h31.move (K148.at 6 rfl)
    refine ⟨⟨(Ext.trans E140 S147.inv), (fun q_ => (fun b_ h_ => (K148.at 1 rfl b_ h_).trans ((hs143.2.1 (by decide +kernel)) b_ h_))), (fun b_ h_ => (K148.at 3 rfl b_ h_).trans (hs143.2.2.1 b_ h_)), (fun b_ h_ => (K148.at 5 rfl b_ h_).trans (hs143.2.2.2 b_ h_))⟩, fun hs150 => ?_⟩
    obtain ⟨q151, M⟩ := chk M
    have S152 := S147.pull (F := F136) (Fr := [(is g145), (is g18), (is g13), F7, F11, (is g2), F30]) 1 rfl rfl
    have S153 := S152.pull (F := F30) (Fr := [F136, (is g145), (is g18), (is g13), F7, F11, (is g2)]) 7 rfl rfl
    refine xone (i := 29) (by kernel_rfl) hc149 ?_
    refine ye (i := 29) (d := 43) rfl rfl (wanted_none rfl _) (by kernel_rfl) (by kernel_rfl) (e_append (d := st36) (n := x27.length) (xs := x27) (cap := c29) (A := A28) (ys := [(⟨(x1.cells_.getD ((x26).toNat) z36).kind, (x1.cells_.getD ((x26).toNat) z36).n, t128⟩ : Cell)]) (A2 := (some ⟨g145, 0, none⟩)) (c2 := 1) (z := .agg #[.int .i64 0, .int .i64 0, .slice none 0 0]) (bytes := 40) S153 Try.underlying32 (by kernel_rfl) rfl (by decide) (by kernel_rfl) rfl (by kernel_rfl) h31 (elsO_one1 (st36_mkO (x := (⟨(x1.cells_.getD ((x26).toNat) z36).kind, (x1.cells_.getD ((x26).toNat) z36).n, t128⟩ : Cell)) h135)) (.inr (blk_news b146 rfl)) (show (x27.length + [(⟨(x1.cells_.getD ((x26).toNat) z36).kind, (x1.cells_.getD ((x26).toNat) z36).n, t128⟩ : Cell)].length) * 40 ≤ _ by first | omega | (simp only [List.length_cons, List.length_nil]; omega)) (by decide)) ?_
    rintro hc161 _ w154 ⟨A155, c156, F157, rfl, h158, S159, K160⟩
    replace b146 := K160.blk 0 rfl b146
    replace b19 := K160.blk 1 rfl b19
    replace b14 := K160.blk 2 rfl b14
    replace h6 := h6.move (K160.at 3 rfl)
    replace h10 := h10.move (K160.at 4 rfl)
    replace b3 := K160.blk 5 rfl b3
    refine ⟨⟨(Ext.trans E140 S159.inv), (fun q_ => (fun b_ h_ => (K160.at 1 rfl b_ h_).trans ((hs150.2.1 (by decide +kernel)) b_ h_))), (fun b_ h_ => (K160.at 3 rfl b_ h_).trans (hs150.2.2.1 b_ h_)), (fun b_ h_ => (K160.at 5 rfl b_ h_).trans (hs150.2.2.2 b_ h_))⟩, fun hs162 => ?_⟩
    refine xone (i := 30) (by kernel_rfl) hc161 ?_
    refine yo (i := 30) (d := 44) rfl rfl (wanted_none rfl _) (by kernel_rfl) (by kernel_rfl) (fun L_ w_ => by simp only [getD_set_ne true (show (30 : Nat) ≠ 31 by decide)]) hs162 (e_fieldAddr (b := g18) (off := 0) (o := 0) Try.underlying34 rfl rfl (sz := 1) (by kernel_rfl) (by decide) (by exact e34)) ?_; intro hc163 hs164
    have S165 := S159.pull (F := (is g18)) (Fr := [F157, (is g145), (is g13), F7, F11, (is g2)]) 2 rfl rfl
    refine xone (i := 31) (by kernel_rfl) hc163 ?_
    refine ys (i := 31) rfl rfl (wanted_none rfl _) (by kernel_rfl) (by kernel_rfl) (e_store (g := g18) (o := 0 + 0) (v := .slice A155 ((x27 ++ [(⟨(x1.cells_.getD ((x26).toNat) z36).kind, (x1.cells_.getD ((x26).toNat) z36).n, t128⟩ : Cell)]).length) c156) (cur' := #[.slice A155 ((x27 ++ [(⟨(x1.cells_.getD ((x26).toNat) z36).kind, (x1.cells_.getD ((x26).toNat) z36).n, t128⟩ : Cell)]).length) c156, .slice none 0 0]) (vs := [.slice A155 ((x27 ++ [(⟨(x1.cells_.getD ((x26).toNat) z36).kind, (x1.cells_.getD ((x26).toNat) z36).n, t128⟩ : Cell)]).length) c156]) S165 (by kernel_rfl) (by kernel_rfl) rfl (by kernel_rfl) b19 (Nat.le_of_ble_eq_true rfl) (List.forall_mem_cons.2 ⟨rfl, (fun _ h_ => by cases h_)⟩) rfl) ?_
    rintro hc170 w166 ⟨b167, S168, K169⟩
    replace h158 := h158.move (K169.at 0 rfl)
    replace b146 := K169.blk 1 rfl b146
    replace b14 := K169.blk 2 rfl b14
    replace h6 := h6.move (K169.at 3 rfl)
    replace h10 := h10.move (K169.at 4 rfl)
    replace b3 := K169.blk 5 rfl b3
    refine ⟨⟨(Ext.trans E140 S168.inv), (fun q_ => absurd q_ (by decide +kernel)), (fun b_ h_ => (K169.at 3 rfl b_ h_).trans (hs164.2.2.1 b_ h_)), (fun b_ h_ => (K169.at 5 rfl b_ h_).trans (hs164.2.2.2 b_ h_))⟩, fun hs171 => ?_⟩
    clear b19
    refine xn (by kernel_rfl) ?_ _
    refine inb_n ?_
    refine then_n ?_
    refine wp_region_lit ?_
    refine lv (d := 12) rfl rfl (by kernel_rfl) (e_move (v := .int .i64 x26) (by exact e35)) ?_
    refine lv (d := 13) rfl rfl (by kernel_rfl) (e_add (k := .i64) (a := x26) (b := 1) (by kernel_rfl) rfl) ?_
    refine lv (d := 4) rfl rfl (by kernel_rfl) (e_assign (v := .int .i64 (IntKind.i64.wrap (x26 + 1))) (by kernel_rfl)) ?_
    refine wpList_nil ?_
    refine then_n ?_
    have S172 := S168.pull (F := F157) (Fr := [(is g18), (is g145), (is g13), F7, F11, (is g2)]) 1 rfl rfl
    have S173 := S172.pull (F := (is g2)) (Fr := [F157, (is g18), (is g145), (is g13), F7, F11]) 6 rfl rfl
    have S174 := S173.pull (F := F11) (Fr := [(is g2), F157, (is g18), (is g145), (is g13), F7]) 6 rfl rfl
    have S175 := S174.pull (F := F7) (Fr := [F11, (is g2), F157, (is g18), (is g145), (is g13)]) 6 rfl rfl
    have S176 := S175.pull (F := (is g13)) (Fr := [F7, F11, (is g2), F157, (is g18), (is g145)]) 6 rfl rfl
    have S177 := S176.pull (F := (is g18)) (Fr := [(is g13), F7, F11, (is g2), F157, (is g145)]) 5 rfl rfl
    have S178 := St.first (Fa := [(is g18), (is g13), F7, F11, (is g2), F157]) (Fr := [(is g145)]) S177
    exact ⟨k41, (by omega), _, H131, (IntKind.i64.wrap (x26 + 1)), (x27 ++ [(⟨(x1.cells_.getD ((x26).toNat) z36).kind, (x1.cells_.getD ((x26).toNat) z36).n, t128⟩ : Cell)]), A155, c156, F157, rfl, (by exact e32), (by exact e33), (by exact e34), (by kernel_rfl), b167, b14, h6, h10, b3, h158, (Y25.trans E140), S178, M⟩
  replace M := ifn q48 M
  refine cond_f rfl (bf q48 (by kernel_rfl)) ?_
  refine wp_exit ?_
  refine then_e ?_
  refine then_e ?_
  refine inb_hit ?_
  refine then_n ?_
  refine wp_seq ?_
  refine region_mix (S := (fun (L_ : Array Bool) (w_ : World) => Ext H24 (hp w_) ∧ (L_.getD 8 true = false → (∀ b_, (is g18) b_ → hp w_ b_ = hp w22 b_)))) (by kernel_rfl) S36 ?_
  intro w179 S180 K181 hc182
  have o183 := b19
  have hs184 : (fun (L_ : Array Bool) (w_ : World) => Ext H24 (hp w_) ∧ (L_.getD 8 true = false → (∀ b_, (is g18) b_ → hp w_ b_ = hp w22 b_))) (Array.replicate 9 false) w179 := ⟨S180.inv, (fun _ => (fun b_ h_ => K181.at 0 rfl b_ h_))⟩
  replace b19 := K181.blk 0 rfl b19
  replace b14 := K181.blk 1 rfl b14
  replace h6 := h6.move (K181.at 2 rfl)
  replace h10 := h10.move (K181.at 3 rfl)
  replace b3 := K181.blk 4 rfl b3
  replace h31 := h31.move (K181.at 5 rfl)
  refine xv (i := 0) (d := 45) rfl rfl rfl (by kernel_rfl) (by kernel_rfl) (fun L_ w_ => by simp only [getD_set_ne true (show (0 : Nat) ≠ 8 by decide)]) hc182 hs184 (fun L_ w_ hc_ hu_ hs_ => e_fieldAddr (b := g18) (off := 0) (o := 1) Try.underlying34 rfl rfl (sz := 1) (by kernel_rfl) (by decide) (by exact e34)) ?_; intro hc185 hs186
  refine xv (i := 1) (d := 46) rfl rfl rfl (by kernel_rfl) (by kernel_rfl) (fun L_ w_ => by simp only [getD_set_ne true (show (1 : Nat) ≠ 8 by decide)]) hc185 hs186 (fun L_ w_ hc_ hu_ hs_ => e_load1 (ad := ⟨g18, 0 + 1, none⟩) (v := .slice none 0 0) Try.underlying23 rfl (by kernel_rfl) (blk_cell (((hs_.2 (unl 9 8 1 hc_ hu_ (by kernel_rfl))) _ rfl).trans o183) rfl)) ?_; intro hc187 hs188
  refine xone (i := 2) (by kernel_rfl) hc187 ?_
  refine yo (i := 2) (d := 47) rfl rfl (wanted_none rfl _) (by kernel_rfl) (by kernel_rfl) (fun L_ w_ => by simp only [getD_set_ne true (show (2 : Nat) ≠ 8 by decide)]) hs188 (e_move (v := .pointer (some ⟨g2, 0, none⟩)) (by exact e32)) ?_; intro hc189 hs190
  refine xone (i := 3) (by kernel_rfl) hc189 ?_
  refine yo (i := 3) (d := 48) rfl rfl (wanted_none rfl _) (by kernel_rfl) (by kernel_rfl) (fun L_ w_ => by simp only [getD_set_ne true (show (3 : Nat) ≠ 8 by decide)]) hs190 (e_nilCheck (ad := ⟨g2, 0, none⟩) (by kernel_rfl)) ?_; intro hc191 hs192
  refine xone (i := 4) (by kernel_rfl) hc191 ?_
  refine yo (i := 4) (d := 49) rfl rfl (wanted_none rfl _) (by kernel_rfl) (by kernel_rfl) (fun L_ w_ => by simp only [getD_set_ne true (show (4 : Nat) ≠ 8 by decide)]) hs192 (e_fieldAddr (b := g2) (off := 0) (o := 1) Try.underlying91 rfl rfl (sz := 1) (by kernel_rfl) (by decide) (by kernel_rfl)) ?_; intro hc193 hs194
  refine xone (i := 5) (by kernel_rfl) hc193 ?_
  refine yo (i := 5) (d := 50) rfl rfl (wanted_none rfl _) (by kernel_rfl) (by kernel_rfl) (fun L_ w_ => by simp only [getD_set_ne true (show (5 : Nat) ≠ 8 by decide)]) hs194 (e_load1 (ad := ⟨g2, 0 + 1, none⟩) (v := .slice A8 x1.trail_.length c9) Try.underlying23 rfl (by kernel_rfl) (blk_cell b3 rfl)) ?_; intro hc195 hs196
  obtain ⟨y197, h198, h199⟩ := Row.news0 (d := tInt) (oo_scal _ _) h10
  obtain ⟨q200, M⟩ := chk M
  have S201 := S180.unit
  have S202 := S201.unit
  have S203 := S202.pull (F := no) (Fr := [no, (is g18), (is g13), F7, F11, (is g2), F30]) 1 rfl rfl
  refine xone (i := 6) (by kernel_rfl) hc195 ?_
  refine ye (i := 6) (d := 51) rfl rfl (wanted_none rfl _) (by kernel_rfl) (by kernel_rfl) (e_append (d := tInt) (n := 0) (xs := []) (cap := 0) (A := none) (ys := x1.trail_) (A2 := A8) (c2 := c9) (z := .int .i64 0) (bytes := 8) S203 Try.underlying23 (by kernel_rfl) rfl (by decide) (by kernel_rfl) rfl (by kernel_rfl) (Row.nil _ _ _ _ no) h198 h199 (show (0 + x1.trail_.length) * 8 ≤ _ by first | omega | (simp only [List.length_cons, List.length_nil]; omega)) (by decide)) ?_
  rintro hc211 _ w204 ⟨A205, c206, F207, rfl, h208, S209, K210⟩
  replace b19 := K210.blk 0 rfl b19
  replace b14 := K210.blk 1 rfl b14
  replace h6 := h6.move (K210.at 2 rfl)
  replace h10 := h10.move (K210.at 3 rfl)
  replace b3 := K210.blk 4 rfl b3
  replace h31 := h31.move (K210.at 5 rfl)
  refine ⟨⟨S209.inv, (fun q_ => (fun b_ h_ => (K210.at 0 rfl b_ h_).trans ((hs196.2 (by decide +kernel)) b_ h_)))⟩, fun hs212 => ?_⟩
  replace h208 : Row tInt 3 H24 (hp w204) F207 A205 c206 x1.trail_ := h208
  refine xone (i := 7) (by kernel_rfl) hc211 ?_
  refine yo (i := 7) (d := 52) rfl rfl (wanted_none rfl _) (by kernel_rfl) (by kernel_rfl) (fun L_ w_ => by simp only [getD_set_ne true (show (7 : Nat) ≠ 8 by decide)]) hs212 (e_fieldAddr (b := g18) (off := 0) (o := 1) Try.underlying34 rfl rfl (sz := 1) (by kernel_rfl) (by decide) (by exact e34)) ?_; intro hc213 hs214
  have S215 := S209.pull (F := (is g18)) (Fr := [F207, (is g13), F7, F11, (is g2), F30]) 1 rfl rfl
  refine xone (i := 8) (by kernel_rfl) hc213 ?_
  refine ys (i := 8) rfl rfl (wanted_none rfl _) (by kernel_rfl) (by kernel_rfl) (e_store (g := g18) (o := 0 + 1) (v := .slice A205 x1.trail_.length c206) (cur' := #[.slice A28 x27.length c29, .slice A205 x1.trail_.length c206]) (vs := [.slice A205 x1.trail_.length c206]) S215 (by kernel_rfl) (by kernel_rfl) rfl (by kernel_rfl) b19 (Nat.le_of_ble_eq_true rfl) (List.forall_mem_cons.2 ⟨rfl, (fun _ h_ => by cases h_)⟩) rfl) ?_
  rintro hc220 w216 ⟨b217, S218, K219⟩
  replace h208 := h208.move (K219.at 0 rfl)
  replace b14 := K219.blk 1 rfl b14
  replace h6 := h6.move (K219.at 2 rfl)
  replace h10 := h10.move (K219.at 3 rfl)
  replace b3 := K219.blk 4 rfl b3
  replace h31 := h31.move (K219.at 5 rfl)
  refine ⟨⟨S218.inv, (fun q_ => absurd q_ (by decide +kernel))⟩, fun hs221 => ?_⟩
  clear b19
  refine xn (by kernel_rfl) ?_ _
  refine then_n ?_
  refine wp_seq ?_
  refine wp_region_lit ?_
  refine lv (d := 53) rfl rfl (by kernel_rfl) (e_loadS (b := g18) (off := 0) (cs := [.slice A28 x27.length c29, .slice A205 x1.trail_.length c206]) Try.underlying34 rfl (by kernel_rfl) (by exact e34) (blk_cells b217 rfl)) ?_
  have S222 := S218.pull (F := (is g13)) (Fr := [(is g18), F207, F7, F11, (is g2), F30]) 2 rfl rfl
  refine lse rfl rfl (by kernel_rfl) (e_store (g := g13) (o := 0) (v := .agg #[.slice A28 x27.length c29, .slice A205 x1.trail_.length c206]) (cur' := #[.slice A28 x27.length c29, .slice A205 x1.trail_.length c206]) (vs := [.slice A28 x27.length c29, .slice A205 x1.trail_.length c206]) S222 (by exact e33) (by kernel_rfl) rfl (by kernel_rfl) b14 (Nat.le_of_ble_eq_true rfl) (List.forall_mem_cons.2 ⟨rfl, (List.forall_mem_cons.2 ⟨rfl, (fun _ h_ => by cases h_)⟩)⟩) rfl) ?_
  rintro w223 ⟨b224, S225, K226⟩
  replace b217 := K226.blk 0 rfl b217
  replace h208 := h208.move (K226.at 1 rfl)
  replace h6 := h6.move (K226.at 2 rfl)
  replace h10 := h10.move (K226.at 3 rfl)
  replace b3 := K226.blk 4 rfl b3
  replace h31 := h31.move (K226.at 5 rfl)
  clear b14
  refine wpList_nil ?_
  refine then_n ?_
  refine wp_ret ?_
  obtain rfl := Option.some.inj M
  have S227 := S225.pull (F := F207) (Fr := [(is g13), (is g18), F7, F11, (is g2), F30]) 2 rfl rfl
  have S228 := S227.pull (F := F30) (Fr := [F207, (is g13), (is g18), F7, F11, (is g2)]) 6 rfl rfl
  have S229 := S228.pull (F := (is g2)) (Fr := [F30, F207, (is g13), (is g18), F7, F11]) 6 rfl rfl
  have S230 := S229.pull (F := F11) (Fr := [(is g2), F30, F207, (is g13), (is g18), F7]) 6 rfl rfl
  have S231 := S230.pull (F := F7) (Fr := [F11, (is g2), F30, F207, (is g13), (is g18)]) 6 rfl rfl
  have S232 := St.first (Fa := [F7, F11, (is g2), F30, F207]) (Fr := [(is g13), (is g18)]) S231
  exact retS (ty := 34) (cur := #[.slice A28 x27.length c29, .slice A205 x1.trail_.length c206]) rfl rfl (by exact e33) b224 Try.underlying34 rfl (by kernel_rfl) ⟨A28, c29, F30, A205, c206, F207, H24, rfl, h6, h10, b3, h31, h208, S232⟩

/-! spec_Unwind -/
def spec_Unwind.l0 : Nat → Store → Int → Int → Int → Option (Store × Int)
  | 0, _, _, _, _ => none
  | k86 + 1, x1, x10, x11, x75 => (if x75 < x11 then (if 0 ≤ x75 then (if x75 < (x1.cells.length : Int) then (if ((x1.cells.getD ((x75).toNat) z36).kind) = 3 then (if (IntKind.i64.wrap (x75 + ((x1.cells.getD ((x75).toNat) z36).n))) ≥ x11 then some ((⟨[], []⟩ : Store), 1) else (spec_Unwind.l0 k86 x1 x10 x11 (IntKind.i64.wrap (x75 + 1)))) else (spec_Unwind.l0 k86 x1 x10 x11 (IntKind.i64.wrap (x75 + 1)))) else none) else none) else ((spec_l10open.f x1).bind fun t120 => ((spec_l10unwind.f k86 t120 x10 x11).bind fun t140 => ((spec_l10close.f k86 t140).bind fun t159 => ((spec_l10valid.f k86 t159).bind fun t187 => (if ¬ (t187 = true) then some ((⟨[], []⟩ : Store), 4) else some (t159, 0)))))))
def spec_Unwind.f (k : Nat) (x1 : Store) (x10 : Int) (x11 : Int) : Option (Store × Int) := ((spec_l10valid.f k x1).bind fun t22 => (if ¬ (t22 = true) then some ((⟨[], []⟩ : Store), 1) else (if x10 < 0 then some ((⟨[], []⟩ : Store), 1) else (if x10 > (x1.trail.length : Int) then some ((⟨[], []⟩ : Store), 1) else (if x11 < 0 then some ((⟨[], []⟩ : Store), 1) else (if x11 > (x1.cells.length : Int) then some ((⟨[], []⟩ : Store), 1) else (spec_Unwind.l0 k x1 x10 x11 0)))))))
theorem spec_Unwind.calls (k : Nat) (w : World) (H : Hp) (x1 : Store) (A2 : Option Addr) (c3 : Nat) (A6 : Option Addr) (c7 : Nat) (x10 : Int) (x11 : Int) (h4 : Rd st36 H A2 x1.cells) (l5 : x1.cells.length ≤ c3) (h8 : Rd tInt H A6 x1.trail) (l9 : x1.trail.length ≤ c7) (S : Own [] H w) (r : Store × Int) (M : spec_Unwind.f k x1 x10 x11 = some r) :
    Calls Try.prog 27 #[.agg #[.slice A2 x1.cells.length c3, .slice A6 x1.trail.length c7], .int .i64 x10, .int .i64 x11] w (fun e e_w => ∃ (A_1 : Option Addr) (c_1 : Nat) (F_1 : Foot) (A_2 : Option Addr) (c_2 : Nat) (F_2 : Foot) (H_ : Hp), e = .returned (.tuple #[.agg #[.slice A_1 r.1.cells.length c_1, .slice A_2 r.1.trail.length c_2], .int .i64 r.2]) ∧ Row st36 36 H_ (hp e_w) F_1 A_1 c_1 r.1.cells ∧ Row tInt 3 H_ (hp e_w) F_2 A_2 c_2 r.1.trail ∧ St (anyOf []) H w [F_1, F_2] H_ e_w) := by
  rw [spec_Unwind.f] at M
  refine enter (l := [.agg #[.slice A2 x1.cells.length c3, .slice A6 x1.trail.length c7], .int .i64 x10, .int .i64 x11]) 75 Try.func27 rfl rfl rfl ?_
  have S0_ := S.st
  refine wp_seq ?_
  refine wp_region_lit ?_
  refine lve (d := 3) rfl rfl (by kernel_rfl) (new_blk (v := fun g_ => .pointer (some ⟨g_, 0, none⟩)) (cs := #[.slice A2 x1.cells.length c3, .slice A6 x1.trail.length c7]) (t := 34) S0_ (by kernel_rfl)) ?_
  rintro _ w12 ⟨g13, rfl, b14, S15, K16⟩
  refine lve (d := 6) rfl rfl (by kernel_rfl) (new_blk (v := fun g_ => .pointer (some ⟨g_, 0, none⟩)) (cs := #[.slice none 0 0, .slice none 0 0]) (t := 34) S15 (by kernel_rfl)) ?_
  rintro _ w17 ⟨g18, rfl, b19, S20, K21⟩
  replace b14 := K21.blk 0 rfl b14
  refine lv (d := 7) rfl rfl (by kernel_rfl) (e_assign (v := .int .i64 0) rfl) ?_
  refine wpList_nil ?_
  refine then_n ?_
  refine wp_seq ?_
  refine wp_seq ?_
  refine wp_region_lit ?_
  refine lv (d := 11) rfl rfl (by kernel_rfl) (e_loadS (b := g13) (off := 0) (cs := [.slice A2 x1.cells.length c3, .slice A6 x1.trail.length c7]) Try.underlying34 rfl (by kernel_rfl) (by kernel_rfl) (blk_cells b14 rfl)) ?_
  obtain ⟨t22, u23, M⟩ := bnd M
  refine lcall (d := 12) rfl rfl (by kernel_rfl) (e_call (l := [.tmp 11]) (vs := [.agg #[.slice A2 x1.cells.length c3, .slice A6 x1.trail.length c7]]) Try.func37 (by kernel_rfl) rfl (by kernel_rfl) rfl) (spec_l10valid.calls k w17 H x1 A2 c3 A6 c7 h4 l5 h8 l9 S20.own0 t22 u23) ?_
  rintro _ w24 ⟨rfl, C25⟩
  refine ⟨_, rfl, ?_⟩
  obtain ⟨S26, K27⟩ := S20.still C25
  replace b19 := K27.blk 0 rfl b19
  replace b14 := K27.blk 1 rfl b14
  refine lv (d := 13) rfl rfl (by kernel_rfl) (e_notv (c := t22) (by kernel_rfl)) ?_
  refine lv (d := 14) rfl rfl (by kernel_rfl) (e_move (v := .bool (decide (¬ (t22 = true)))) (by kernel_rfl)) ?_
  by_cases q28 : ¬ (t22 = true)
  · replace M := ifp q28 M
    refine lskip (t := 14) (c := true) rfl (by kernel_rfl) rfl (bt q28 (by kernel_rfl)) rfl rfl ?_
    refine lskip (t := 14) (c := true) rfl (by kernel_rfl) rfl (bt q28 (by kernel_rfl)) rfl rfl ?_
    refine lv (d := 17) rfl rfl (by kernel_rfl) (e_pick_t (v := .bool true) (bt q28 (by kernel_rfl)) rfl) ?_
    refine lv (d := 18) rfl rfl (by kernel_rfl) (e_move (v := .bool true) (by kernel_rfl)) ?_
    refine lskip (t := 18) (c := true) rfl (by kernel_rfl) rfl (by kernel_rfl) rfl rfl ?_
    refine lskip (t := 18) (c := true) rfl (by kernel_rfl) rfl (by kernel_rfl) rfl rfl ?_
    refine lskip (t := 18) (c := true) rfl (by kernel_rfl) rfl (by kernel_rfl) rfl rfl ?_
    refine lskip (t := 18) (c := true) rfl (by kernel_rfl) rfl (by kernel_rfl) rfl rfl ?_
    refine lskip (t := 18) (c := true) rfl (by kernel_rfl) rfl (by kernel_rfl) rfl rfl ?_
    refine lv (d := 24) rfl rfl (by kernel_rfl) (e_pick_t (v := .bool true) (by kernel_rfl) rfl) ?_
    refine lv (d := 25) rfl rfl (by kernel_rfl) (e_move (v := .bool true) (by kernel_rfl)) ?_
    refine lskip (t := 25) (c := true) rfl (by kernel_rfl) rfl (by kernel_rfl) rfl rfl ?_
    refine lskip (t := 25) (c := true) rfl (by kernel_rfl) rfl (by kernel_rfl) rfl rfl ?_
    refine lv (d := 28) rfl rfl (by kernel_rfl) (e_pick_t (v := .bool true) (by kernel_rfl) rfl) ?_
    refine lv (d := 29) rfl rfl (by kernel_rfl) (e_move (v := .bool true) (by kernel_rfl)) ?_
    refine lskip (t := 29) (c := true) rfl (by kernel_rfl) rfl (by kernel_rfl) rfl rfl ?_
    refine lskip (t := 29) (c := true) rfl (by kernel_rfl) rfl (by kernel_rfl) rfl rfl ?_
    refine lskip (t := 29) (c := true) rfl (by kernel_rfl) rfl (by kernel_rfl) rfl rfl ?_
    refine lskip (t := 29) (c := true) rfl (by kernel_rfl) rfl (by kernel_rfl) rfl rfl ?_
    refine lskip (t := 29) (c := true) rfl (by kernel_rfl) rfl (by kernel_rfl) rfl rfl ?_
    refine lv (d := 35) rfl rfl (by kernel_rfl) (e_pick_t (v := .bool true) (by kernel_rfl) rfl) ?_
    refine wpList_nil ?_
    refine then_n ?_
    refine cond_t rfl (by kernel_rfl) ?_
    refine wp_seq ?_
    refine wp_region_lit ?_
    refine lv (d := 36) rfl rfl (by kernel_rfl) (show _ = Result.ok (Next.value (.agg #[.slice none 0 0, .slice none 0 0])) w24 from by kernel_rfl) ?_
    refine lse rfl rfl (by kernel_rfl) (e_store (g := g18) (o := 0) (v := .agg #[.slice none 0 0, .slice none 0 0]) (cur' := #[.slice none 0 0, .slice none 0 0]) (vs := [.slice none 0 0, .slice none 0 0]) S26 (by kernel_rfl) (by kernel_rfl) rfl (by kernel_rfl) b19 (Nat.le_of_ble_eq_true rfl) (List.forall_mem_cons.2 ⟨rfl, (List.forall_mem_cons.2 ⟨rfl, (fun _ h_ => by cases h_)⟩)⟩) rfl) ?_
    rintro w29 ⟨b30, S31, K32⟩
    replace b14 := K32.blk 0 rfl b14
    clear b19
    refine lv (d := 7) rfl rfl (by kernel_rfl) (e_assign (v := .int .i64 1) rfl) ?_
    refine wpList_nil ?_
    refine then_n ?_
    refine wp_ret ?_
    refine then_r ?_
    obtain rfl := Option.some.inj M
    have S33 := S31.unit
    have S34 := S33.unit
    have S35 := S34.pull (F := no) (Fr := [no, (is g18), (is g13)]) 1 rfl rfl
    have S36 := St.first (Fa := [no, no]) (Fr := [(is g18), (is g13)]) S35
    exact retST (ty := 34) (cur := #[.slice none 0 0, .slice none 0 0]) rfl rfl rfl (by kernel_rfl) b30 Try.underlying34 rfl (by kernel_rfl) (show _ = .int .i64 1 from (by kernel_rfl)) ⟨none, 0, no, none, 0, no, H, rfl, (Row.nil _ _ _ _ no), (Row.nil _ _ _ _ no), S36⟩
  replace M := ifn q28 M
  refine lvg (d := 15) (t := 14) rfl (by kernel_rfl) rfl (bf q28 (by kernel_rfl)) rfl (by kernel_rfl) (e_move (v := .int .i64 x10) (by kernel_rfl)) ?_
  refine lvg (d := 16) (t := 14) rfl (by kernel_rfl) rfl (bf q28 (by kernel_rfl)) rfl (by kernel_rfl) (e_lss (k := .i64) (a := x10) (b := 0) (by kernel_rfl) rfl) ?_
  refine lv (d := 17) rfl rfl (by kernel_rfl) (e_pick_f (v := .bool (decide (x10 < 0))) (bf q28 (by kernel_rfl)) (by kernel_rfl)) ?_
  refine lv (d := 18) rfl rfl (by kernel_rfl) (e_move (v := .bool (decide (x10 < 0))) (by kernel_rfl)) ?_
  by_cases q37 : x10 < 0
  · replace M := ifp q37 M
    refine lskip (t := 18) (c := true) rfl (by kernel_rfl) rfl (bt q37 (by kernel_rfl)) rfl rfl ?_
    refine lskip (t := 18) (c := true) rfl (by kernel_rfl) rfl (bt q37 (by kernel_rfl)) rfl rfl ?_
    refine lskip (t := 18) (c := true) rfl (by kernel_rfl) rfl (bt q37 (by kernel_rfl)) rfl rfl ?_
    refine lskip (t := 18) (c := true) rfl (by kernel_rfl) rfl (bt q37 (by kernel_rfl)) rfl rfl ?_
    refine lskip (t := 18) (c := true) rfl (by kernel_rfl) rfl (bt q37 (by kernel_rfl)) rfl rfl ?_
    refine lv (d := 24) rfl rfl (by kernel_rfl) (e_pick_t (v := .bool true) (bt q37 (by kernel_rfl)) rfl) ?_
    refine lv (d := 25) rfl rfl (by kernel_rfl) (e_move (v := .bool true) (by kernel_rfl)) ?_
    refine lskip (t := 25) (c := true) rfl (by kernel_rfl) rfl (by kernel_rfl) rfl rfl ?_
    refine lskip (t := 25) (c := true) rfl (by kernel_rfl) rfl (by kernel_rfl) rfl rfl ?_
    refine lv (d := 28) rfl rfl (by kernel_rfl) (e_pick_t (v := .bool true) (by kernel_rfl) rfl) ?_
    refine lv (d := 29) rfl rfl (by kernel_rfl) (e_move (v := .bool true) (by kernel_rfl)) ?_
    refine lskip (t := 29) (c := true) rfl (by kernel_rfl) rfl (by kernel_rfl) rfl rfl ?_
    refine lskip (t := 29) (c := true) rfl (by kernel_rfl) rfl (by kernel_rfl) rfl rfl ?_
    refine lskip (t := 29) (c := true) rfl (by kernel_rfl) rfl (by kernel_rfl) rfl rfl ?_
    refine lskip (t := 29) (c := true) rfl (by kernel_rfl) rfl (by kernel_rfl) rfl rfl ?_
    refine lskip (t := 29) (c := true) rfl (by kernel_rfl) rfl (by kernel_rfl) rfl rfl ?_
    refine lv (d := 35) rfl rfl (by kernel_rfl) (e_pick_t (v := .bool true) (by kernel_rfl) rfl) ?_
    refine wpList_nil ?_
    refine then_n ?_
    refine cond_t rfl (by kernel_rfl) ?_
    refine wp_seq ?_
    refine wp_region_lit ?_
    refine lv (d := 36) rfl rfl (by kernel_rfl) (show _ = Result.ok (Next.value (.agg #[.slice none 0 0, .slice none 0 0])) w24 from by kernel_rfl) ?_
    refine lse rfl rfl (by kernel_rfl) (e_store (g := g18) (o := 0) (v := .agg #[.slice none 0 0, .slice none 0 0]) (cur' := #[.slice none 0 0, .slice none 0 0]) (vs := [.slice none 0 0, .slice none 0 0]) S26 (by kernel_rfl) (by kernel_rfl) rfl (by kernel_rfl) b19 (Nat.le_of_ble_eq_true rfl) (List.forall_mem_cons.2 ⟨rfl, (List.forall_mem_cons.2 ⟨rfl, (fun _ h_ => by cases h_)⟩)⟩) rfl) ?_
    rintro w38 ⟨b39, S40, K41⟩
    replace b14 := K41.blk 0 rfl b14
    clear b19
    refine lv (d := 7) rfl rfl (by kernel_rfl) (e_assign (v := .int .i64 1) rfl) ?_
    refine wpList_nil ?_
    refine then_n ?_
    refine wp_ret ?_
    refine then_r ?_
    obtain rfl := Option.some.inj M
    have S42 := S40.unit
    have S43 := S42.unit
    have S44 := S43.pull (F := no) (Fr := [no, (is g18), (is g13)]) 1 rfl rfl
    have S45 := St.first (Fa := [no, no]) (Fr := [(is g18), (is g13)]) S44
    exact retST (ty := 34) (cur := #[.slice none 0 0, .slice none 0 0]) rfl rfl rfl (by kernel_rfl) b39 Try.underlying34 rfl (by kernel_rfl) (show _ = .int .i64 1 from (by kernel_rfl)) ⟨none, 0, no, none, 0, no, H, rfl, (Row.nil _ _ _ _ no), (Row.nil _ _ _ _ no), S45⟩
  replace M := ifn q37 M
  refine lvg (d := 19) (t := 18) rfl (by kernel_rfl) rfl (bf q37 (by kernel_rfl)) rfl (by kernel_rfl) (e_move (v := .int .i64 x10) (by kernel_rfl)) ?_
  refine lvg (d := 20) (t := 18) rfl (by kernel_rfl) rfl (bf q37 (by kernel_rfl)) rfl (by kernel_rfl) (e_fieldAddr (b := g13) (off := 0) (o := 1) Try.underlying34 rfl rfl (sz := 1) (by kernel_rfl) (by decide) (by kernel_rfl)) ?_
  refine lvg (d := 21) (t := 18) rfl (by kernel_rfl) rfl (bf q37 (by kernel_rfl)) rfl (by kernel_rfl) (e_load1 (ad := ⟨g13, 0 + 1, none⟩) (v := .slice A6 x1.trail.length c7) Try.underlying23 rfl (by kernel_rfl) (blk_cell b14 rfl)) ?_
  refine lvg (d := 22) (t := 18) rfl (by kernel_rfl) rfl (bf q37 (by kernel_rfl)) rfl (by kernel_rfl) (e_len (A := A6) (n := x1.trail.length) (c := c7) Try.underlying23 (by kernel_rfl)) ?_
  refine lvg (d := 23) (t := 18) rfl (by kernel_rfl) rfl (bf q37 (by kernel_rfl)) rfl (by kernel_rfl) (e_gtr (k := .i64) (a := x10) (b := (x1.trail.length : Int)) (by kernel_rfl) (by kernel_rfl)) ?_
  refine lv (d := 24) rfl rfl (by kernel_rfl) (e_pick_f (v := .bool (decide (x10 > (x1.trail.length : Int)))) (bf q37 (by kernel_rfl)) (by kernel_rfl)) ?_
  refine lv (d := 25) rfl rfl (by kernel_rfl) (e_move (v := .bool (decide (x10 > (x1.trail.length : Int)))) (by kernel_rfl)) ?_
  by_cases q46 : x10 > (x1.trail.length : Int)
  · replace M := ifp q46 M
    refine lskip (t := 25) (c := true) rfl (by kernel_rfl) rfl (bt q46 (by kernel_rfl)) rfl rfl ?_
    refine lskip (t := 25) (c := true) rfl (by kernel_rfl) rfl (bt q46 (by kernel_rfl)) rfl rfl ?_
    refine lv (d := 28) rfl rfl (by kernel_rfl) (e_pick_t (v := .bool true) (bt q46 (by kernel_rfl)) rfl) ?_
    refine lv (d := 29) rfl rfl (by kernel_rfl) (e_move (v := .bool true) (by kernel_rfl)) ?_
    refine lskip (t := 29) (c := true) rfl (by kernel_rfl) rfl (by kernel_rfl) rfl rfl ?_
    refine lskip (t := 29) (c := true) rfl (by kernel_rfl) rfl (by kernel_rfl) rfl rfl ?_
    refine lskip (t := 29) (c := true) rfl (by kernel_rfl) rfl (by kernel_rfl) rfl rfl ?_
    refine lskip (t := 29) (c := true) rfl (by kernel_rfl) rfl (by kernel_rfl) rfl rfl ?_
    refine lskip (t := 29) (c := true) rfl (by kernel_rfl) rfl (by kernel_rfl) rfl rfl ?_
    refine lv (d := 35) rfl rfl (by kernel_rfl) (e_pick_t (v := .bool true) (by kernel_rfl) rfl) ?_
    refine wpList_nil ?_
    refine then_n ?_
    refine cond_t rfl (by kernel_rfl) ?_
    refine wp_seq ?_
    refine wp_region_lit ?_
    refine lv (d := 36) rfl rfl (by kernel_rfl) (show _ = Result.ok (Next.value (.agg #[.slice none 0 0, .slice none 0 0])) w24 from by kernel_rfl) ?_
    refine lse rfl rfl (by kernel_rfl) (e_store (g := g18) (o := 0) (v := .agg #[.slice none 0 0, .slice none 0 0]) (cur' := #[.slice none 0 0, .slice none 0 0]) (vs := [.slice none 0 0, .slice none 0 0]) S26 (by kernel_rfl) (by kernel_rfl) rfl (by kernel_rfl) b19 (Nat.le_of_ble_eq_true rfl) (List.forall_mem_cons.2 ⟨rfl, (List.forall_mem_cons.2 ⟨rfl, (fun _ h_ => by cases h_)⟩)⟩) rfl) ?_
    rintro w47 ⟨b48, S49, K50⟩
    replace b14 := K50.blk 0 rfl b14
    clear b19
    refine lv (d := 7) rfl rfl (by kernel_rfl) (e_assign (v := .int .i64 1) rfl) ?_
    refine wpList_nil ?_
    refine then_n ?_
    refine wp_ret ?_
    refine then_r ?_
    obtain rfl := Option.some.inj M
    have S51 := S49.unit
    have S52 := S51.unit
    have S53 := S52.pull (F := no) (Fr := [no, (is g18), (is g13)]) 1 rfl rfl
    have S54 := St.first (Fa := [no, no]) (Fr := [(is g18), (is g13)]) S53
    exact retST (ty := 34) (cur := #[.slice none 0 0, .slice none 0 0]) rfl rfl rfl (by kernel_rfl) b48 Try.underlying34 rfl (by kernel_rfl) (show _ = .int .i64 1 from (by kernel_rfl)) ⟨none, 0, no, none, 0, no, H, rfl, (Row.nil _ _ _ _ no), (Row.nil _ _ _ _ no), S54⟩
  replace M := ifn q46 M
  refine lvg (d := 26) (t := 25) rfl (by kernel_rfl) rfl (bf q46 (by kernel_rfl)) rfl (by kernel_rfl) (e_move (v := .int .i64 x11) (by kernel_rfl)) ?_
  refine lvg (d := 27) (t := 25) rfl (by kernel_rfl) rfl (bf q46 (by kernel_rfl)) rfl (by kernel_rfl) (e_lss (k := .i64) (a := x11) (b := 0) (by kernel_rfl) rfl) ?_
  refine lv (d := 28) rfl rfl (by kernel_rfl) (e_pick_f (v := .bool (decide (x11 < 0))) (bf q46 (by kernel_rfl)) (by kernel_rfl)) ?_
  refine lv (d := 29) rfl rfl (by kernel_rfl) (e_move (v := .bool (decide (x11 < 0))) (by kernel_rfl)) ?_
  by_cases q55 : x11 < 0
  · replace M := ifp q55 M
    refine lskip (t := 29) (c := true) rfl (by kernel_rfl) rfl (bt q55 (by kernel_rfl)) rfl rfl ?_
    refine lskip (t := 29) (c := true) rfl (by kernel_rfl) rfl (bt q55 (by kernel_rfl)) rfl rfl ?_
    refine lskip (t := 29) (c := true) rfl (by kernel_rfl) rfl (bt q55 (by kernel_rfl)) rfl rfl ?_
    refine lskip (t := 29) (c := true) rfl (by kernel_rfl) rfl (bt q55 (by kernel_rfl)) rfl rfl ?_
    refine lskip (t := 29) (c := true) rfl (by kernel_rfl) rfl (bt q55 (by kernel_rfl)) rfl rfl ?_
    refine lv (d := 35) rfl rfl (by kernel_rfl) (e_pick_t (v := .bool true) (bt q55 (by kernel_rfl)) rfl) ?_
    refine wpList_nil ?_
    refine then_n ?_
    refine cond_t rfl (by kernel_rfl) ?_
    refine wp_seq ?_
    refine wp_region_lit ?_
    refine lv (d := 36) rfl rfl (by kernel_rfl) (show _ = Result.ok (Next.value (.agg #[.slice none 0 0, .slice none 0 0])) w24 from by kernel_rfl) ?_
    refine lse rfl rfl (by kernel_rfl) (e_store (g := g18) (o := 0) (v := .agg #[.slice none 0 0, .slice none 0 0]) (cur' := #[.slice none 0 0, .slice none 0 0]) (vs := [.slice none 0 0, .slice none 0 0]) S26 (by kernel_rfl) (by kernel_rfl) rfl (by kernel_rfl) b19 (Nat.le_of_ble_eq_true rfl) (List.forall_mem_cons.2 ⟨rfl, (List.forall_mem_cons.2 ⟨rfl, (fun _ h_ => by cases h_)⟩)⟩) rfl) ?_
    rintro w56 ⟨b57, S58, K59⟩
    replace b14 := K59.blk 0 rfl b14
    clear b19
    refine lv (d := 7) rfl rfl (by kernel_rfl) (e_assign (v := .int .i64 1) rfl) ?_
    refine wpList_nil ?_
    refine then_n ?_
    refine wp_ret ?_
    refine then_r ?_
    obtain rfl := Option.some.inj M
    have S60 := S58.unit
    have S61 := S60.unit
    have S62 := S61.pull (F := no) (Fr := [no, (is g18), (is g13)]) 1 rfl rfl
    have S63 := St.first (Fa := [no, no]) (Fr := [(is g18), (is g13)]) S62
    exact retST (ty := 34) (cur := #[.slice none 0 0, .slice none 0 0]) rfl rfl rfl (by kernel_rfl) b57 Try.underlying34 rfl (by kernel_rfl) (show _ = .int .i64 1 from (by kernel_rfl)) ⟨none, 0, no, none, 0, no, H, rfl, (Row.nil _ _ _ _ no), (Row.nil _ _ _ _ no), S63⟩
  replace M := ifn q55 M
  refine lvg (d := 30) (t := 29) rfl (by kernel_rfl) rfl (bf q55 (by kernel_rfl)) rfl (by kernel_rfl) (e_move (v := .int .i64 x11) (by kernel_rfl)) ?_
  refine lvg (d := 31) (t := 29) rfl (by kernel_rfl) rfl (bf q55 (by kernel_rfl)) rfl (by kernel_rfl) (e_fieldAddr (b := g13) (off := 0) (o := 0) Try.underlying34 rfl rfl (sz := 1) (by kernel_rfl) (by decide) (by kernel_rfl)) ?_
  refine lvg (d := 32) (t := 29) rfl (by kernel_rfl) rfl (bf q55 (by kernel_rfl)) rfl (by kernel_rfl) (e_load1 (ad := ⟨g13, 0 + 0, none⟩) (v := .slice A2 x1.cells.length c3) Try.underlying32 rfl (by kernel_rfl) (blk_cell b14 rfl)) ?_
  refine lvg (d := 33) (t := 29) rfl (by kernel_rfl) rfl (bf q55 (by kernel_rfl)) rfl (by kernel_rfl) (e_len (A := A2) (n := x1.cells.length) (c := c3) Try.underlying32 (by kernel_rfl)) ?_
  refine lvg (d := 34) (t := 29) rfl (by kernel_rfl) rfl (bf q55 (by kernel_rfl)) rfl (by kernel_rfl) (e_gtr (k := .i64) (a := x11) (b := (x1.cells.length : Int)) (by kernel_rfl) (by kernel_rfl)) ?_
  refine lv (d := 35) rfl rfl (by kernel_rfl) (e_pick_f (v := .bool (decide (x11 > (x1.cells.length : Int)))) (bf q55 (by kernel_rfl)) (by kernel_rfl)) ?_
  refine wpList_nil ?_
  refine then_n ?_
  by_cases q64 : x11 > (x1.cells.length : Int)
  · replace M := ifp q64 M
    refine cond_t rfl (bt q64 (by kernel_rfl)) ?_
    refine wp_seq ?_
    refine wp_region_lit ?_
    refine lv (d := 36) rfl rfl (by kernel_rfl) (show _ = Result.ok (Next.value (.agg #[.slice none 0 0, .slice none 0 0])) w24 from by kernel_rfl) ?_
    refine lse rfl rfl (by kernel_rfl) (e_store (g := g18) (o := 0) (v := .agg #[.slice none 0 0, .slice none 0 0]) (cur' := #[.slice none 0 0, .slice none 0 0]) (vs := [.slice none 0 0, .slice none 0 0]) S26 (by kernel_rfl) (by kernel_rfl) rfl (by kernel_rfl) b19 (Nat.le_of_ble_eq_true rfl) (List.forall_mem_cons.2 ⟨rfl, (List.forall_mem_cons.2 ⟨rfl, (fun _ h_ => by cases h_)⟩)⟩) rfl) ?_
    rintro w65 ⟨b66, S67, K68⟩
    replace b14 := K68.blk 0 rfl b14
    clear b19
    refine lv (d := 7) rfl rfl (by kernel_rfl) (e_assign (v := .int .i64 1) rfl) ?_
    refine wpList_nil ?_
    refine then_n ?_
    refine wp_ret ?_
    refine then_r ?_
    obtain rfl := Option.some.inj M
    have S69 := S67.unit
    have S70 := S69.unit
    have S71 := S70.pull (F := no) (Fr := [no, (is g18), (is g13)]) 1 rfl rfl
    have S72 := St.first (Fa := [no, no]) (Fr := [(is g18), (is g13)]) S71
    exact retST (ty := 34) (cur := #[.slice none 0 0, .slice none 0 0]) rfl rfl rfl (by kernel_rfl) b66 Try.underlying34 rfl (by kernel_rfl) (show _ = .int .i64 1 from (by kernel_rfl)) ⟨none, 0, no, none, 0, no, H, rfl, (Row.nil _ _ _ _ no), (Row.nil _ _ _ _ no), S72⟩
  replace M := ifn q64 M
  refine cond_f rfl (bf q64 (by kernel_rfl)) ?_
  refine wp_skip ?_
  refine then_n ?_
  refine wp_seq ?_
  refine wp_seq ?_
  refine wp_region_lit ?_
  refine lv (d := 8) rfl rfl (by kernel_rfl) (e_assign (v := .int .i64 0) rfl) ?_
  refine wpList_nil ?_
  refine then_n ?_
  refine wp_block ?_
  refine wp_loop_g (fun k84 a85 w73 => ∃ (f74 : Nat → Value) (x75 : Int), a85 = mk 75 f74 ∧ f74 1 = .int .i64 x10 ∧ f74 2 = .int .i64 x11 ∧ f74 3 = .pointer (some ⟨g13, 0, none⟩) ∧ f74 6 = .pointer (some ⟨g18, 0, none⟩) ∧ f74 8 = .int .i64 x75 ∧ w73.heap[g18]? = some (.cells #[.slice none 0 0, .slice none 0 0] 34 (0, 0)) ∧ w73.heap[g13]? = some (.cells #[.slice A2 x1.cells.length c3, .slice A6 x1.trail.length c7] 34 (0, 0)) ∧ St (anyOf []) H w [(is g18), (is g13)] H w73 ∧ spec_Unwind.l0 k84 x1 x10 x11 x75 = some r) k ⟨_, 0, rfl, (by kernel_rfl), (by kernel_rfl), (by kernel_rfl), (by kernel_rfl), (by kernel_rfl), b19, b14, S26, M⟩ ?_
  clear M
  rintro k84 a85 w73 ⟨f74, x75, rfl, e76, e77, e78, e79, e80, b19, b14, S81, M⟩
  rcases k84 with _ | k86
  · rw [spec_Unwind.l0] at M
    cases M
  rw [spec_Unwind.l0] at M
  refine wp_seq ?_
  refine wp_seq ?_
  refine wp_region_lit ?_
  refine lv (d := 37) rfl rfl (by kernel_rfl) (e_move (v := .int .i64 x75) (by exact e80)) ?_
  refine lv (d := 38) rfl rfl (by kernel_rfl) (e_move (v := .int .i64 x11) (by exact e77)) ?_
  refine lv (d := 39) rfl rfl (by kernel_rfl) (e_lss (k := .i64) (a := x75) (b := x11) (by kernel_rfl) (by kernel_rfl)) ?_
  refine wpList_nil ?_
  refine then_n ?_
  by_cases q87 : x75 < x11
  · replace M := ifp q87 M
    refine cond_t rfl (bt q87 (by kernel_rfl)) ?_
    refine wp_skip ?_
    refine then_n ?_
    refine wp_seq ?_
    refine wp_block ?_
    refine wp_seq ?_
    refine wp_region_lit ?_
    refine lv (d := 42) rfl rfl (by kernel_rfl) (e_fieldAddr (b := g13) (off := 0) (o := 0) Try.underlying34 rfl rfl (sz := 1) (by kernel_rfl) (by decide) (by exact e78)) ?_
    refine lv (d := 43) rfl rfl (by kernel_rfl) (e_load1 (ad := ⟨g13, 0 + 0, none⟩) (v := .slice A2 x1.cells.length c3) Try.underlying32 rfl (by kernel_rfl) (blk_cell b14 rfl)) ?_
    refine lv (d := 44) rfl rfl (by kernel_rfl) (e_move (v := .int .i64 x75) (by exact e80)) ?_
    obtain ⟨q88, M⟩ := chk M
    obtain ⟨q89, M⟩ := chk M
    obtain ⟨b90, o91, e92⟩ := Rd.addr h4 (show (x75).toNat < x1.cells.length by omega)
    obtain ⟨y93, r94, k95⟩ := Rd.at h4 e92 (getD_some z36 (show (x75).toNat < x1.cells.length by omega))
    obtain ⟨A96, c97, rfl, l98, h99⟩ := st36_open r94
    refine lv (d := 45) rfl rfl (by kernel_rfl) (e_indexAddr (b := b90) (off := o91) (n := x1.cells.length) (c := c3) (sz := 3) (i := x75) (k := .i64) Try.underlying32 e92 (by kernel_rfl) (by kernel_rfl) (by kernel_rfl) q88 q89) ?_
    refine lv (d := 46) rfl rfl (by kernel_rfl) (e_fieldAddr (b := b90) (off := o91 + (x75 : Int).toNat * 3) (o := 0) Try.underlying36 rfl rfl (sz := 1) (by kernel_rfl) (by decide) (by kernel_rfl)) ?_
    refine lv (d := 47) rfl rfl (by kernel_rfl) (e_load1 (ad := ⟨b90, o91 + (x75 : Int).toNat * 3 + 0, none⟩) (v := .int .i64 ((x1.cells.getD ((x75).toNat) z36).kind)) Try.underlying3 rfl (by kernel_rfl) (hpx (S81.inv.cell (k95 0 _ rfl)))) ?_
    refine lv (d := 48) rfl rfl (by kernel_rfl) (e_eql (k := .i64) (a := (x1.cells.getD ((x75).toNat) z36).kind) (b := 3) (by kernel_rfl) rfl) ?_
    refine lv (d := 49) rfl rfl (by kernel_rfl) (e_move (v := .bool (decide (((x1.cells.getD ((x75).toNat) z36).kind) = 3))) (by kernel_rfl)) ?_
    by_cases q100 : ((x1.cells.getD ((x75).toNat) z36).kind) = 3
    · replace M := ifp q100 M
      refine lvg (d := 50) (t := 49) rfl (by kernel_rfl) rfl (bt q100 (by kernel_rfl)) rfl (by kernel_rfl) (e_move (v := .int .i64 x75) (by exact e80)) ?_
      refine lvg (d := 51) (t := 49) rfl (by kernel_rfl) rfl (bt q100 (by kernel_rfl)) rfl (by kernel_rfl) (e_fieldAddr (b := g13) (off := 0) (o := 0) Try.underlying34 rfl rfl (sz := 1) (by kernel_rfl) (by decide) (by exact e78)) ?_
      refine lvg (d := 52) (t := 49) rfl (by kernel_rfl) rfl (bt q100 (by kernel_rfl)) rfl (by kernel_rfl) (e_load1 (ad := ⟨g13, 0 + 0, none⟩) (v := .slice A2 x1.cells.length c3) Try.underlying32 rfl (by kernel_rfl) (blk_cell b14 rfl)) ?_
      refine lvg (d := 53) (t := 49) rfl (by kernel_rfl) rfl (bt q100 (by kernel_rfl)) rfl (by kernel_rfl) (e_move (v := .int .i64 x75) (by exact e80)) ?_
      obtain ⟨b101, o102, e103⟩ := Rd.addr h4 (show (x75).toNat < x1.cells.length by omega)
      obtain ⟨y104, r105, k106⟩ := Rd.at h4 e103 (getD_some z36 (show (x75).toNat < x1.cells.length by omega))
      obtain ⟨A107, c108, rfl, l109, h110⟩ := st36_open r105
      refine lvg (d := 54) (t := 49) rfl (by kernel_rfl) rfl (bt q100 (by kernel_rfl)) rfl (by kernel_rfl) (e_indexAddr (b := b101) (off := o102) (n := x1.cells.length) (c := c3) (sz := 3) (i := x75) (k := .i64) Try.underlying32 e103 (by kernel_rfl) (by kernel_rfl) (by kernel_rfl) q88 q89) ?_
      refine lvg (d := 55) (t := 49) rfl (by kernel_rfl) rfl (bt q100 (by kernel_rfl)) rfl (by kernel_rfl) (e_fieldAddr (b := b101) (off := o102 + (x75 : Int).toNat * 3) (o := 1) Try.underlying36 rfl rfl (sz := 1) (by kernel_rfl) (by decide) (by kernel_rfl)) ?_
      refine lvg (d := 56) (t := 49) rfl (by kernel_rfl) rfl (bt q100 (by kernel_rfl)) rfl (by kernel_rfl) (e_load1 (ad := ⟨b101, o102 + (x75 : Int).toNat * 3 + 1, none⟩) (v := .int .i64 ((x1.cells.getD ((x75).toNat) z36).n)) Try.underlying3 rfl (by kernel_rfl) (hpx (S81.inv.cell (k106 1 _ rfl)))) ?_
      refine lvg (d := 57) (t := 49) rfl (by kernel_rfl) rfl (bt q100 (by kernel_rfl)) rfl (by kernel_rfl) (e_add (k := .i64) (a := x75) (b := (x1.cells.getD ((x75).toNat) z36).n) (by kernel_rfl) (by kernel_rfl)) ?_
      refine lvg (d := 58) (t := 49) rfl (by kernel_rfl) rfl (bt q100 (by kernel_rfl)) rfl (by kernel_rfl) (e_move (v := .int .i64 x11) (by exact e77)) ?_
      refine lvg (d := 59) (t := 49) rfl (by kernel_rfl) rfl (bt q100 (by kernel_rfl)) rfl (by kernel_rfl) (e_geq (k := .i64) (a := (IntKind.i64.wrap (x75 + ((x1.cells.getD ((x75).toNat) z36).n)))) (b := x11) (by kernel_rfl) (by kernel_rfl)) ?_
      refine lv (d := 60) rfl rfl (by kernel_rfl) (e_pick_t (v := .bool (decide ((IntKind.i64.wrap (x75 + ((x1.cells.getD ((x75).toNat) z36).n))) ≥ x11))) (bt q100 (by kernel_rfl)) (by kernel_rfl)) ?_
      refine wpList_nil ?_
      refine then_n ?_
      by_cases q111 : (IntKind.i64.wrap (x75 + ((x1.cells.getD ((x75).toNat) z36).n))) ≥ x11
      · replace M := ifp q111 M
        refine cond_t rfl (bt q111 (by kernel_rfl)) ?_
        refine wp_seq ?_
        refine wp_region_lit ?_
        refine lv (d := 61) rfl rfl (by kernel_rfl) (show _ = Result.ok (Next.value (.agg #[.slice none 0 0, .slice none 0 0])) w73 from by kernel_rfl) ?_
        refine lse rfl rfl (by kernel_rfl) (e_store (g := g18) (o := 0) (v := .agg #[.slice none 0 0, .slice none 0 0]) (cur' := #[.slice none 0 0, .slice none 0 0]) (vs := [.slice none 0 0, .slice none 0 0]) S81 (by exact e79) (by kernel_rfl) rfl (by kernel_rfl) b19 (Nat.le_of_ble_eq_true rfl) (List.forall_mem_cons.2 ⟨rfl, (List.forall_mem_cons.2 ⟨rfl, (fun _ h_ => by cases h_)⟩)⟩) rfl) ?_
        rintro w112 ⟨b113, S114, K115⟩
        replace b14 := K115.blk 0 rfl b14
        clear b19
        refine lv (d := 7) rfl rfl (by kernel_rfl) (e_assign (v := .int .i64 1) rfl) ?_
        refine wpList_nil ?_
        refine then_n ?_
        refine wp_ret ?_
        refine inb_r ?_
        refine then_r ?_
        refine then_r ?_
        refine inb_r ?_
        refine then_r ?_
        obtain rfl := Option.some.inj M
        have S116 := S114.unit
        have S117 := S116.unit
        have S118 := S117.pull (F := no) (Fr := [no, (is g18), (is g13)]) 1 rfl rfl
        have S119 := St.first (Fa := [no, no]) (Fr := [(is g18), (is g13)]) S118
        exact retST (ty := 34) (cur := #[.slice none 0 0, .slice none 0 0]) rfl rfl rfl (by exact e79) b113 Try.underlying34 rfl (by kernel_rfl) (show _ = .int .i64 1 from (by kernel_rfl)) ⟨none, 0, no, none, 0, no, H, rfl, (Row.nil _ _ _ _ no), (Row.nil _ _ _ _ no), S119⟩
      replace M := ifn q111 M
      refine cond_f rfl (bf q111 (by kernel_rfl)) ?_
      refine wp_skip ?_
      refine inb_n ?_
      refine then_n ?_
      refine wp_region_lit ?_
      refine lv (d := 40) rfl rfl (by kernel_rfl) (e_move (v := .int .i64 x75) (by exact e80)) ?_
      refine lv (d := 41) rfl rfl (by kernel_rfl) (e_add (k := .i64) (a := x75) (b := 1) (by kernel_rfl) rfl) ?_
      refine lv (d := 8) rfl rfl (by kernel_rfl) (e_assign (v := .int .i64 (IntKind.i64.wrap (x75 + 1))) (by kernel_rfl)) ?_
      refine wpList_nil ?_
      refine then_n ?_
      exact ⟨k86, (by omega), _, (IntKind.i64.wrap (x75 + 1)), rfl, (by exact e76), (by exact e77), (by exact e78), (by exact e79), (by kernel_rfl), b19, b14, S81, M⟩
    replace M := ifn q100 M
    refine lskip (t := 49) (c := false) rfl (by kernel_rfl) rfl (bf q100 (by kernel_rfl)) rfl rfl ?_
    refine lskip (t := 49) (c := false) rfl (by kernel_rfl) rfl (bf q100 (by kernel_rfl)) rfl rfl ?_
    refine lskip (t := 49) (c := false) rfl (by kernel_rfl) rfl (bf q100 (by kernel_rfl)) rfl rfl ?_
    refine lskip (t := 49) (c := false) rfl (by kernel_rfl) rfl (bf q100 (by kernel_rfl)) rfl rfl ?_
    refine lskip (t := 49) (c := false) rfl (by kernel_rfl) rfl (bf q100 (by kernel_rfl)) rfl rfl ?_
    refine lskip (t := 49) (c := false) rfl (by kernel_rfl) rfl (bf q100 (by kernel_rfl)) rfl rfl ?_
    refine lskip (t := 49) (c := false) rfl (by kernel_rfl) rfl (bf q100 (by kernel_rfl)) rfl rfl ?_
    refine lskip (t := 49) (c := false) rfl (by kernel_rfl) rfl (bf q100 (by kernel_rfl)) rfl rfl ?_
    refine lskip (t := 49) (c := false) rfl (by kernel_rfl) rfl (bf q100 (by kernel_rfl)) rfl rfl ?_
    refine lskip (t := 49) (c := false) rfl (by kernel_rfl) rfl (bf q100 (by kernel_rfl)) rfl rfl ?_
    refine lv (d := 60) rfl rfl (by kernel_rfl) (e_pick_f (v := .bool false) (bf q100 (by kernel_rfl)) rfl) ?_
    refine wpList_nil ?_
    refine then_n ?_
    refine cond_f rfl (by kernel_rfl) ?_
    refine wp_skip ?_
    refine inb_n ?_
    refine then_n ?_
    refine wp_region_lit ?_
    refine lv (d := 40) rfl rfl (by kernel_rfl) (e_move (v := .int .i64 x75) (by exact e80)) ?_
    refine lv (d := 41) rfl rfl (by kernel_rfl) (e_add (k := .i64) (a := x75) (b := 1) (by kernel_rfl) rfl) ?_
    refine lv (d := 8) rfl rfl (by kernel_rfl) (e_assign (v := .int .i64 (IntKind.i64.wrap (x75 + 1))) (by kernel_rfl)) ?_
    refine wpList_nil ?_
    refine then_n ?_
    exact ⟨k86, (by omega), _, (IntKind.i64.wrap (x75 + 1)), rfl, (by exact e76), (by exact e77), (by exact e78), (by exact e79), (by kernel_rfl), b19, b14, S81, M⟩
  replace M := ifn q87 M
  refine cond_f rfl (bf q87 (by kernel_rfl)) ?_
  refine wp_exit ?_
  refine then_e ?_
  refine then_e ?_
  refine inb_hit ?_
  refine then_n ?_
  refine wp_seq ?_
  refine wp_region_lit ?_
  refine lv (d := 62) rfl rfl (by kernel_rfl) (e_loadS (b := g13) (off := 0) (cs := [.slice A2 x1.cells.length c3, .slice A6 x1.trail.length c7]) Try.underlying34 rfl (by kernel_rfl) (by exact e78) (blk_cells b14 rfl)) ?_
  obtain ⟨t120, u121, M⟩ := bnd M
  refine lcall (d := 63) rfl rfl (by kernel_rfl) (e_call (l := [.tmp 62]) (vs := [.agg #[.slice A2 x1.cells.length c3, .slice A6 x1.trail.length c7]]) Try.func47 (by kernel_rfl) rfl (by kernel_rfl) rfl) (spec_l10open.calls w73 H x1 A2 c3 A6 c7 h4 l5 h8 l9 (St.own' (Fa := []) (Fr := [(is g18), (is g13)]) S81) t120 u121) ?_
  rintro _ w122 ⟨g125, A127, c128, F130, A131, c132, F134, H123, rfl, h129, h133, b126, T124⟩
  refine ⟨_, rfl, ?_⟩
  obtain ⟨S135, K136⟩ := St.call (Fa := []) (Fr := [(is g18), (is g13)]) S81 T124
  replace b19 := K136.blk 0 rfl b19
  replace b14 := K136.blk 1 rfl b14
  have E137 := T124.ext
  refine lv (d := 9) rfl rfl (by kernel_rfl) (e_assign (v := .pointer (some ⟨g125, 0, none⟩)) (by kernel_rfl)) ?_
  refine wpList_nil ?_
  refine then_n ?_
  refine wp_seq ?_
  refine wp_region_lit ?_
  refine lv (d := 64) rfl rfl (by kernel_rfl) (e_move (v := .pointer (some ⟨g125, 0, none⟩)) (by kernel_rfl)) ?_
  refine lv (d := 65) rfl rfl (by kernel_rfl) (e_move (v := .int .i64 x10) (by exact e76)) ?_
  refine lv (d := 66) rfl rfl (by kernel_rfl) (e_move (v := .int .i64 x11) (by exact e77)) ?_
  have S138 := S135.pull (F := F134) (Fr := [(is g125), F130, (is g18), (is g13)]) 2 rfl rfl
  have S139 := S138.pull (F := F130) (Fr := [F134, (is g125), (is g18), (is g13)]) 2 rfl rfl
  obtain ⟨t140, u141, M⟩ := bnd M
  refine lcall (d := 67) rfl rfl (by kernel_rfl) (e_call (l := [.tmp 64, .tmp 65, .tmp 66]) (vs := [.pointer (some ⟨g125, 0, none⟩), .int .i64 x10, .int .i64 x11]) Try.func56 (by kernel_rfl) rfl (by kernel_rfl) rfl) (spec_l10unwind.calls k86 w122 H123 t120 g125 A127 c128 F130 A131 c132 F134 x10 x11 h129 h133 b126 (St.own' (Fa := [F130, F134, (is g125)]) (Fr := [(is g18), (is g13)]) S139) t140 u141) ?_
  rintro _ w142 ⟨A145, c146, F148, A149, c150, F152, H143, rfl, h147, h151, b153, T144⟩
  refine ⟨_, rfl, ?_⟩
  obtain ⟨S154, K155⟩ := St.call (Fa := [F130, F134, (is g125)]) (Fr := [(is g18), (is g13)]) S139 T144
  replace b19 := K155.blk 0 rfl b19
  replace b14 := K155.blk 1 rfl b14
  have E156 := T144.ext
  refine wpList_nil ?_
  refine then_n ?_
  refine wp_seq ?_
  refine wp_region_lit ?_
  refine lv (d := 68) rfl rfl (by kernel_rfl) (e_move (v := .pointer (some ⟨g125, 0, none⟩)) (by kernel_rfl)) ?_
  have S157 := S154.pull (F := F152) (Fr := [(is g125), F148, (is g18), (is g13)]) 2 rfl rfl
  have S158 := S157.pull (F := F148) (Fr := [F152, (is g125), (is g18), (is g13)]) 2 rfl rfl
  obtain ⟨t159, u160, M⟩ := bnd M
  refine lcall (d := 69) rfl rfl (by kernel_rfl) (e_call (l := [.tmp 68]) (vs := [.pointer (some ⟨g125, 0, none⟩)]) Try.func57 (by kernel_rfl) rfl (by kernel_rfl) rfl) (spec_l10close.calls k86 w142 H143 t140 g125 A145 c146 F148 A149 c150 F152 h147 h151 b153 (St.own' (Fa := [F148, F152, (is g125)]) (Fr := [(is g18), (is g13)]) S158) t159 u160) ?_
  rintro _ w161 ⟨A167, c168, F170, A171, c172, F174, H162, rfl, h164, h165, b166, h169, h173, T163⟩
  refine ⟨_, rfl, ?_⟩
  obtain ⟨S175, K176⟩ := St.call (Fa := [F148, F152, (is g125)]) (Fr := [(is g18), (is g13)]) S158 T163
  replace b19 := K176.blk 0 rfl b19
  replace b14 := K176.blk 1 rfl b14
  have E177 := T163.ext
  refine lve (d := 10) rfl rfl (by kernel_rfl) (new_blk (v := fun g_ => .pointer (some ⟨g_, 0, none⟩)) (cs := #[.slice none 0 0, .slice none 0 0]) (t := 34) S175 (by kernel_rfl)) ?_
  rintro _ w178 ⟨g179, rfl, b180, S181, K182⟩
  replace h164 := h164.move (K182.at 0 rfl)
  replace h165 := h165.move (K182.at 1 rfl)
  replace b166 := K182.blk 2 rfl b166
  replace h169 := h169.move (K182.at 3 rfl)
  replace h173 := h173.move (K182.at 4 rfl)
  replace b19 := K182.blk 5 rfl b19
  replace b14 := K182.blk 6 rfl b14
  refine lse rfl rfl (by kernel_rfl) (e_store (g := g179) (o := 0) (v := .agg #[.slice A167 t159.cells.length c168, .slice A171 t159.trail.length c172]) (cur' := #[.slice A167 t159.cells.length c168, .slice A171 t159.trail.length c172]) (vs := [.slice A167 t159.cells.length c168, .slice A171 t159.trail.length c172]) S181 (by kernel_rfl) (by kernel_rfl) rfl (by kernel_rfl) b180 (Nat.le_of_ble_eq_true rfl) (List.forall_mem_cons.2 ⟨rfl, (List.forall_mem_cons.2 ⟨rfl, (fun _ h_ => by cases h_)⟩)⟩) rfl) ?_
  rintro w183 ⟨b184, S185, K186⟩
  replace h164 := h164.move (K186.at 0 rfl)
  replace h165 := h165.move (K186.at 1 rfl)
  replace b166 := K186.blk 2 rfl b166
  replace h169 := h169.move (K186.at 3 rfl)
  replace h173 := h173.move (K186.at 4 rfl)
  replace b19 := K186.blk 5 rfl b19
  replace b14 := K186.blk 6 rfl b14
  clear b180
  refine wpList_nil ?_
  refine then_n ?_
  refine wp_seq ?_
  refine wp_seq ?_
  refine wp_region_lit ?_
  refine lv (d := 70) rfl rfl (by kernel_rfl) (e_loadS (b := g179) (off := 0) (cs := [.slice A167 t159.cells.length c168, .slice A171 t159.trail.length c172]) Try.underlying34 rfl (by kernel_rfl) (by kernel_rfl) (blk_cells b184 rfl)) ?_
  obtain ⟨t187, u188, M⟩ := bnd M
  refine lcall (d := 71) rfl rfl (by kernel_rfl) (e_call (l := [.tmp 70]) (vs := [.agg #[.slice A167 t159.cells.length c168, .slice A171 t159.trail.length c172]]) Try.func37 (by kernel_rfl) rfl (by kernel_rfl) rfl) (by have l189 := h169.le; have S190 := S185.pull (F := F170) (Fr := [(is g179), F148, F152, (is g125), F174, (is g18), (is g13)]) 4 rfl rfl; obtain ⟨H191, S192, E193, h194, z195⟩ := S190.frzRow h169; replace h164 := h164.ext E193; replace h165 := h165.ext E193; replace h173 := h173.ext E193; have l196 := h173.le; have S197 := S192.pull (F := F174) (Fr := [(is g179), F148, F152, (is g125), (is g18), (is g13)]) 4 rfl rfl; obtain ⟨H198, S199, E200, h201, z202⟩ := S197.frzRow h173; replace h164 := h164.ext E200; replace h165 := h165.ext E200; exact (spec_l10valid.calls k86 w183 H198 t159 A167 c168 A171 c172 (h194.ext E200) l189 h201 l196 S199.own0 t187 u188)) ?_
  rintro _ w203 ⟨rfl, C204⟩
  refine ⟨_, rfl, ?_⟩
  obtain ⟨S205, K206⟩ := S185.still C204
  replace b184 := K206.blk 0 rfl b184
  replace h164 := h164.move (K206.at 1 rfl)
  replace h165 := h165.move (K206.at 2 rfl)
  replace b166 := K206.blk 3 rfl b166
  replace h169 := h169.move (K206.at 4 rfl)
  replace h173 := h173.move (K206.at 5 rfl)
  replace b19 := K206.blk 6 rfl b19
  replace b14 := K206.blk 7 rfl b14
  refine lv (d := 72) rfl rfl (by kernel_rfl) (e_notv (c := t187) (by kernel_rfl)) ?_
  refine wpList_nil ?_
  refine then_n ?_
  by_cases q207 : ¬ (t187 = true)
  · replace M := ifp q207 M
    refine cond_t rfl (bt q207 (by kernel_rfl)) ?_
    refine wp_seq ?_
    refine wp_region_lit ?_
    refine lv (d := 73) rfl rfl (by kernel_rfl) (show _ = Result.ok (Next.value (.agg #[.slice none 0 0, .slice none 0 0])) w203 from by kernel_rfl) ?_
    have S208 := S205.pull (F := (is g18)) (Fr := [(is g179), F148, F152, (is g125), F170, F174, (is g13)]) 6 rfl rfl
    refine lse rfl rfl (by kernel_rfl) (e_store (g := g18) (o := 0) (v := .agg #[.slice none 0 0, .slice none 0 0]) (cur' := #[.slice none 0 0, .slice none 0 0]) (vs := [.slice none 0 0, .slice none 0 0]) S208 (by exact e79) (by kernel_rfl) rfl (by kernel_rfl) b19 (Nat.le_of_ble_eq_true rfl) (List.forall_mem_cons.2 ⟨rfl, (List.forall_mem_cons.2 ⟨rfl, (fun _ h_ => by cases h_)⟩)⟩) rfl) ?_
    rintro w209 ⟨b210, S211, K212⟩
    replace b184 := K212.blk 0 rfl b184
    replace h164 := h164.move (K212.at 1 rfl)
    replace h165 := h165.move (K212.at 2 rfl)
    replace b166 := K212.blk 3 rfl b166
    replace h169 := h169.move (K212.at 4 rfl)
    replace h173 := h173.move (K212.at 5 rfl)
    replace b14 := K212.blk 6 rfl b14
    clear b19
    refine lv (d := 7) rfl rfl (by kernel_rfl) (e_assign (v := .int .i64 4) rfl) ?_
    refine wpList_nil ?_
    refine then_n ?_
    refine wp_ret ?_
    refine then_r ?_
    obtain rfl := Option.some.inj M
    have S213 := S211.unit
    have S214 := S213.unit
    have S215 := S214.pull (F := no) (Fr := [no, (is g18), (is g179), F148, F152, (is g125), F170, F174, (is g13)]) 1 rfl rfl
    have S216 := St.first (Fa := [no, no]) (Fr := [(is g18), (is g179), F148, F152, (is g125), F170, F174, (is g13)]) S215
    exact retST (ty := 34) (cur := #[.slice none 0 0, .slice none 0 0]) rfl rfl rfl (by exact e79) b210 Try.underlying34 rfl (by kernel_rfl) (show _ = .int .i64 4 from (by kernel_rfl)) ⟨none, 0, no, none, 0, no, H162, rfl, (Row.nil _ _ _ _ no), (Row.nil _ _ _ _ no), S216⟩
  replace M := ifn q207 M
  refine cond_f rfl (bf q207 (by kernel_rfl)) ?_
  refine wp_skip ?_
  refine then_n ?_
  refine wp_seq ?_
  refine wp_region_lit ?_
  refine lv (d := 74) rfl rfl (by kernel_rfl) (e_loadS (b := g179) (off := 0) (cs := [.slice A167 t159.cells.length c168, .slice A171 t159.trail.length c172]) Try.underlying34 rfl (by kernel_rfl) (by kernel_rfl) (blk_cells b184 rfl)) ?_
  have S217 := S205.pull (F := (is g18)) (Fr := [(is g179), F148, F152, (is g125), F170, F174, (is g13)]) 6 rfl rfl
  refine lse rfl rfl (by kernel_rfl) (e_store (g := g18) (o := 0) (v := .agg #[.slice A167 t159.cells.length c168, .slice A171 t159.trail.length c172]) (cur' := #[.slice A167 t159.cells.length c168, .slice A171 t159.trail.length c172]) (vs := [.slice A167 t159.cells.length c168, .slice A171 t159.trail.length c172]) S217 (by exact e79) (by kernel_rfl) rfl (by kernel_rfl) b19 (Nat.le_of_ble_eq_true rfl) (List.forall_mem_cons.2 ⟨rfl, (List.forall_mem_cons.2 ⟨rfl, (fun _ h_ => by cases h_)⟩)⟩) rfl) ?_
  rintro w218 ⟨b219, S220, K221⟩
  replace b184 := K221.blk 0 rfl b184
  replace h164 := h164.move (K221.at 1 rfl)
  replace h165 := h165.move (K221.at 2 rfl)
  replace b166 := K221.blk 3 rfl b166
  replace h169 := h169.move (K221.at 4 rfl)
  replace h173 := h173.move (K221.at 5 rfl)
  replace b14 := K221.blk 6 rfl b14
  clear b19
  refine lv (d := 7) rfl rfl (by kernel_rfl) (e_assign (v := .int .i64 0) rfl) ?_
  refine wpList_nil ?_
  refine then_n ?_
  refine wp_ret ?_
  obtain rfl := Option.some.inj M
  have S222 := S220.pull (F := F174) (Fr := [(is g18), (is g179), F148, F152, (is g125), F170, (is g13)]) 6 rfl rfl
  have S223 := S222.pull (F := F170) (Fr := [F174, (is g18), (is g179), F148, F152, (is g125), (is g13)]) 6 rfl rfl
  have S224 := St.first (Fa := [F170, F174]) (Fr := [(is g18), (is g179), F148, F152, (is g125), (is g13)]) S223
  exact retST (ty := 34) (cur := #[.slice A167 t159.cells.length c168, .slice A171 t159.trail.length c172]) rfl rfl rfl (by exact e79) b219 Try.underlying34 rfl (by kernel_rfl) (show _ = .int .i64 0 from (by kernel_rfl)) ⟨A167, c168, F170, A171, c172, F174, H162, rfl, h169, h173, S224⟩

/-! impl_wordOk -/
def impl_wordOk.l0 (_k : Nat) (x1 : Cell) (x13 : Bool) : Option Bool := (if x13 = true then some (decide ((x1.text.length : Int) = 0)) else (if x1.kind = 1 then (if x1.n ≥ (-1000000000000000) then (if x1.n ≤ 1000000000000000 then some (decide ((x1.text.length : Int) = 0)) else some false) else some false) else (if x1.kind = 2 then (if x1.n = 0 then some (decide ((x1.text.length : Int) ≤ 100)) else some false) else some false)))
def impl_wordOk.f (x1 : Cell) : Option Bool := (if x1.kind = 0 then (impl_wordOk.l0 0 x1 (decide (x1.kind = 0))) else (impl_wordOk.l0 0 x1 (decide (x1.kind = 4))))
theorem impl_wordOk.calls (w : World) (H : Hp) (x1 : Cell) (A2 : Option Addr) (c3 : Nat) (h4 : Rd tByte H A2 x1.text) (l5 : x1.text.length ≤ c3) (S : Own [] H w) (r : Bool) (M : impl_wordOk.f x1 = some r) :
    Calls Try.prog 67 #[.agg #[.int .i64 x1.kind, .int .i64 x1.n, .slice A2 x1.text.length c3]] w (fun e e_w => e = .returned (.bool r) ∧ Chg no w e_w) := by
  rw [impl_wordOk.f] at M
  refine enter (l := [.agg #[.int .i64 x1.kind, .int .i64 x1.n, .slice A2 x1.text.length c3]]) 39 Try.func67 rfl rfl rfl ?_
  have S0_ := S.st
  refine wp_seq ?_
  refine wp_region_lit ?_
  refine lve (d := 1) rfl rfl (by kernel_rfl) (new_blk (v := fun g_ => .pointer (some ⟨g_, 0, none⟩)) (cs := #[.int .i64 x1.kind, .int .i64 x1.n, .slice A2 x1.text.length c3]) (t := 36) S0_ (by kernel_rfl)) ?_
  rintro _ w6 ⟨g7, rfl, b8, S9, K10⟩
  refine lv (d := 2) rfl rfl (by kernel_rfl) (e_assign (v := .bool false) rfl) ?_
  refine wpList_nil ?_
  refine then_n ?_
  refine wp_seq ?_
  refine wp_seq ?_
  refine wp_region_lit ?_
  refine lv (d := 3) rfl rfl (by kernel_rfl) (e_fieldAddr (b := g7) (off := 0) (o := 0) Try.underlying36 rfl rfl (sz := 1) (by kernel_rfl) (by decide) (by kernel_rfl)) ?_
  refine lv (d := 4) rfl rfl (by kernel_rfl) (e_load1 (ad := ⟨g7, 0 + 0, none⟩) (v := .int .i64 x1.kind) Try.underlying3 rfl (by kernel_rfl) (blk_cell b8 rfl)) ?_
  refine wpList_nil ?_
  refine then_n ?_
  refine wp_block ?_
  refine wp_seq_cut (fun a20 w11 => ∃ (f12 : Nat → Value) (x13 : Bool), a20 = mk 39 f12 ∧ f12 1 = .pointer (some ⟨g7, 0, none⟩) ∧ f12 4 = .int .i64 x1.kind ∧ f12 5 = .bool x13 ∧ w11.heap[g7]? = some (.cells #[.int .i64 x1.kind, .int .i64 x1.n, .slice A2 x1.text.length c3] 36 (0, 0)) ∧ St (anyOf []) H w [(is g7)] H w11 ∧ impl_wordOk.l0 0 x1 x13 = some r) ?_ ?_
  · refine wp_seq ?_
    refine wp_region_lit ?_
    refine lv (d := 6) rfl rfl (by kernel_rfl) (e_eql (k := .i64) (a := x1.kind) (b := 0) (by kernel_rfl) rfl) ?_
    refine lv (d := 5) rfl rfl (by kernel_rfl) (e_assign (v := .bool (decide (x1.kind = 0))) (by kernel_rfl)) ?_
    refine wpList_nil ?_
    refine then_n ?_
    by_cases q21 : x1.kind = 0
    · replace M := ifp q21 M
      refine cond_t rfl (bt q21 (by kernel_rfl)) ?_
      refine wp_skip ?_
      refine then_n ?_
      exact ⟨_, (decide (x1.kind = 0)), rfl, (by kernel_rfl), (by kernel_rfl), (by kernel_rfl), b8, S9, M⟩
    replace M := ifn q21 M
    refine cond_f rfl (bf q21 (by kernel_rfl)) ?_
    refine wp_region_lit ?_
    refine lv (d := 7) rfl rfl (by kernel_rfl) (e_eql (k := .i64) (a := x1.kind) (b := 4) (by kernel_rfl) rfl) ?_
    refine lv (d := 5) rfl rfl (by kernel_rfl) (e_assign (v := .bool (decide (x1.kind = 4))) (by kernel_rfl)) ?_
    refine wpList_nil ?_
    refine then_n ?_
    exact ⟨_, (decide (x1.kind = 4)), rfl, (by kernel_rfl), (by kernel_rfl), (by kernel_rfl), b8, S9, M⟩
  clear M
  rintro a20 w11 ⟨f12, x13, rfl, e14, e15, e16, b8, S17, M⟩
  rw [impl_wordOk.l0] at M
  by_cases q22 : x13 = true
  · replace M := ifp q22 M
    refine cond_t rfl (bvt q22 (by exact e16)) ?_
    refine wp_seq ?_
    refine wp_region_lit ?_
    refine lv (d := 8) rfl rfl (by kernel_rfl) (e_fieldAddr (b := g7) (off := 0) (o := 2) Try.underlying36 rfl rfl (sz := 1) (by kernel_rfl) (by decide) (by exact e14)) ?_
    refine lv (d := 9) rfl rfl (by kernel_rfl) (e_load1 (ad := ⟨g7, 0 + 2, none⟩) (v := .slice A2 x1.text.length c3) Try.underlying26 rfl (by kernel_rfl) (blk_cell b8 rfl)) ?_
    refine lv (d := 10) rfl rfl (by kernel_rfl) (e_len (A := A2) (n := x1.text.length) (c := c3) Try.underlying26 (by kernel_rfl)) ?_
    refine lv (d := 11) rfl rfl (by kernel_rfl) (e_eql (k := .i64) (a := (x1.text.length : Int)) (b := 0) (by kernel_rfl) rfl) ?_
    refine lv (d := 2) rfl rfl (by kernel_rfl) (e_assign (v := .bool (decide ((x1.text.length : Int) = 0))) (by kernel_rfl)) ?_
    refine wpList_nil ?_
    refine then_n ?_
    refine wp_ret ?_
    refine inb_r ?_
    refine then_r ?_
    obtain rfl := Option.some.inj M
    exact ret1 rfl rfl  (show _ = .bool (decide ((x1.text.length : Int) = 0)) from (by kernel_rfl)) ⟨rfl, S17.chg⟩
  replace M := ifn q22 M
  refine cond_f rfl (bvf q22 (by exact e16)) ?_
  refine wp_seq ?_
  refine wp_region_lit ?_
  refine lv (d := 13) rfl rfl (by kernel_rfl) (e_eql (k := .i64) (a := x1.kind) (b := 1) (by exact e15) rfl) ?_
  refine lv (d := 12) rfl rfl (by kernel_rfl) (e_assign (v := .bool (decide (x1.kind = 1))) (by kernel_rfl)) ?_
  refine wpList_nil ?_
  refine then_n ?_
  by_cases q23 : x1.kind = 1
  · replace M := ifp q23 M
    refine cond_t rfl (bt q23 (by kernel_rfl)) ?_
    refine wp_seq ?_
    refine wp_region_lit ?_
    refine lv (d := 14) rfl rfl (by kernel_rfl) (e_fieldAddr (b := g7) (off := 0) (o := 1) Try.underlying36 rfl rfl (sz := 1) (by kernel_rfl) (by decide) (by exact e14)) ?_
    refine lv (d := 15) rfl rfl (by kernel_rfl) (e_load1 (ad := ⟨g7, 0 + 1, none⟩) (v := .int .i64 x1.n) Try.underlying3 rfl (by kernel_rfl) (blk_cell b8 rfl)) ?_
    refine lv (d := 16) rfl rfl (by kernel_rfl) (e_geq (k := .i64) (a := x1.n) (b := (-1000000000000000)) (by kernel_rfl) rfl) ?_
    refine lv (d := 17) rfl rfl (by kernel_rfl) (e_move (v := .bool (decide (x1.n ≥ (-1000000000000000)))) (by kernel_rfl)) ?_
    by_cases q24 : x1.n ≥ (-1000000000000000)
    · replace M := ifp q24 M
      refine lvg (d := 18) (t := 17) rfl (by kernel_rfl) rfl (bt q24 (by kernel_rfl)) rfl (by kernel_rfl) (e_fieldAddr (b := g7) (off := 0) (o := 1) Try.underlying36 rfl rfl (sz := 1) (by kernel_rfl) (by decide) (by exact e14)) ?_
      refine lvg (d := 19) (t := 17) rfl (by kernel_rfl) rfl (bt q24 (by kernel_rfl)) rfl (by kernel_rfl) (e_load1 (ad := ⟨g7, 0 + 1, none⟩) (v := .int .i64 x1.n) Try.underlying3 rfl (by kernel_rfl) (blk_cell b8 rfl)) ?_
      refine lvg (d := 20) (t := 17) rfl (by kernel_rfl) rfl (bt q24 (by kernel_rfl)) rfl (by kernel_rfl) (e_leq (k := .i64) (a := x1.n) (b := 1000000000000000) (by kernel_rfl) rfl) ?_
      refine lv (d := 21) rfl rfl (by kernel_rfl) (e_pick_t (v := .bool (decide (x1.n ≤ 1000000000000000))) (bt q24 (by kernel_rfl)) (by kernel_rfl)) ?_
      refine lv (d := 22) rfl rfl (by kernel_rfl) (e_move (v := .bool (decide (x1.n ≤ 1000000000000000))) (by kernel_rfl)) ?_
      by_cases q25 : x1.n ≤ 1000000000000000
      · replace M := ifp q25 M
        refine lvg (d := 23) (t := 22) rfl (by kernel_rfl) rfl (bt q25 (by kernel_rfl)) rfl (by kernel_rfl) (e_fieldAddr (b := g7) (off := 0) (o := 2) Try.underlying36 rfl rfl (sz := 1) (by kernel_rfl) (by decide) (by exact e14)) ?_
        refine lvg (d := 24) (t := 22) rfl (by kernel_rfl) rfl (bt q25 (by kernel_rfl)) rfl (by kernel_rfl) (e_load1 (ad := ⟨g7, 0 + 2, none⟩) (v := .slice A2 x1.text.length c3) Try.underlying26 rfl (by kernel_rfl) (blk_cell b8 rfl)) ?_
        refine lvg (d := 25) (t := 22) rfl (by kernel_rfl) rfl (bt q25 (by kernel_rfl)) rfl (by kernel_rfl) (e_len (A := A2) (n := x1.text.length) (c := c3) Try.underlying26 (by kernel_rfl)) ?_
        refine lvg (d := 26) (t := 22) rfl (by kernel_rfl) rfl (bt q25 (by kernel_rfl)) rfl (by kernel_rfl) (e_eql (k := .i64) (a := (x1.text.length : Int)) (b := 0) (by kernel_rfl) rfl) ?_
        refine lv (d := 27) rfl rfl (by kernel_rfl) (e_pick_t (v := .bool (decide ((x1.text.length : Int) = 0))) (bt q25 (by kernel_rfl)) (by kernel_rfl)) ?_
        refine lv (d := 2) rfl rfl (by kernel_rfl) (e_assign (v := .bool (decide ((x1.text.length : Int) = 0))) (by kernel_rfl)) ?_
        refine wpList_nil ?_
        refine then_n ?_
        refine wp_ret ?_
        refine inb_r ?_
        refine then_r ?_
        obtain rfl := Option.some.inj M
        exact ret1 rfl rfl  (show _ = .bool (decide ((x1.text.length : Int) = 0)) from (by kernel_rfl)) ⟨rfl, S17.chg⟩
      replace M := ifn q25 M
      refine lskip (t := 22) (c := false) rfl (by kernel_rfl) rfl (bf q25 (by kernel_rfl)) rfl rfl ?_
      refine lskip (t := 22) (c := false) rfl (by kernel_rfl) rfl (bf q25 (by kernel_rfl)) rfl rfl ?_
      refine lskip (t := 22) (c := false) rfl (by kernel_rfl) rfl (bf q25 (by kernel_rfl)) rfl rfl ?_
      refine lskip (t := 22) (c := false) rfl (by kernel_rfl) rfl (bf q25 (by kernel_rfl)) rfl rfl ?_
      refine lv (d := 27) rfl rfl (by kernel_rfl) (e_pick_f (v := .bool false) (bf q25 (by kernel_rfl)) rfl) ?_
      refine lv (d := 2) rfl rfl (by kernel_rfl) (e_assign (v := .bool false) (by kernel_rfl)) ?_
      refine wpList_nil ?_
      refine then_n ?_
      refine wp_ret ?_
      refine inb_r ?_
      refine then_r ?_
      obtain rfl := Option.some.inj M
      exact ret1 rfl rfl  (show _ = .bool false from (by kernel_rfl)) ⟨rfl, S17.chg⟩
    replace M := ifn q24 M
    refine lskip (t := 17) (c := false) rfl (by kernel_rfl) rfl (bf q24 (by kernel_rfl)) rfl rfl ?_
    refine lskip (t := 17) (c := false) rfl (by kernel_rfl) rfl (bf q24 (by kernel_rfl)) rfl rfl ?_
    refine lskip (t := 17) (c := false) rfl (by kernel_rfl) rfl (bf q24 (by kernel_rfl)) rfl rfl ?_
    refine lv (d := 21) rfl rfl (by kernel_rfl) (e_pick_f (v := .bool false) (bf q24 (by kernel_rfl)) rfl) ?_
    refine lv (d := 22) rfl rfl (by kernel_rfl) (e_move (v := .bool false) (by kernel_rfl)) ?_
    refine lskip (t := 22) (c := false) rfl (by kernel_rfl) rfl (by kernel_rfl) rfl rfl ?_
    refine lskip (t := 22) (c := false) rfl (by kernel_rfl) rfl (by kernel_rfl) rfl rfl ?_
    refine lskip (t := 22) (c := false) rfl (by kernel_rfl) rfl (by kernel_rfl) rfl rfl ?_
    refine lskip (t := 22) (c := false) rfl (by kernel_rfl) rfl (by kernel_rfl) rfl rfl ?_
    refine lv (d := 27) rfl rfl (by kernel_rfl) (e_pick_f (v := .bool false) (by kernel_rfl) rfl) ?_
    refine lv (d := 2) rfl rfl (by kernel_rfl) (e_assign (v := .bool false) (by kernel_rfl)) ?_
    refine wpList_nil ?_
    refine then_n ?_
    refine wp_ret ?_
    refine inb_r ?_
    refine then_r ?_
    obtain rfl := Option.some.inj M
    exact ret1 rfl rfl  (show _ = .bool false from (by kernel_rfl)) ⟨rfl, S17.chg⟩
  replace M := ifn q23 M
  refine cond_f rfl (bf q23 (by kernel_rfl)) ?_
  refine wp_seq ?_
  refine wp_region_lit ?_
  refine lv (d := 29) rfl rfl (by kernel_rfl) (e_eql (k := .i64) (a := x1.kind) (b := 2) (by exact e15) rfl) ?_
  refine lv (d := 28) rfl rfl (by kernel_rfl) (e_assign (v := .bool (decide (x1.kind = 2))) (by kernel_rfl)) ?_
  refine wpList_nil ?_
  refine then_n ?_
  by_cases q26 : x1.kind = 2
  · replace M := ifp q26 M
    refine cond_t rfl (bt q26 (by kernel_rfl)) ?_
    refine wp_seq ?_
    refine wp_region_lit ?_
    refine lv (d := 30) rfl rfl (by kernel_rfl) (e_fieldAddr (b := g7) (off := 0) (o := 1) Try.underlying36 rfl rfl (sz := 1) (by kernel_rfl) (by decide) (by exact e14)) ?_
    refine lv (d := 31) rfl rfl (by kernel_rfl) (e_load1 (ad := ⟨g7, 0 + 1, none⟩) (v := .int .i64 x1.n) Try.underlying3 rfl (by kernel_rfl) (blk_cell b8 rfl)) ?_
    refine lv (d := 32) rfl rfl (by kernel_rfl) (e_eql (k := .i64) (a := x1.n) (b := 0) (by kernel_rfl) rfl) ?_
    refine lv (d := 33) rfl rfl (by kernel_rfl) (e_move (v := .bool (decide (x1.n = 0))) (by kernel_rfl)) ?_
    by_cases q27 : x1.n = 0
    · replace M := ifp q27 M
      refine lvg (d := 34) (t := 33) rfl (by kernel_rfl) rfl (bt q27 (by kernel_rfl)) rfl (by kernel_rfl) (e_fieldAddr (b := g7) (off := 0) (o := 2) Try.underlying36 rfl rfl (sz := 1) (by kernel_rfl) (by decide) (by exact e14)) ?_
      refine lvg (d := 35) (t := 33) rfl (by kernel_rfl) rfl (bt q27 (by kernel_rfl)) rfl (by kernel_rfl) (e_load1 (ad := ⟨g7, 0 + 2, none⟩) (v := .slice A2 x1.text.length c3) Try.underlying26 rfl (by kernel_rfl) (blk_cell b8 rfl)) ?_
      refine lvg (d := 36) (t := 33) rfl (by kernel_rfl) rfl (bt q27 (by kernel_rfl)) rfl (by kernel_rfl) (e_len (A := A2) (n := x1.text.length) (c := c3) Try.underlying26 (by kernel_rfl)) ?_
      refine lvg (d := 37) (t := 33) rfl (by kernel_rfl) rfl (bt q27 (by kernel_rfl)) rfl (by kernel_rfl) (e_leq (k := .i64) (a := (x1.text.length : Int)) (b := 100) (by kernel_rfl) rfl) ?_
      refine lv (d := 38) rfl rfl (by kernel_rfl) (e_pick_t (v := .bool (decide ((x1.text.length : Int) ≤ 100))) (bt q27 (by kernel_rfl)) (by kernel_rfl)) ?_
      refine lv (d := 2) rfl rfl (by kernel_rfl) (e_assign (v := .bool (decide ((x1.text.length : Int) ≤ 100))) (by kernel_rfl)) ?_
      refine wpList_nil ?_
      refine then_n ?_
      refine wp_ret ?_
      refine inb_r ?_
      refine then_r ?_
      obtain rfl := Option.some.inj M
      exact ret1 rfl rfl  (show _ = .bool (decide ((x1.text.length : Int) ≤ 100)) from (by kernel_rfl)) ⟨rfl, S17.chg⟩
    replace M := ifn q27 M
    refine lskip (t := 33) (c := false) rfl (by kernel_rfl) rfl (bf q27 (by kernel_rfl)) rfl rfl ?_
    refine lskip (t := 33) (c := false) rfl (by kernel_rfl) rfl (bf q27 (by kernel_rfl)) rfl rfl ?_
    refine lskip (t := 33) (c := false) rfl (by kernel_rfl) rfl (bf q27 (by kernel_rfl)) rfl rfl ?_
    refine lskip (t := 33) (c := false) rfl (by kernel_rfl) rfl (bf q27 (by kernel_rfl)) rfl rfl ?_
    refine lv (d := 38) rfl rfl (by kernel_rfl) (e_pick_f (v := .bool false) (bf q27 (by kernel_rfl)) rfl) ?_
    refine lv (d := 2) rfl rfl (by kernel_rfl) (e_assign (v := .bool false) (by kernel_rfl)) ?_
    refine wpList_nil ?_
    refine then_n ?_
    refine wp_ret ?_
    refine inb_r ?_
    refine then_r ?_
    obtain rfl := Option.some.inj M
    exact ret1 rfl rfl  (show _ = .bool false from (by kernel_rfl)) ⟨rfl, S17.chg⟩
  replace M := ifn q26 M
  refine cond_f rfl (bf q26 (by kernel_rfl)) ?_
  refine wp_skip ?_
  refine inb_n ?_
  refine then_n ?_
  refine wp_seq ?_
  refine wp_region_lit ?_
  refine lv (d := 2) rfl rfl (by kernel_rfl) (e_assign (v := .bool false) rfl) ?_
  refine wpList_nil ?_
  refine then_n ?_
  refine wp_ret ?_
  obtain rfl := Option.some.inj M
  exact ret1 rfl rfl  (show _ = .bool false from (by kernel_rfl)) ⟨rfl, S17.chg⟩

/-! impl_Store_points -/
def impl_Store_points.f (x1 : Store) (x10 : Cell) : Option Bool := ((impl_wordOk.f x10).bind fun t25 => (if ¬ (t25 = true) then some false else (if x10.kind = 0 then (if x10.n ≥ 0 then (if x10.n < (x1.cells.length : Int) then (if 0 ≤ x10.n then some (decide (((x1.cells.getD ((x10.n).toNat) z36).kind) ≠ 3)) else none) else some false) else some false) else (if x10.kind = 4 then (if x10.n ≥ 0 then (if x10.n < (x1.cells.length : Int) then (if 0 ≤ x10.n then some (decide (((x1.cells.getD ((x10.n).toNat) z36).kind) = 3)) else none) else some false) else some false) else some true))))
theorem impl_Store_points.calls (w : World) (H : Hp) (x1 : Store) (A2 : Option Addr) (c3 : Nat) (A6 : Option Addr) (c7 : Nat) (x10 : Cell) (A11 : Option Addr) (c12 : Nat) (h4 : Rd st36 H A2 x1.cells) (l5 : x1.cells.length ≤ c3) (h8 : Rd tInt H A6 x1.trail) (l9 : x1.trail.length ≤ c7) (h13 : Rd tByte H A11 x10.text) (l14 : x10.text.length ≤ c12) (S : Own [] H w) (r : Bool) (M : impl_Store_points.f x1 x10 = some r) :
    Calls Try.prog 43 #[.agg #[.slice A2 x1.cells.length c3, .slice A6 x1.trail.length c7], .agg #[.int .i64 x10.kind, .int .i64 x10.n, .slice A11 x10.text.length c12]] w (fun e e_w => e = .returned (.bool r) ∧ Chg no w e_w) := by
  rw [impl_Store_points.f] at M
  refine enter (l := [.agg #[.slice A2 x1.cells.length c3, .slice A6 x1.trail.length c7], .agg #[.int .i64 x10.kind, .int .i64 x10.n, .slice A11 x10.text.length c12]]) 56 Try.func43 rfl rfl rfl ?_
  have S0_ := S.st
  refine wp_seq ?_
  refine wp_region_lit ?_
  refine lve (d := 2) rfl rfl (by kernel_rfl) (new_blk (v := fun g_ => .pointer (some ⟨g_, 0, none⟩)) (cs := #[.slice A2 x1.cells.length c3, .slice A6 x1.trail.length c7]) (t := 34) S0_ (by kernel_rfl)) ?_
  rintro _ w15 ⟨g16, rfl, b17, S18, K19⟩
  refine lve (d := 3) rfl rfl (by kernel_rfl) (new_blk (v := fun g_ => .pointer (some ⟨g_, 0, none⟩)) (cs := #[.int .i64 x10.kind, .int .i64 x10.n, .slice A11 x10.text.length c12]) (t := 36) S18 (by kernel_rfl)) ?_
  rintro _ w20 ⟨g21, rfl, b22, S23, K24⟩
  replace b17 := K24.blk 0 rfl b17
  refine lv (d := 4) rfl rfl (by kernel_rfl) (e_assign (v := .bool false) rfl) ?_
  refine wpList_nil ?_
  refine then_n ?_
  refine wp_seq ?_
  refine wp_seq ?_
  refine wp_region_lit ?_
  refine lv (d := 5) rfl rfl (by kernel_rfl) (e_loadS (b := g21) (off := 0) (cs := [.int .i64 x10.kind, .int .i64 x10.n, .slice A11 x10.text.length c12]) Try.underlying36 rfl (by kernel_rfl) (by kernel_rfl) (blk_cells b22 rfl)) ?_
  obtain ⟨t25, u26, M⟩ := bnd M
  refine lcall (d := 6) rfl rfl (by kernel_rfl) (e_call (l := [.tmp 5]) (vs := [.agg #[.int .i64 x10.kind, .int .i64 x10.n, .slice A11 x10.text.length c12]]) Try.func67 (by kernel_rfl) rfl (by kernel_rfl) rfl) (impl_wordOk.calls w20 H x10 A11 c12 h13 l14 S23.own0 t25 u26) ?_
  rintro _ w27 ⟨rfl, C28⟩
  refine ⟨_, rfl, ?_⟩
  obtain ⟨S29, K30⟩ := S23.still C28
  replace b22 := K30.blk 0 rfl b22
  replace b17 := K30.blk 1 rfl b17
  refine lv (d := 7) rfl rfl (by kernel_rfl) (e_notv (c := t25) (by kernel_rfl)) ?_
  refine wpList_nil ?_
  refine then_n ?_
  by_cases q31 : ¬ (t25 = true)
  · replace M := ifp q31 M
    refine cond_t rfl (bt q31 (by kernel_rfl)) ?_
    refine wp_seq ?_
    refine wp_region_lit ?_
    refine lv (d := 4) rfl rfl (by kernel_rfl) (e_assign (v := .bool false) rfl) ?_
    refine wpList_nil ?_
    refine then_n ?_
    refine wp_ret ?_
    refine then_r ?_
    obtain rfl := Option.some.inj M
    exact ret1 rfl rfl  (show _ = .bool false from (by kernel_rfl)) ⟨rfl, S29.chg⟩
  replace M := ifn q31 M
  refine cond_f rfl (bf q31 (by kernel_rfl)) ?_
  refine wp_skip ?_
  refine then_n ?_
  refine wp_seq ?_
  refine wp_seq ?_
  refine wp_region_lit ?_
  refine lv (d := 8) rfl rfl (by kernel_rfl) (e_fieldAddr (b := g21) (off := 0) (o := 0) Try.underlying36 rfl rfl (sz := 1) (by kernel_rfl) (by decide) (by kernel_rfl)) ?_
  refine lv (d := 9) rfl rfl (by kernel_rfl) (e_load1 (ad := ⟨g21, 0 + 0, none⟩) (v := .int .i64 x10.kind) Try.underlying3 rfl (by kernel_rfl) (blk_cell b22 rfl)) ?_
  refine wpList_nil ?_
  refine then_n ?_
  refine wp_block ?_
  refine wp_seq ?_
  refine wp_region_lit ?_
  refine lv (d := 11) rfl rfl (by kernel_rfl) (e_eql (k := .i64) (a := x10.kind) (b := 0) (by kernel_rfl) rfl) ?_
  refine lv (d := 10) rfl rfl (by kernel_rfl) (e_assign (v := .bool (decide (x10.kind = 0))) (by kernel_rfl)) ?_
  refine wpList_nil ?_
  refine then_n ?_
  by_cases q32 : x10.kind = 0
  · replace M := ifp q32 M
    refine cond_t rfl (bt q32 (by kernel_rfl)) ?_
    refine wp_seq ?_
    refine wp_region_lit ?_
    refine lv (d := 12) rfl rfl (by kernel_rfl) (e_fieldAddr (b := g21) (off := 0) (o := 1) Try.underlying36 rfl rfl (sz := 1) (by kernel_rfl) (by decide) (by kernel_rfl)) ?_
    refine lv (d := 13) rfl rfl (by kernel_rfl) (e_load1 (ad := ⟨g21, 0 + 1, none⟩) (v := .int .i64 x10.n) Try.underlying3 rfl (by kernel_rfl) (blk_cell b22 rfl)) ?_
    refine lv (d := 14) rfl rfl (by kernel_rfl) (e_geq (k := .i64) (a := x10.n) (b := 0) (by kernel_rfl) rfl) ?_
    refine lv (d := 15) rfl rfl (by kernel_rfl) (e_move (v := .bool (decide (x10.n ≥ 0))) (by kernel_rfl)) ?_
    by_cases q33 : x10.n ≥ 0
    · replace M := ifp q33 M
      refine lvg (d := 16) (t := 15) rfl (by kernel_rfl) rfl (bt q33 (by kernel_rfl)) rfl (by kernel_rfl) (e_fieldAddr (b := g21) (off := 0) (o := 1) Try.underlying36 rfl rfl (sz := 1) (by kernel_rfl) (by decide) (by kernel_rfl)) ?_
      refine lvg (d := 17) (t := 15) rfl (by kernel_rfl) rfl (bt q33 (by kernel_rfl)) rfl (by kernel_rfl) (e_load1 (ad := ⟨g21, 0 + 1, none⟩) (v := .int .i64 x10.n) Try.underlying3 rfl (by kernel_rfl) (blk_cell b22 rfl)) ?_
      refine lvg (d := 18) (t := 15) rfl (by kernel_rfl) rfl (bt q33 (by kernel_rfl)) rfl (by kernel_rfl) (e_fieldAddr (b := g16) (off := 0) (o := 0) Try.underlying34 rfl rfl (sz := 1) (by kernel_rfl) (by decide) (by kernel_rfl)) ?_
      refine lvg (d := 19) (t := 15) rfl (by kernel_rfl) rfl (bt q33 (by kernel_rfl)) rfl (by kernel_rfl) (e_load1 (ad := ⟨g16, 0 + 0, none⟩) (v := .slice A2 x1.cells.length c3) Try.underlying32 rfl (by kernel_rfl) (blk_cell b17 rfl)) ?_
      refine lvg (d := 20) (t := 15) rfl (by kernel_rfl) rfl (bt q33 (by kernel_rfl)) rfl (by kernel_rfl) (e_len (A := A2) (n := x1.cells.length) (c := c3) Try.underlying32 (by kernel_rfl)) ?_
      refine lvg (d := 21) (t := 15) rfl (by kernel_rfl) rfl (bt q33 (by kernel_rfl)) rfl (by kernel_rfl) (e_lss (k := .i64) (a := x10.n) (b := (x1.cells.length : Int)) (by kernel_rfl) (by kernel_rfl)) ?_
      refine lv (d := 22) rfl rfl (by kernel_rfl) (e_pick_t (v := .bool (decide (x10.n < (x1.cells.length : Int)))) (bt q33 (by kernel_rfl)) (by kernel_rfl)) ?_
      refine lv (d := 23) rfl rfl (by kernel_rfl) (e_move (v := .bool (decide (x10.n < (x1.cells.length : Int)))) (by kernel_rfl)) ?_
      by_cases q34 : x10.n < (x1.cells.length : Int)
      · replace M := ifp q34 M
        refine lvg (d := 24) (t := 23) rfl (by kernel_rfl) rfl (bt q34 (by kernel_rfl)) rfl (by kernel_rfl) (e_fieldAddr (b := g16) (off := 0) (o := 0) Try.underlying34 rfl rfl (sz := 1) (by kernel_rfl) (by decide) (by kernel_rfl)) ?_
        refine lvg (d := 25) (t := 23) rfl (by kernel_rfl) rfl (bt q34 (by kernel_rfl)) rfl (by kernel_rfl) (e_load1 (ad := ⟨g16, 0 + 0, none⟩) (v := .slice A2 x1.cells.length c3) Try.underlying32 rfl (by kernel_rfl) (blk_cell b17 rfl)) ?_
        refine lvg (d := 26) (t := 23) rfl (by kernel_rfl) rfl (bt q34 (by kernel_rfl)) rfl (by kernel_rfl) (e_fieldAddr (b := g21) (off := 0) (o := 1) Try.underlying36 rfl rfl (sz := 1) (by kernel_rfl) (by decide) (by kernel_rfl)) ?_
        refine lvg (d := 27) (t := 23) rfl (by kernel_rfl) rfl (bt q34 (by kernel_rfl)) rfl (by kernel_rfl) (e_load1 (ad := ⟨g21, 0 + 1, none⟩) (v := .int .i64 x10.n) Try.underlying3 rfl (by kernel_rfl) (blk_cell b22 rfl)) ?_
        obtain ⟨q35, M⟩ := chk M
        obtain ⟨b36, o37, e38⟩ := Rd.addr h4 (show (x10.n).toNat < x1.cells.length by omega)
        obtain ⟨y39, r40, k41⟩ := Rd.at h4 e38 (getD_some z36 (show (x10.n).toNat < x1.cells.length by omega))
        obtain ⟨A42, c43, rfl, l44, h45⟩ := st36_open r40
        refine lvg (d := 28) (t := 23) rfl (by kernel_rfl) rfl (bt q34 (by kernel_rfl)) rfl (by kernel_rfl) (e_indexAddr (b := b36) (off := o37) (n := x1.cells.length) (c := c3) (sz := 3) (i := x10.n) (k := .i64) Try.underlying32 e38 (by kernel_rfl) (by kernel_rfl) (by kernel_rfl) q35 q34) ?_
        refine lvg (d := 29) (t := 23) rfl (by kernel_rfl) rfl (bt q34 (by kernel_rfl)) rfl (by kernel_rfl) (e_fieldAddr (b := b36) (off := o37 + (x10.n : Int).toNat * 3) (o := 0) Try.underlying36 rfl rfl (sz := 1) (by kernel_rfl) (by decide) (by kernel_rfl)) ?_
        refine lvg (d := 30) (t := 23) rfl (by kernel_rfl) rfl (bt q34 (by kernel_rfl)) rfl (by kernel_rfl) (e_load1 (ad := ⟨b36, o37 + (x10.n : Int).toNat * 3 + 0, none⟩) (v := .int .i64 ((x1.cells.getD ((x10.n).toNat) z36).kind)) Try.underlying3 rfl (by kernel_rfl) (hpx (S29.inv.cell (k41 0 _ rfl)))) ?_
        refine lvg (d := 31) (t := 23) rfl (by kernel_rfl) rfl (bt q34 (by kernel_rfl)) rfl (by kernel_rfl) (e_neq (k := .i64) (a := (x1.cells.getD ((x10.n).toNat) z36).kind) (b := 3) (by kernel_rfl) rfl) ?_
        refine lv (d := 32) rfl rfl (by kernel_rfl) (e_pick_t (v := .bool (decide (((x1.cells.getD ((x10.n).toNat) z36).kind) ≠ 3))) (bt q34 (by kernel_rfl)) (by kernel_rfl)) ?_
        refine lv (d := 4) rfl rfl (by kernel_rfl) (e_assign (v := .bool (decide (((x1.cells.getD ((x10.n).toNat) z36).kind) ≠ 3))) (by kernel_rfl)) ?_
        refine wpList_nil ?_
        refine then_n ?_
        refine wp_ret ?_
        refine inb_r ?_
        refine then_r ?_
        obtain rfl := Option.some.inj M
        exact ret1 rfl rfl  (show _ = .bool (decide (((x1.cells.getD ((x10.n).toNat) z36).kind) ≠ 3)) from (by kernel_rfl)) ⟨rfl, S29.chg⟩
      replace M := ifn q34 M
      refine lskip (t := 23) (c := false) rfl (by kernel_rfl) rfl (bf q34 (by kernel_rfl)) rfl rfl ?_
      refine lskip (t := 23) (c := false) rfl (by kernel_rfl) rfl (bf q34 (by kernel_rfl)) rfl rfl ?_
      refine lskip (t := 23) (c := false) rfl (by kernel_rfl) rfl (bf q34 (by kernel_rfl)) rfl rfl ?_
      refine lskip (t := 23) (c := false) rfl (by kernel_rfl) rfl (bf q34 (by kernel_rfl)) rfl rfl ?_
      refine lskip (t := 23) (c := false) rfl (by kernel_rfl) rfl (bf q34 (by kernel_rfl)) rfl rfl ?_
      refine lskip (t := 23) (c := false) rfl (by kernel_rfl) rfl (bf q34 (by kernel_rfl)) rfl rfl ?_
      refine lskip (t := 23) (c := false) rfl (by kernel_rfl) rfl (bf q34 (by kernel_rfl)) rfl rfl ?_
      refine lskip (t := 23) (c := false) rfl (by kernel_rfl) rfl (bf q34 (by kernel_rfl)) rfl rfl ?_
      refine lv (d := 32) rfl rfl (by kernel_rfl) (e_pick_f (v := .bool false) (bf q34 (by kernel_rfl)) rfl) ?_
      refine lv (d := 4) rfl rfl (by kernel_rfl) (e_assign (v := .bool false) (by kernel_rfl)) ?_
      refine wpList_nil ?_
      refine then_n ?_
      refine wp_ret ?_
      refine inb_r ?_
      refine then_r ?_
      obtain rfl := Option.some.inj M
      exact ret1 rfl rfl  (show _ = .bool false from (by kernel_rfl)) ⟨rfl, S29.chg⟩
    replace M := ifn q33 M
    refine lskip (t := 15) (c := false) rfl (by kernel_rfl) rfl (bf q33 (by kernel_rfl)) rfl rfl ?_
    refine lskip (t := 15) (c := false) rfl (by kernel_rfl) rfl (bf q33 (by kernel_rfl)) rfl rfl ?_
    refine lskip (t := 15) (c := false) rfl (by kernel_rfl) rfl (bf q33 (by kernel_rfl)) rfl rfl ?_
    refine lskip (t := 15) (c := false) rfl (by kernel_rfl) rfl (bf q33 (by kernel_rfl)) rfl rfl ?_
    refine lskip (t := 15) (c := false) rfl (by kernel_rfl) rfl (bf q33 (by kernel_rfl)) rfl rfl ?_
    refine lskip (t := 15) (c := false) rfl (by kernel_rfl) rfl (bf q33 (by kernel_rfl)) rfl rfl ?_
    refine lv (d := 22) rfl rfl (by kernel_rfl) (e_pick_f (v := .bool false) (bf q33 (by kernel_rfl)) rfl) ?_
    refine lv (d := 23) rfl rfl (by kernel_rfl) (e_move (v := .bool false) (by kernel_rfl)) ?_
    refine lskip (t := 23) (c := false) rfl (by kernel_rfl) rfl (by kernel_rfl) rfl rfl ?_
    refine lskip (t := 23) (c := false) rfl (by kernel_rfl) rfl (by kernel_rfl) rfl rfl ?_
    refine lskip (t := 23) (c := false) rfl (by kernel_rfl) rfl (by kernel_rfl) rfl rfl ?_
    refine lskip (t := 23) (c := false) rfl (by kernel_rfl) rfl (by kernel_rfl) rfl rfl ?_
    refine lskip (t := 23) (c := false) rfl (by kernel_rfl) rfl (by kernel_rfl) rfl rfl ?_
    refine lskip (t := 23) (c := false) rfl (by kernel_rfl) rfl (by kernel_rfl) rfl rfl ?_
    refine lskip (t := 23) (c := false) rfl (by kernel_rfl) rfl (by kernel_rfl) rfl rfl ?_
    refine lskip (t := 23) (c := false) rfl (by kernel_rfl) rfl (by kernel_rfl) rfl rfl ?_
    refine lv (d := 32) rfl rfl (by kernel_rfl) (e_pick_f (v := .bool false) (by kernel_rfl) rfl) ?_
    refine lv (d := 4) rfl rfl (by kernel_rfl) (e_assign (v := .bool false) (by kernel_rfl)) ?_
    refine wpList_nil ?_
    refine then_n ?_
    refine wp_ret ?_
    refine inb_r ?_
    refine then_r ?_
    obtain rfl := Option.some.inj M
    exact ret1 rfl rfl  (show _ = .bool false from (by kernel_rfl)) ⟨rfl, S29.chg⟩
  replace M := ifn q32 M
  refine cond_f rfl (bf q32 (by kernel_rfl)) ?_
  refine wp_seq ?_
  refine wp_region_lit ?_
  refine lv (d := 34) rfl rfl (by kernel_rfl) (e_eql (k := .i64) (a := x10.kind) (b := 4) (by kernel_rfl) rfl) ?_
  refine lv (d := 33) rfl rfl (by kernel_rfl) (e_assign (v := .bool (decide (x10.kind = 4))) (by kernel_rfl)) ?_
  refine wpList_nil ?_
  refine then_n ?_
  by_cases q46 : x10.kind = 4
  · replace M := ifp q46 M
    refine cond_t rfl (bt q46 (by kernel_rfl)) ?_
    refine wp_seq ?_
    refine wp_region_lit ?_
    refine lv (d := 35) rfl rfl (by kernel_rfl) (e_fieldAddr (b := g21) (off := 0) (o := 1) Try.underlying36 rfl rfl (sz := 1) (by kernel_rfl) (by decide) (by kernel_rfl)) ?_
    refine lv (d := 36) rfl rfl (by kernel_rfl) (e_load1 (ad := ⟨g21, 0 + 1, none⟩) (v := .int .i64 x10.n) Try.underlying3 rfl (by kernel_rfl) (blk_cell b22 rfl)) ?_
    refine lv (d := 37) rfl rfl (by kernel_rfl) (e_geq (k := .i64) (a := x10.n) (b := 0) (by kernel_rfl) rfl) ?_
    refine lv (d := 38) rfl rfl (by kernel_rfl) (e_move (v := .bool (decide (x10.n ≥ 0))) (by kernel_rfl)) ?_
    by_cases q47 : x10.n ≥ 0
    · replace M := ifp q47 M
      refine lvg (d := 39) (t := 38) rfl (by kernel_rfl) rfl (bt q47 (by kernel_rfl)) rfl (by kernel_rfl) (e_fieldAddr (b := g21) (off := 0) (o := 1) Try.underlying36 rfl rfl (sz := 1) (by kernel_rfl) (by decide) (by kernel_rfl)) ?_
      refine lvg (d := 40) (t := 38) rfl (by kernel_rfl) rfl (bt q47 (by kernel_rfl)) rfl (by kernel_rfl) (e_load1 (ad := ⟨g21, 0 + 1, none⟩) (v := .int .i64 x10.n) Try.underlying3 rfl (by kernel_rfl) (blk_cell b22 rfl)) ?_
      refine lvg (d := 41) (t := 38) rfl (by kernel_rfl) rfl (bt q47 (by kernel_rfl)) rfl (by kernel_rfl) (e_fieldAddr (b := g16) (off := 0) (o := 0) Try.underlying34 rfl rfl (sz := 1) (by kernel_rfl) (by decide) (by kernel_rfl)) ?_
      refine lvg (d := 42) (t := 38) rfl (by kernel_rfl) rfl (bt q47 (by kernel_rfl)) rfl (by kernel_rfl) (e_load1 (ad := ⟨g16, 0 + 0, none⟩) (v := .slice A2 x1.cells.length c3) Try.underlying32 rfl (by kernel_rfl) (blk_cell b17 rfl)) ?_
      refine lvg (d := 43) (t := 38) rfl (by kernel_rfl) rfl (bt q47 (by kernel_rfl)) rfl (by kernel_rfl) (e_len (A := A2) (n := x1.cells.length) (c := c3) Try.underlying32 (by kernel_rfl)) ?_
      refine lvg (d := 44) (t := 38) rfl (by kernel_rfl) rfl (bt q47 (by kernel_rfl)) rfl (by kernel_rfl) (e_lss (k := .i64) (a := x10.n) (b := (x1.cells.length : Int)) (by kernel_rfl) (by kernel_rfl)) ?_
      refine lv (d := 45) rfl rfl (by kernel_rfl) (e_pick_t (v := .bool (decide (x10.n < (x1.cells.length : Int)))) (bt q47 (by kernel_rfl)) (by kernel_rfl)) ?_
      refine lv (d := 46) rfl rfl (by kernel_rfl) (e_move (v := .bool (decide (x10.n < (x1.cells.length : Int)))) (by kernel_rfl)) ?_
      by_cases q48 : x10.n < (x1.cells.length : Int)
      · replace M := ifp q48 M
        refine lvg (d := 47) (t := 46) rfl (by kernel_rfl) rfl (bt q48 (by kernel_rfl)) rfl (by kernel_rfl) (e_fieldAddr (b := g16) (off := 0) (o := 0) Try.underlying34 rfl rfl (sz := 1) (by kernel_rfl) (by decide) (by kernel_rfl)) ?_
        refine lvg (d := 48) (t := 46) rfl (by kernel_rfl) rfl (bt q48 (by kernel_rfl)) rfl (by kernel_rfl) (e_load1 (ad := ⟨g16, 0 + 0, none⟩) (v := .slice A2 x1.cells.length c3) Try.underlying32 rfl (by kernel_rfl) (blk_cell b17 rfl)) ?_
        refine lvg (d := 49) (t := 46) rfl (by kernel_rfl) rfl (bt q48 (by kernel_rfl)) rfl (by kernel_rfl) (e_fieldAddr (b := g21) (off := 0) (o := 1) Try.underlying36 rfl rfl (sz := 1) (by kernel_rfl) (by decide) (by kernel_rfl)) ?_
        refine lvg (d := 50) (t := 46) rfl (by kernel_rfl) rfl (bt q48 (by kernel_rfl)) rfl (by kernel_rfl) (e_load1 (ad := ⟨g21, 0 + 1, none⟩) (v := .int .i64 x10.n) Try.underlying3 rfl (by kernel_rfl) (blk_cell b22 rfl)) ?_
        obtain ⟨q49, M⟩ := chk M
        obtain ⟨b50, o51, e52⟩ := Rd.addr h4 (show (x10.n).toNat < x1.cells.length by omega)
        obtain ⟨y53, r54, k55⟩ := Rd.at h4 e52 (getD_some z36 (show (x10.n).toNat < x1.cells.length by omega))
        obtain ⟨A56, c57, rfl, l58, h59⟩ := st36_open r54
        refine lvg (d := 51) (t := 46) rfl (by kernel_rfl) rfl (bt q48 (by kernel_rfl)) rfl (by kernel_rfl) (e_indexAddr (b := b50) (off := o51) (n := x1.cells.length) (c := c3) (sz := 3) (i := x10.n) (k := .i64) Try.underlying32 e52 (by kernel_rfl) (by kernel_rfl) (by kernel_rfl) q49 q48) ?_
        refine lvg (d := 52) (t := 46) rfl (by kernel_rfl) rfl (bt q48 (by kernel_rfl)) rfl (by kernel_rfl) (e_fieldAddr (b := b50) (off := o51 + (x10.n : Int).toNat * 3) (o := 0) Try.underlying36 rfl rfl (sz := 1) (by kernel_rfl) (by decide) (by kernel_rfl)) ?_
        refine lvg (d := 53) (t := 46) rfl (by kernel_rfl) rfl (bt q48 (by kernel_rfl)) rfl (by kernel_rfl) (e_load1 (ad := ⟨b50, o51 + (x10.n : Int).toNat * 3 + 0, none⟩) (v := .int .i64 ((x1.cells.getD ((x10.n).toNat) z36).kind)) Try.underlying3 rfl (by kernel_rfl) (hpx (S29.inv.cell (k55 0 _ rfl)))) ?_
        refine lvg (d := 54) (t := 46) rfl (by kernel_rfl) rfl (bt q48 (by kernel_rfl)) rfl (by kernel_rfl) (e_eql (k := .i64) (a := (x1.cells.getD ((x10.n).toNat) z36).kind) (b := 3) (by kernel_rfl) rfl) ?_
        refine lv (d := 55) rfl rfl (by kernel_rfl) (e_pick_t (v := .bool (decide (((x1.cells.getD ((x10.n).toNat) z36).kind) = 3))) (bt q48 (by kernel_rfl)) (by kernel_rfl)) ?_
        refine lv (d := 4) rfl rfl (by kernel_rfl) (e_assign (v := .bool (decide (((x1.cells.getD ((x10.n).toNat) z36).kind) = 3))) (by kernel_rfl)) ?_
        refine wpList_nil ?_
        refine then_n ?_
        refine wp_ret ?_
        refine inb_r ?_
        refine then_r ?_
        obtain rfl := Option.some.inj M
        exact ret1 rfl rfl  (show _ = .bool (decide (((x1.cells.getD ((x10.n).toNat) z36).kind) = 3)) from (by kernel_rfl)) ⟨rfl, S29.chg⟩
      replace M := ifn q48 M
      refine lskip (t := 46) (c := false) rfl (by kernel_rfl) rfl (bf q48 (by kernel_rfl)) rfl rfl ?_
      refine lskip (t := 46) (c := false) rfl (by kernel_rfl) rfl (bf q48 (by kernel_rfl)) rfl rfl ?_
      refine lskip (t := 46) (c := false) rfl (by kernel_rfl) rfl (bf q48 (by kernel_rfl)) rfl rfl ?_
      refine lskip (t := 46) (c := false) rfl (by kernel_rfl) rfl (bf q48 (by kernel_rfl)) rfl rfl ?_
      refine lskip (t := 46) (c := false) rfl (by kernel_rfl) rfl (bf q48 (by kernel_rfl)) rfl rfl ?_
      refine lskip (t := 46) (c := false) rfl (by kernel_rfl) rfl (bf q48 (by kernel_rfl)) rfl rfl ?_
      refine lskip (t := 46) (c := false) rfl (by kernel_rfl) rfl (bf q48 (by kernel_rfl)) rfl rfl ?_
      refine lskip (t := 46) (c := false) rfl (by kernel_rfl) rfl (bf q48 (by kernel_rfl)) rfl rfl ?_
      refine lv (d := 55) rfl rfl (by kernel_rfl) (e_pick_f (v := .bool false) (bf q48 (by kernel_rfl)) rfl) ?_
      refine lv (d := 4) rfl rfl (by kernel_rfl) (e_assign (v := .bool false) (by kernel_rfl)) ?_
      refine wpList_nil ?_
      refine then_n ?_
      refine wp_ret ?_
      refine inb_r ?_
      refine then_r ?_
      obtain rfl := Option.some.inj M
      exact ret1 rfl rfl  (show _ = .bool false from (by kernel_rfl)) ⟨rfl, S29.chg⟩
    replace M := ifn q47 M
    refine lskip (t := 38) (c := false) rfl (by kernel_rfl) rfl (bf q47 (by kernel_rfl)) rfl rfl ?_
    refine lskip (t := 38) (c := false) rfl (by kernel_rfl) rfl (bf q47 (by kernel_rfl)) rfl rfl ?_
    refine lskip (t := 38) (c := false) rfl (by kernel_rfl) rfl (bf q47 (by kernel_rfl)) rfl rfl ?_
    refine lskip (t := 38) (c := false) rfl (by kernel_rfl) rfl (bf q47 (by kernel_rfl)) rfl rfl ?_
    refine lskip (t := 38) (c := false) rfl (by kernel_rfl) rfl (bf q47 (by kernel_rfl)) rfl rfl ?_
    refine lskip (t := 38) (c := false) rfl (by kernel_rfl) rfl (bf q47 (by kernel_rfl)) rfl rfl ?_
    refine lv (d := 45) rfl rfl (by kernel_rfl) (e_pick_f (v := .bool false) (bf q47 (by kernel_rfl)) rfl) ?_
    refine lv (d := 46) rfl rfl (by kernel_rfl) (e_move (v := .bool false) (by kernel_rfl)) ?_
    refine lskip (t := 46) (c := false) rfl (by kernel_rfl) rfl (by kernel_rfl) rfl rfl ?_
    refine lskip (t := 46) (c := false) rfl (by kernel_rfl) rfl (by kernel_rfl) rfl rfl ?_
    refine lskip (t := 46) (c := false) rfl (by kernel_rfl) rfl (by kernel_rfl) rfl rfl ?_
    refine lskip (t := 46) (c := false) rfl (by kernel_rfl) rfl (by kernel_rfl) rfl rfl ?_
    refine lskip (t := 46) (c := false) rfl (by kernel_rfl) rfl (by kernel_rfl) rfl rfl ?_
    refine lskip (t := 46) (c := false) rfl (by kernel_rfl) rfl (by kernel_rfl) rfl rfl ?_
    refine lskip (t := 46) (c := false) rfl (by kernel_rfl) rfl (by kernel_rfl) rfl rfl ?_
    refine lskip (t := 46) (c := false) rfl (by kernel_rfl) rfl (by kernel_rfl) rfl rfl ?_
    refine lv (d := 55) rfl rfl (by kernel_rfl) (e_pick_f (v := .bool false) (by kernel_rfl) rfl) ?_
    refine lv (d := 4) rfl rfl (by kernel_rfl) (e_assign (v := .bool false) (by kernel_rfl)) ?_
    refine wpList_nil ?_
    refine then_n ?_
    refine wp_ret ?_
    refine inb_r ?_
    refine then_r ?_
    obtain rfl := Option.some.inj M
    exact ret1 rfl rfl  (show _ = .bool false from (by kernel_rfl)) ⟨rfl, S29.chg⟩
  replace M := ifn q46 M
  refine cond_f rfl (bf q46 (by kernel_rfl)) ?_
  refine wp_skip ?_
  refine inb_n ?_
  refine then_n ?_
  refine wp_seq ?_
  refine wp_region_lit ?_
  refine lv (d := 4) rfl rfl (by kernel_rfl) (e_assign (v := .bool true) rfl) ?_
  refine wpList_nil ?_
  refine then_n ?_
  refine wp_ret ?_
  obtain rfl := Option.some.inj M
  exact ret1 rfl rfl  (show _ = .bool true from (by kernel_rfl)) ⟨rfl, S29.chg⟩

/-! impl_Store_ok_c1 -/
structure GStep where
  at_ : Int
  next_ : Int
  deriving Inhabited
def st86 : Ty GStep := iso (pair tInt tInt) (fun x => (x.at_, x.next_))
theorem st86_open {H : Hp} {x : GStep} {cs : List Value} (h : st86.R H x cs) : cs = [.int .i64 x.at_, .int .i64 x.next_] := by
  obtain ⟨_, _, rfl, rfl, rfl⟩ := h
  exact rfl
theorem st86_mkR {H : Hp} {x : GStep} : st86.R H x [.int .i64 x.at_, .int .i64 x.next_] := ⟨[.int .i64 x.at_], [.int .i64 x.next_], rfl, rfl, rfl⟩
theorem st86_mkO {H X : Hp} {x : GStep} : st86.O H X no x [.int .i64 x.at_, .int .i64 x.next_] := (pairO0 (a := tInt) (b := tInt) (x := (x.at_, x.next_)) (c0 := [.int .i64 x.at_]) (c1 := [.int .i64 x.next_]) (F := no) rfl rfl)
theorem st86_openO {H X : Hp} {F : Foot} {x : GStep} {cs : List Value} (h : st86.O H X F x cs) : cs = [.int .i64 x.at_, .int .i64 x.next_] := by
  obtain ⟨_, _, K0, L0, rfl, rfl, rfl, d0, s0⟩ := h
  exact rfl
theorem st86_RO : RO st86 := (ro_iso (ro_pair (ro_scal _ _) (ro_scal _ _)))
theorem st86_c0 {H X : Hp} {F : Foot} {x : GStep} {cs : List Value} (h : st86.O H X F x cs) : cs[0]? = some (.int .i64 x.at_) := by obtain rfl := st86_openO h; rfl
theorem st86_r0 {H : Hp} {x : GStep} {cs : List Value} (h : st86.R H x cs) : cs[0]? = some (.int .i64 x.at_) := by obtain rfl := st86_open h; rfl
theorem st86_c1 {H X : Hp} {F : Foot} {x : GStep} {cs : List Value} (h : st86.O H X F x cs) : cs[1]? = some (.int .i64 x.next_) := by obtain rfl := st86_openO h; rfl
theorem st86_r1 {H : Hp} {x : GStep} {cs : List Value} (h : st86.R H x cs) : cs[1]? = some (.int .i64 x.next_) := by obtain rfl := st86_open h; rfl
theorem st86_u0 {H X : Hp} {F1 F2 : Foot} {x : GStep} (y : Int) {cs : List Value} (h : st86.O H X F1 x cs) : st86.O H X (or2 F1 F2) {x with at_ := y} (cs.take 0 ++ [.int .i64 y] ++ cs.drop 1) := by
  obtain rfl := st86_openO h
  exact st86.O_mono (fun _ h => h.elim) (st86_mkO (x := {x with at_ := y}))
theorem st86_u1 {H X : Hp} {F1 F2 : Foot} {x : GStep} (y : Int) {cs : List Value} (h : st86.O H X F1 x cs) : st86.O H X (or2 F1 F2) {x with next_ := y} (cs.take 1 ++ [.int .i64 y] ++ cs.drop 2) := by
  obtain rfl := st86_openO h
  exact st86.O_mono (fun _ h => h.elim) (st86_mkO (x := {x with next_ := y}))
def z86 : GStep := ⟨(0 : Int), (0 : Int)⟩
theorem z86_O (H X : Hp) : st86.O H X no z86 [.int .i64 (0 : Int), .int .i64 (0 : Int)] := st86_mkO (x := z86)
theorem z86_R (H : Hp) : st86.R H z86 [.int .i64 (0 : Int), .int .i64 (0 : Int)] := st86_mkR (x := z86)
def impl_Store_ok_c1.f (x1 : Int) (x2 : Int) (x3 : Store) : Option (Int × Bool) := (if 0 ≤ x1 then (if x1 < (x3.cells.length : Int) then (if ((x3.cells.getD ((x1).toNat) z36).kind) = 0 then (if ((x3.cells.getD ((x1).toNat) z36).n) ≠ x1 then (if x2 = 0 then some ((x3.cells.getD ((x1).toNat) z36).n, true) else (if ((x3.cells.getD ((x1).toNat) z36).kind) = 4 then (if 0 ≤ ((x3.cells.getD ((x1).toNat) z36).n) then (if ((x3.cells.getD ((x1).toNat) z36).n) < (x3.cells.length : Int) then (if x2 < ((x3.cells.getD (((x3.cells.getD ((x1).toNat) z36).n).toNat) z36).n) then some ((IntKind.i64.wrap ((IntKind.i64.wrap (((x3.cells.getD ((x1).toNat) z36).n) + 1)) + x2)), true) else some (0, false)) else none) else none) else some (0, false))) else (if ((x3.cells.getD ((x1).toNat) z36).kind) = 4 then (if 0 ≤ ((x3.cells.getD ((x1).toNat) z36).n) then (if ((x3.cells.getD ((x1).toNat) z36).n) < (x3.cells.length : Int) then (if x2 < ((x3.cells.getD (((x3.cells.getD ((x1).toNat) z36).n).toNat) z36).n) then some ((IntKind.i64.wrap ((IntKind.i64.wrap (((x3.cells.getD ((x1).toNat) z36).n) + 1)) + x2)), true) else some (0, false)) else none) else none) else some (0, false))) else (if ((x3.cells.getD ((x1).toNat) z36).kind) = 4 then (if 0 ≤ ((x3.cells.getD ((x1).toNat) z36).n) then (if ((x3.cells.getD ((x1).toNat) z36).n) < (x3.cells.length : Int) then (if x2 < ((x3.cells.getD (((x3.cells.getD ((x1).toNat) z36).n).toNat) z36).n) then some ((IntKind.i64.wrap ((IntKind.i64.wrap (((x3.cells.getD ((x1).toNat) z36).n) + 1)) + x2)), true) else some (0, false)) else none) else none) else some (0, false))) else none) else none)
theorem impl_Store_ok_c1.calls (w : World) (H : Hp) (x1 : Int) (x2 : Int) (x3 : Store) (g4 : Nat) (A6 : Option Addr) (c7 : Nat) (A10 : Option Addr) (c11 : Nat) (h8 : Rd st36 H A6 x3.cells) (l9 : x3.cells.length ≤ c7) (h12 : Rd tInt H A10 x3.trail) (l13 : x3.trail.length ≤ c11) (b5 : H g4 = some (.cells #[.slice A6 x3.cells.length c7, .slice A10 x3.trail.length c11] 34 (0, 0))) (S : Own [] H w) (r : Int × Bool) (M : impl_Store_ok_c1.f x1 x2 x3 = some r) :
    Calls Try.prog 66 #[.int .i64 x1, .int .i64 x2, .pointer (some ⟨g4, 0, none⟩)] w (fun e e_w => e = .returned (.tuple #[.int .i64 r.1, .bool r.2]) ∧ Chg no w e_w) := by
  rw [impl_Store_ok_c1.f] at M
  refine enter (l := [.int .i64 x1, .int .i64 x2, .pointer (some ⟨g4, 0, none⟩)]) 49 Try.func66 rfl rfl rfl ?_
  have S0_ := S.st
  refine wp_seq ?_
  refine wp_region_lit ?_
  refine lv (d := 5) rfl rfl (by kernel_rfl) (e_assign (v := .int .i64 0) rfl) ?_
  refine lv (d := 6) rfl rfl (by kernel_rfl) (e_assign (v := .bool false) rfl) ?_
  refine wpList_nil ?_
  refine then_n ?_
  refine wp_seq ?_
  refine wp_region_lit ?_
  refine lv (d := 8) rfl rfl (by kernel_rfl) (e_fieldAddr (b := g4) (off := 0) (o := 0) Try.underlying34 rfl rfl (sz := 1) (by kernel_rfl) (by decide) (by kernel_rfl)) ?_
  refine lv (d := 9) rfl rfl (by kernel_rfl) (e_load1 (ad := ⟨g4, 0 + 0, none⟩) (v := .slice A6 x3.cells.length c7) Try.underlying32 rfl (by kernel_rfl) (blk_cell (S0_.inv _ _ b5) rfl)) ?_
  refine lv (d := 10) rfl rfl (by kernel_rfl) (e_move (v := .int .i64 x1) (by kernel_rfl)) ?_
  obtain ⟨q14, M⟩ := chk M
  obtain ⟨q15, M⟩ := chk M
  obtain ⟨b16, o17, e18⟩ := Rd.addr h8 (show (x1).toNat < x3.cells.length by omega)
  obtain ⟨y19, r20, k21⟩ := Rd.at h8 e18 (getD_some z36 (show (x1).toNat < x3.cells.length by omega))
  obtain ⟨A22, c23, rfl, l24, h25⟩ := st36_open r20
  refine lv (d := 11) rfl rfl (by kernel_rfl) (e_indexAddr (b := b16) (off := o17) (n := x3.cells.length) (c := c7) (sz := 3) (i := x1) (k := .i64) Try.underlying32 e18 (by kernel_rfl) (by kernel_rfl) (by kernel_rfl) q14 q15) ?_
  refine lv (d := 12) rfl rfl (by kernel_rfl) (e_loadS (b := b16) (off := o17 + (x1 : Int).toNat * 3) (cs := [.int .i64 ((x3.cells.getD ((x1).toNat) z36).kind), .int .i64 ((x3.cells.getD ((x1).toNat) z36).n), .slice A22 ((x3.cells.getD ((x1).toNat) z36).text).length c23]) Try.underlying36 rfl (by kernel_rfl) (by kernel_rfl) (fun j_ u_ e_ => (hpx (S0_.inv.cell (k21 j_ u_ e_))))) ?_
  refine lve (d := 7) rfl rfl (by kernel_rfl) (new_blk (v := fun g_ => .pointer (some ⟨g_, 0, none⟩)) (cs := #[.int .i64 0, .int .i64 0, .slice none 0 0]) (t := 36) S0_ (by kernel_rfl)) ?_
  rintro _ w26 ⟨g27, rfl, b28, S29, K30⟩
  refine lse rfl rfl (by kernel_rfl) (e_store (g := g27) (o := 0) (v := .agg #[.int .i64 ((x3.cells.getD ((x1).toNat) z36).kind), .int .i64 ((x3.cells.getD ((x1).toNat) z36).n), .slice A22 ((x3.cells.getD ((x1).toNat) z36).text).length c23]) (cur' := #[.int .i64 ((x3.cells.getD ((x1).toNat) z36).kind), .int .i64 ((x3.cells.getD ((x1).toNat) z36).n), .slice A22 ((x3.cells.getD ((x1).toNat) z36).text).length c23]) (vs := [.int .i64 ((x3.cells.getD ((x1).toNat) z36).kind), .int .i64 ((x3.cells.getD ((x1).toNat) z36).n), .slice A22 ((x3.cells.getD ((x1).toNat) z36).text).length c23]) S29 (by kernel_rfl) (by kernel_rfl) rfl (by kernel_rfl) b28 (Nat.le_of_ble_eq_true rfl) (List.forall_mem_cons.2 ⟨rfl, (List.forall_mem_cons.2 ⟨rfl, (List.forall_mem_cons.2 ⟨rfl, (fun _ h_ => by cases h_)⟩)⟩)⟩) rfl) ?_
  rintro w31 ⟨b32, S33, K34⟩
  clear b28
  refine wpList_nil ?_
  refine then_n ?_
  refine wp_seq ?_
  refine wp_block ?_
  refine wp_seq ?_
  refine wp_region_lit ?_
  refine lv (d := 14) rfl rfl (by kernel_rfl) (e_fieldAddr (b := g27) (off := 0) (o := 0) Try.underlying36 rfl rfl (sz := 1) (by kernel_rfl) (by decide) (by kernel_rfl)) ?_
  refine lv (d := 15) rfl rfl (by kernel_rfl) (e_load1 (ad := ⟨g27, 0 + 0, none⟩) (v := .int .i64 ((x3.cells.getD ((x1).toNat) z36).kind)) Try.underlying3 rfl (by kernel_rfl) (blk_cell b32 rfl)) ?_
  refine lv (d := 16) rfl rfl (by kernel_rfl) (e_eql (k := .i64) (a := (x3.cells.getD ((x1).toNat) z36).kind) (b := 0) (by kernel_rfl) rfl) ?_
  refine lv (d := 17) rfl rfl (by kernel_rfl) (e_move (v := .bool (decide (((x3.cells.getD ((x1).toNat) z36).kind) = 0))) (by kernel_rfl)) ?_
  by_cases q35 : ((x3.cells.getD ((x1).toNat) z36).kind) = 0
  · replace M := ifp q35 M
    refine lvg (d := 18) (t := 17) rfl (by kernel_rfl) rfl (bt q35 (by kernel_rfl)) rfl (by kernel_rfl) (e_fieldAddr (b := g27) (off := 0) (o := 1) Try.underlying36 rfl rfl (sz := 1) (by kernel_rfl) (by decide) (by kernel_rfl)) ?_
    refine lvg (d := 19) (t := 17) rfl (by kernel_rfl) rfl (bt q35 (by kernel_rfl)) rfl (by kernel_rfl) (e_load1 (ad := ⟨g27, 0 + 1, none⟩) (v := .int .i64 ((x3.cells.getD ((x1).toNat) z36).n)) Try.underlying3 rfl (by kernel_rfl) (blk_cell b32 rfl)) ?_
    refine lvg (d := 20) (t := 17) rfl (by kernel_rfl) rfl (bt q35 (by kernel_rfl)) rfl (by kernel_rfl) (e_move (v := .int .i64 x1) (by kernel_rfl)) ?_
    refine lvg (d := 21) (t := 17) rfl (by kernel_rfl) rfl (bt q35 (by kernel_rfl)) rfl (by kernel_rfl) (e_neq (k := .i64) (a := (x3.cells.getD ((x1).toNat) z36).n) (b := x1) (by kernel_rfl) (by kernel_rfl)) ?_
    refine lv (d := 22) rfl rfl (by kernel_rfl) (e_pick_t (v := .bool (decide (((x3.cells.getD ((x1).toNat) z36).n) ≠ x1))) (bt q35 (by kernel_rfl)) (by kernel_rfl)) ?_
    refine lv (d := 23) rfl rfl (by kernel_rfl) (e_move (v := .bool (decide (((x3.cells.getD ((x1).toNat) z36).n) ≠ x1))) (by kernel_rfl)) ?_
    by_cases q36 : ((x3.cells.getD ((x1).toNat) z36).n) ≠ x1
    · replace M := ifp q36 M
      refine lvg (d := 24) (t := 23) rfl (by kernel_rfl) rfl (bt q36 (by kernel_rfl)) rfl (by kernel_rfl) (e_move (v := .int .i64 x2) (by kernel_rfl)) ?_
      refine lvg (d := 25) (t := 23) rfl (by kernel_rfl) rfl (bt q36 (by kernel_rfl)) rfl (by kernel_rfl) (e_eql (k := .i64) (a := x2) (b := 0) (by kernel_rfl) rfl) ?_
      refine lv (d := 26) rfl rfl (by kernel_rfl) (e_pick_t (v := .bool (decide (x2 = 0))) (bt q36 (by kernel_rfl)) (by kernel_rfl)) ?_
      refine lv (d := 13) rfl rfl (by kernel_rfl) (e_assign (v := .bool (decide (x2 = 0))) (by kernel_rfl)) ?_
      refine wpList_nil ?_
      refine then_n ?_
      by_cases q37 : x2 = 0
      · replace M := ifp q37 M
        refine cond_t rfl (bt q37 (by kernel_rfl)) ?_
        refine wp_seq ?_
        refine wp_region_lit ?_
        refine lv (d := 27) rfl rfl (by kernel_rfl) (e_fieldAddr (b := g27) (off := 0) (o := 1) Try.underlying36 rfl rfl (sz := 1) (by kernel_rfl) (by decide) (by kernel_rfl)) ?_
        refine lv (d := 28) rfl rfl (by kernel_rfl) (e_load1 (ad := ⟨g27, 0 + 1, none⟩) (v := .int .i64 ((x3.cells.getD ((x1).toNat) z36).n)) Try.underlying3 rfl (by kernel_rfl) (blk_cell b32 rfl)) ?_
        refine lv (d := 5) rfl rfl (by kernel_rfl) (e_assign (v := .int .i64 ((x3.cells.getD ((x1).toNat) z36).n)) (by kernel_rfl)) ?_
        refine lv (d := 6) rfl rfl (by kernel_rfl) (e_assign (v := .bool true) rfl) ?_
        refine wpList_nil ?_
        refine then_n ?_
        refine wp_ret ?_
        refine inb_r ?_
        refine then_r ?_
        obtain rfl := Option.some.inj M
        exact ret2 rfl rfl rfl (show _ = .int .i64 ((x3.cells.getD ((x1).toNat) z36).n) from (by kernel_rfl)) (show _ = .bool true from (by kernel_rfl)) ⟨rfl, S33.chg⟩
      replace M := ifn q37 M
      refine cond_f rfl (bf q37 (by kernel_rfl)) ?_
      refine wp_seq ?_
      refine wp_region_lit ?_
      refine lv (d := 30) rfl rfl (by kernel_rfl) (e_fieldAddr (b := g27) (off := 0) (o := 0) Try.underlying36 rfl rfl (sz := 1) (by kernel_rfl) (by decide) (by kernel_rfl)) ?_
      refine lv (d := 31) rfl rfl (by kernel_rfl) (e_load1 (ad := ⟨g27, 0 + 0, none⟩) (v := .int .i64 ((x3.cells.getD ((x1).toNat) z36).kind)) Try.underlying3 rfl (by kernel_rfl) (blk_cell b32 rfl)) ?_
      refine lv (d := 32) rfl rfl (by kernel_rfl) (e_eql (k := .i64) (a := (x3.cells.getD ((x1).toNat) z36).kind) (b := 4) (by kernel_rfl) rfl) ?_
      refine lv (d := 33) rfl rfl (by kernel_rfl) (e_move (v := .bool (decide (((x3.cells.getD ((x1).toNat) z36).kind) = 4))) (by kernel_rfl)) ?_
      by_cases q38 : ((x3.cells.getD ((x1).toNat) z36).kind) = 4
      · replace M := ifp q38 M
        refine lvg (d := 34) (t := 33) rfl (by kernel_rfl) rfl (bt q38 (by kernel_rfl)) rfl (by kernel_rfl) (e_move (v := .int .i64 x2) (by kernel_rfl)) ?_
        refine lvg (d := 35) (t := 33) rfl (by kernel_rfl) rfl (bt q38 (by kernel_rfl)) rfl (by kernel_rfl) (e_fieldAddr (b := g4) (off := 0) (o := 0) Try.underlying34 rfl rfl (sz := 1) (by kernel_rfl) (by decide) (by kernel_rfl)) ?_
        refine lvg (d := 36) (t := 33) rfl (by kernel_rfl) rfl (bt q38 (by kernel_rfl)) rfl (by kernel_rfl) (e_load1 (ad := ⟨g4, 0 + 0, none⟩) (v := .slice A6 x3.cells.length c7) Try.underlying32 rfl (by kernel_rfl) (blk_cell (S33.inv _ _ b5) rfl)) ?_
        refine lvg (d := 37) (t := 33) rfl (by kernel_rfl) rfl (bt q38 (by kernel_rfl)) rfl (by kernel_rfl) (e_fieldAddr (b := g27) (off := 0) (o := 1) Try.underlying36 rfl rfl (sz := 1) (by kernel_rfl) (by decide) (by kernel_rfl)) ?_
        refine lvg (d := 38) (t := 33) rfl (by kernel_rfl) rfl (bt q38 (by kernel_rfl)) rfl (by kernel_rfl) (e_load1 (ad := ⟨g27, 0 + 1, none⟩) (v := .int .i64 ((x3.cells.getD ((x1).toNat) z36).n)) Try.underlying3 rfl (by kernel_rfl) (blk_cell b32 rfl)) ?_
        obtain ⟨q39, M⟩ := chk M
        obtain ⟨q40, M⟩ := chk M
        obtain ⟨b41, o42, e43⟩ := Rd.addr h8 (show ((x3.cells.getD ((x1).toNat) z36).n).toNat < x3.cells.length by omega)
        obtain ⟨y44, r45, k46⟩ := Rd.at h8 e43 (getD_some z36 (show ((x3.cells.getD ((x1).toNat) z36).n).toNat < x3.cells.length by omega))
        obtain ⟨A47, c48, rfl, l49, h50⟩ := st36_open r45
        refine lvg (d := 39) (t := 33) rfl (by kernel_rfl) rfl (bt q38 (by kernel_rfl)) rfl (by kernel_rfl) (e_indexAddr (b := b41) (off := o42) (n := x3.cells.length) (c := c7) (sz := 3) (i := (x3.cells.getD ((x1).toNat) z36).n) (k := .i64) Try.underlying32 e43 (by kernel_rfl) (by kernel_rfl) (by kernel_rfl) q39 q40) ?_
        refine lvg (d := 40) (t := 33) rfl (by kernel_rfl) rfl (bt q38 (by kernel_rfl)) rfl (by kernel_rfl) (e_fieldAddr (b := b41) (off := o42 + ((x3.cells.getD ((x1).toNat) z36).n : Int).toNat * 3) (o := 1) Try.underlying36 rfl rfl (sz := 1) (by kernel_rfl) (by decide) (by kernel_rfl)) ?_
        refine lvg (d := 41) (t := 33) rfl (by kernel_rfl) rfl (bt q38 (by kernel_rfl)) rfl (by kernel_rfl) (e_load1 (ad := ⟨b41, o42 + ((x3.cells.getD ((x1).toNat) z36).n : Int).toNat * 3 + 1, none⟩) (v := .int .i64 ((x3.cells.getD (((x3.cells.getD ((x1).toNat) z36).n).toNat) z36).n)) Try.underlying3 rfl (by kernel_rfl) (hpx (S33.inv.cell (k46 1 _ rfl)))) ?_
        refine lvg (d := 42) (t := 33) rfl (by kernel_rfl) rfl (bt q38 (by kernel_rfl)) rfl (by kernel_rfl) (e_lss (k := .i64) (a := x2) (b := (x3.cells.getD (((x3.cells.getD ((x1).toNat) z36).n).toNat) z36).n) (by kernel_rfl) (by kernel_rfl)) ?_
        refine lv (d := 43) rfl rfl (by kernel_rfl) (e_pick_t (v := .bool (decide (x2 < ((x3.cells.getD (((x3.cells.getD ((x1).toNat) z36).n).toNat) z36).n)))) (bt q38 (by kernel_rfl)) (by kernel_rfl)) ?_
        refine lv (d := 29) rfl rfl (by kernel_rfl) (e_assign (v := .bool (decide (x2 < ((x3.cells.getD (((x3.cells.getD ((x1).toNat) z36).n).toNat) z36).n)))) (by kernel_rfl)) ?_
        refine wpList_nil ?_
        refine then_n ?_
        by_cases q51 : x2 < ((x3.cells.getD (((x3.cells.getD ((x1).toNat) z36).n).toNat) z36).n)
        · replace M := ifp q51 M
          refine cond_t rfl (bt q51 (by kernel_rfl)) ?_
          refine wp_seq ?_
          refine wp_region_lit ?_
          refine lv (d := 44) rfl rfl (by kernel_rfl) (e_fieldAddr (b := g27) (off := 0) (o := 1) Try.underlying36 rfl rfl (sz := 1) (by kernel_rfl) (by decide) (by kernel_rfl)) ?_
          refine lv (d := 45) rfl rfl (by kernel_rfl) (e_load1 (ad := ⟨g27, 0 + 1, none⟩) (v := .int .i64 ((x3.cells.getD ((x1).toNat) z36).n)) Try.underlying3 rfl (by kernel_rfl) (blk_cell b32 rfl)) ?_
          refine lv (d := 46) rfl rfl (by kernel_rfl) (e_add (k := .i64) (a := (x3.cells.getD ((x1).toNat) z36).n) (b := 1) (by kernel_rfl) rfl) ?_
          refine lv (d := 47) rfl rfl (by kernel_rfl) (e_move (v := .int .i64 x2) (by kernel_rfl)) ?_
          refine lv (d := 48) rfl rfl (by kernel_rfl) (e_add (k := .i64) (a := (IntKind.i64.wrap (((x3.cells.getD ((x1).toNat) z36).n) + 1))) (b := x2) (by kernel_rfl) (by kernel_rfl)) ?_
          refine lv (d := 5) rfl rfl (by kernel_rfl) (e_assign (v := .int .i64 (IntKind.i64.wrap ((IntKind.i64.wrap (((x3.cells.getD ((x1).toNat) z36).n) + 1)) + x2))) (by kernel_rfl)) ?_
          refine lv (d := 6) rfl rfl (by kernel_rfl) (e_assign (v := .bool true) rfl) ?_
          refine wpList_nil ?_
          refine then_n ?_
          refine wp_ret ?_
          refine inb_r ?_
          refine then_r ?_
          obtain rfl := Option.some.inj M
          exact ret2 rfl rfl rfl (show _ = .int .i64 (IntKind.i64.wrap ((IntKind.i64.wrap (((x3.cells.getD ((x1).toNat) z36).n) + 1)) + x2)) from (by kernel_rfl)) (show _ = .bool true from (by kernel_rfl)) ⟨rfl, S33.chg⟩
        replace M := ifn q51 M
        refine cond_f rfl (bf q51 (by kernel_rfl)) ?_
        refine wp_skip ?_
        refine inb_n ?_
        refine then_n ?_
        refine wp_seq ?_
        refine wp_region_lit ?_
        refine lv (d := 5) rfl rfl (by kernel_rfl) (e_assign (v := .int .i64 0) rfl) ?_
        refine lv (d := 6) rfl rfl (by kernel_rfl) (e_assign (v := .bool false) rfl) ?_
        refine wpList_nil ?_
        refine then_n ?_
        refine wp_ret ?_
        obtain rfl := Option.some.inj M
        exact ret2 rfl rfl rfl (show _ = .int .i64 0 from (by kernel_rfl)) (show _ = .bool false from (by kernel_rfl)) ⟨rfl, S33.chg⟩
      replace M := ifn q38 M
      refine lskip (t := 33) (c := false) rfl (by kernel_rfl) rfl (bf q38 (by kernel_rfl)) rfl rfl ?_
      refine lskip (t := 33) (c := false) rfl (by kernel_rfl) rfl (bf q38 (by kernel_rfl)) rfl rfl ?_
      refine lskip (t := 33) (c := false) rfl (by kernel_rfl) rfl (bf q38 (by kernel_rfl)) rfl rfl ?_
      refine lskip (t := 33) (c := false) rfl (by kernel_rfl) rfl (bf q38 (by kernel_rfl)) rfl rfl ?_
      refine lskip (t := 33) (c := false) rfl (by kernel_rfl) rfl (bf q38 (by kernel_rfl)) rfl rfl ?_
      refine lskip (t := 33) (c := false) rfl (by kernel_rfl) rfl (bf q38 (by kernel_rfl)) rfl rfl ?_
      refine lskip (t := 33) (c := false) rfl (by kernel_rfl) rfl (bf q38 (by kernel_rfl)) rfl rfl ?_
      refine lskip (t := 33) (c := false) rfl (by kernel_rfl) rfl (bf q38 (by kernel_rfl)) rfl rfl ?_
      refine lskip (t := 33) (c := false) rfl (by kernel_rfl) rfl (bf q38 (by kernel_rfl)) rfl rfl ?_
      refine lv (d := 43) rfl rfl (by kernel_rfl) (e_pick_f (v := .bool false) (bf q38 (by kernel_rfl)) rfl) ?_
      refine lv (d := 29) rfl rfl (by kernel_rfl) (e_assign (v := .bool false) (by kernel_rfl)) ?_
      refine wpList_nil ?_
      refine then_n ?_
      refine cond_f rfl (by kernel_rfl) ?_
      refine wp_skip ?_
      refine inb_n ?_
      refine then_n ?_
      refine wp_seq ?_
      refine wp_region_lit ?_
      refine lv (d := 5) rfl rfl (by kernel_rfl) (e_assign (v := .int .i64 0) rfl) ?_
      refine lv (d := 6) rfl rfl (by kernel_rfl) (e_assign (v := .bool false) rfl) ?_
      refine wpList_nil ?_
      refine then_n ?_
      refine wp_ret ?_
      obtain rfl := Option.some.inj M
      exact ret2 rfl rfl rfl (show _ = .int .i64 0 from (by kernel_rfl)) (show _ = .bool false from (by kernel_rfl)) ⟨rfl, S33.chg⟩
    replace M := ifn q36 M
    refine lskip (t := 23) (c := false) rfl (by kernel_rfl) rfl (bf q36 (by kernel_rfl)) rfl rfl ?_
    refine lskip (t := 23) (c := false) rfl (by kernel_rfl) rfl (bf q36 (by kernel_rfl)) rfl rfl ?_
    refine lv (d := 26) rfl rfl (by kernel_rfl) (e_pick_f (v := .bool false) (bf q36 (by kernel_rfl)) rfl) ?_
    refine lv (d := 13) rfl rfl (by kernel_rfl) (e_assign (v := .bool false) (by kernel_rfl)) ?_
    refine wpList_nil ?_
    refine then_n ?_
    refine cond_f rfl (by kernel_rfl) ?_
    refine wp_seq ?_
    refine wp_region_lit ?_
    refine lv (d := 30) rfl rfl (by kernel_rfl) (e_fieldAddr (b := g27) (off := 0) (o := 0) Try.underlying36 rfl rfl (sz := 1) (by kernel_rfl) (by decide) (by kernel_rfl)) ?_
    refine lv (d := 31) rfl rfl (by kernel_rfl) (e_load1 (ad := ⟨g27, 0 + 0, none⟩) (v := .int .i64 ((x3.cells.getD ((x1).toNat) z36).kind)) Try.underlying3 rfl (by kernel_rfl) (blk_cell b32 rfl)) ?_
    refine lv (d := 32) rfl rfl (by kernel_rfl) (e_eql (k := .i64) (a := (x3.cells.getD ((x1).toNat) z36).kind) (b := 4) (by kernel_rfl) rfl) ?_
    refine lv (d := 33) rfl rfl (by kernel_rfl) (e_move (v := .bool (decide (((x3.cells.getD ((x1).toNat) z36).kind) = 4))) (by kernel_rfl)) ?_
    by_cases q52 : ((x3.cells.getD ((x1).toNat) z36).kind) = 4
    · replace M := ifp q52 M
      refine lvg (d := 34) (t := 33) rfl (by kernel_rfl) rfl (bt q52 (by kernel_rfl)) rfl (by kernel_rfl) (e_move (v := .int .i64 x2) (by kernel_rfl)) ?_
      refine lvg (d := 35) (t := 33) rfl (by kernel_rfl) rfl (bt q52 (by kernel_rfl)) rfl (by kernel_rfl) (e_fieldAddr (b := g4) (off := 0) (o := 0) Try.underlying34 rfl rfl (sz := 1) (by kernel_rfl) (by decide) (by kernel_rfl)) ?_
      refine lvg (d := 36) (t := 33) rfl (by kernel_rfl) rfl (bt q52 (by kernel_rfl)) rfl (by kernel_rfl) (e_load1 (ad := ⟨g4, 0 + 0, none⟩) (v := .slice A6 x3.cells.length c7) Try.underlying32 rfl (by kernel_rfl) (blk_cell (S33.inv _ _ b5) rfl)) ?_
      refine lvg (d := 37) (t := 33) rfl (by kernel_rfl) rfl (bt q52 (by kernel_rfl)) rfl (by kernel_rfl) (e_fieldAddr (b := g27) (off := 0) (o := 1) Try.underlying36 rfl rfl (sz := 1) (by kernel_rfl) (by decide) (by kernel_rfl)) ?_
      refine lvg (d := 38) (t := 33) rfl (by kernel_rfl) rfl (bt q52 (by kernel_rfl)) rfl (by kernel_rfl) (e_load1 (ad := ⟨g27, 0 + 1, none⟩) (v := .int .i64 ((x3.cells.getD ((x1).toNat) z36).n)) Try.underlying3 rfl (by kernel_rfl) (blk_cell b32 rfl)) ?_
      obtain ⟨q53, M⟩ := chk M
      obtain ⟨q54, M⟩ := chk M
      obtain ⟨b55, o56, e57⟩ := Rd.addr h8 (show ((x3.cells.getD ((x1).toNat) z36).n).toNat < x3.cells.length by omega)
      obtain ⟨y58, r59, k60⟩ := Rd.at h8 e57 (getD_some z36 (show ((x3.cells.getD ((x1).toNat) z36).n).toNat < x3.cells.length by omega))
      obtain ⟨A61, c62, rfl, l63, h64⟩ := st36_open r59
      refine lvg (d := 39) (t := 33) rfl (by kernel_rfl) rfl (bt q52 (by kernel_rfl)) rfl (by kernel_rfl) (e_indexAddr (b := b55) (off := o56) (n := x3.cells.length) (c := c7) (sz := 3) (i := (x3.cells.getD ((x1).toNat) z36).n) (k := .i64) Try.underlying32 e57 (by kernel_rfl) (by kernel_rfl) (by kernel_rfl) q53 q54) ?_
      refine lvg (d := 40) (t := 33) rfl (by kernel_rfl) rfl (bt q52 (by kernel_rfl)) rfl (by kernel_rfl) (e_fieldAddr (b := b55) (off := o56 + ((x3.cells.getD ((x1).toNat) z36).n : Int).toNat * 3) (o := 1) Try.underlying36 rfl rfl (sz := 1) (by kernel_rfl) (by decide) (by kernel_rfl)) ?_
      refine lvg (d := 41) (t := 33) rfl (by kernel_rfl) rfl (bt q52 (by kernel_rfl)) rfl (by kernel_rfl) (e_load1 (ad := ⟨b55, o56 + ((x3.cells.getD ((x1).toNat) z36).n : Int).toNat * 3 + 1, none⟩) (v := .int .i64 ((x3.cells.getD (((x3.cells.getD ((x1).toNat) z36).n).toNat) z36).n)) Try.underlying3 rfl (by kernel_rfl) (hpx (S33.inv.cell (k60 1 _ rfl)))) ?_
      refine lvg (d := 42) (t := 33) rfl (by kernel_rfl) rfl (bt q52 (by kernel_rfl)) rfl (by kernel_rfl) (e_lss (k := .i64) (a := x2) (b := (x3.cells.getD (((x3.cells.getD ((x1).toNat) z36).n).toNat) z36).n) (by kernel_rfl) (by kernel_rfl)) ?_
      refine lv (d := 43) rfl rfl (by kernel_rfl) (e_pick_t (v := .bool (decide (x2 < ((x3.cells.getD (((x3.cells.getD ((x1).toNat) z36).n).toNat) z36).n)))) (bt q52 (by kernel_rfl)) (by kernel_rfl)) ?_
      refine lv (d := 29) rfl rfl (by kernel_rfl) (e_assign (v := .bool (decide (x2 < ((x3.cells.getD (((x3.cells.getD ((x1).toNat) z36).n).toNat) z36).n)))) (by kernel_rfl)) ?_
      refine wpList_nil ?_
      refine then_n ?_
      by_cases q65 : x2 < ((x3.cells.getD (((x3.cells.getD ((x1).toNat) z36).n).toNat) z36).n)
      · replace M := ifp q65 M
        refine cond_t rfl (bt q65 (by kernel_rfl)) ?_
        refine wp_seq ?_
        refine wp_region_lit ?_
        refine lv (d := 44) rfl rfl (by kernel_rfl) (e_fieldAddr (b := g27) (off := 0) (o := 1) Try.underlying36 rfl rfl (sz := 1) (by kernel_rfl) (by decide) (by kernel_rfl)) ?_
        refine lv (d := 45) rfl rfl (by kernel_rfl) (e_load1 (ad := ⟨g27, 0 + 1, none⟩) (v := .int .i64 ((x3.cells.getD ((x1).toNat) z36).n)) Try.underlying3 rfl (by kernel_rfl) (blk_cell b32 rfl)) ?_
        refine lv (d := 46) rfl rfl (by kernel_rfl) (e_add (k := .i64) (a := (x3.cells.getD ((x1).toNat) z36).n) (b := 1) (by kernel_rfl) rfl) ?_
        refine lv (d := 47) rfl rfl (by kernel_rfl) (e_move (v := .int .i64 x2) (by kernel_rfl)) ?_
        refine lv (d := 48) rfl rfl (by kernel_rfl) (e_add (k := .i64) (a := (IntKind.i64.wrap (((x3.cells.getD ((x1).toNat) z36).n) + 1))) (b := x2) (by kernel_rfl) (by kernel_rfl)) ?_
        refine lv (d := 5) rfl rfl (by kernel_rfl) (e_assign (v := .int .i64 (IntKind.i64.wrap ((IntKind.i64.wrap (((x3.cells.getD ((x1).toNat) z36).n) + 1)) + x2))) (by kernel_rfl)) ?_
        refine lv (d := 6) rfl rfl (by kernel_rfl) (e_assign (v := .bool true) rfl) ?_
        refine wpList_nil ?_
        refine then_n ?_
        refine wp_ret ?_
        refine inb_r ?_
        refine then_r ?_
        obtain rfl := Option.some.inj M
        exact ret2 rfl rfl rfl (show _ = .int .i64 (IntKind.i64.wrap ((IntKind.i64.wrap (((x3.cells.getD ((x1).toNat) z36).n) + 1)) + x2)) from (by kernel_rfl)) (show _ = .bool true from (by kernel_rfl)) ⟨rfl, S33.chg⟩
      replace M := ifn q65 M
      refine cond_f rfl (bf q65 (by kernel_rfl)) ?_
      refine wp_skip ?_
      refine inb_n ?_
      refine then_n ?_
      refine wp_seq ?_
      refine wp_region_lit ?_
      refine lv (d := 5) rfl rfl (by kernel_rfl) (e_assign (v := .int .i64 0) rfl) ?_
      refine lv (d := 6) rfl rfl (by kernel_rfl) (e_assign (v := .bool false) rfl) ?_
      refine wpList_nil ?_
      refine then_n ?_
      refine wp_ret ?_
      obtain rfl := Option.some.inj M
      exact ret2 rfl rfl rfl (show _ = .int .i64 0 from (by kernel_rfl)) (show _ = .bool false from (by kernel_rfl)) ⟨rfl, S33.chg⟩
    replace M := ifn q52 M
    refine lskip (t := 33) (c := false) rfl (by kernel_rfl) rfl (bf q52 (by kernel_rfl)) rfl rfl ?_
    refine lskip (t := 33) (c := false) rfl (by kernel_rfl) rfl (bf q52 (by kernel_rfl)) rfl rfl ?_
    refine lskip (t := 33) (c := false) rfl (by kernel_rfl) rfl (bf q52 (by kernel_rfl)) rfl rfl ?_
    refine lskip (t := 33) (c := false) rfl (by kernel_rfl) rfl (bf q52 (by kernel_rfl)) rfl rfl ?_
    refine lskip (t := 33) (c := false) rfl (by kernel_rfl) rfl (bf q52 (by kernel_rfl)) rfl rfl ?_
    refine lskip (t := 33) (c := false) rfl (by kernel_rfl) rfl (bf q52 (by kernel_rfl)) rfl rfl ?_
    refine lskip (t := 33) (c := false) rfl (by kernel_rfl) rfl (bf q52 (by kernel_rfl)) rfl rfl ?_
    refine lskip (t := 33) (c := false) rfl (by kernel_rfl) rfl (bf q52 (by kernel_rfl)) rfl rfl ?_
    refine lskip (t := 33) (c := false) rfl (by kernel_rfl) rfl (bf q52 (by kernel_rfl)) rfl rfl ?_
    refine lv (d := 43) rfl rfl (by kernel_rfl) (e_pick_f (v := .bool false) (bf q52 (by kernel_rfl)) rfl) ?_
    refine lv (d := 29) rfl rfl (by kernel_rfl) (e_assign (v := .bool false) (by kernel_rfl)) ?_
    refine wpList_nil ?_
    refine then_n ?_
    refine cond_f rfl (by kernel_rfl) ?_
    refine wp_skip ?_
    refine inb_n ?_
    refine then_n ?_
    refine wp_seq ?_
    refine wp_region_lit ?_
    refine lv (d := 5) rfl rfl (by kernel_rfl) (e_assign (v := .int .i64 0) rfl) ?_
    refine lv (d := 6) rfl rfl (by kernel_rfl) (e_assign (v := .bool false) rfl) ?_
    refine wpList_nil ?_
    refine then_n ?_
    refine wp_ret ?_
    obtain rfl := Option.some.inj M
    exact ret2 rfl rfl rfl (show _ = .int .i64 0 from (by kernel_rfl)) (show _ = .bool false from (by kernel_rfl)) ⟨rfl, S33.chg⟩
  replace M := ifn q35 M
  refine lskip (t := 17) (c := false) rfl (by kernel_rfl) rfl (bf q35 (by kernel_rfl)) rfl rfl ?_
  refine lskip (t := 17) (c := false) rfl (by kernel_rfl) rfl (bf q35 (by kernel_rfl)) rfl rfl ?_
  refine lskip (t := 17) (c := false) rfl (by kernel_rfl) rfl (bf q35 (by kernel_rfl)) rfl rfl ?_
  refine lskip (t := 17) (c := false) rfl (by kernel_rfl) rfl (bf q35 (by kernel_rfl)) rfl rfl ?_
  refine lv (d := 22) rfl rfl (by kernel_rfl) (e_pick_f (v := .bool false) (bf q35 (by kernel_rfl)) rfl) ?_
  refine lv (d := 23) rfl rfl (by kernel_rfl) (e_move (v := .bool false) (by kernel_rfl)) ?_
  refine lskip (t := 23) (c := false) rfl (by kernel_rfl) rfl (by kernel_rfl) rfl rfl ?_
  refine lskip (t := 23) (c := false) rfl (by kernel_rfl) rfl (by kernel_rfl) rfl rfl ?_
  refine lv (d := 26) rfl rfl (by kernel_rfl) (e_pick_f (v := .bool false) (by kernel_rfl) rfl) ?_
  refine lv (d := 13) rfl rfl (by kernel_rfl) (e_assign (v := .bool false) (by kernel_rfl)) ?_
  refine wpList_nil ?_
  refine then_n ?_
  refine cond_f rfl (by kernel_rfl) ?_
  refine wp_seq ?_
  refine wp_region_lit ?_
  refine lv (d := 30) rfl rfl (by kernel_rfl) (e_fieldAddr (b := g27) (off := 0) (o := 0) Try.underlying36 rfl rfl (sz := 1) (by kernel_rfl) (by decide) (by kernel_rfl)) ?_
  refine lv (d := 31) rfl rfl (by kernel_rfl) (e_load1 (ad := ⟨g27, 0 + 0, none⟩) (v := .int .i64 ((x3.cells.getD ((x1).toNat) z36).kind)) Try.underlying3 rfl (by kernel_rfl) (blk_cell b32 rfl)) ?_
  refine lv (d := 32) rfl rfl (by kernel_rfl) (e_eql (k := .i64) (a := (x3.cells.getD ((x1).toNat) z36).kind) (b := 4) (by kernel_rfl) rfl) ?_
  refine lv (d := 33) rfl rfl (by kernel_rfl) (e_move (v := .bool (decide (((x3.cells.getD ((x1).toNat) z36).kind) = 4))) (by kernel_rfl)) ?_
  by_cases q66 : ((x3.cells.getD ((x1).toNat) z36).kind) = 4
  · replace M := ifp q66 M
    refine lvg (d := 34) (t := 33) rfl (by kernel_rfl) rfl (bt q66 (by kernel_rfl)) rfl (by kernel_rfl) (e_move (v := .int .i64 x2) (by kernel_rfl)) ?_
    refine lvg (d := 35) (t := 33) rfl (by kernel_rfl) rfl (bt q66 (by kernel_rfl)) rfl (by kernel_rfl) (e_fieldAddr (b := g4) (off := 0) (o := 0) Try.underlying34 rfl rfl (sz := 1) (by kernel_rfl) (by decide) (by kernel_rfl)) ?_
    refine lvg (d := 36) (t := 33) rfl (by kernel_rfl) rfl (bt q66 (by kernel_rfl)) rfl (by kernel_rfl) (e_load1 (ad := ⟨g4, 0 + 0, none⟩) (v := .slice A6 x3.cells.length c7) Try.underlying32 rfl (by kernel_rfl) (blk_cell (S33.inv _ _ b5) rfl)) ?_
    refine lvg (d := 37) (t := 33) rfl (by kernel_rfl) rfl (bt q66 (by kernel_rfl)) rfl (by kernel_rfl) (e_fieldAddr (b := g27) (off := 0) (o := 1) Try.underlying36 rfl rfl (sz := 1) (by kernel_rfl) (by decide) (by kernel_rfl)) ?_
    refine lvg (d := 38) (t := 33) rfl (by kernel_rfl) rfl (bt q66 (by kernel_rfl)) rfl (by kernel_rfl) (e_load1 (ad := ⟨g27, 0 + 1, none⟩) (v := .int .i64 ((x3.cells.getD ((x1).toNat) z36).n)) Try.underlying3 rfl (by kernel_rfl) (blk_cell b32 rfl)) ?_
    obtain ⟨q67, M⟩ := chk M
    obtain ⟨q68, M⟩ := chk M
    obtain ⟨b69, o70, e71⟩ := Rd.addr h8 (show ((x3.cells.getD ((x1).toNat) z36).n).toNat < x3.cells.length by omega)
    obtain ⟨y72, r73, k74⟩ := Rd.at h8 e71 (getD_some z36 (show ((x3.cells.getD ((x1).toNat) z36).n).toNat < x3.cells.length by omega))
    obtain ⟨A75, c76, rfl, l77, h78⟩ := st36_open r73
    refine lvg (d := 39) (t := 33) rfl (by kernel_rfl) rfl (bt q66 (by kernel_rfl)) rfl (by kernel_rfl) (e_indexAddr (b := b69) (off := o70) (n := x3.cells.length) (c := c7) (sz := 3) (i := (x3.cells.getD ((x1).toNat) z36).n) (k := .i64) Try.underlying32 e71 (by kernel_rfl) (by kernel_rfl) (by kernel_rfl) q67 q68) ?_
    refine lvg (d := 40) (t := 33) rfl (by kernel_rfl) rfl (bt q66 (by kernel_rfl)) rfl (by kernel_rfl) (e_fieldAddr (b := b69) (off := o70 + ((x3.cells.getD ((x1).toNat) z36).n : Int).toNat * 3) (o := 1) Try.underlying36 rfl rfl (sz := 1) (by kernel_rfl) (by decide) (by kernel_rfl)) ?_
    refine lvg (d := 41) (t := 33) rfl (by kernel_rfl) rfl (bt q66 (by kernel_rfl)) rfl (by kernel_rfl) (e_load1 (ad := ⟨b69, o70 + ((x3.cells.getD ((x1).toNat) z36).n : Int).toNat * 3 + 1, none⟩) (v := .int .i64 ((x3.cells.getD (((x3.cells.getD ((x1).toNat) z36).n).toNat) z36).n)) Try.underlying3 rfl (by kernel_rfl) (hpx (S33.inv.cell (k74 1 _ rfl)))) ?_
    refine lvg (d := 42) (t := 33) rfl (by kernel_rfl) rfl (bt q66 (by kernel_rfl)) rfl (by kernel_rfl) (e_lss (k := .i64) (a := x2) (b := (x3.cells.getD (((x3.cells.getD ((x1).toNat) z36).n).toNat) z36).n) (by kernel_rfl) (by kernel_rfl)) ?_
    refine lv (d := 43) rfl rfl (by kernel_rfl) (e_pick_t (v := .bool (decide (x2 < ((x3.cells.getD (((x3.cells.getD ((x1).toNat) z36).n).toNat) z36).n)))) (bt q66 (by kernel_rfl)) (by kernel_rfl)) ?_
    refine lv (d := 29) rfl rfl (by kernel_rfl) (e_assign (v := .bool (decide (x2 < ((x3.cells.getD (((x3.cells.getD ((x1).toNat) z36).n).toNat) z36).n)))) (by kernel_rfl)) ?_
    refine wpList_nil ?_
    refine then_n ?_
    by_cases q79 : x2 < ((x3.cells.getD (((x3.cells.getD ((x1).toNat) z36).n).toNat) z36).n)
    · replace M := ifp q79 M
      refine cond_t rfl (bt q79 (by kernel_rfl)) ?_
      refine wp_seq ?_
      refine wp_region_lit ?_
      refine lv (d := 44) rfl rfl (by kernel_rfl) (e_fieldAddr (b := g27) (off := 0) (o := 1) Try.underlying36 rfl rfl (sz := 1) (by kernel_rfl) (by decide) (by kernel_rfl)) ?_
      refine lv (d := 45) rfl rfl (by kernel_rfl) (e_load1 (ad := ⟨g27, 0 + 1, none⟩) (v := .int .i64 ((x3.cells.getD ((x1).toNat) z36).n)) Try.underlying3 rfl (by kernel_rfl) (blk_cell b32 rfl)) ?_
      refine lv (d := 46) rfl rfl (by kernel_rfl) (e_add (k := .i64) (a := (x3.cells.getD ((x1).toNat) z36).n) (b := 1) (by kernel_rfl) rfl) ?_
      refine lv (d := 47) rfl rfl (by kernel_rfl) (e_move (v := .int .i64 x2) (by kernel_rfl)) ?_
      refine lv (d := 48) rfl rfl (by kernel_rfl) (e_add (k := .i64) (a := (IntKind.i64.wrap (((x3.cells.getD ((x1).toNat) z36).n) + 1))) (b := x2) (by kernel_rfl) (by kernel_rfl)) ?_
      refine lv (d := 5) rfl rfl (by kernel_rfl) (e_assign (v := .int .i64 (IntKind.i64.wrap ((IntKind.i64.wrap (((x3.cells.getD ((x1).toNat) z36).n) + 1)) + x2))) (by kernel_rfl)) ?_
      refine lv (d := 6) rfl rfl (by kernel_rfl) (e_assign (v := .bool true) rfl) ?_
      refine wpList_nil ?_
      refine then_n ?_
      refine wp_ret ?_
      refine inb_r ?_
      refine then_r ?_
      obtain rfl := Option.some.inj M
      exact ret2 rfl rfl rfl (show _ = .int .i64 (IntKind.i64.wrap ((IntKind.i64.wrap (((x3.cells.getD ((x1).toNat) z36).n) + 1)) + x2)) from (by kernel_rfl)) (show _ = .bool true from (by kernel_rfl)) ⟨rfl, S33.chg⟩
    replace M := ifn q79 M
    refine cond_f rfl (bf q79 (by kernel_rfl)) ?_
    refine wp_skip ?_
    refine inb_n ?_
    refine then_n ?_
    refine wp_seq ?_
    refine wp_region_lit ?_
    refine lv (d := 5) rfl rfl (by kernel_rfl) (e_assign (v := .int .i64 0) rfl) ?_
    refine lv (d := 6) rfl rfl (by kernel_rfl) (e_assign (v := .bool false) rfl) ?_
    refine wpList_nil ?_
    refine then_n ?_
    refine wp_ret ?_
    obtain rfl := Option.some.inj M
    exact ret2 rfl rfl rfl (show _ = .int .i64 0 from (by kernel_rfl)) (show _ = .bool false from (by kernel_rfl)) ⟨rfl, S33.chg⟩
  replace M := ifn q66 M
  refine lskip (t := 33) (c := false) rfl (by kernel_rfl) rfl (bf q66 (by kernel_rfl)) rfl rfl ?_
  refine lskip (t := 33) (c := false) rfl (by kernel_rfl) rfl (bf q66 (by kernel_rfl)) rfl rfl ?_
  refine lskip (t := 33) (c := false) rfl (by kernel_rfl) rfl (bf q66 (by kernel_rfl)) rfl rfl ?_
  refine lskip (t := 33) (c := false) rfl (by kernel_rfl) rfl (bf q66 (by kernel_rfl)) rfl rfl ?_
  refine lskip (t := 33) (c := false) rfl (by kernel_rfl) rfl (bf q66 (by kernel_rfl)) rfl rfl ?_
  refine lskip (t := 33) (c := false) rfl (by kernel_rfl) rfl (bf q66 (by kernel_rfl)) rfl rfl ?_
  refine lskip (t := 33) (c := false) rfl (by kernel_rfl) rfl (bf q66 (by kernel_rfl)) rfl rfl ?_
  refine lskip (t := 33) (c := false) rfl (by kernel_rfl) rfl (bf q66 (by kernel_rfl)) rfl rfl ?_
  refine lskip (t := 33) (c := false) rfl (by kernel_rfl) rfl (bf q66 (by kernel_rfl)) rfl rfl ?_
  refine lv (d := 43) rfl rfl (by kernel_rfl) (e_pick_f (v := .bool false) (bf q66 (by kernel_rfl)) rfl) ?_
  refine lv (d := 29) rfl rfl (by kernel_rfl) (e_assign (v := .bool false) (by kernel_rfl)) ?_
  refine wpList_nil ?_
  refine then_n ?_
  refine cond_f rfl (by kernel_rfl) ?_
  refine wp_skip ?_
  refine inb_n ?_
  refine then_n ?_
  refine wp_seq ?_
  refine wp_region_lit ?_
  refine lv (d := 5) rfl rfl (by kernel_rfl) (e_assign (v := .int .i64 0) rfl) ?_
  refine lv (d := 6) rfl rfl (by kernel_rfl) (e_assign (v := .bool false) rfl) ?_
  refine wpList_nil ?_
  refine then_n ?_
  refine wp_ret ?_
  obtain rfl := Option.some.inj M
  exact ret2 rfl rfl rfl (show _ = .int .i64 0 from (by kernel_rfl)) (show _ = .bool false from (by kernel_rfl)) ⟨rfl, S33.chg⟩
end Go.Proofs.Ytnigifmkjmbfiaa
