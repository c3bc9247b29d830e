import Derived.Test.YtognefkopbbdnaaWkAp1
namespace Go.Proofs.Ytognefkopbbdnaa
open Go.Sx Go.Sy
attribute [local irreducible] Go.wpList Go.wpStill Go.wpQuiet Go.Code.wp
set_option maxRecDepth 100000
set_option maxHeartbeats 1000000
set_option linter.unusedVariables false
set_option linter.unusedSimpArgs false

/-! impl_fromCells -/
mutual
def impl_fromCells.l0 : Nat → (List Cell) → (List Cell) → Int → (List Tm) → Option (Tm × (List Cell))
  | 0, _, _, _, _ => none
  | k61 + 1, x1, x41, x46, x47 => (if x46 < ((x1.getD 0 z65).n) then ((impl_fromCells.f k61 x41).bind fun t66 => (if x47.length + 1 ≤ 17592186044416 then (impl_fromCells.l0 k61 x1 t66.2 (IntKind.i64.wrap (x46 + 1)) (x47 ++ [t66.1])) else none)) else some ((Tm.mk ((x1.getD 0 z65).kind) ((x1.getD 0 z65).n) ((x1.getD 0 z65).text) x47), x41))
def impl_fromCells.f : Nat → (List Cell) → Option (Tm × (List Cell))
  | 0, _ => none
  | k1_ + 1, x1 => (if 0 < (x1.length : Int) then (if 1 ≤ (x1.length : Int) then (if ((x1.getD 0 z65).kind) = 3 then (impl_fromCells.l0 k1_ x1 (x1.drop ((1 : Int).toNat)) 0 []) else some ((Tm.mk ((x1.getD 0 z65).kind) ((x1.getD 0 z65).n) ((x1.getD 0 z65).text) []), (x1.drop ((1 : Int).toNat)))) else none) else none)
end
theorem impl_fromCells.all : ∀ (K : Nat), (∀ (k : Nat), k < K → ∀ (w : World) (H : Hp) (x1 : List Cell) (A2 : Option Addr) (c3 : Nat) (h4 : Rd st65 H A2 x1) (l5 : x1.length ≤ c3) (S : Own [] H w) (r : Tm × (List Cell)) (M : impl_fromCells.f k x1 = some r), Calls Try.prog 108 #[.slice A2 x1.length c3] w (fun e e_w => ∃ (g_1 : Nat) (A_1 : Option Addr) (c_1 : Nat) (H_ : Hp), e = .returned (.tuple #[.pointer (some ⟨g_1, 0, none⟩), .slice A_1 r.2.length c_1]) ∧ NodeR 125 H_ r.1 (.pointer (some ⟨g_1, 0, none⟩)) ∧ Rd st65 H_ A_1 r.2 ∧ r.2.length ≤ c_1 ∧ St (anyOf []) H w [] H_ e_w)) := by
  intro K
  induction K with
  | zero => intro k hk; omega
  | succ K ih =>
    intro k hk w H x1 A2 c3 h4 l5 S r M
    rcases k with _ | k1_
    · rw [impl_fromCells.f] at M
      cases M
    rw [impl_fromCells.f] at M
    refine enter (l := [.slice A2 x1.length c3]) 48 Try.func108 rfl rfl rfl ?_
    have S0_ := S.st
    refine wp_seq ?_
    refine wp_region_lit ?_
    refine lv (d := 2) rfl rfl (by kernel_rfl) (e_assign (v := .pointer none) rfl) ?_
    refine lv (d := 3) rfl rfl (by kernel_rfl) (e_assign (v := .slice none 0 0) rfl) ?_
    refine wpList_nil ?_
    refine then_n ?_
    refine wp_seq ?_
    refine wp_region_lit ?_
    refine lv (d := 8) rfl rfl (by kernel_rfl) (e_move (v := .slice A2 x1.length c3) (by kernel_rfl)) ?_
    obtain ⟨q6, M⟩ := chk M
    obtain ⟨b7, o8, e9⟩ := Rd.addr h4 (show 0 < x1.length by omega)
    obtain ⟨y10, r11, k12⟩ := Rd.at h4 e9 (getD_some z65 (show 0 < x1.length by omega))
    obtain ⟨A13, c14, rfl, l15, h16⟩ := st65_open r11
    refine lv (d := 9) rfl rfl (by kernel_rfl) (e_indexAddr (b := b7) (off := o8) (n := x1.length) (c := c3) (sz := 3) (i := 0) (k := .i64) Try.underlying25 e9 (by kernel_rfl) (by kernel_rfl) rfl (by omega) q6) ?_
    refine lv (d := 10) rfl rfl (by kernel_rfl) (e_loadS (b := b7) (off := o8 + (0 : Int).toNat * 3) (cs := [.int .i64 ((x1.getD 0 z65).kind), .int .i64 ((x1.getD 0 z65).n), .slice A13 ((x1.getD 0 z65).text).length c14]) Try.underlying65 rfl (by kernel_rfl) (by kernel_rfl) (fun j_ u_ e_ => (hpx (S0_.inv.cell (k12 j_ u_ e_))))) ?_
    refine lve (d := 4) rfl rfl (by kernel_rfl) (new_blk (v := fun g_ => .pointer (some ⟨g_, 0, none⟩)) (cs := #[.int .i64 0, .int .i64 0, .slice none 0 0]) (t := 65) S0_ (by kernel_rfl)) ?_
    rintro _ w17 ⟨g18, rfl, b19, S20, K21⟩
    refine lse rfl rfl (by kernel_rfl) (e_store (g := g18) (o := 0) (v := .agg #[.int .i64 ((x1.getD 0 z65).kind), .int .i64 ((x1.getD 0 z65).n), .slice A13 ((x1.getD 0 z65).text).length c14]) (cur' := #[.int .i64 ((x1.getD 0 z65).kind), .int .i64 ((x1.getD 0 z65).n), .slice A13 ((x1.getD 0 z65).text).length c14]) (vs := [.int .i64 ((x1.getD 0 z65).kind), .int .i64 ((x1.getD 0 z65).n), .slice A13 ((x1.getD 0 z65).text).length c14]) S20 (by kernel_rfl) (by kernel_rfl) rfl (by kernel_rfl) b19 (Nat.le_of_ble_eq_true rfl) (List.forall_mem_cons.2 ⟨rfl, (List.forall_mem_cons.2 ⟨rfl, (List.forall_mem_cons.2 ⟨rfl, (fun _ h_ => by cases h_)⟩)⟩)⟩) rfl) ?_
    rintro w22 ⟨b23, S24, K25⟩
    clear b19
    refine wpList_nil ?_
    refine then_n ?_
    refine wp_seq ?_
    refine wp_region_lit ?_
    refine lv (d := 11) rfl rfl (by kernel_rfl) (e_move (v := .slice A2 x1.length c3) (by kernel_rfl)) ?_
    obtain ⟨q26, M⟩ := chk M
    obtain ⟨A27, h30, l29, h28⟩ := Rd.sub1 (d := st65) (n := x1.length) (m := 3) (cap := c3) (a := 1) rfl h4 (by decide) q26 rfl l5
    refine lv (d := 12) rfl rfl (by kernel_rfl) (e_slice_l (n := x1.length) (m := 3) (cap := c3) (A := A2) (a := 1) (k := .i64) Try.underlying25 (by kernel_rfl) (by kernel_rfl) rfl (by decide) q26 l5 h30) ?_
    refine lv (d := 0) rfl rfl (by kernel_rfl) (e_assign (v := .slice A27 (x1.drop ((1 : Int).toNat)).length (c3 - ((1 : Int).toNat))) (by kernel_rfl)) ?_
    refine wpList_nil ?_
    refine then_n ?_
    refine wp_seq ?_
    refine wp_region_lit ?_
    refine lv (d := 13) rfl rfl (by kernel_rfl) (e_fieldAddr (b := g18) (off := 0) (o := 0) Try.underlying65 rfl rfl (sz := 1) (by kernel_rfl) (by decide) (by kernel_rfl)) ?_
    refine lv (d := 14) rfl rfl (by kernel_rfl) (e_load1 (ad := ⟨g18, 0 + 0, none⟩) (v := .int .i64 ((x1.getD 0 z65).kind)) Try.underlying3 rfl (by kernel_rfl) (blk_cell b23 rfl)) ?_
    refine lv (d := 15) rfl rfl (by kernel_rfl) (e_fieldAddr (b := g18) (off := 0) (o := 1) Try.underlying65 rfl rfl (sz := 1) (by kernel_rfl) (by decide) (by kernel_rfl)) ?_
    refine lv (d := 16) rfl rfl (by kernel_rfl) (e_load1 (ad := ⟨g18, 0 + 1, none⟩) (v := .int .i64 ((x1.getD 0 z65).n)) Try.underlying3 rfl (by kernel_rfl) (blk_cell b23 rfl)) ?_
    refine lv (d := 17) rfl rfl (by kernel_rfl) (e_fieldAddr (b := g18) (off := 0) (o := 2) Try.underlying65 rfl rfl (sz := 1) (by kernel_rfl) (by decide) (by kernel_rfl)) ?_
    refine lv (d := 18) rfl rfl (by kernel_rfl) (e_load1 (ad := ⟨g18, 0 + 2, none⟩) (v := .slice A13 ((x1.getD 0 z65).text).length c14) Try.underlying59 rfl (by kernel_rfl) (blk_cell b23 rfl)) ?_
    refine lv (d := 19) rfl rfl (by kernel_rfl) (e_conv_bs (A := A13) (n := ((x1.getD 0 z65).text).length) (c := c14) (xs := (x1.getD 0 z65).text) Try.underlying59 Try.underlying5 Try.underlying9 (by kernel_rfl) rfl (Rd.bytesE S24.inv h16)) ?_
    refine lv (d := 20) rfl rfl (by kernel_rfl) (show _ = Result.ok (Next.value (.agg #[.int .i64 ((x1.getD 0 z65).kind), .int .i64 ((x1.getD 0 z65).n), str ((x1.getD 0 z65).text), .slice none 0 0])) w22 from by kernel_rfl) ?_
    refine lve (d := 21) rfl rfl (by kernel_rfl) (new_blk (v := fun g_ => .pointer (some ⟨g_, 0, none⟩)) (cs := #[.int .i64 ((x1.getD 0 z65).kind), .int .i64 ((x1.getD 0 z65).n), str ((x1.getD 0 z65).text), .slice none 0 0]) (t := 125) S24 (by kernel_rfl)) ?_
    rintro _ w31 ⟨g32, rfl, b33, S34, K35⟩
    replace b23 := K35.blk 0 rfl b23
    refine lv (d := 5) rfl rfl (by kernel_rfl) (e_assign (v := .pointer (some ⟨g32, 0, none⟩)) (by kernel_rfl)) ?_
    refine wpList_nil ?_
    refine then_n ?_
    refine wp_seq ?_
    refine wp_seq ?_
    refine wp_region_lit ?_
    refine lv (d := 22) rfl rfl (by kernel_rfl) (e_fieldAddr (b := g18) (off := 0) (o := 0) Try.underlying65 rfl rfl (sz := 1) (by kernel_rfl) (by decide) (by kernel_rfl)) ?_
    refine lv (d := 23) rfl rfl (by kernel_rfl) (e_load1 (ad := ⟨g18, 0 + 0, none⟩) (v := .int .i64 ((x1.getD 0 z65).kind)) Try.underlying3 rfl (by kernel_rfl) (blk_cell b23 rfl)) ?_
    refine lv (d := 24) rfl rfl (by kernel_rfl) (e_eql (k := .i64) (a := (x1.getD 0 z65).kind) (b := 3) (by kernel_rfl) rfl) ?_
    refine wpList_nil ?_
    refine then_n ?_
    by_cases q36 : ((x1.getD 0 z65).kind) = 3
    · replace M := ifp q36 M
      refine cond_t rfl (bt q36 (by kernel_rfl)) ?_
      refine wp_seq ?_
      refine wp_region_lit ?_
      refine lv (d := 6) rfl rfl (by kernel_rfl) (e_assign (v := .int .i64 0) rfl) ?_
      refine wpList_nil ?_
      refine then_n ?_
      refine wp_block ?_
      have S62 := S34.unit
      have S63 := S62.pull (F := (is g18)) (Fr := [no, (is g32)]) 2 rfl rfl
      have S64 := S63.pull (F := (is g32)) (Fr := [(is g18), no]) 2 rfl rfl
      refine wp_loop_g (fun k59 a60 w37 => ∃ (f38 : Nat → Value) (H39 : Hp) (x41 : List Cell) (A42 : Option Addr) (c43 : Nat) (x46 : Int) (x47 : List Tm) (A48 : Option Addr) (c49 : Nat) (F50 : Foot), k59 < K ∧ a60 = mk 48 f38 ∧ f38 0 = .slice A42 x41.length c43 ∧ f38 4 = .pointer (some ⟨g18, 0, none⟩) ∧ f38 5 = .pointer (some ⟨g32, 0, none⟩) ∧ f38 6 = .int .i64 x46 ∧ w37.heap[g32]? = some (.cells #[.int .i64 ((x1.getD 0 z65).kind), .int .i64 ((x1.getD 0 z65).n), str ((x1.getD 0 z65).text), .slice A48 x47.length c49] 125 (0, 0)) ∧ w37.heap[g18]? = some (.cells #[.int .i64 ((x1.getD 0 z65).kind), .int .i64 ((x1.getD 0 z65).n), .slice A13 ((x1.getD 0 z65).text).length c14] 65 (0, 0)) ∧ Row (node 125) 74 H39 (hp w37) F50 A48 c49 x47 ∧ Rd st65 H39 A42 x41 ∧ x41.length ≤ c43 ∧ Ext H H39 ∧ St (anyOf []) H w [(is g32), (is g18), F50] H39 w37 ∧ impl_fromCells.l0 k59 x1 x41 x46 x47 = some r) k1_ ⟨_, H, (x1.drop ((1 : Int).toNat)), A27, (c3 - ((1 : Int).toNat)), 0, [], none, 0, no, (by omega), rfl, (by kernel_rfl), (by kernel_rfl), (by kernel_rfl), (by kernel_rfl), b33, b23, (Row.nil _ _ _ _ _), h28, l29, (Ext.refl _), S64, M⟩ ?_
      clear M
      rintro k59 a60 w37 ⟨f38, H39, x41, A42, c43, x46, x47, A48, c49, F50, z57, rfl, e52, e53, e54, e55, b33, b23, h51, h44, l45, Y40, S56, M⟩
      rcases k59 with _ | k61
      · rw [impl_fromCells.l0] at M
        cases M
      rw [impl_fromCells.l0] at M
      refine wp_seq ?_
      refine wp_seq ?_
      refine wp_region_lit ?_
      refine lv (d := 25) rfl rfl (by kernel_rfl) (e_move (v := .int .i64 x46) (by exact e55)) ?_
      refine lv (d := 26) rfl rfl (by kernel_rfl) (e_fieldAddr (b := g18) (off := 0) (o := 1) Try.underlying65 rfl rfl (sz := 1) (by kernel_rfl) (by decide) (by exact e53)) ?_
      refine lv (d := 27) rfl rfl (by kernel_rfl) (e_load1 (ad := ⟨g18, 0 + 1, none⟩) (v := .int .i64 ((x1.getD 0 z65).n)) Try.underlying3 rfl (by kernel_rfl) (blk_cell b23 rfl)) ?_
      refine lv (d := 28) rfl rfl (by kernel_rfl) (e_lss (k := .i64) (a := x46) (b := (x1.getD 0 z65).n) (by kernel_rfl) (by kernel_rfl)) ?_
      refine wpList_nil ?_
      refine then_n ?_
      by_cases q65 : x46 < ((x1.getD 0 z65).n)
      · replace M := ifp q65 M
        refine cond_t rfl (bt q65 (by kernel_rfl)) ?_
        refine wp_skip ?_
        refine then_n ?_
        refine wp_seq ?_
        refine wp_block ?_
        refine wp_seq ?_
        refine wp_region_lit ?_
        refine lv (d := 7) rfl rfl (by kernel_rfl) (e_assign (v := .pointer none) rfl) ?_
        refine wpList_nil ?_
        refine then_n ?_
        refine wp_seq ?_
        refine wp_region_lit ?_
        refine lv (d := 32) rfl rfl (by kernel_rfl) (e_move (v := .slice A42 x41.length c43) (by exact e52)) ?_
        obtain ⟨t66, u67, M⟩ := bnd M
        refine lcall (d := 33) rfl rfl (by kernel_rfl) (e_call (l := [.tmp 32]) (vs := [.slice A42 x41.length c43]) Try.func108 (by kernel_rfl) rfl (by kernel_rfl) rfl) (ih k61 (by omega) w37 H39 x41 A42 c43 h44 l45 (St.own' (Fa := []) (Fr := [(is g32), (is g18), F50]) S56) t66 u67) ?_
        rintro _ w68 ⟨g71, A73, c74, H69, rfl, h72, h75, l76, T70⟩
        refine ⟨_, rfl, ?_⟩
        obtain ⟨S77, K78⟩ := St.call (Fa := []) (Fr := [(is g32), (is g18), F50]) S56 T70
        replace b33 := K78.blk 0 rfl b33
        replace b23 := K78.blk 1 rfl b23
        replace h51 := h51.move (K78.at 2 rfl)
        have E79 := T70.ext
        replace h51 := h51.ext E79
        refine lv (d := 31) rfl rfl (by kernel_rfl) (e_move (v := .tuple #[.pointer (some ⟨g71, 0, none⟩), .slice A73 t66.2.length c74]) (by kernel_rfl)) ?_
        refine lv (d := 34) rfl rfl (by kernel_rfl) (e_extract (vs := #[.pointer (some ⟨g71, 0, none⟩), .slice A73 t66.2.length c74]) (v := .pointer (some ⟨g71, 0, none⟩)) (by kernel_rfl) rfl) ?_
        refine lv (d := 35) rfl rfl (by kernel_rfl) (e_extract (vs := #[.pointer (some ⟨g71, 0, none⟩), .slice A73 t66.2.length c74]) (v := .slice A73 t66.2.length c74) (by kernel_rfl) rfl) ?_
        refine lv (d := 7) rfl rfl (by kernel_rfl) (e_assign (v := .pointer (some ⟨g71, 0, none⟩)) (by kernel_rfl)) ?_
        refine lv (d := 0) rfl rfl (by kernel_rfl) (e_assign (v := .slice A73 t66.2.length c74) (by kernel_rfl)) ?_
        refine wpList_nil ?_
        refine then_n ?_
        refine wp_region_lit ?_
        refine lv (d := 36) rfl rfl (by kernel_rfl) (e_move (v := .pointer (some ⟨g32, 0, none⟩)) (by exact e54)) ?_
        refine lv (d := 37) rfl rfl (by kernel_rfl) (e_move (v := .pointer (some ⟨g32, 0, none⟩)) (by exact e54)) ?_
        refine lv (d := 38) rfl rfl (by kernel_rfl) (e_nilCheck (ad := ⟨g32, 0, none⟩) (by kernel_rfl)) ?_
        refine lv (d := 39) rfl rfl (by kernel_rfl) (e_fieldAddr (b := g32) (off := 0) (o := 3) Try.underlying125 rfl rfl (sz := 1) (by kernel_rfl) (by decide) (by kernel_rfl)) ?_
        refine lv (d := 40) rfl rfl (by kernel_rfl) (e_load1 (ad := ⟨g32, 0 + 3, none⟩) (v := .slice A48 x47.length c49) Try.underlying87 rfl (by kernel_rfl) (blk_cell b33 rfl)) ?_
        refine lv (d := 41) rfl rfl (by kernel_rfl) (e_move (v := .pointer (some ⟨g71, 0, none⟩)) (by kernel_rfl)) ?_
        refine lve (d := 42) rfl rfl (by kernel_rfl) (new_blk (v := fun g_ => .slice (some ⟨g_, 0, none⟩) 1 1) (cs := #[.pointer (some ⟨g71, 0, none⟩)]) (t := 74) S77 (by kernel_rfl)) ?_
        rintro _ w80 ⟨g81, rfl, b82, S83, K84⟩
        replace b33 := K84.blk 0 rfl b33
        replace b23 := K84.blk 1 rfl b23
        replace h51 := h51.move (K84.at 2 rfl)
        obtain ⟨q85, M⟩ := chk M
        have S86 := S83.pull (F := F50) (Fr := [(is g81), (is g32), (is g18)]) 3 rfl rfl
        have S87 := S86.unit
        have S88 := S87.pull (F := F50) (Fr := [no, (is g81), (is g32), (is g18)]) 1 rfl rfl
        refine lve (d := 43) rfl rfl (by kernel_rfl) (e_append (d := (node 125)) (n := x47.length) (xs := x47) (cap := c49) (A := A48) (ys := [t66.1]) (A2 := (some ⟨g81, 0, none⟩)) (c2 := 1) (z := .pointer none) (bytes := 8) S88 Try.underlying87 (by kernel_rfl) rfl (by decide) (by kernel_rfl) rfl (by kernel_rfl) h51 (elsO_one1 ⟨_, rfl, h72⟩) (.inr (blk_news b82 rfl)) (show (x47.length + [t66.1].length) * 8 ≤ _ by first | omega | (simp only [List.length_cons, List.length_nil]; omega)) (by decide)) ?_
        rintro _ w89 ⟨A90, c91, F92, rfl, h93, S94, K95⟩
        replace b82 := K95.blk 0 rfl b82
        replace b33 := K95.blk 1 rfl b33
        replace b23 := K95.blk 2 rfl b23
        refine lv (d := 44) rfl rfl (by kernel_rfl) (e_nilCheck (ad := ⟨g32, 0, none⟩) (by kernel_rfl)) ?_
        refine lv (d := 45) rfl rfl (by kernel_rfl) (e_fieldAddr (b := g32) (off := 0) (o := 3) Try.underlying125 rfl rfl (sz := 1) (by kernel_rfl) (by decide) (by kernel_rfl)) ?_
        have S96 := S94.pull (F := (is g32)) (Fr := [F92, (is g81), (is g18)]) 2 rfl rfl
        refine lse rfl rfl (by kernel_rfl) (e_store (g := g32) (o := 0 + 3) (v := .slice A90 ((x47 ++ [t66.1]).length) c91) (cur' := #[.int .i64 ((x1.getD 0 z65).kind), .int .i64 ((x1.getD 0 z65).n), str ((x1.getD 0 z65).text), .slice A90 ((x47 ++ [t66.1]).length) c91]) (vs := [.slice A90 ((x47 ++ [t66.1]).length) c91]) S96 (by kernel_rfl) (by kernel_rfl) rfl (by kernel_rfl) b33 (Nat.le_of_ble_eq_true rfl) (List.forall_mem_cons.2 ⟨rfl, (fun _ h_ => by cases h_)⟩) rfl) ?_
        rintro w97 ⟨b98, S99, K100⟩
        replace h93 := h93.move (K100.at 0 rfl)
        replace b82 := K100.blk 1 rfl b82
        replace b23 := K100.blk 2 rfl b23
        clear b33
        refine wpList_nil ?_
        refine inb_n ?_
        refine then_n ?_
        refine wp_region_lit ?_
        refine lv (d := 29) rfl rfl (by kernel_rfl) (e_move (v := .int .i64 x46) (by exact e55)) ?_
        refine lv (d := 30) rfl rfl (by kernel_rfl) (e_add (k := .i64) (a := x46) (b := 1) (by kernel_rfl) rfl) ?_
        refine lv (d := 6) rfl rfl (by kernel_rfl) (e_assign (v := .int .i64 (IntKind.i64.wrap (x46 + 1))) (by kernel_rfl)) ?_
        refine wpList_nil ?_
        refine then_n ?_
        have S101 := S99.pull (F := F92) (Fr := [(is g32), (is g81), (is g18)]) 1 rfl rfl
        have S102 := S101.pull (F := (is g18)) (Fr := [F92, (is g32), (is g81)]) 3 rfl rfl
        have S103 := S102.pull (F := (is g32)) (Fr := [(is g18), F92, (is g81)]) 2 rfl rfl
        have S104 := St.first (Fa := [(is g32), (is g18), F92]) (Fr := [(is g81)]) S103
        exact ⟨k61, (by omega), _, H69, t66.2, A73, c74, (IntKind.i64.wrap (x46 + 1)), (x47 ++ [t66.1]), A90, c91, F92, (by omega), rfl, (by kernel_rfl), (by exact e53), (by exact e54), (by kernel_rfl), b98, b23, h93, h75, l76, (Y40.trans E79), S104, M⟩
      replace M := ifn q65 M
      refine cond_f rfl (bf q65 (by kernel_rfl)) ?_
      refine wp_exit ?_
      refine then_e ?_
      refine then_e ?_
      refine inb_hit ?_
      refine then_n ?_
      refine wp_seq ?_
      refine wp_region_lit ?_
      refine lv (d := 46) rfl rfl (by kernel_rfl) (e_move (v := .pointer (some ⟨g32, 0, none⟩)) (by exact e54)) ?_
      refine lv (d := 47) rfl rfl (by kernel_rfl) (e_move (v := .slice A42 x41.length c43) (by exact e52)) ?_
      refine lv (d := 2) rfl rfl (by kernel_rfl) (e_assign (v := .pointer (some ⟨g32, 0, none⟩)) (by kernel_rfl)) ?_
      refine lv (d := 3) rfl rfl (by kernel_rfl) (e_assign (v := .slice A42 x41.length c43) (by kernel_rfl)) ?_
      refine wpList_nil ?_
      refine then_n ?_
      refine wp_ret ?_
      have l105 := h51.le
      have S106 := S56.pull (F := F50) (Fr := [(is g32), (is g18)]) 2 rfl rfl
      obtain ⟨H107, S108, E109, h110, z111⟩ := S106.frzRow h51
      obtain ⟨H112, S113, E114, h115, z116⟩ := S108.frzBlk b33
      have h117 : NodeR 125 H112 (Tm.mk ((x1.getD 0 z65).kind) ((x1.getD 0 z65).n) ((x1.getD 0 z65).text) x47) (.pointer (some ⟨g32, 0, none⟩)) := node_mk (A := A48) (c := c49) h115 rfl l105 (h110.ext E114)
      obtain rfl := Option.some.inj M
      have S118 := St.first (Fa := []) (Fr := [(is g18)]) S113
      exact ret2 rfl rfl rfl (show _ = .pointer (some ⟨g32, 0, none⟩) from (by kernel_rfl)) (show _ = .slice A42 x41.length c43 from (by kernel_rfl)) ⟨g32, A42, c43, H112, rfl, h117, (h44.ext (E109.trans E114)), l45, S118⟩
    replace M := ifn q36 M
    refine cond_f rfl (bf q36 (by kernel_rfl)) ?_
    refine wp_skip ?_
    refine then_n ?_
    refine wp_seq ?_
    refine wp_region_lit ?_
    refine lv (d := 46) rfl rfl (by kernel_rfl) (e_move (v := .pointer (some ⟨g32, 0, none⟩)) (by kernel_rfl)) ?_
    refine lv (d := 47) rfl rfl (by kernel_rfl) (e_move (v := .slice A27 (x1.drop ((1 : Int).toNat)).length (c3 - ((1 : Int).toNat))) (by kernel_rfl)) ?_
    refine lv (d := 2) rfl rfl (by kernel_rfl) (e_assign (v := .pointer (some ⟨g32, 0, none⟩)) (by kernel_rfl)) ?_
    refine lv (d := 3) rfl rfl (by kernel_rfl) (e_assign (v := .slice A27 (x1.drop ((1 : Int).toNat)).length (c3 - ((1 : Int).toNat))) (by kernel_rfl)) ?_
    refine wpList_nil ?_
    refine then_n ?_
    refine wp_ret ?_
    obtain ⟨H119, S120, E121, h122, z123⟩ := S34.frzBlk b33
    have h124 : NodeR 125 H119 (Tm.mk ((x1.getD 0 z65).kind) ((x1.getD 0 z65).n) ((x1.getD 0 z65).text) []) (.pointer (some ⟨g32, 0, none⟩)) := node_mk (A := none) (c := 0) h122 rfl (Nat.le_refl _) (Rd.nil _ _ _)
    obtain rfl := Option.some.inj M
    have S125 := St.first (Fa := []) (Fr := [(is g18)]) S120
    exact ret2 rfl rfl rfl (show _ = .pointer (some ⟨g32, 0, none⟩) from (by kernel_rfl)) (show _ = .slice A27 (x1.drop ((1 : Int).toNat)).length (c3 - ((1 : Int).toNat)) from (by kernel_rfl)) ⟨g32, A27, (c3 - ((1 : Int).toNat)), H119, rfl, h124, (h28.ext E121), l29, S125⟩
theorem impl_fromCells.calls (k : Nat) (w : World) (H : Hp) (x1 : List Cell) (A2 : Option Addr) (c3 : Nat) (h4 : Rd st65 H A2 x1) (l5 : x1.length ≤ c3) (S : Own [] H w) (r : Tm × (List Cell)) (M : impl_fromCells.f k x1 = some r) :
    Calls Try.prog 108 #[.slice A2 x1.length c3] w (fun e e_w => ∃ (g_1 : Nat) (A_1 : Option Addr) (c_1 : Nat) (H_ : Hp), e = .returned (.tuple #[.pointer (some ⟨g_1, 0, none⟩), .slice A_1 r.2.length c_1]) ∧ NodeR 125 H_ r.1 (.pointer (some ⟨g_1, 0, none⟩)) ∧ Rd st65 H_ A_1 r.2 ∧ r.2.length ≤ c_1 ∧ St (anyOf []) H w [] H_ e_w) := (impl_fromCells.all (k + 1)) k (Nat.lt_succ_self k) w H x1 A2 c3 h4 l5 S r M

/-! impl_tree -/
def impl_tree.f (k : Nat) (x1 : List Cell) : Option Tm := ((impl_fromCells.f k x1).bind fun t6 => some t6.1)
theorem impl_tree.calls (k : Nat) (w : World) (H : Hp) (x1 : List Cell) (A2 : Option Addr) (c3 : Nat) (h4 : Rd st65 H A2 x1) (l5 : x1.length ≤ c3) (S : Own [] H w) (r : Tm) (M : impl_tree.f k x1 = some r) :
    Calls Try.prog 62 #[.slice A2 x1.length c3] w (fun e e_w => ∃ (g_1 : Nat) (H_ : Hp), e = .returned (.pointer (some ⟨g_1, 0, none⟩)) ∧ NodeR 125 H_ r (.pointer (some ⟨g_1, 0, none⟩)) ∧ St (anyOf []) H w [] H_ e_w) := by
  rw [impl_tree.f] at M
  refine enter (l := [.slice A2 x1.length c3]) 11 Try.func62 rfl rfl rfl ?_
  have S0_ := S.st
  refine wp_seq ?_
  refine wp_region_lit ?_
  refine lv (d := 2) rfl rfl (by kernel_rfl) (e_assign (v := .pointer none) rfl) ?_
  refine wpList_nil ?_
  refine then_n ?_
  refine wp_seq ?_
  refine wp_region_lit ?_
  refine lv (d := 6) rfl rfl (by kernel_rfl) (e_move (v := .slice A2 x1.length c3) (by kernel_rfl)) ?_
  obtain ⟨t6, u7, M⟩ := bnd M
  refine lcall (d := 7) rfl rfl (by kernel_rfl) (e_call (l := [.tmp 6]) (vs := [.slice A2 x1.length c3]) Try.func108 (by kernel_rfl) rfl (by kernel_rfl) rfl) (impl_fromCells.calls k w H x1 A2 c3 h4 l5 (St.own' (Fa := []) (Fr := []) S0_) t6 u7) ?_
  rintro _ w8 ⟨g11, A13, c14, H9, rfl, h12, h15, l16, T10⟩
  refine ⟨_, rfl, ?_⟩
  obtain ⟨S17, K18⟩ := St.call (Fa := []) (Fr := []) S0_ T10
  have E19 := T10.ext
  refine lv (d := 5) rfl rfl (by kernel_rfl) (e_move (v := .tuple #[.pointer (some ⟨g11, 0, none⟩), .slice A13 t6.2.length c14]) (by kernel_rfl)) ?_
  refine lv (d := 8) rfl rfl (by kernel_rfl) (e_extract (vs := #[.pointer (some ⟨g11, 0, none⟩), .slice A13 t6.2.length c14]) (v := .pointer (some ⟨g11, 0, none⟩)) (by kernel_rfl) rfl) ?_
  refine lv (d := 9) rfl rfl (by kernel_rfl) (e_extract (vs := #[.pointer (some ⟨g11, 0, none⟩), .slice A13 t6.2.length c14]) (v := .slice A13 t6.2.length c14) (by kernel_rfl) rfl) ?_
  refine lv (d := 3) rfl rfl (by kernel_rfl) (e_assign (v := .pointer (some ⟨g11, 0, none⟩)) (by kernel_rfl)) ?_
  refine lv (d := 4) rfl rfl (by kernel_rfl) (e_assign (v := .slice A13 t6.2.length c14) (by kernel_rfl)) ?_
  refine wpList_nil ?_
  refine then_n ?_
  refine wp_seq ?_
  refine wp_region_lit ?_
  refine lv (d := 10) rfl rfl (by kernel_rfl) (e_move (v := .pointer (some ⟨g11, 0, none⟩)) (by kernel_rfl)) ?_
  refine lv (d := 2) rfl rfl (by kernel_rfl) (e_assign (v := .pointer (some ⟨g11, 0, none⟩)) (by kernel_rfl)) ?_
  refine wpList_nil ?_
  refine then_n ?_
  refine wp_ret ?_
  obtain rfl := Option.some.inj M
  exact ret1 rfl rfl  (show _ = .pointer (some ⟨g11, 0, none⟩) from (by kernel_rfl)) ⟨g11, H9, rfl, h12, S17⟩

/-! impl_node_put -/
mutual
def impl_node_put_2.l0 : Nat → Tm → (List Cell) → (List UInt8) → Option (List Cell)
  | 0, _, _, _ => none
  | k67 + 1, x1, x4, x55 => (if x4.length + 1 ≤ 3518437208883 then (impl_node_put_2.l1 k67 x1 (x4 ++ [(⟨x1.kind, x1.n, x55⟩ : Cell)]) 0) else none)
def impl_node_put_2.l1 : Nat → Tm → (List Cell) → Int → Option (List Cell)
  | 0, _, _, _ => none
  | k124 + 1, x1, x108, x113 => (if x113 < (x1.args.length : Int) then (if 0 ≤ x113 then ((impl_node_cut_2.f k124 x1 (x1.args.getD ((x113).toNat) (Tm.mk 0 0 [] [])) x108).bind fun t137 => (impl_node_put_2.l1 k124 x1 t137 (IntKind.i64.wrap (x113 + 1)))) else none) else some x108)
def impl_node_put_2.f : Nat → Tm → (List Cell) → Option (List Cell)
  | 0, _, _ => none
  | k1_ + 1, x1, x4 => (if x1.kind ≥ 2 then (if x1.text.length ≤ 9223372036854775807 then (impl_node_put_2.l0 k1_ x1 x4 x1.text) else none) else (impl_node_put_2.l0 k1_ x1 x4 []))
def impl_node_cut_2.f : Nat → Tm → Tm → (List Cell) → Option (List Cell)
  | 0, _, _, _ => none
  | k1_ + 1, _, x4, x7 => ((impl_node_put_2.f k1_ x4 x7).bind fun t12 => some t12)
end
theorem impl_node_put_2.all : ∀ (K : Nat), (∀ (k : Nat), k < K → ∀ (w : World) (H : Hp) (x1 : Tm) (g2 : Nat) (x4 : List Cell) (A5 : Option Addr) (c6 : Nat) (F8 : Foot) (h3 : NodeR 125 H x1 (.pointer (some ⟨g2, 0, none⟩))) (h7 : Row st65 65 H (hp w) F8 A5 c6 x4) (S : Own [F8] H w) (r : List Cell) (M : impl_node_put_2.f k x1 x4 = some r), Calls Try.prog 112 #[.pointer (some ⟨g2, 0, none⟩), .slice A5 x4.length c6] w (fun e e_w => ∃ (A_1 : Option Addr) (c_1 : Nat) (F_1 : Foot) (H_ : Hp), e = .returned (.slice A_1 r.length c_1) ∧ Row st65 65 H_ (hp e_w) F_1 A_1 c_1 r ∧ St (anyOf [F8]) H w [F_1] H_ e_w)) ∧ (∀ (k : Nat), k < K → ∀ (w : World) (H : Hp) (x1 : Tm) (g2 : Nat) (x4 : Tm) (g5 : Nat) (x7 : List Cell) (A8 : Option Addr) (c9 : Nat) (F11 : Foot) (h3 : NodeR 125 H x1 (.pointer (some ⟨g2, 0, none⟩))) (h6 : NodeR 125 H x4 (.pointer (some ⟨g5, 0, none⟩))) (h10 : Row st65 65 H (hp w) F11 A8 c9 x7) (S : Own [F11] H w) (r : List Cell) (M : impl_node_cut_2.f k x1 x4 x7 = some r), Calls Try.prog 128 #[.pointer (some ⟨g2, 0, none⟩), .pointer (some ⟨g5, 0, none⟩), .slice A8 x7.length c9] w (fun e e_w => ∃ (A_1 : Option Addr) (c_1 : Nat) (F_1 : Foot) (H_ : Hp), e = .returned (.slice A_1 r.length c_1) ∧ Row st65 65 H_ (hp e_w) F_1 A_1 c_1 r ∧ St (anyOf [F11]) H w [F_1] H_ e_w)) := by
  intro K
  induction K with
  | zero => exact ⟨fun k hk => by omega, fun k hk => by omega⟩
  | succ K ih =>
    refine ⟨?_, ?_⟩
    · intro k hk w H x1 g2 x4 A5 c6 F8 h3 h7 S r M
      rcases k with _ | k1_
      · rw [impl_node_put_2.f] at M
        cases M
      rw [impl_node_put_2.f] at M
      refine enter (l := [.pointer (some ⟨g2, 0, none⟩), .slice A5 x4.length c6]) 47 Try.func112 rfl rfl rfl ?_
      have S0_ := S.st
      refine wp_seq ?_
      refine wp_region_lit ?_
      refine lv (d := 4) rfl rfl (by kernel_rfl) (e_assign (v := .slice none 0 0) rfl) ?_
      refine wpList_nil ?_
      refine then_n ?_
      refine wp_seq ?_
      refine region_mix (S := (fun (L_ : Array Bool) (w_ : World) => Ext H (hp w_) ∧ True)) (by kernel_rfl) S0_ ?_
      intro w9 S10 K11 hc12
      have hs13 : (fun (L_ : Array Bool) (w_ : World) => Ext H (hp w_) ∧ True) (Array.replicate 11 false) w9 := ⟨S10.inv, trivial⟩
      replace h7 := h7.move (K11.at 0 rfl)
      refine xv (i := 0) (d := 8) rfl rfl rfl (by kernel_rfl) (by kernel_rfl) (fun _ _ => Iff.rfl) hc12 hs13 (fun L_ w_ hc_ hu_ hs_ => e_move (v := .pointer (some ⟨g2, 0, none⟩)) (by kernel_rfl)) ?_; intro hc14 hs15
      refine xv (i := 1) (d := 9) rfl rfl rfl (by kernel_rfl) (by kernel_rfl) (fun _ _ => Iff.rfl) hc14 hs15 (fun L_ w_ hc_ hu_ hs_ => e_nilCheck (ad := ⟨g2, 0, none⟩) (by kernel_rfl)) ?_; intro hc16 hs17
      refine xv (i := 2) (d := 10) rfl rfl rfl (by kernel_rfl) (by kernel_rfl) (fun _ _ => Iff.rfl) hc16 hs17 (fun L_ w_ hc_ hu_ hs_ => e_fieldAddr (b := g2) (off := 0) (o := 0) Try.underlying125 rfl rfl (sz := 1) (by kernel_rfl) (by decide) (by kernel_rfl)) ?_; intro hc18 hs19
      obtain ⟨A20, c21, y22, q23, h24, h25, l26, h27⟩ := node_open h3
      refine xv (i := 3) (d := 11) rfl rfl rfl (by kernel_rfl) (by kernel_rfl) (fun _ _ => Iff.rfl) hc18 hs19 (fun L_ w_ hc_ hu_ hs_ => e_load1 (ad := ⟨g2, 0 + 0, none⟩) (v := .int .i64 x1.kind) Try.underlying3 rfl (by kernel_rfl) (blk_cells (hs_.1 _ _ h24) h25 0 _ rfl)) ?_; intro hc28 hs29
      refine xv (i := 4) (d := 12) rfl rfl rfl (by kernel_rfl) (by kernel_rfl) (fun _ _ => Iff.rfl) hc28 hs29 (fun L_ w_ hc_ hu_ hs_ => e_move (v := .pointer (some ⟨g2, 0, none⟩)) (by kernel_rfl)) ?_; intro hc30 hs31
      refine xv (i := 5) (d := 13) rfl rfl rfl (by kernel_rfl) (by kernel_rfl) (fun _ _ => Iff.rfl) hc30 hs31 (fun L_ w_ hc_ hu_ hs_ => e_nilCheck (ad := ⟨g2, 0, none⟩) (by kernel_rfl)) ?_; intro hc32 hs33
      refine xv (i := 6) (d := 14) rfl rfl rfl (by kernel_rfl) (by kernel_rfl) (fun _ _ => Iff.rfl) hc32 hs33 (fun L_ w_ hc_ hu_ hs_ => e_fieldAddr (b := g2) (off := 0) (o := 1) Try.underlying125 rfl rfl (sz := 1) (by kernel_rfl) (by decide) (by kernel_rfl)) ?_; intro hc34 hs35
      refine xv (i := 7) (d := 15) rfl rfl rfl (by kernel_rfl) (by kernel_rfl) (fun _ _ => Iff.rfl) hc34 hs35 (fun L_ w_ hc_ hu_ hs_ => e_load1 (ad := ⟨g2, 0 + 1, none⟩) (v := .int .i64 x1.n) Try.underlying3 rfl (by kernel_rfl) (blk_cells (hs_.1 _ _ h24) h25 1 _ rfl)) ?_; intro hc36 hs37
      refine xv (i := 8) (d := 16) rfl rfl rfl (by kernel_rfl) (by kernel_rfl) (fun _ _ => Iff.rfl) hc36 hs37 (fun L_ w_ hc_ hu_ hs_ => (show _ = Result.ok (Next.value (.agg #[.int .i64 x1.kind, .int .i64 x1.n, .slice none 0 0])) w_ from by kernel_rfl)) ?_; intro hc38 hs39
      refine xone (i := 9) (by kernel_rfl) hc38 ?_
      refine ye (i := 9) (d := 5) rfl rfl (wanted_none rfl _) (by kernel_rfl) (by kernel_rfl) (new_blk (v := fun g_ => .pointer (some ⟨g_, 0, none⟩)) (cs := #[.int .i64 0, .int .i64 0, .slice none 0 0]) (t := 65) S10 (by kernel_rfl)) ?_
      rintro hc45 _ w40 ⟨g41, rfl, b42, S43, K44⟩
      replace h7 := h7.move (K44.at 0 rfl)
      refine ⟨⟨S43.inv, trivial⟩, fun hs46 => ?_⟩
      refine xone (i := 10) (by kernel_rfl) hc45 ?_
      refine ys (i := 10) rfl rfl (wanted_none rfl _) (by kernel_rfl) (by kernel_rfl) (e_store (g := g41) (o := 0) (v := .agg #[.int .i64 x1.kind, .int .i64 x1.n, .slice none 0 0]) (cur' := #[.int .i64 x1.kind, .int .i64 x1.n, .slice none 0 0]) (vs := [.int .i64 x1.kind, .int .i64 x1.n, .slice none 0 0]) S43 (by kernel_rfl) (by kernel_rfl) rfl (by kernel_rfl) b42 (Nat.le_of_ble_eq_true rfl) (List.forall_mem_cons.2 ⟨rfl, (List.forall_mem_cons.2 ⟨rfl, (List.forall_mem_cons.2 ⟨rfl, (fun _ h_ => by cases h_)⟩)⟩)⟩) rfl) ?_
      rintro hc51 w47 ⟨b48, S49, K50⟩
      replace h7 := h7.move (K50.at 0 rfl)
      refine ⟨⟨S49.inv, trivial⟩, fun hs52 => ?_⟩
      clear b42
      refine xn (by kernel_rfl) ?_ _
      refine then_n ?_
      refine wp_seq_cut (fun a66 w53 => ∃ (k68 : Nat), k68 ≤ k1_ ∧ ∃ (f54 : Nat → Value) (x55 : List UInt8) (A56 : Option Addr) (c57 : Nat) (F58 : Foot), k68 < K ∧ a66 = mk 47 f54 ∧ f54 0 = .pointer (some ⟨g2, 0, none⟩) ∧ f54 1 = .slice A5 x4.length c6 ∧ f54 5 = .pointer (some ⟨g41, 0, none⟩) ∧ w53.heap[g41]? = some (.cells #[.int .i64 x1.kind, .int .i64 x1.n, .slice A56 x55.length c57] 65 (0, 0)) ∧ Row st65 65 H (hp w53) F8 A5 c6 x4 ∧ Row tByte 5 H (hp w53) F58 A56 c57 x55 ∧ St (anyOf [F8]) H w [(is g41), F8, F58] H w53 ∧ impl_node_put_2.l0 k68 x1 x4 x55 = some r) ?_ ?_
      · refine wp_seq ?_
        refine wp_region_lit ?_
        refine lv (d := 17) rfl rfl (by kernel_rfl) (e_move (v := .pointer (some ⟨g2, 0, none⟩)) (by kernel_rfl)) ?_
        refine lv (d := 18) rfl rfl (by kernel_rfl) (e_nilCheck (ad := ⟨g2, 0, none⟩) (by kernel_rfl)) ?_
        refine lv (d := 19) rfl rfl (by kernel_rfl) (e_fieldAddr (b := g2) (off := 0) (o := 0) Try.underlying125 rfl rfl (sz := 1) (by kernel_rfl) (by decide) (by kernel_rfl)) ?_
        refine lv (d := 20) rfl rfl (by kernel_rfl) (e_load1 (ad := ⟨g2, 0 + 0, none⟩) (v := .int .i64 x1.kind) Try.underlying3 rfl (by kernel_rfl) (blk_cells (S49.inv _ _ h24) h25 0 _ rfl)) ?_
        refine lv (d := 21) rfl rfl (by kernel_rfl) (e_geq (k := .i64) (a := x1.kind) (b := 2) (by kernel_rfl) rfl) ?_
        refine wpList_nil ?_
        refine then_n ?_
        by_cases q69 : x1.kind ≥ 2
        · replace M := ifp q69 M
          refine cond_t rfl (bt q69 (by kernel_rfl)) ?_
          refine wp_region_lit ?_
          refine lv (d := 22) rfl rfl (by kernel_rfl) (e_move (v := .pointer (some ⟨g2, 0, none⟩)) (by kernel_rfl)) ?_
          refine lv (d := 23) rfl rfl (by kernel_rfl) (e_nilCheck (ad := ⟨g2, 0, none⟩) (by kernel_rfl)) ?_
          refine lv (d := 24) rfl rfl (by kernel_rfl) (e_fieldAddr (b := g2) (off := 0) (o := 2) Try.underlying125 rfl rfl (sz := 1) (by kernel_rfl) (by decide) (by kernel_rfl)) ?_
          refine lv (d := 25) rfl rfl (by kernel_rfl) (e_load1 (ad := ⟨g2, 0 + 2, none⟩) (v := str x1.text) Try.underlying9 rfl (by kernel_rfl) (blk_cells (S49.inv _ _ h24) h25 2 _ rfl)) ?_
          obtain ⟨q70, M⟩ := chk M
          refine lve (d := 26) rfl rfl (by kernel_rfl) (e_conv_sb (xs := x1.text) S49 Try.underlying9 Try.underlying59 Try.underlying5 (by kernel_rfl) q70) ?_
          rintro _ w71 ⟨A72, c73, F74, rfl, h75, S76, K77⟩
          replace b48 := K77.blk 0 rfl b48
          replace h7 := h7.move (K77.at 1 rfl)
          refine lv (d := 27) rfl rfl (by kernel_rfl) (e_fieldAddr (b := g41) (off := 0) (o := 2) Try.underlying65 rfl rfl (sz := 1) (by kernel_rfl) (by decide) (by kernel_rfl)) ?_
          have S78 := S76.pull (F := (is g41)) (Fr := [F74, F8]) 1 rfl rfl
          refine lse rfl rfl (by kernel_rfl) (e_store (g := g41) (o := 0 + 2) (v := .slice A72 x1.text.length c73) (cur' := #[.int .i64 x1.kind, .int .i64 x1.n, .slice A72 x1.text.length c73]) (vs := [.slice A72 x1.text.length c73]) S78 (by kernel_rfl) (by kernel_rfl) rfl (by kernel_rfl) b48 (Nat.le_of_ble_eq_true rfl) (List.forall_mem_cons.2 ⟨rfl, (fun _ h_ => by cases h_)⟩) rfl) ?_
          rintro w79 ⟨b80, S81, K82⟩
          replace h75 := h75.move (K82.at 0 rfl)
          replace h7 := h7.move (K82.at 1 rfl)
          clear b48
          refine wpList_nil ?_
          refine then_n ?_
          have S83 := S81.pull (F := F74) (Fr := [(is g41), F8]) 1 rfl rfl
          have S84 := S83.pull (F := F8) (Fr := [F74, (is g41)]) 2 rfl rfl
          have S85 := S84.pull (F := (is g41)) (Fr := [F8, F74]) 2 rfl rfl
          exact ⟨k1_, (by omega), _, x1.text, A72, c73, F74, (by omega), rfl, (by kernel_rfl), (by kernel_rfl), (by kernel_rfl), b80, h7, h75, S85, M⟩
        replace M := ifn q69 M
        refine cond_f rfl (bf q69 (by kernel_rfl)) ?_
        refine wp_skip ?_
        refine then_n ?_
        have S86 := S49.unit
        have S87 := S86.pull (F := F8) (Fr := [no, (is g41)]) 2 rfl rfl
        have S88 := S87.pull (F := (is g41)) (Fr := [F8, no]) 2 rfl rfl
        exact ⟨k1_, (by omega), _, [], none, 0, no, (by omega), rfl, (by kernel_rfl), (by kernel_rfl), (by kernel_rfl), b48, h7, (Row.nil _ _ _ _ _), S88, M⟩
      clear M
      rintro a66 w53 ⟨k68, z149, f54, x55, A56, c57, F58, z64, rfl, e60, e61, e62, b48, h7, h59, S63, M⟩
      rcases k68 with _ | k67
      · rw [impl_node_put_2.l0] at M
        cases M
      rw [impl_node_put_2.l0] at M
      refine wp_seq ?_
      refine wp_region_lit ?_
      refine lv (d := 28) rfl rfl (by kernel_rfl) (e_move (v := .slice A5 x4.length c6) (by exact e61)) ?_
      refine lv (d := 29) rfl rfl (by kernel_rfl) (e_loadS (b := g41) (off := 0) (cs := [.int .i64 x1.kind, .int .i64 x1.n, .slice A56 x55.length c57]) Try.underlying65 rfl (by kernel_rfl) (by exact e62) (blk_cells b48 rfl)) ?_
      refine lve (d := 30) rfl rfl (by kernel_rfl) (new_blk (v := fun g_ => .slice (some ⟨g_, 0, none⟩) 1 1) (cs := #[.int .i64 x1.kind, .int .i64 x1.n, .slice A56 x55.length c57]) (t := 65) S63 (by kernel_rfl)) ?_
      rintro _ w89 ⟨g90, rfl, b91, S92, K93⟩
      replace b48 := K93.blk 0 rfl b48
      replace h7 := h7.move (K93.at 1 rfl)
      replace h59 := h59.move (K93.at 2 rfl)
      obtain ⟨q94, M⟩ := chk M
      have S95 := S92.pull (F := F58) (Fr := [(is g90), (is g41), F8]) 3 rfl rfl
      have S96 := S95.pull (F := F8) (Fr := [F58, (is g90), (is g41)]) 3 rfl rfl
      refine lve (d := 31) rfl rfl (by kernel_rfl) (e_append (d := st65) (n := x4.length) (xs := x4) (cap := c6) (A := A5) (ys := [(⟨x1.kind, x1.n, x55⟩ : Cell)]) (A2 := (some ⟨g90, 0, none⟩)) (c2 := 1) (z := .agg #[.int .i64 0, .int .i64 0, .slice none 0 0]) (bytes := 40) S96 Try.underlying25 (by kernel_rfl) rfl (by decide) (by kernel_rfl) rfl (by kernel_rfl) h7 (elsO_one1 (st65_mkO (x := (⟨x1.kind, x1.n, x55⟩ : Cell)) h59)) (.inr (blk_news b91 rfl)) (show (x4.length + [(⟨x1.kind, x1.n, x55⟩ : Cell)].length) * 40 ≤ _ by first | omega | (simp only [List.length_cons, List.length_nil]; omega)) (by decide)) ?_
      rintro _ w97 ⟨A98, c99, F100, rfl, h101, S102, K103⟩
      replace b91 := K103.blk 0 rfl b91
      replace b48 := K103.blk 1 rfl b48
      refine lv (d := 1) rfl rfl (by kernel_rfl) (e_assign (v := .slice A98 ((x4 ++ [(⟨x1.kind, x1.n, x55⟩ : Cell)]).length) c99) (by kernel_rfl)) ?_
      refine wpList_nil ?_
      refine then_n ?_
      refine wp_seq ?_
      refine wp_seq ?_
      refine wp_region_lit ?_
      refine lv (d := 32) rfl rfl (by kernel_rfl) (e_move (v := .pointer (some ⟨g2, 0, none⟩)) (by exact e60)) ?_
      refine lv (d := 33) rfl rfl (by kernel_rfl) (e_nilCheck (ad := ⟨g2, 0, none⟩) (by kernel_rfl)) ?_
      refine lv (d := 34) rfl rfl (by kernel_rfl) (e_fieldAddr (b := g2) (off := 0) (o := 3) Try.underlying125 rfl rfl (sz := 1) (by kernel_rfl) (by decide) (by kernel_rfl)) ?_
      refine lv (d := 35) rfl rfl (by kernel_rfl) (e_load1 (ad := ⟨g2, 0 + 3, none⟩) (v := .slice A20 x1.args.length c21) Try.underlying87 rfl (by kernel_rfl) (blk_cells (S102.inv _ _ h24) h25 3 _ rfl)) ?_
      refine lv (d := 36) rfl rfl (by kernel_rfl) (e_len (A := A20) (n := x1.args.length) (c := c21) Try.underlying87 (by kernel_rfl)) ?_
      refine lv (d := 37) rfl rfl (by kernel_rfl) (e_move (v := .int .i64 0) rfl) ?_
      refine wpList_nil ?_
      refine then_n ?_
      refine wp_block ?_
      have S125 := St.first (Fa := [F100]) (Fr := [(is g90), (is g41)]) S102
      refine wp_loop_g (fun k122 a123 w104 => ∃ (f105 : Nat → Value) (H106 : Hp) (x108 : List Cell) (A109 : Option Addr) (c110 : Nat) (F111 : Foot) (x113 : Int), k122 < K ∧ a123 = mk 47 f105 ∧ f105 0 = .pointer (some ⟨g2, 0, none⟩) ∧ f105 1 = .slice A109 x108.length c110 ∧ f105 35 = .slice A20 x1.args.length c21 ∧ f105 36 = .int .i64 (x1.args.length : Int) ∧ f105 37 = .int .i64 x113 ∧ Row st65 65 H106 (hp w104) F111 A109 c110 x108 ∧ Ext H H106 ∧ St (anyOf [F8]) H w [F111] H106 w104 ∧ impl_node_put_2.l1 k122 x1 x108 x113 = some r) k67 ⟨_, H, (x4 ++ [(⟨x1.kind, x1.n, x55⟩ : Cell)]), A98, c99, F100, 0, (by omega), rfl, (by exact e60), (by kernel_rfl), (by kernel_rfl), (by kernel_rfl), (by kernel_rfl), h101, (Ext.refl _), S125, M⟩ ?_
      clear M
      rintro k122 a123 w104 ⟨f105, H106, x108, A109, c110, F111, x113, z120, rfl, e114, e115, e116, e117, e118, h112, Y107, S119, M⟩
      rcases k122 with _ | k124
      · rw [impl_node_put_2.l1] at M
        cases M
      rw [impl_node_put_2.l1] at M
      refine wp_seq ?_
      refine wp_region_lit ?_
      refine lv (d := 38) rfl rfl (by kernel_rfl) (e_lss (k := .i64) (a := x113) (b := (x1.args.length : Int)) (by exact e118) (by exact e117)) ?_
      refine wpList_nil ?_
      refine then_n ?_
      refine wp_seq ?_
      by_cases q126 : x113 < (x1.args.length : Int)
      · replace M := ifp q126 M
        refine cond_t rfl (bt q126 (by kernel_rfl)) ?_
        refine wp_skip ?_
        refine then_n ?_
        refine wp_seq ?_
        refine wp_block ?_
        refine wp_seq ?_
        refine wp_region_lit ?_
        obtain ⟨q127, M⟩ := chk M
        obtain ⟨b128, o129, e130⟩ := Rd.addr h27 (show (x113).toNat < x1.args.length by omega)
        obtain ⟨y131, r132, k133⟩ := Rd.at h27 e130 (getD_some (Tm.mk 0 0 [] []) (show (x113).toNat < x1.args.length by omega))
        obtain ⟨v134, rfl, h135⟩ := r132
        obtain ⟨g136, rfl⟩ := node_ptr h135
        refine lv (d := 39) rfl rfl (by kernel_rfl) (e_indexAddr (b := b128) (off := o129) (n := x1.args.length) (c := c21) (sz := 1) (i := x113) (k := .i64) Try.underlying87 e130 (by kernel_rfl) (by exact e116) (by exact e118) q127 q126) ?_
        refine lv (d := 40) rfl rfl (by kernel_rfl) (e_load1 (ad := ⟨b128, o129 + (x113 : Int).toNat * 1, none⟩) (v := .pointer (some ⟨g136, 0, none⟩)) Try.underlying74 rfl (by kernel_rfl) (hpx (S119.inv.cell (Y107.cell (k133 0 _ rfl))))) ?_
        refine lv (d := 7) rfl rfl (by kernel_rfl) (e_assign (v := .pointer (some ⟨g136, 0, none⟩)) (by kernel_rfl)) ?_
        refine wpList_nil ?_
        refine then_n ?_
        refine wp_region_lit ?_
        refine lv (d := 41) rfl rfl (by kernel_rfl) (e_move (v := .pointer (some ⟨g2, 0, none⟩)) (by exact e114)) ?_
        refine lv (d := 42) rfl rfl (by kernel_rfl) (e_move (v := .pointer (some ⟨g136, 0, none⟩)) (by kernel_rfl)) ?_
        refine lv (d := 43) rfl rfl (by kernel_rfl) (e_move (v := .slice A109 x108.length c110) (by exact e115)) ?_
        obtain ⟨t137, u138, M⟩ := bnd M
        refine lcall (d := 44) rfl rfl (by kernel_rfl) (e_call (l := [.tmp 41, .tmp 42, .tmp 43]) (vs := [.pointer (some ⟨g2, 0, none⟩), .pointer (some ⟨g136, 0, none⟩), .slice A109 x108.length c110]) Try.func128 (by kernel_rfl) rfl (by kernel_rfl) rfl) (ih.2 k124 (by omega) w104 H106 x1 g2 (x1.args.getD ((x113).toNat) (Tm.mk 0 0 [] [])) g136 x108 A109 c110 F111 (h3.ext' Y107) (h135.ext' Y107) h112 (St.own' (Fa := [F111]) (Fr := []) S119) t137 u138) ?_
        rintro _ w139 ⟨A142, c143, F145, H140, rfl, h144, T141⟩
        refine ⟨_, rfl, ?_⟩
        obtain ⟨S146, K147⟩ := St.call (Fa := [F111]) (Fr := []) S119 T141
        have E148 := T141.ext
        refine lv (d := 1) rfl rfl (by kernel_rfl) (e_assign (v := .slice A142 t137.length c143) (by kernel_rfl)) ?_
        refine wpList_nil ?_
        refine inb_n ?_
        refine then_n ?_
        refine wp_region_lit ?_
        refine lv (d := 45) rfl rfl (by kernel_rfl) (e_add (k := .i64) (a := x113) (b := 1) (by exact e118) rfl) ?_
        refine lv (d := 37) rfl rfl (by kernel_rfl) (e_move (v := .int .i64 (IntKind.i64.wrap (x113 + 1))) (by kernel_rfl)) ?_
        refine wpList_nil ?_
        refine then_n ?_
        exact ⟨k124, (by omega), _, H140, t137, A142, c143, F145, (IntKind.i64.wrap (x113 + 1)), (by omega), rfl, (by exact e114), (by kernel_rfl), (by exact e116), (by exact e117), (by kernel_rfl), h144, (Y107.trans E148), S146, M⟩
      replace M := ifn q126 M
      refine cond_f rfl (bf q126 (by kernel_rfl)) ?_
      refine wp_exit ?_
      refine then_e ?_
      refine then_e ?_
      refine inb_hit ?_
      refine then_n ?_
      refine wp_seq ?_
      refine wp_region_lit ?_
      refine lv (d := 46) rfl rfl (by kernel_rfl) (e_move (v := .slice A109 x108.length c110) (by exact e115)) ?_
      refine lv (d := 4) rfl rfl (by kernel_rfl) (e_assign (v := .slice A109 x108.length c110) (by kernel_rfl)) ?_
      refine wpList_nil ?_
      refine then_n ?_
      refine wp_ret ?_
      obtain rfl := Option.some.inj M
      exact ret1 rfl rfl  (show _ = .slice A109 x108.length c110 from (by kernel_rfl)) ⟨A109, c110, F111, H106, rfl, h112, S119⟩
    · intro k hk w H x1 g2 x4 g5 x7 A8 c9 F11 h3 h6 h10 S r M
      rcases k with _ | k1_
      · rw [impl_node_cut_2.f] at M
        cases M
      rw [impl_node_cut_2.f] at M
      refine enter (l := [.pointer (some ⟨g2, 0, none⟩), .pointer (some ⟨g5, 0, none⟩), .slice A8 x7.length c9]) 10 Try.func128 rfl rfl rfl ?_
      have S0_ := S.st
      refine wp_seq ?_
      refine wp_region_lit ?_
      refine lv (d := 6) rfl rfl (by kernel_rfl) (e_assign (v := .slice none 0 0) rfl) ?_
      refine wpList_nil ?_
      refine then_n ?_
      refine wp_seq ?_
      refine wp_region_lit ?_
      refine lv (d := 7) rfl rfl (by kernel_rfl) (e_move (v := .pointer (some ⟨g5, 0, none⟩)) (by kernel_rfl)) ?_
      refine lv (d := 8) rfl rfl (by kernel_rfl) (e_move (v := .slice A8 x7.length c9) (by kernel_rfl)) ?_
      obtain ⟨t12, u13, M⟩ := bnd M
      refine lcall (d := 9) rfl rfl (by kernel_rfl) (e_call (l := [.tmp 7, .tmp 8]) (vs := [.pointer (some ⟨g5, 0, none⟩), .slice A8 x7.length c9]) Try.func112 (by kernel_rfl) rfl (by kernel_rfl) rfl) (ih.1 k1_ (by omega) w H x4 g5 x7 A8 c9 F11 h6 h10 (St.own' (Fa := [F11]) (Fr := []) S0_) t12 u13) ?_
      rintro _ w14 ⟨A17, c18, F20, H15, rfl, h19, T16⟩
      refine ⟨_, rfl, ?_⟩
      obtain ⟨S21, K22⟩ := St.call (Fa := [F11]) (Fr := []) S0_ T16
      have E23 := T16.ext
      refine lv (d := 6) rfl rfl (by kernel_rfl) (e_assign (v := .slice A17 t12.length c18) (by kernel_rfl)) ?_
      refine wpList_nil ?_
      refine then_n ?_
      refine wp_ret ?_
      obtain rfl := Option.some.inj M
      exact ret1 rfl rfl  (show _ = .slice A17 t12.length c18 from (by kernel_rfl)) ⟨A17, c18, F20, H15, rfl, h19, S21⟩
theorem impl_node_put_2.calls (k : Nat) (w : World) (H : Hp) (x1 : Tm) (g2 : Nat) (x4 : List Cell) (A5 : Option Addr) (c6 : Nat) (F8 : Foot) (h3 : NodeR 125 H x1 (.pointer (some ⟨g2, 0, none⟩))) (h7 : Row st65 65 H (hp w) F8 A5 c6 x4) (S : Own [F8] H w) (r : List Cell) (M : impl_node_put_2.f k x1 x4 = some r) :
    Calls Try.prog 112 #[.pointer (some ⟨g2, 0, none⟩), .slice A5 x4.length c6] w (fun e e_w => ∃ (A_1 : Option Addr) (c_1 : Nat) (F_1 : Foot) (H_ : Hp), e = .returned (.slice A_1 r.length c_1) ∧ Row st65 65 H_ (hp e_w) F_1 A_1 c_1 r ∧ St (anyOf [F8]) H w [F_1] H_ e_w) := (impl_node_put_2.all (k + 1)).1 k (Nat.lt_succ_self k) w H x1 g2 x4 A5 c6 F8 h3 h7 S r M
theorem impl_node_cut_2.calls (k : Nat) (w : World) (H : Hp) (x1 : Tm) (g2 : Nat) (x4 : Tm) (g5 : Nat) (x7 : List Cell) (A8 : Option Addr) (c9 : Nat) (F11 : Foot) (h3 : NodeR 125 H x1 (.pointer (some ⟨g2, 0, none⟩))) (h6 : NodeR 125 H x4 (.pointer (some ⟨g5, 0, none⟩))) (h10 : Row st65 65 H (hp w) F11 A8 c9 x7) (S : Own [F11] H w) (r : List Cell) (M : impl_node_cut_2.f k x1 x4 x7 = some r) :
    Calls Try.prog 128 #[.pointer (some ⟨g2, 0, none⟩), .pointer (some ⟨g5, 0, none⟩), .slice A8 x7.length c9] w (fun e e_w => ∃ (A_1 : Option Addr) (c_1 : Nat) (F_1 : Foot) (H_ : Hp), e = .returned (.slice A_1 r.length c_1) ∧ Row st65 65 H_ (hp e_w) F_1 A_1 c_1 r ∧ St (anyOf [F11]) H w [F_1] H_ e_w) := (impl_node_put_2.all (k + 1)).2 k (Nat.lt_succ_self k) w H x1 g2 x4 g5 x7 A8 c9 F11 h3 h6 h10 S r M

/-! impl_node_cells -/
def impl_node_cells.f (k : Nat) (x1 : Tm) : Option (List Cell) := ((impl_node_put_2.f k x1 []).bind fun t5 => some t5)
theorem impl_node_cells.calls (k : Nat) (w : World) (H : Hp) (x1 : Tm) (g2 : Nat) (h3 : NodeR 125 H x1 (.pointer (some ⟨g2, 0, none⟩))) (S : Own [] H w) (r : List Cell) (M : impl_node_cells.f k x1 = some r) :
    Calls Try.prog 68 #[.pointer (some ⟨g2, 0, none⟩)] w (fun e e_w => ∃ (A_1 : Option Addr) (c_1 : Nat) (F_1 : Foot) (H_ : Hp), e = .returned (.slice A_1 r.length c_1) ∧ Row st65 65 H_ (hp e_w) F_1 A_1 c_1 r ∧ St (anyOf []) H w [F_1] H_ e_w) := by
  rw [impl_node_cells.f] at M
  refine enter (l := [.pointer (some ⟨g2, 0, none⟩)]) 5 Try.func68 rfl rfl rfl ?_
  have S0_ := S.st
  refine wp_seq ?_
  refine wp_region_lit ?_
  refine lv (d := 2) rfl rfl (by kernel_rfl) (e_assign (v := .slice none 0 0) rfl) ?_
  refine wpList_nil ?_
  refine then_n ?_
  refine wp_seq ?_
  refine wp_region_lit ?_
  refine lv (d := 3) rfl rfl (by kernel_rfl) (e_move (v := .pointer (some ⟨g2, 0, none⟩)) (by kernel_rfl)) ?_
  have S4 := S0_.unit
  obtain ⟨t5, u6, M⟩ := bnd M
  refine lcall (d := 4) rfl rfl (by kernel_rfl) (e_call (l := [.tmp 3, .const (.slice none 0 0)]) (vs := [.pointer (some ⟨g2, 0, none⟩), .slice none 0 0]) Try.func112 (by kernel_rfl) rfl (by kernel_rfl) rfl) (impl_node_put_2.calls k w H x1 g2 [] none 0 no h3 (Row.nil _ _ _ _ no) (St.own' (Fa := [no]) (Fr := []) S4) t5 u6) ?_
  rintro _ w7 ⟨A10, c11, F13, H8, rfl, h12, T9⟩
  refine ⟨_, rfl, ?_⟩
  obtain ⟨S14, K15⟩ := St.call (Fa := [no]) (Fr := []) S4 T9
  have E16 := T9.ext
  refine lv (d := 2) rfl rfl (by kernel_rfl) (e_assign (v := .slice A10 t5.length c11) (by kernel_rfl)) ?_
  refine wpList_nil ?_
  refine then_n ?_
  refine wp_ret ?_
  obtain rfl := Option.some.inj M
  exact ret1 rfl rfl  (show _ = .slice A10 t5.length c11 from (by kernel_rfl)) ⟨A10, c11, F13, H8, rfl, h12, S14⟩

/-! impl_Apply -/
def impl_Apply.l1 : Nat → (List Cell) → (List (Int × List Cell)) → (List Cell) → Int → Option ((List Cell) × Int)
  | 0, _, _, _, _ => none
  | k94 + 1, x6, x35, x78, x83 => (if x83 < (x6.length : Int) then (if 0 ≤ x83 then (if (mget x35 ((x6.getD ((x83).toNat) z65).n)).isSome = true then (if ((x6.getD ((x83).toNat) z65).kind) = 0 then ((impl_tree.f k94 ((mget x35 ((x6.getD ((x83).toNat) z65).n)).getD ([] : List Cell))).bind fun t128 => ((impl_node_cells.f k94 t128).bind fun t138 => (if x78.length + t138.length ≤ 3518437208883 then (if ((x78 ++ t138).length : Int) > 2000 then some ([], 3) else (impl_Apply.l1 k94 x6 x35 (x78 ++ t138) (IntKind.i64.wrap (x83 + 1)))) else none))) else (if 0 + ((x6.getD ((x83).toNat) z65).text).length ≤ 140737488355328 then (if x78.length + 1 ≤ 3518437208883 then (if ((x78 ++ [(x6.getD ((x83).toNat) z65)]).length : Int) > 2000 then some ([], 3) else (impl_Apply.l1 k94 x6 x35 (x78 ++ [(x6.getD ((x83).toNat) z65)]) (IntKind.i64.wrap (x83 + 1)))) else none) else none)) else (if 0 + ((x6.getD ((x83).toNat) z65).text).length ≤ 140737488355328 then (if x78.length + 1 ≤ 3518437208883 then (if ((x78 ++ [(x6.getD ((x83).toNat) z65)]).length : Int) > 2000 then some ([], 3) else (impl_Apply.l1 k94 x6 x35 (x78 ++ [(x6.getD ((x83).toNat) z65)]) (IntKind.i64.wrap (x83 + 1)))) else none) else none)) else none) else some (x78, 0))
def impl_Apply.l0 : Nat → (List Binding) → (List Cell) → Int → (List (Int × List Cell)) → Option ((List Cell) × Int)
  | 0, _, _, _, _ => none
  | k46 + 1, x1, x6, x34, x35 => (if x34 < (x1.length : Int) then (if 0 ≤ x34 then (impl_Apply.l0 k46 x1 x6 (IntKind.i64.wrap (x34 + 1)) (mset x35 ((x1.getD ((x34).toNat) z63).var) ((x1.getD ((x34).toNat) z63).term))) else none) else (impl_Apply.l1 k46 x6 x35 [] 0))
def impl_Apply.f (k : Nat) (x1 : List Binding) (x6 : List Cell) : Option ((List Cell) × Int) := ((impl_validSub.f k x1).bind fun t11 => (if ¬ (t11 = true) then some ([], 1) else ((impl_ValidTerm.f k x6).bind fun t19 => (if ¬ (t19 = true) then some ([], 1) else (impl_Apply.l0 k x1 x6 0 [])))))
theorem impl_Apply.calls (k : Nat) (w : World) (H : Hp) (x1 : List Binding) (A2 : Option Addr) (c3 : Nat) (x6 : List Cell) (A7 : Option Addr) (c8 : Nat) (h4 : Rd st63 H A2 x1) (l5 : x1.length ≤ c3) (h9 : Rd st65 H A7 x6) (l10 : x6.length ≤ c8) (S : Own [] H w) (r : (List Cell) × Int) (M : impl_Apply.f k x1 x6 = some r) :
    Calls Try.prog 46 #[.slice A2 x1.length c3, .slice A7 x6.length c8] w (fun e e_w => ∃ (A_1 : Option Addr) (c_1 : Nat) (F_1 : Foot) (H_ : Hp), e = .returned (.tuple #[.slice A_1 r.1.length c_1, .int .i64 r.2]) ∧ Row st65 65 H_ (hp e_w) F_1 A_1 c_1 r.1 ∧ St (anyOf []) H w [F_1] H_ e_w) := by
  rw [impl_Apply.f] at M
  refine enter (l := [.slice A2 x1.length c3, .slice A7 x6.length c8]) 72 Try.func46 rfl rfl rfl ?_
  have S0_ := S.st
  refine wp_seq ?_
  refine wp_region_lit ?_
  refine lv (d := 4) rfl rfl (by kernel_rfl) (e_assign (v := .slice none 0 0) rfl) ?_
  refine lv (d := 5) rfl rfl (by kernel_rfl) (e_assign (v := .int .i64 0) rfl) ?_
  refine wpList_nil ?_
  refine then_n ?_
  refine wp_seq ?_
  refine wp_seq ?_
  refine wp_region_lit ?_
  refine lv (d := 14) rfl rfl (by kernel_rfl) (e_move (v := .slice A2 x1.length c3) (by kernel_rfl)) ?_
  obtain ⟨t11, u12, M⟩ := bnd M
  refine lcall (d := 15) rfl rfl (by kernel_rfl) (e_call (l := [.tmp 14]) (vs := [.slice A2 x1.length c3]) Try.func87 (by kernel_rfl) rfl (by kernel_rfl) rfl) (impl_validSub.calls k w H x1 A2 c3 h4 l5 S0_.own0 t11 u12) ?_
  rintro _ w13 ⟨rfl, C14⟩
  refine ⟨_, rfl, ?_⟩
  obtain ⟨S15, K16⟩ := S0_.still C14
  refine lv (d := 16) rfl rfl (by kernel_rfl) (e_notv (c := t11) (by kernel_rfl)) ?_
  refine lv (d := 17) rfl rfl (by kernel_rfl) (e_move (v := .bool (decide (¬ (t11 = true)))) (by kernel_rfl)) ?_
  by_cases q17 : ¬ (t11 = true)
  · replace M := ifp q17 M
    refine lskip (t := 17) (c := true) rfl (by kernel_rfl) rfl (bt q17 (by kernel_rfl)) rfl rfl ?_
    refine lskip (t := 17) (c := true) rfl (by kernel_rfl) rfl (bt q17 (by kernel_rfl)) rfl rfl ?_
    refine lskip (t := 17) (c := true) rfl (by kernel_rfl) rfl (bt q17 (by kernel_rfl)) rfl rfl ?_
    refine lv (d := 21) rfl rfl (by kernel_rfl) (e_pick_t (v := .bool true) (bt q17 (by kernel_rfl)) rfl) ?_
    refine wpList_nil ?_
    refine then_n ?_
    refine cond_t rfl (by kernel_rfl) ?_
    refine wp_seq ?_
    refine wp_region_lit ?_
    refine lv (d := 4) rfl rfl (by kernel_rfl) (e_assign (v := .slice none 0 0) rfl) ?_
    refine lv (d := 5) rfl rfl (by kernel_rfl) (e_assign (v := .int .i64 1) rfl) ?_
    refine wpList_nil ?_
    refine then_n ?_
    refine wp_ret ?_
    refine then_r ?_
    obtain rfl := Option.some.inj M
    have S18 := S15.unit
    exact ret2 rfl rfl rfl (show _ = .slice none 0 0 from (by kernel_rfl)) (show _ = .int .i64 1 from (by kernel_rfl)) ⟨none, 0, no, H, rfl, (Row.nil _ _ _ _ no), S18⟩
  replace M := ifn q17 M
  refine lvg (d := 18) (t := 17) rfl (by kernel_rfl) rfl (bf q17 (by kernel_rfl)) rfl (by kernel_rfl) (e_move (v := .slice A7 x6.length c8) (by kernel_rfl)) ?_
  obtain ⟨t19, u20, M⟩ := bnd M
  refine lcallg (d := 19) (t := 17) rfl (by kernel_rfl) rfl (bf q17 (by kernel_rfl)) rfl (by kernel_rfl) (e_call (l := [.tmp 18]) (vs := [.slice A7 x6.length c8]) Try.func17 (by kernel_rfl) rfl (by kernel_rfl) rfl) (impl_ValidTerm.calls k w13 H x6 A7 c8 h9 l10 S15.own0 t19 u20) ?_
  rintro _ w21 ⟨rfl, C22⟩
  refine ⟨_, rfl, ?_⟩
  obtain ⟨S23, K24⟩ := S15.still C22
  refine lvg (d := 20) (t := 17) rfl (by kernel_rfl) rfl (bf q17 (by kernel_rfl)) rfl (by kernel_rfl) (e_notv (c := t19) (by kernel_rfl)) ?_
  refine lv (d := 21) rfl rfl (by kernel_rfl) (e_pick_f (v := .bool (decide (¬ (t19 = true)))) (bf q17 (by kernel_rfl)) (by kernel_rfl)) ?_
  refine wpList_nil ?_
  refine then_n ?_
  by_cases q25 : ¬ (t19 = true)
  · replace M := ifp q25 M
    refine cond_t rfl (bt q25 (by kernel_rfl)) ?_
    refine wp_seq ?_
    refine wp_region_lit ?_
    refine lv (d := 4) rfl rfl (by kernel_rfl) (e_assign (v := .slice none 0 0) rfl) ?_
    refine lv (d := 5) rfl rfl (by kernel_rfl) (e_assign (v := .int .i64 1) rfl) ?_
    refine wpList_nil ?_
    refine then_n ?_
    refine wp_ret ?_
    refine then_r ?_
    obtain rfl := Option.some.inj M
    have S26 := S23.unit
    exact ret2 rfl rfl rfl (show _ = .slice none 0 0 from (by kernel_rfl)) (show _ = .int .i64 1 from (by kernel_rfl)) ⟨none, 0, no, H, rfl, (Row.nil _ _ _ _ no), S26⟩
  replace M := ifn q25 M
  refine cond_f rfl (bf q25 (by kernel_rfl)) ?_
  refine wp_skip ?_
  refine then_n ?_
  refine wp_seq ?_
  refine wp_region_lit ?_
  refine lve (d := 22) rfl rfl (by kernel_rfl) (e_makeMap S23 encI sl65) ?_
  rintro _ w27 ⟨g28, rfl, h29, S30, K31⟩
  refine lv (d := 6) rfl rfl (by kernel_rfl) (e_assign (v := .map (some g28)) (by kernel_rfl)) ?_
  refine wpList_nil ?_
  refine then_n ?_
  refine wp_seq ?_
  refine wp_seq ?_
  refine wp_region_lit ?_
  refine lv (d := 23) rfl rfl (by kernel_rfl) (e_move (v := .slice A2 x1.length c3) (by kernel_rfl)) ?_
  refine lv (d := 24) rfl rfl (by kernel_rfl) (e_len (A := A2) (n := x1.length) (c := c3) Try.underlying52 (by kernel_rfl)) ?_
  refine lv (d := 25) rfl rfl (by kernel_rfl) (e_move (v := .int .i64 0) rfl) ?_
  refine wpList_nil ?_
  refine then_n ?_
  refine wp_block ?_
  refine wp_loop_g (fun k44 a45 w32 => ∃ (f33 : Nat → Value) (x34 : Int) (x35 : List (Int × List Cell)), a45 = mk 72 f33 ∧ f33 1 = .slice A7 x6.length c8 ∧ f33 6 = .map (some g28) ∧ f33 23 = .slice A2 x1.length c3 ∧ f33 24 = .int .i64 (x1.length : Int) ∧ f33 25 = .int .i64 x34 ∧ MapO encI sl65 H (hp w32) g28 x35 ∧ St (anyOf []) H w [(is g28)] H w32 ∧ impl_Apply.l0 k44 x1 x6 x34 x35 = some r) k ⟨_, 0, [], rfl, (by kernel_rfl), (by kernel_rfl), (by kernel_rfl), (by kernel_rfl), (by kernel_rfl), h29, S30, M⟩ ?_
  clear M
  rintro k44 a45 w32 ⟨f33, x34, x35, rfl, e36, e37, e38, e39, e40, h29, S41, M⟩
  rcases k44 with _ | k46
  · rw [impl_Apply.l0] at M
    cases M
  rw [impl_Apply.l0] at M
  refine wp_seq ?_
  refine wp_region_lit ?_
  refine lv (d := 26) rfl rfl (by kernel_rfl) (e_lss (k := .i64) (a := x34) (b := (x1.length : Int)) (by exact e40) (by exact e39)) ?_
  refine wpList_nil ?_
  refine then_n ?_
  refine wp_seq ?_
  by_cases q47 : x34 < (x1.length : Int)
  · replace M := ifp q47 M
    refine cond_t rfl (bt q47 (by kernel_rfl)) ?_
    refine wp_skip ?_
    refine then_n ?_
    refine wp_seq ?_
    refine wp_block ?_
    refine wp_seq ?_
    refine wp_region_lit ?_
    obtain ⟨q48, M⟩ := chk M
    obtain ⟨b49, o50, e51⟩ := Rd.addr h4 (show (x34).toNat < x1.length by omega)
    obtain ⟨y52, r53, k54⟩ := Rd.at h4 e51 (getD_some z63 (show (x34).toNat < x1.length by omega))
    obtain ⟨A55, c56, rfl, l57, h58⟩ := st63_open r53
    refine lv (d := 27) rfl rfl (by kernel_rfl) (e_indexAddr (b := b49) (off := o50) (n := x1.length) (c := c3) (sz := 2) (i := x34) (k := .i64) Try.underlying52 e51 (by kernel_rfl) (by exact e38) (by exact e40) q48 q47) ?_
    refine lv (d := 28) rfl rfl (by kernel_rfl) (e_loadS (b := b49) (off := o50 + (x34 : Int).toNat * 2) (cs := [.int .i64 ((x1.getD ((x34).toNat) z63).var), .slice A55 ((x1.getD ((x34).toNat) z63).term).length c56]) Try.underlying63 rfl (by kernel_rfl) (by kernel_rfl) (fun j_ u_ e_ => (hpx (S41.inv.cell (k54 j_ u_ e_))))) ?_
    refine lve (d := 8) rfl rfl (by kernel_rfl) (new_blk (v := fun g_ => .pointer (some ⟨g_, 0, none⟩)) (cs := #[.int .i64 0, .slice none 0 0]) (t := 63) S41 (by kernel_rfl)) ?_
    rintro _ w59 ⟨g60, rfl, b61, S62, K63⟩
    replace h29 := h29.move (K63.at 0 rfl)
    refine lse rfl rfl (by kernel_rfl) (e_store (g := g60) (o := 0) (v := .agg #[.int .i64 ((x1.getD ((x34).toNat) z63).var), .slice A55 ((x1.getD ((x34).toNat) z63).term).length c56]) (cur' := #[.int .i64 ((x1.getD ((x34).toNat) z63).var), .slice A55 ((x1.getD ((x34).toNat) z63).term).length c56]) (vs := [.int .i64 ((x1.getD ((x34).toNat) z63).var), .slice A55 ((x1.getD ((x34).toNat) z63).term).length c56]) S62 (by kernel_rfl) (by kernel_rfl) rfl (by kernel_rfl) b61 (Nat.le_of_ble_eq_true rfl) (List.forall_mem_cons.2 ⟨rfl, (List.forall_mem_cons.2 ⟨rfl, (fun _ h_ => by cases h_)⟩)⟩) rfl) ?_
    rintro w64 ⟨b65, S66, K67⟩
    replace h29 := h29.move (K67.at 0 rfl)
    clear b61
    refine wpList_nil ?_
    refine then_n ?_
    refine wp_region_lit ?_
    refine lv (d := 29) rfl rfl (by kernel_rfl) (e_move (v := .map (some g28)) (by exact e37)) ?_
    refine lv (d := 30) rfl rfl (by kernel_rfl) (e_fieldAddr (b := g60) (off := 0) (o := 0) Try.underlying63 rfl rfl (sz := 1) (by kernel_rfl) (by decide) (by kernel_rfl)) ?_
    refine lv (d := 31) rfl rfl (by kernel_rfl) (e_load1 (ad := ⟨g60, 0 + 0, none⟩) (v := .int .i64 ((x1.getD ((x34).toNat) z63).var)) Try.underlying3 rfl (by kernel_rfl) (blk_cell b65 rfl)) ?_
    refine lv (d := 32) rfl rfl (by kernel_rfl) (e_fieldAddr (b := g60) (off := 0) (o := 1) Try.underlying63 rfl rfl (sz := 1) (by kernel_rfl) (by decide) (by kernel_rfl)) ?_
    refine lv (d := 33) rfl rfl (by kernel_rfl) (e_load1 (ad := ⟨g60, 0 + 1, none⟩) (v := .slice A55 ((x1.getD ((x34).toNat) z63).term).length c56) Try.underlying25 rfl (by kernel_rfl) (blk_cell b65 rfl)) ?_
    have S68 := S66.pull (F := (is g28)) (Fr := [(is g60)]) 1 rfl rfl
    refine lse rfl rfl (by kernel_rfl) (e_mapUpdate (k := (x1.getD ((x34).toNat) z63).var) (a := (x1.getD ((x34).toNat) z63).term) S68 h29 keyI Try.underlying101 Try.underlying3 (by kernel_rfl) (by kernel_rfl) (by kernel_rfl) ⟨A55, c56, rfl, l57, h58⟩) ?_
    rintro w69 ⟨h70, S71, K72⟩
    replace b65 := K72.blk 0 rfl b65
    clear h29
    refine wpList_nil ?_
    refine inb_n ?_
    refine then_n ?_
    refine wp_region_lit ?_
    refine lv (d := 34) rfl rfl (by kernel_rfl) (e_add (k := .i64) (a := x34) (b := 1) (by exact e40) rfl) ?_
    refine lv (d := 25) rfl rfl (by kernel_rfl) (e_move (v := .int .i64 (IntKind.i64.wrap (x34 + 1))) (by kernel_rfl)) ?_
    refine wpList_nil ?_
    refine then_n ?_
    have S73 := St.first (Fa := [(is g28)]) (Fr := [(is g60)]) S71
    exact ⟨k46, (by omega), _, (IntKind.i64.wrap (x34 + 1)), (mset x35 ((x1.getD ((x34).toNat) z63).var) ((x1.getD ((x34).toNat) z63).term)), rfl, (by exact e36), (by exact e37), (by exact e38), (by exact e39), (by kernel_rfl), h70, S73, M⟩
  replace M := ifn q47 M
  refine cond_f rfl (bf q47 (by kernel_rfl)) ?_
  refine wp_exit ?_
  refine then_e ?_
  refine then_e ?_
  refine inb_hit ?_
  refine then_n ?_
  refine wp_seq ?_
  refine wp_region_lit ?_
  refine lv (d := 9) rfl rfl (by kernel_rfl) (e_assign (v := .slice none 0 0) rfl) ?_
  refine wpList_nil ?_
  refine then_n ?_
  refine wp_seq ?_
  refine wp_seq ?_
  refine wp_region_lit ?_
  refine lv (d := 35) rfl rfl (by kernel_rfl) (e_move (v := .slice A7 x6.length c8) (by exact e36)) ?_
  refine lv (d := 36) rfl rfl (by kernel_rfl) (e_len (A := A7) (n := x6.length) (c := c8) Try.underlying25 (by kernel_rfl)) ?_
  refine lv (d := 37) rfl rfl (by kernel_rfl) (e_move (v := .int .i64 0) rfl) ?_
  refine wpList_nil ?_
  refine then_n ?_
  refine wp_block ?_
  have S95 := S41.unit
  have S96 := S95.pull (F := (is g28)) (Fr := [no]) 1 rfl rfl
  refine wp_loop_g (fun k92 a93 w74 => ∃ (f75 : Nat → Value) (H76 : Hp) (x78 : List Cell) (A79 : Option Addr) (c80 : Nat) (F81 : Foot) (x83 : Int), k92 ≤ k46 ∧ a93 = mk 72 f75 ∧ f75 6 = .map (some g28) ∧ f75 9 = .slice A79 x78.length c80 ∧ f75 35 = .slice A7 x6.length c8 ∧ f75 36 = .int .i64 (x6.length : Int) ∧ f75 37 = .int .i64 x83 ∧ MapO encI sl65 H76 (hp w74) g28 x35 ∧ Row st65 65 H76 (hp w74) F81 A79 c80 x78 ∧ Ext H H76 ∧ St (anyOf []) H w [(is g28), F81] H76 w74 ∧ impl_Apply.l1 k92 x6 x35 x78 x83 = some r) k46 ⟨_, H, [], none, 0, no, 0, (by omega), rfl, (by exact e37), (by kernel_rfl), (by kernel_rfl), (by kernel_rfl), (by kernel_rfl), h29, (Row.nil _ _ _ _ _), (Ext.refl _), S96, M⟩ ?_
  clear M
  rintro k92 a93 w74 ⟨f75, H76, x78, A79, c80, F81, x83, z91, rfl, e84, e85, e86, e87, e88, h29, h82, Y77, S89, M⟩
  rcases k92 with _ | k94
  · rw [impl_Apply.l1] at M
    cases M
  rw [impl_Apply.l1] at M
  refine wp_seq ?_
  refine wp_region_lit ?_
  refine lv (d := 38) rfl rfl (by kernel_rfl) (e_lss (k := .i64) (a := x83) (b := (x6.length : Int)) (by exact e88) (by exact e87)) ?_
  refine wpList_nil ?_
  refine then_n ?_
  refine wp_seq ?_
  by_cases q97 : x83 < (x6.length : Int)
  · replace M := ifp q97 M
    refine cond_t rfl (bt q97 (by kernel_rfl)) ?_
    refine wp_skip ?_
    refine then_n ?_
    refine wp_seq ?_
    refine wp_block ?_
    refine wp_seq ?_
    refine wp_region_lit ?_
    obtain ⟨q98, M⟩ := chk M
    obtain ⟨b99, o100, e101⟩ := Rd.addr h9 (show (x83).toNat < x6.length by omega)
    obtain ⟨y102, r103, k104⟩ := Rd.at h9 e101 (getD_some z65 (show (x83).toNat < x6.length by omega))
    obtain ⟨A105, c106, rfl, l107, h108⟩ := st65_open r103
    refine lv (d := 39) rfl rfl (by kernel_rfl) (e_indexAddr (b := b99) (off := o100) (n := x6.length) (c := c8) (sz := 3) (i := x83) (k := .i64) Try.underlying25 e101 (by kernel_rfl) (by exact e86) (by exact e88) q98 q97) ?_
    refine lv (d := 40) rfl rfl (by kernel_rfl) (e_loadS (b := b99) (off := o100 + (x83 : Int).toNat * 3) (cs := [.int .i64 ((x6.getD ((x83).toNat) z65).kind), .int .i64 ((x6.getD ((x83).toNat) z65).n), .slice A105 ((x6.getD ((x83).toNat) z65).text).length c106]) Try.underlying65 rfl (by kernel_rfl) (by kernel_rfl) (fun j_ u_ e_ => (hpx (S89.inv.cell (Y77.cell (k104 j_ u_ e_)))))) ?_
    refine lve (d := 11) rfl rfl (by kernel_rfl) (new_blk (v := fun g_ => .pointer (some ⟨g_, 0, none⟩)) (cs := #[.int .i64 0, .int .i64 0, .slice none 0 0]) (t := 65) S89 (by kernel_rfl)) ?_
    rintro _ w109 ⟨g110, rfl, b111, S112, K113⟩
    replace h29 := h29.move (K113.at 0 rfl)
    replace h82 := h82.move (K113.at 1 rfl)
    refine lse rfl rfl (by kernel_rfl) (e_store (g := g110) (o := 0) (v := .agg #[.int .i64 ((x6.getD ((x83).toNat) z65).kind), .int .i64 ((x6.getD ((x83).toNat) z65).n), .slice A105 ((x6.getD ((x83).toNat) z65).text).length c106]) (cur' := #[.int .i64 ((x6.getD ((x83).toNat) z65).kind), .int .i64 ((x6.getD ((x83).toNat) z65).n), .slice A105 ((x6.getD ((x83).toNat) z65).text).length c106]) (vs := [.int .i64 ((x6.getD ((x83).toNat) z65).kind), .int .i64 ((x6.getD ((x83).toNat) z65).n), .slice A105 ((x6.getD ((x83).toNat) z65).text).length c106]) S112 (by kernel_rfl) (by kernel_rfl) rfl (by kernel_rfl) b111 (Nat.le_of_ble_eq_true rfl) (List.forall_mem_cons.2 ⟨rfl, (List.forall_mem_cons.2 ⟨rfl, (List.forall_mem_cons.2 ⟨rfl, (fun _ h_ => by cases h_)⟩)⟩)⟩) rfl) ?_
    rintro w114 ⟨b115, S116, K117⟩
    replace h29 := h29.move (K117.at 0 rfl)
    replace h82 := h82.move (K117.at 1 rfl)
    clear b111
    refine wpList_nil ?_
    refine then_n ?_
    refine wp_seq ?_
    refine wp_seq ?_
    refine wp_region_lit ?_
    refine lv (d := 42) rfl rfl (by kernel_rfl) (e_move (v := .map (some g28)) (by exact e84)) ?_
    refine lv (d := 43) rfl rfl (by kernel_rfl) (e_fieldAddr (b := g110) (off := 0) (o := 1) Try.underlying65 rfl rfl (sz := 1) (by kernel_rfl) (by decide) (by kernel_rfl)) ?_
    refine lv (d := 44) rfl rfl (by kernel_rfl) (e_load1 (ad := ⟨g110, 0 + 1, none⟩) (v := .int .i64 ((x6.getD ((x83).toNat) z65).n)) Try.underlying3 rfl (by kernel_rfl) (blk_cell b115 rfl)) ?_
    by_cases q118 : (mget x35 ((x6.getD ((x83).toNat) z65).n)).isSome = true
    · replace M := ifp q118 M
      obtain ⟨v119, r120, k121⟩ := MapO.look h29 keyI (some_getD q118 ([] : List Cell))
      obtain ⟨A122, c123, e124, l125, h126⟩ := r120
      obtain rfl := cons1 e124
      refine lv (d := 45) rfl rfl (by kernel_rfl) (e_lookv (k := (x6.getD ((x83).toNat) z65).n) k121 keyI Try.underlying101 Try.underlying3 (by kernel_rfl) (by kernel_rfl) (.slice none 0 0) (by kernel_rfl)) ?_
      refine lv (d := 41) rfl rfl (by kernel_rfl) (e_move (v := .tuple #[.slice A122 ((mget x35 ((x6.getD ((x83).toNat) z65).n)).getD ([] : List Cell)).length c123, .bool true]) (by kernel_rfl)) ?_
      refine lv (d := 46) rfl rfl (by kernel_rfl) (e_extract (vs := #[.slice A122 ((mget x35 ((x6.getD ((x83).toNat) z65).n)).getD ([] : List Cell)).length c123, .bool true]) (v := .slice A122 ((mget x35 ((x6.getD ((x83).toNat) z65).n)).getD ([] : List Cell)).length c123) (by kernel_rfl) rfl) ?_
      refine lv (d := 47) rfl rfl (by kernel_rfl) (e_extract (vs := #[.slice A122 ((mget x35 ((x6.getD ((x83).toNat) z65).n)).getD ([] : List Cell)).length c123, .bool true]) (v := .bool true) (by kernel_rfl) rfl) ?_
      refine lv (d := 12) rfl rfl (by kernel_rfl) (e_assign (v := .slice A122 ((mget x35 ((x6.getD ((x83).toNat) z65).n)).getD ([] : List Cell)).length c123) (by kernel_rfl)) ?_
      refine lv (d := 13) rfl rfl (by kernel_rfl) (e_assign (v := .bool true) (by kernel_rfl)) ?_
      refine wpList_nil ?_
      refine then_n ?_
      refine wp_seq ?_
      refine wp_region_lit ?_
      refine lv (d := 48) rfl rfl (by kernel_rfl) (e_move (v := .bool true) (by kernel_rfl)) ?_
      refine lv (d := 49) rfl rfl (by kernel_rfl) (e_move (v := .bool true) (by kernel_rfl)) ?_
      refine lvg (d := 50) (t := 49) rfl (by kernel_rfl) rfl (by kernel_rfl) rfl (by kernel_rfl) (e_fieldAddr (b := g110) (off := 0) (o := 0) Try.underlying65 rfl rfl (sz := 1) (by kernel_rfl) (by decide) (by kernel_rfl)) ?_
      refine lvg (d := 51) (t := 49) rfl (by kernel_rfl) rfl (by kernel_rfl) rfl (by kernel_rfl) (e_load1 (ad := ⟨g110, 0 + 0, none⟩) (v := .int .i64 ((x6.getD ((x83).toNat) z65).kind)) Try.underlying3 rfl (by kernel_rfl) (blk_cell b115 rfl)) ?_
      refine lvg (d := 52) (t := 49) rfl (by kernel_rfl) rfl (by kernel_rfl) rfl (by kernel_rfl) (e_eql (k := .i64) (a := (x6.getD ((x83).toNat) z65).kind) (b := 0) (by kernel_rfl) rfl) ?_
      refine lv (d := 53) rfl rfl (by kernel_rfl) (e_pick_t (v := .bool (decide (((x6.getD ((x83).toNat) z65).kind) = 0))) (by kernel_rfl) (by kernel_rfl)) ?_
      refine wpList_nil ?_
      refine then_n ?_
      by_cases q127 : ((x6.getD ((x83).toNat) z65).kind) = 0
      · replace M := ifp q127 M
        refine cond_t rfl (bt q127 (by kernel_rfl)) ?_
        refine wp_region_lit ?_
        refine lv (d := 54) rfl rfl (by kernel_rfl) (e_move (v := .slice A79 x78.length c80) (by exact e85)) ?_
        refine lv (d := 55) rfl rfl (by kernel_rfl) (e_move (v := .slice A122 ((mget x35 ((x6.getD ((x83).toNat) z65).n)).getD ([] : List Cell)).length c123) (by kernel_rfl)) ?_
        obtain ⟨t128, u129, M⟩ := bnd M
        refine lcall (d := 56) rfl rfl (by kernel_rfl) (e_call (l := [.tmp 55]) (vs := [.slice A122 ((mget x35 ((x6.getD ((x83).toNat) z65).n)).getD ([] : List Cell)).length c123]) Try.func62 (by kernel_rfl) rfl (by kernel_rfl) rfl) (impl_tree.calls k94 w114 H76 ((mget x35 ((x6.getD ((x83).toNat) z65).n)).getD ([] : List Cell)) A122 c123 h126 l125 (St.own' (Fa := []) (Fr := [(is g110), (is g28), F81]) S116) t128 u129) ?_
        rintro _ w130 ⟨g133, H131, rfl, h134, T132⟩
        refine ⟨_, rfl, ?_⟩
        obtain ⟨S135, K136⟩ := St.call (Fa := []) (Fr := [(is g110), (is g28), F81]) S116 T132
        replace b115 := K136.blk 0 rfl b115
        replace h29 := h29.move (K136.at 1 rfl)
        replace h82 := h82.move (K136.at 2 rfl)
        have E137 := T132.ext
        replace h29 := h29.ext E137
        replace h82 := h82.ext E137
        obtain ⟨t138, u139, M⟩ := bnd M
        refine lcall (d := 57) rfl rfl (by kernel_rfl) (e_call (l := [.tmp 56]) (vs := [.pointer (some ⟨g133, 0, none⟩)]) Try.func68 (by kernel_rfl) rfl (by kernel_rfl) rfl) (impl_node_cells.calls k94 w130 H131 t128 g133 h134 (St.own' (Fa := []) (Fr := [(is g110), (is g28), F81]) S135) t138 u139) ?_
        rintro _ w140 ⟨A143, c144, F146, H141, rfl, h145, T142⟩
        refine ⟨_, rfl, ?_⟩
        obtain ⟨S147, K148⟩ := St.call (Fa := []) (Fr := [(is g110), (is g28), F81]) S135 T142
        replace b115 := K148.blk 0 rfl b115
        replace h29 := h29.move (K148.at 1 rfl)
        replace h82 := h82.move (K148.at 2 rfl)
        have E149 := T142.ext
        replace h29 := h29.ext E149
        replace h82 := h82.ext E149
        obtain ⟨y150, h151, h152⟩ := Row.news h145
        obtain ⟨q153, M⟩ := chk M
        have S154 := S147.pull (F := F81) (Fr := [F146, (is g110), (is g28)]) 3 rfl rfl
        refine lve (d := 58) rfl rfl (by kernel_rfl) (e_append (d := st65) (n := x78.length) (xs := x78) (cap := c80) (A := A79) (ys := t138) (A2 := A143) (c2 := c144) (z := .agg #[.int .i64 0, .int .i64 0, .slice none 0 0]) (bytes := 40) S154 Try.underlying25 (by kernel_rfl) rfl (by decide) (by kernel_rfl) rfl (by kernel_rfl) h82 h151 h152 (show (x78.length + t138.length) * 40 ≤ _ by first | omega | (simp only [List.length_cons, List.length_nil]; omega)) (by decide)) ?_
        rintro _ w155 ⟨A156, c157, F158, rfl, h159, S160, K161⟩
        replace b115 := K161.blk 0 rfl b115
        replace h29 := h29.move (K161.at 1 rfl)
        refine lv (d := 9) rfl rfl (by kernel_rfl) (e_assign (v := .slice A156 ((x78 ++ t138).length) c157) (by kernel_rfl)) ?_
        refine wpList_nil ?_
        refine then_n ?_
        refine wp_seq ?_
        refine wp_region_lit ?_
        refine lv (d := 67) rfl rfl (by kernel_rfl) (e_move (v := .slice A156 ((x78 ++ t138).length) c157) (by kernel_rfl)) ?_
        refine lv (d := 68) rfl rfl (by kernel_rfl) (e_len (A := A156) (n := (x78 ++ t138).length) (c := c157) Try.underlying25 (by kernel_rfl)) ?_
        refine lv (d := 69) rfl rfl (by kernel_rfl) (e_gtr (k := .i64) (a := ((x78 ++ t138).length : Int)) (b := 2000) (by kernel_rfl) rfl) ?_
        refine wpList_nil ?_
        refine then_n ?_
        by_cases q162 : ((x78 ++ t138).length : Int) > 2000
        · replace M := ifp q162 M
          refine cond_t rfl (bt q162 (by kernel_rfl)) ?_
          refine wp_seq ?_
          refine wp_region_lit ?_
          refine lv (d := 4) rfl rfl (by kernel_rfl) (e_assign (v := .slice none 0 0) rfl) ?_
          refine lv (d := 5) rfl rfl (by kernel_rfl) (e_assign (v := .int .i64 3) rfl) ?_
          refine wpList_nil ?_
          refine then_n ?_
          refine wp_ret ?_
          refine inb_r ?_
          refine then_r ?_
          refine then_r ?_
          refine inb_r ?_
          refine then_r ?_
          obtain rfl := Option.some.inj M
          have S163 := S160.unit
          have S164 := St.first (Fa := [no]) (Fr := [F158, (is g110), (is g28)]) S163
          exact ret2 rfl rfl rfl (show _ = .slice none 0 0 from (by kernel_rfl)) (show _ = .int .i64 3 from (by kernel_rfl)) ⟨none, 0, no, H141, rfl, (Row.nil _ _ _ _ no), S164⟩
        replace M := ifn q162 M
        refine cond_f rfl (bf q162 (by kernel_rfl)) ?_
        refine wp_skip ?_
        refine inb_n ?_
        refine then_n ?_
        refine wp_region_lit ?_
        refine lv (d := 70) rfl rfl (by kernel_rfl) (e_add (k := .i64) (a := x83) (b := 1) (by exact e88) rfl) ?_
        refine lv (d := 37) rfl rfl (by kernel_rfl) (e_move (v := .int .i64 (IntKind.i64.wrap (x83 + 1))) (by kernel_rfl)) ?_
        refine wpList_nil ?_
        refine then_n ?_
        have S165 := S160.pull (F := (is g28)) (Fr := [F158, (is g110)]) 2 rfl rfl
        have S166 := St.first (Fa := [(is g28), F158]) (Fr := [(is g110)]) S165
        exact ⟨k94, (by omega), _, H141, (x78 ++ t138), A156, c157, F158, (IntKind.i64.wrap (x83 + 1)), (by omega), rfl, (by exact e84), (by kernel_rfl), (by exact e86), (by exact e87), (by kernel_rfl), h29, h159, ((Y77.trans E137).trans E149), S166, M⟩
      replace M := ifn q127 M
      refine cond_f rfl (bf q127 (by kernel_rfl)) ?_
      refine wp_seq ?_
      refine wp_region_lit ?_
      refine lv (d := 59) rfl rfl (by kernel_rfl) (e_fieldAddr (b := g110) (off := 0) (o := 2) Try.underlying65 rfl rfl (sz := 1) (by kernel_rfl) (by decide) (by kernel_rfl)) ?_
      refine lv (d := 60) rfl rfl (by kernel_rfl) (e_load1 (ad := ⟨g110, 0 + 2, none⟩) (v := .slice A105 ((x6.getD ((x83).toNat) z65).text).length c106) Try.underlying59 rfl (by kernel_rfl) (blk_cell b115 rfl)) ?_
      obtain ⟨y167, h168, h169⟩ := Rd.news (d := tByte) (ro_scal _ _) S116 (h108.ext Y77)
      obtain ⟨q170, M⟩ := chk M
      have S171 := S116.unit
      have S172 := S171.unit
      have S173 := S172.pull (F := no) (Fr := [no, (is g110), (is g28), F81]) 1 rfl rfl
      refine lve (d := 61) rfl rfl (by kernel_rfl) (e_append (d := tByte) (n := 0) (xs := []) (cap := 0) (A := none) (ys := (x6.getD ((x83).toNat) z65).text) (A2 := A105) (c2 := c106) (z := .int .u8 0) (bytes := 1) S173 Try.underlying59 (by kernel_rfl) rfl (by decide) rfl rfl (by kernel_rfl) (Row.nil _ _ _ _ no) h168 h169 (show (0 + ((x6.getD ((x83).toNat) z65).text).length) * 1 ≤ _ by first | omega | (simp only [List.length_cons, List.length_nil]; omega)) (by decide)) ?_
      rintro _ w174 ⟨A175, c176, F177, rfl, h178, S179, K180⟩
      replace b115 := K180.blk 0 rfl b115
      replace h29 := h29.move (K180.at 1 rfl)
      replace h82 := h82.move (K180.at 2 rfl)
      replace h178 : Row tByte 5 H76 (hp w174) F177 A175 c176 ((x6.getD ((x83).toNat) z65).text) := h178
      refine lv (d := 62) rfl rfl (by kernel_rfl) (e_fieldAddr (b := g110) (off := 0) (o := 2) Try.underlying65 rfl rfl (sz := 1) (by kernel_rfl) (by decide) (by kernel_rfl)) ?_
      have S181 := S179.pull (F := (is g110)) (Fr := [F177, (is g28), F81]) 1 rfl rfl
      refine lse rfl rfl (by kernel_rfl) (e_store (g := g110) (o := 0 + 2) (v := .slice A175 (((x6.getD ((x83).toNat) z65).text).length) c176) (cur' := #[.int .i64 ((x6.getD ((x83).toNat) z65).kind), .int .i64 ((x6.getD ((x83).toNat) z65).n), .slice A175 (((x6.getD ((x83).toNat) z65).text).length) c176]) (vs := [.slice A175 (((x6.getD ((x83).toNat) z65).text).length) c176]) S181 (by kernel_rfl) (by kernel_rfl) rfl (by kernel_rfl) b115 (Nat.le_of_ble_eq_true rfl) (List.forall_mem_cons.2 ⟨rfl, (fun _ h_ => by cases h_)⟩) rfl) ?_
      rintro w182 ⟨b183, S184, K185⟩
      replace h178 := h178.move (K185.at 0 rfl)
      replace h29 := h29.move (K185.at 1 rfl)
      replace h82 := h82.move (K185.at 2 rfl)
      clear b115
      refine wpList_nil ?_
      refine then_n ?_
      refine wp_region_lit ?_
      refine lv (d := 63) rfl rfl (by kernel_rfl) (e_move (v := .slice A79 x78.length c80) (by exact e85)) ?_
      refine lv (d := 64) rfl rfl (by kernel_rfl) (e_loadS (b := g110) (off := 0) (cs := [.int .i64 ((x6.getD ((x83).toNat) z65).kind), .int .i64 ((x6.getD ((x83).toNat) z65).n), .slice A175 (((x6.getD ((x83).toNat) z65).text).length) c176]) Try.underlying65 rfl (by kernel_rfl) (by kernel_rfl) (blk_cells b183 rfl)) ?_
      refine lve (d := 65) rfl rfl (by kernel_rfl) (new_blk (v := fun g_ => .slice (some ⟨g_, 0, none⟩) 1 1) (cs := #[.int .i64 ((x6.getD ((x83).toNat) z65).kind), .int .i64 ((x6.getD ((x83).toNat) z65).n), .slice A175 (((x6.getD ((x83).toNat) z65).text).length) c176]) (t := 65) S184 (by kernel_rfl)) ?_
      rintro _ w186 ⟨g187, rfl, b188, S189, K190⟩
      replace b183 := K190.blk 0 rfl b183
      replace h178 := h178.move (K190.at 1 rfl)
      replace h29 := h29.move (K190.at 2 rfl)
      replace h82 := h82.move (K190.at 3 rfl)
      obtain ⟨q191, M⟩ := chk M
      have S192 := S189.pull (F := F177) (Fr := [(is g187), (is g110), (is g28), F81]) 2 rfl rfl
      have S193 := S192.pull (F := F81) (Fr := [F177, (is g187), (is g110), (is g28)]) 4 rfl rfl
      refine lve (d := 66) rfl rfl (by kernel_rfl) (e_append (d := st65) (n := x78.length) (xs := x78) (cap := c80) (A := A79) (ys := [(x6.getD ((x83).toNat) z65)]) (A2 := (some ⟨g187, 0, none⟩)) (c2 := 1) (z := .agg #[.int .i64 0, .int .i64 0, .slice none 0 0]) (bytes := 40) S193 Try.underlying25 (by kernel_rfl) rfl (by decide) (by kernel_rfl) rfl (by kernel_rfl) h82 (elsO_one1 (st65_mkO (x := (x6.getD ((x83).toNat) z65)) h178)) (.inr (blk_news b188 rfl)) (show (x78.length + [(x6.getD ((x83).toNat) z65)].length) * 40 ≤ _ by first | omega | (simp only [List.length_cons, List.length_nil]; omega)) (by decide)) ?_
      rintro _ w194 ⟨A195, c196, F197, rfl, h198, S199, K200⟩
      replace b188 := K200.blk 0 rfl b188
      replace b183 := K200.blk 1 rfl b183
      replace h29 := h29.move (K200.at 2 rfl)
      refine lv (d := 9) rfl rfl (by kernel_rfl) (e_assign (v := .slice A195 ((x78 ++ [(x6.getD ((x83).toNat) z65)]).length) c196) (by kernel_rfl)) ?_
      refine wpList_nil ?_
      refine then_n ?_
      refine wp_seq ?_
      refine wp_region_lit ?_
      refine lv (d := 67) rfl rfl (by kernel_rfl) (e_move (v := .slice A195 ((x78 ++ [(x6.getD ((x83).toNat) z65)]).length) c196) (by kernel_rfl)) ?_
      refine lv (d := 68) rfl rfl (by kernel_rfl) (e_len (A := A195) (n := (x78 ++ [(x6.getD ((x83).toNat) z65)]).length) (c := c196) Try.underlying25 (by kernel_rfl)) ?_
      refine lv (d := 69) rfl rfl (by kernel_rfl) (e_gtr (k := .i64) (a := ((x78 ++ [(x6.getD ((x83).toNat) z65)]).length : Int)) (b := 2000) (by kernel_rfl) rfl) ?_
      refine wpList_nil ?_
      refine then_n ?_
      by_cases q201 : ((x78 ++ [(x6.getD ((x83).toNat) z65)]).length : Int) > 2000
      · replace M := ifp q201 M
        refine cond_t rfl (bt q201 (by kernel_rfl)) ?_
        refine wp_seq ?_
        refine wp_region_lit ?_
        refine lv (d := 4) rfl rfl (by kernel_rfl) (e_assign (v := .slice none 0 0) rfl) ?_
        refine lv (d := 5) rfl rfl (by kernel_rfl) (e_assign (v := .int .i64 3) rfl) ?_
        refine wpList_nil ?_
        refine then_n ?_
        refine wp_ret ?_
        refine inb_r ?_
        refine then_r ?_
        refine then_r ?_
        refine inb_r ?_
        refine then_r ?_
        obtain rfl := Option.some.inj M
        have S202 := S199.unit
        have S203 := St.first (Fa := [no]) (Fr := [F197, (is g187), (is g110), (is g28)]) S202
        exact ret2 rfl rfl rfl (show _ = .slice none 0 0 from (by kernel_rfl)) (show _ = .int .i64 3 from (by kernel_rfl)) ⟨none, 0, no, H76, rfl, (Row.nil _ _ _ _ no), S203⟩
      replace M := ifn q201 M
      refine cond_f rfl (bf q201 (by kernel_rfl)) ?_
      refine wp_skip ?_
      refine inb_n ?_
      refine then_n ?_
      refine wp_region_lit ?_
      refine lv (d := 70) rfl rfl (by kernel_rfl) (e_add (k := .i64) (a := x83) (b := 1) (by exact e88) rfl) ?_
      refine lv (d := 37) rfl rfl (by kernel_rfl) (e_move (v := .int .i64 (IntKind.i64.wrap (x83 + 1))) (by kernel_rfl)) ?_
      refine wpList_nil ?_
      refine then_n ?_
      have S204 := S199.pull (F := (is g28)) (Fr := [F197, (is g187), (is g110)]) 3 rfl rfl
      have S205 := St.first (Fa := [(is g28), F197]) (Fr := [(is g187), (is g110)]) S204
      exact ⟨k94, (by omega), _, H76, (x78 ++ [(x6.getD ((x83).toNat) z65)]), A195, c196, F197, (IntKind.i64.wrap (x83 + 1)), (by omega), rfl, (by exact e84), (by kernel_rfl), (by exact e86), (by exact e87), (by kernel_rfl), h29, h198, Y77, S205, M⟩
    replace M := ifn q118 M
    refine lv (d := 45) rfl rfl (by kernel_rfl) (e_look_f (k := (x6.getD ((x83).toNat) z65).n) h29 keyI Try.underlying101 Try.underlying3 (by kernel_rfl) (by kernel_rfl) (is_none q118) (.slice none 0 0) (by kernel_rfl)) ?_
    refine lv (d := 41) rfl rfl (by kernel_rfl) (e_move (v := .tuple #[.slice none 0 0, .bool false]) (by kernel_rfl)) ?_
    refine lv (d := 46) rfl rfl (by kernel_rfl) (e_extract (vs := #[.slice none 0 0, .bool false]) (v := .slice none 0 0) (by kernel_rfl) rfl) ?_
    refine lv (d := 47) rfl rfl (by kernel_rfl) (e_extract (vs := #[.slice none 0 0, .bool false]) (v := .bool false) (by kernel_rfl) rfl) ?_
    refine lv (d := 12) rfl rfl (by kernel_rfl) (e_assign (v := .slice none 0 0) (by kernel_rfl)) ?_
    refine lv (d := 13) rfl rfl (by kernel_rfl) (e_assign (v := .bool false) (by kernel_rfl)) ?_
    refine wpList_nil ?_
    refine then_n ?_
    refine wp_seq ?_
    refine wp_region_lit ?_
    refine lv (d := 48) rfl rfl (by kernel_rfl) (e_move (v := .bool false) (by kernel_rfl)) ?_
    refine lv (d := 49) rfl rfl (by kernel_rfl) (e_move (v := .bool false) (by kernel_rfl)) ?_
    refine lskip (t := 49) (c := false) rfl (by kernel_rfl) rfl (by kernel_rfl) rfl rfl ?_
    refine lskip (t := 49) (c := false) rfl (by kernel_rfl) rfl (by kernel_rfl) rfl rfl ?_
    refine lskip (t := 49) (c := false) rfl (by kernel_rfl) rfl (by kernel_rfl) rfl rfl ?_
    refine lv (d := 53) rfl rfl (by kernel_rfl) (e_pick_f (v := .bool false) (by kernel_rfl) rfl) ?_
    refine wpList_nil ?_
    refine then_n ?_
    refine cond_f rfl (by kernel_rfl) ?_
    refine wp_seq ?_
    refine wp_region_lit ?_
    refine lv (d := 59) rfl rfl (by kernel_rfl) (e_fieldAddr (b := g110) (off := 0) (o := 2) Try.underlying65 rfl rfl (sz := 1) (by kernel_rfl) (by decide) (by kernel_rfl)) ?_
    refine lv (d := 60) rfl rfl (by kernel_rfl) (e_load1 (ad := ⟨g110, 0 + 2, none⟩) (v := .slice A105 ((x6.getD ((x83).toNat) z65).text).length c106) Try.underlying59 rfl (by kernel_rfl) (blk_cell b115 rfl)) ?_
    obtain ⟨y206, h207, h208⟩ := Rd.news (d := tByte) (ro_scal _ _) S116 (h108.ext Y77)
    obtain ⟨q209, M⟩ := chk M
    have S210 := S116.unit
    have S211 := S210.unit
    have S212 := S211.pull (F := no) (Fr := [no, (is g110), (is g28), F81]) 1 rfl rfl
    refine lve (d := 61) rfl rfl (by kernel_rfl) (e_append (d := tByte) (n := 0) (xs := []) (cap := 0) (A := none) (ys := (x6.getD ((x83).toNat) z65).text) (A2 := A105) (c2 := c106) (z := .int .u8 0) (bytes := 1) S212 Try.underlying59 (by kernel_rfl) rfl (by decide) rfl rfl (by kernel_rfl) (Row.nil _ _ _ _ no) h207 h208 (show (0 + ((x6.getD ((x83).toNat) z65).text).length) * 1 ≤ _ by first | omega | (simp only [List.length_cons, List.length_nil]; omega)) (by decide)) ?_
    rintro _ w213 ⟨A214, c215, F216, rfl, h217, S218, K219⟩
    replace b115 := K219.blk 0 rfl b115
    replace h29 := h29.move (K219.at 1 rfl)
    replace h82 := h82.move (K219.at 2 rfl)
    replace h217 : Row tByte 5 H76 (hp w213) F216 A214 c215 ((x6.getD ((x83).toNat) z65).text) := h217
    refine lv (d := 62) rfl rfl (by kernel_rfl) (e_fieldAddr (b := g110) (off := 0) (o := 2) Try.underlying65 rfl rfl (sz := 1) (by kernel_rfl) (by decide) (by kernel_rfl)) ?_
    have S220 := S218.pull (F := (is g110)) (Fr := [F216, (is g28), F81]) 1 rfl rfl
    refine lse rfl rfl (by kernel_rfl) (e_store (g := g110) (o := 0 + 2) (v := .slice A214 (((x6.getD ((x83).toNat) z65).text).length) c215) (cur' := #[.int .i64 ((x6.getD ((x83).toNat) z65).kind), .int .i64 ((x6.getD ((x83).toNat) z65).n), .slice A214 (((x6.getD ((x83).toNat) z65).text).length) c215]) (vs := [.slice A214 (((x6.getD ((x83).toNat) z65).text).length) c215]) S220 (by kernel_rfl) (by kernel_rfl) rfl (by kernel_rfl) b115 (Nat.le_of_ble_eq_true rfl) (List.forall_mem_cons.2 ⟨rfl, (fun _ h_ => by cases h_)⟩) rfl) ?_
    rintro w221 ⟨b222, S223, K224⟩
    replace h217 := h217.move (K224.at 0 rfl)
    replace h29 := h29.move (K224.at 1 rfl)
    replace h82 := h82.move (K224.at 2 rfl)
    clear b115
    refine wpList_nil ?_
    refine then_n ?_
    refine wp_region_lit ?_
    refine lv (d := 63) rfl rfl (by kernel_rfl) (e_move (v := .slice A79 x78.length c80) (by exact e85)) ?_
    refine lv (d := 64) rfl rfl (by kernel_rfl) (e_loadS (b := g110) (off := 0) (cs := [.int .i64 ((x6.getD ((x83).toNat) z65).kind), .int .i64 ((x6.getD ((x83).toNat) z65).n), .slice A214 (((x6.getD ((x83).toNat) z65).text).length) c215]) Try.underlying65 rfl (by kernel_rfl) (by kernel_rfl) (blk_cells b222 rfl)) ?_
    refine lve (d := 65) rfl rfl (by kernel_rfl) (new_blk (v := fun g_ => .slice (some ⟨g_, 0, none⟩) 1 1) (cs := #[.int .i64 ((x6.getD ((x83).toNat) z65).kind), .int .i64 ((x6.getD ((x83).toNat) z65).n), .slice A214 (((x6.getD ((x83).toNat) z65).text).length) c215]) (t := 65) S223 (by kernel_rfl)) ?_
    rintro _ w225 ⟨g226, rfl, b227, S228, K229⟩
    replace b222 := K229.blk 0 rfl b222
    replace h217 := h217.move (K229.at 1 rfl)
    replace h29 := h29.move (K229.at 2 rfl)
    replace h82 := h82.move (K229.at 3 rfl)
    obtain ⟨q230, M⟩ := chk M
    have S231 := S228.pull (F := F216) (Fr := [(is g226), (is g110), (is g28), F81]) 2 rfl rfl
    have S232 := S231.pull (F := F81) (Fr := [F216, (is g226), (is g110), (is g28)]) 4 rfl rfl
    refine lve (d := 66) rfl rfl (by kernel_rfl) (e_append (d := st65) (n := x78.length) (xs := x78) (cap := c80) (A := A79) (ys := [(x6.getD ((x83).toNat) z65)]) (A2 := (some ⟨g226, 0, none⟩)) (c2 := 1) (z := .agg #[.int .i64 0, .int .i64 0, .slice none 0 0]) (bytes := 40) S232 Try.underlying25 (by kernel_rfl) rfl (by decide) (by kernel_rfl) rfl (by kernel_rfl) h82 (elsO_one1 (st65_mkO (x := (x6.getD ((x83).toNat) z65)) h217)) (.inr (blk_news b227 rfl)) (show (x78.length + [(x6.getD ((x83).toNat) z65)].length) * 40 ≤ _ by first | omega | (simp only [List.length_cons, List.length_nil]; omega)) (by decide)) ?_
    rintro _ w233 ⟨A234, c235, F236, rfl, h237, S238, K239⟩
    replace b227 := K239.blk 0 rfl b227
    replace b222 := K239.blk 1 rfl b222
    replace h29 := h29.move (K239.at 2 rfl)
    refine lv (d := 9) rfl rfl (by kernel_rfl) (e_assign (v := .slice A234 ((x78 ++ [(x6.getD ((x83).toNat) z65)]).length) c235) (by kernel_rfl)) ?_
    refine wpList_nil ?_
    refine then_n ?_
    refine wp_seq ?_
    refine wp_region_lit ?_
    refine lv (d := 67) rfl rfl (by kernel_rfl) (e_move (v := .slice A234 ((x78 ++ [(x6.getD ((x83).toNat) z65)]).length) c235) (by kernel_rfl)) ?_
    refine lv (d := 68) rfl rfl (by kernel_rfl) (e_len (A := A234) (n := (x78 ++ [(x6.getD ((x83).toNat) z65)]).length) (c := c235) Try.underlying25 (by kernel_rfl)) ?_
    refine lv (d := 69) rfl rfl (by kernel_rfl) (e_gtr (k := .i64) (a := ((x78 ++ [(x6.getD ((x83).toNat) z65)]).length : Int)) (b := 2000) (by kernel_rfl) rfl) ?_
    refine wpList_nil ?_
    refine then_n ?_
    by_cases q240 : ((x78 ++ [(x6.getD ((x83).toNat) z65)]).length : Int) > 2000
    · replace M := ifp q240 M
      refine cond_t rfl (bt q240 (by kernel_rfl)) ?_
      refine wp_seq ?_
      refine wp_region_lit ?_
      refine lv (d := 4) rfl rfl (by kernel_rfl) (e_assign (v := .slice none 0 0) rfl) ?_
      refine lv (d := 5) rfl rfl (by kernel_rfl) (e_assign (v := .int .i64 3) rfl) ?_
      refine wpList_nil ?_
      refine then_n ?_
      refine wp_ret ?_
      refine inb_r ?_
      refine then_r ?_
      refine then_r ?_
      refine inb_r ?_
      refine then_r ?_
      obtain rfl := Option.some.inj M
      have S241 := S238.unit
      have S242 := St.first (Fa := [no]) (Fr := [F236, (is g226), (is g110), (is g28)]) S241
      exact ret2 rfl rfl rfl (show _ = .slice none 0 0 from (by kernel_rfl)) (show _ = .int .i64 3 from (by kernel_rfl)) ⟨none, 0, no, H76, rfl, (Row.nil _ _ _ _ no), S242⟩
    replace M := ifn q240 M
    refine cond_f rfl (bf q240 (by kernel_rfl)) ?_
    refine wp_skip ?_
    refine inb_n ?_
    refine then_n ?_
    refine wp_region_lit ?_
    refine lv (d := 70) rfl rfl (by kernel_rfl) (e_add (k := .i64) (a := x83) (b := 1) (by exact e88) rfl) ?_
    refine lv (d := 37) rfl rfl (by kernel_rfl) (e_move (v := .int .i64 (IntKind.i64.wrap (x83 + 1))) (by kernel_rfl)) ?_
    refine wpList_nil ?_
    refine then_n ?_
    have S243 := S238.pull (F := (is g28)) (Fr := [F236, (is g226), (is g110)]) 3 rfl rfl
    have S244 := St.first (Fa := [(is g28), F236]) (Fr := [(is g226), (is g110)]) S243
    exact ⟨k94, (by omega), _, H76, (x78 ++ [(x6.getD ((x83).toNat) z65)]), A234, c235, F236, (IntKind.i64.wrap (x83 + 1)), (by omega), rfl, (by exact e84), (by kernel_rfl), (by exact e86), (by exact e87), (by kernel_rfl), h29, h237, Y77, S244, M⟩
  replace M := ifn q97 M
  refine cond_f rfl (bf q97 (by kernel_rfl)) ?_
  refine wp_exit ?_
  refine then_e ?_
  refine then_e ?_
  refine inb_hit ?_
  refine then_n ?_
  refine wp_seq ?_
  refine wp_region_lit ?_
  refine lv (d := 71) rfl rfl (by kernel_rfl) (e_move (v := .slice A79 x78.length c80) (by exact e85)) ?_
  refine lv (d := 4) rfl rfl (by kernel_rfl) (e_assign (v := .slice A79 x78.length c80) (by kernel_rfl)) ?_
  refine lv (d := 5) rfl rfl (by kernel_rfl) (e_assign (v := .int .i64 0) rfl) ?_
  refine wpList_nil ?_
  refine then_n ?_
  refine wp_ret ?_
  obtain rfl := Option.some.inj M
  have S245 := S89.pull (F := F81) (Fr := [(is g28)]) 1 rfl rfl
  have S246 := St.first (Fa := [F81]) (Fr := [(is g28)]) S245
  exact ret2 rfl rfl rfl (show _ = .slice A79 x78.length c80 from (by kernel_rfl)) (show _ = .int .i64 0 from (by kernel_rfl)) ⟨A79, c80, F81, H76, rfl, h82, S246⟩

/-! laws_eqByteS -/
def laws_eqByteS.l0 : Nat → (List UInt8) → (List UInt8) → Int → Option Bool
  | 0, _, _, _ => none
  | k23 + 1, x1, x6, x14 => (if x14 < (x1.length : Int) then (if 0 ≤ x14 then (if x14 < (x6.length : Int) then (if ((x1.getD ((x14).toNat) (0 : UInt8)).toNat : Int) ≠ ((x6.getD ((x14).toNat) (0 : UInt8)).toNat : Int) then some false else (laws_eqByteS.l0 k23 x1 x6 (IntKind.i64.wrap (x14 + 1)))) else none) else none) else some true)
def laws_eqByteS.f (k : Nat) (x1 : List UInt8) (x6 : List UInt8) : Option Bool := (if (x1.length : Int) ≠ (x6.length : Int) then some false else (laws_eqByteS.l0 k x1 x6 0))
theorem laws_eqByteS.calls (k : Nat) (w : World) (H : Hp) (x1 : List UInt8) (A2 : Option Addr) (c3 : Nat) (x6 : List UInt8) (A7 : Option Addr) (c8 : Nat) (h4 : Rd tByte H A2 x1) (l5 : x1.length ≤ c3) (h9 : Rd tByte H A7 x6) (l10 : x6.length ≤ c8) (S : Own [] H w) (r : Bool) (M : laws_eqByteS.f k x1 x6 = some r) :
    Calls Try.prog 104 #[.slice A2 x1.length c3, .slice A7 x6.length c8] w (fun e e_w => e = .returned (.bool r) ∧ Chg no w e_w) := by
  rw [laws_eqByteS.f] at M
  refine enter (l := [.slice A2 x1.length c3, .slice A7 x6.length c8]) 26 Try.func104 rfl rfl rfl ?_
  have S0_ := S.st
  refine wp_seq ?_
  refine wp_region_lit ?_
  refine lv (d := 4) rfl rfl (by kernel_rfl) (e_assign (v := .bool false) rfl) ?_
  refine wpList_nil ?_
  refine then_n ?_
  refine wp_seq ?_
  refine wp_seq ?_
  refine wp_region_lit ?_
  refine lv (d := 6) rfl rfl (by kernel_rfl) (e_move (v := .slice A2 x1.length c3) (by kernel_rfl)) ?_
  refine lv (d := 7) rfl rfl (by kernel_rfl) (e_len (A := A2) (n := x1.length) (c := c3) Try.underlying59 (by kernel_rfl)) ?_
  refine lv (d := 8) rfl rfl (by kernel_rfl) (e_move (v := .slice A7 x6.length c8) (by kernel_rfl)) ?_
  refine lv (d := 9) rfl rfl (by kernel_rfl) (e_len (A := A7) (n := x6.length) (c := c8) Try.underlying59 (by kernel_rfl)) ?_
  refine lv (d := 10) rfl rfl (by kernel_rfl) (e_neq (k := .i64) (a := (x1.length : Int)) (b := (x6.length : Int)) (by kernel_rfl) (by kernel_rfl)) ?_
  refine wpList_nil ?_
  refine then_n ?_
  by_cases q11 : (x1.length : Int) ≠ (x6.length : Int)
  · replace M := ifp q11 M
    refine cond_t rfl (bt q11 (by kernel_rfl)) ?_
    refine wp_seq ?_
    refine wp_region_lit ?_
    refine lv (d := 4) rfl rfl (by kernel_rfl) (e_assign (v := .bool false) rfl) ?_
    refine wpList_nil ?_
    refine then_n ?_
    refine wp_ret ?_
    refine then_r ?_
    obtain rfl := Option.some.inj M
    exact ret1 rfl rfl  (show _ = .bool false from (by kernel_rfl)) ⟨rfl, S0_.chg⟩
  replace M := ifn q11 M
  refine cond_f rfl (bf q11 (by kernel_rfl)) ?_
  refine wp_skip ?_
  refine then_n ?_
  refine wp_seq ?_
  refine wp_seq ?_
  refine wp_region_lit ?_
  refine lv (d := 5) rfl rfl (by kernel_rfl) (e_assign (v := .int .i64 0) rfl) ?_
  refine wpList_nil ?_
  refine then_n ?_
  refine wp_block ?_
  refine wp_loop_g (fun k21 a22 w12 => ∃ (f13 : Nat → Value) (x14 : Int), a22 = mk 26 f13 ∧ f13 0 = .slice A2 x1.length c3 ∧ f13 1 = .slice A7 x6.length c8 ∧ f13 5 = .int .i64 x14 ∧ St (anyOf []) H w [] H w12 ∧ laws_eqByteS.l0 k21 x1 x6 x14 = some r) k ⟨_, 0, rfl, (by kernel_rfl), (by kernel_rfl), (by kernel_rfl), S0_, M⟩ ?_
  clear M
  rintro k21 a22 w12 ⟨f13, x14, rfl, e15, e16, e17, S18, M⟩
  rcases k21 with _ | k23
  · rw [laws_eqByteS.l0] at M
    cases M
  rw [laws_eqByteS.l0] at M
  refine wp_seq ?_
  refine wp_seq ?_
  refine wp_region_lit ?_
  refine lv (d := 11) rfl rfl (by kernel_rfl) (e_move (v := .int .i64 x14) (by exact e17)) ?_
  refine lv (d := 12) rfl rfl (by kernel_rfl) (e_move (v := .slice A2 x1.length c3) (by exact e15)) ?_
  refine lv (d := 13) rfl rfl (by kernel_rfl) (e_len (A := A2) (n := x1.length) (c := c3) Try.underlying59 (by kernel_rfl)) ?_
  refine lv (d := 14) rfl rfl (by kernel_rfl) (e_lss (k := .i64) (a := x14) (b := (x1.length : Int)) (by kernel_rfl) (by kernel_rfl)) ?_
  refine wpList_nil ?_
  refine then_n ?_
  by_cases q24 : x14 < (x1.length : Int)
  · replace M := ifp q24 M
    refine cond_t rfl (bt q24 (by kernel_rfl)) ?_
    refine wp_skip ?_
    refine then_n ?_
    refine wp_seq ?_
    refine wp_block ?_
    refine wp_seq ?_
    refine region_still (by kernel_rfl) (by kernel_rfl) S18 ?_
    intro w25 S26 K27
    refine sv (d := 17) rfl rfl (by kernel_rfl) (e_move (v := .slice A2 x1.length c3) (by exact e15)) ?_
    refine sv (d := 18) rfl rfl (by kernel_rfl) (e_move (v := .int .i64 x14) (by exact e17)) ?_
    obtain ⟨q28, M⟩ := chk M
    obtain ⟨b29, o30, e31⟩ := Rd.addr h4 (show (x14).toNat < x1.length by omega)
    obtain ⟨y32, r33, k34⟩ := Rd.at h4 e31 (getD_some (0 : UInt8) (show (x14).toNat < x1.length by omega))
    obtain rfl := r33
    refine sv (d := 19) rfl rfl (by kernel_rfl) (e_indexAddr (b := b29) (off := o30) (n := x1.length) (c := c3) (sz := 1) (i := x14) (k := .i64) Try.underlying59 e31 (by kernel_rfl) (by kernel_rfl) (by kernel_rfl) q28 q24) ?_
    refine sv (d := 20) rfl rfl (by kernel_rfl) (e_load1 (ad := ⟨b29, o30 + (x14 : Int).toNat * 1, none⟩) (v := .int .u8 ((x1.getD ((x14).toNat) (0 : UInt8)).toNat : Int)) Try.underlying5 rfl (by kernel_rfl) (hpx (S26.inv.cell (k34 0 _ rfl)))) ?_
    refine sv (d := 21) rfl rfl (by kernel_rfl) (e_move (v := .slice A7 x6.length c8) (by exact e16)) ?_
    refine sv (d := 22) rfl rfl (by kernel_rfl) (e_move (v := .int .i64 x14) (by exact e17)) ?_
    obtain ⟨q35, M⟩ := chk M
    obtain ⟨b36, o37, e38⟩ := Rd.addr h9 (show (x14).toNat < x6.length by omega)
    obtain ⟨y39, r40, k41⟩ := Rd.at h9 e38 (getD_some (0 : UInt8) (show (x14).toNat < x6.length by omega))
    obtain rfl := r40
    refine sv (d := 23) rfl rfl (by kernel_rfl) (e_indexAddr (b := b36) (off := o37) (n := x6.length) (c := c8) (sz := 1) (i := x14) (k := .i64) Try.underlying59 e38 (by kernel_rfl) (by kernel_rfl) (by kernel_rfl) q28 q35) ?_
    refine sv (d := 24) rfl rfl (by kernel_rfl) (e_load1 (ad := ⟨b36, o37 + (x14 : Int).toNat * 1, none⟩) (v := .int .u8 ((x6.getD ((x14).toNat) (0 : UInt8)).toNat : Int)) Try.underlying5 rfl (by kernel_rfl) (hpx (S26.inv.cell (k41 0 _ rfl)))) ?_
    refine sv (d := 25) rfl rfl (by kernel_rfl) (e_neq (k := .u8) (a := ((x1.getD ((x14).toNat) (0 : UInt8)).toNat : Int)) (b := ((x6.getD ((x14).toNat) (0 : UInt8)).toNat : Int)) (by kernel_rfl) (by kernel_rfl)) ?_
    refine wpStill_nil ?_
    refine then_n ?_
    by_cases q42 : ((x1.getD ((x14).toNat) (0 : UInt8)).toNat : Int) ≠ ((x6.getD ((x14).toNat) (0 : UInt8)).toNat : Int)
    · replace M := ifp q42 M
      refine cond_t rfl (bt q42 (by kernel_rfl)) ?_
      refine wp_seq ?_
      refine wp_region_lit ?_
      refine lv (d := 4) rfl rfl (by kernel_rfl) (e_assign (v := .bool false) rfl) ?_
      refine wpList_nil ?_
      refine then_n ?_
      refine wp_ret ?_
      refine inb_r ?_
      refine then_r ?_
      refine then_r ?_
      refine inb_r ?_
      refine then_r ?_
      obtain rfl := Option.some.inj M
      exact ret1 rfl rfl  (show _ = .bool false from (by kernel_rfl)) ⟨rfl, S26.chg⟩
    replace M := ifn q42 M
    refine cond_f rfl (bf q42 (by kernel_rfl)) ?_
    refine wp_skip ?_
    refine inb_n ?_
    refine then_n ?_
    refine wp_region_lit ?_
    refine lv (d := 15) rfl rfl (by kernel_rfl) (e_move (v := .int .i64 x14) (by exact e17)) ?_
    refine lv (d := 16) rfl rfl (by kernel_rfl) (e_add (k := .i64) (a := x14) (b := 1) (by kernel_rfl) rfl) ?_
    refine lv (d := 5) rfl rfl (by kernel_rfl) (e_assign (v := .int .i64 (IntKind.i64.wrap (x14 + 1))) (by kernel_rfl)) ?_
    refine wpList_nil ?_
    refine then_n ?_
    exact ⟨k23, (by omega), _, (IntKind.i64.wrap (x14 + 1)), rfl, (by exact e15), (by exact e16), (by kernel_rfl), S26, M⟩
  replace M := ifn q24 M
  refine cond_f rfl (bf q24 (by kernel_rfl)) ?_
  refine wp_exit ?_
  refine then_e ?_
  refine then_e ?_
  refine inb_hit ?_
  refine then_n ?_
  refine wp_seq ?_
  refine wp_region_lit ?_
  refine lv (d := 4) rfl rfl (by kernel_rfl) (e_assign (v := .bool true) rfl) ?_
  refine wpList_nil ?_
  refine then_n ?_
  refine wp_ret ?_
  obtain rfl := Option.some.inj M
  exact ret1 rfl rfl  (show _ = .bool true from (by kernel_rfl)) ⟨rfl, S18.chg⟩

/-! laws_eqCell -/
def laws_eqCell.f (k : Nat) (x1 : Cell) (x6 : Cell) : Option Bool := (if x1.kind ≠ x6.kind then some false else (if x1.n ≠ x6.n then some false else ((laws_eqByteS.f k x1.text x6.text).bind fun t23 => (if ¬ (t23 = true) then some false else some true))))
theorem laws_eqCell.calls (k : Nat) (w : World) (H : Hp) (x1 : Cell) (A2 : Option Addr) (c3 : Nat) (x6 : Cell) (A7 : Option Addr) (c8 : Nat) (h4 : Rd tByte H A2 x1.text) (l5 : x1.text.length ≤ c3) (h9 : Rd tByte H A7 x6.text) (l10 : x6.text.length ≤ c8) (S : Own [] H w) (r : Bool) (M : laws_eqCell.f k x1 x6 = some r) :
    Calls Try.prog 59 #[.agg #[.int .i64 x1.kind, .int .i64 x1.n, .slice A2 x1.text.length c3], .agg #[.int .i64 x6.kind, .int .i64 x6.n, .slice A7 x6.text.length c8]] w (fun e e_w => e = .returned (.bool r) ∧ Chg no w e_w) := by
  rw [laws_eqCell.f] at M
  refine enter (l := [.agg #[.int .i64 x1.kind, .int .i64 x1.n, .slice A2 x1.text.length c3], .agg #[.int .i64 x6.kind, .int .i64 x6.n, .slice A7 x6.text.length c8]]) 21 Try.func59 rfl rfl rfl ?_
  have S0_ := S.st
  refine wp_seq ?_
  refine wp_region_lit ?_
  refine lve (d := 2) rfl rfl (by kernel_rfl) (new_blk (v := fun g_ => .pointer (some ⟨g_, 0, none⟩)) (cs := #[.int .i64 x1.kind, .int .i64 x1.n, .slice A2 x1.text.length c3]) (t := 65) S0_ (by kernel_rfl)) ?_
  rintro _ w11 ⟨g12, rfl, b13, S14, K15⟩
  refine lve (d := 3) rfl rfl (by kernel_rfl) (new_blk (v := fun g_ => .pointer (some ⟨g_, 0, none⟩)) (cs := #[.int .i64 x6.kind, .int .i64 x6.n, .slice A7 x6.text.length c8]) (t := 65) S14 (by kernel_rfl)) ?_
  rintro _ w16 ⟨g17, rfl, b18, S19, K20⟩
  replace b13 := K20.blk 0 rfl b13
  refine lv (d := 4) rfl rfl (by kernel_rfl) (e_assign (v := .bool false) rfl) ?_
  refine wpList_nil ?_
  refine then_n ?_
  refine wp_seq ?_
  refine wp_seq ?_
  refine wp_region_lit ?_
  refine lv (d := 5) rfl rfl (by kernel_rfl) (e_fieldAddr (b := g12) (off := 0) (o := 0) Try.underlying65 rfl rfl (sz := 1) (by kernel_rfl) (by decide) (by kernel_rfl)) ?_
  refine lv (d := 6) rfl rfl (by kernel_rfl) (e_load1 (ad := ⟨g12, 0 + 0, none⟩) (v := .int .i64 x1.kind) Try.underlying3 rfl (by kernel_rfl) (blk_cell b13 rfl)) ?_
  refine lv (d := 7) rfl rfl (by kernel_rfl) (e_fieldAddr (b := g17) (off := 0) (o := 0) Try.underlying65 rfl rfl (sz := 1) (by kernel_rfl) (by decide) (by kernel_rfl)) ?_
  refine lv (d := 8) rfl rfl (by kernel_rfl) (e_load1 (ad := ⟨g17, 0 + 0, none⟩) (v := .int .i64 x6.kind) Try.underlying3 rfl (by kernel_rfl) (blk_cell b18 rfl)) ?_
  refine lv (d := 9) rfl rfl (by kernel_rfl) (e_neq (k := .i64) (a := x1.kind) (b := x6.kind) (by kernel_rfl) (by kernel_rfl)) ?_
  refine wpList_nil ?_
  refine then_n ?_
  by_cases q21 : x1.kind ≠ x6.kind
  · replace M := ifp q21 M
    refine cond_t rfl (bt q21 (by kernel_rfl)) ?_
    refine wp_seq ?_
    refine wp_region_lit ?_
    refine lv (d := 4) rfl rfl (by kernel_rfl) (e_assign (v := .bool false) rfl) ?_
    refine wpList_nil ?_
    refine then_n ?_
    refine wp_ret ?_
    refine then_r ?_
    obtain rfl := Option.some.inj M
    exact ret1 rfl rfl  (show _ = .bool false from (by kernel_rfl)) ⟨rfl, S19.chg⟩
  replace M := ifn q21 M
  refine cond_f rfl (bf q21 (by kernel_rfl)) ?_
  refine wp_skip ?_
  refine then_n ?_
  refine wp_seq ?_
  refine wp_seq ?_
  refine wp_region_lit ?_
  refine lv (d := 10) rfl rfl (by kernel_rfl) (e_fieldAddr (b := g12) (off := 0) (o := 1) Try.underlying65 rfl rfl (sz := 1) (by kernel_rfl) (by decide) (by kernel_rfl)) ?_
  refine lv (d := 11) rfl rfl (by kernel_rfl) (e_load1 (ad := ⟨g12, 0 + 1, none⟩) (v := .int .i64 x1.n) Try.underlying3 rfl (by kernel_rfl) (blk_cell b13 rfl)) ?_
  refine lv (d := 12) rfl rfl (by kernel_rfl) (e_fieldAddr (b := g17) (off := 0) (o := 1) Try.underlying65 rfl rfl (sz := 1) (by kernel_rfl) (by decide) (by kernel_rfl)) ?_
  refine lv (d := 13) rfl rfl (by kernel_rfl) (e_load1 (ad := ⟨g17, 0 + 1, none⟩) (v := .int .i64 x6.n) Try.underlying3 rfl (by kernel_rfl) (blk_cell b18 rfl)) ?_
  refine lv (d := 14) rfl rfl (by kernel_rfl) (e_neq (k := .i64) (a := x1.n) (b := x6.n) (by kernel_rfl) (by kernel_rfl)) ?_
  refine wpList_nil ?_
  refine then_n ?_
  by_cases q22 : x1.n ≠ x6.n
  · replace M := ifp q22 M
    refine cond_t rfl (bt q22 (by kernel_rfl)) ?_
    refine wp_seq ?_
    refine wp_region_lit ?_
    refine lv (d := 4) rfl rfl (by kernel_rfl) (e_assign (v := .bool false) rfl) ?_
    refine wpList_nil ?_
    refine then_n ?_
    refine wp_ret ?_
    refine then_r ?_
    obtain rfl := Option.some.inj M
    exact ret1 rfl rfl  (show _ = .bool false from (by kernel_rfl)) ⟨rfl, S19.chg⟩
  replace M := ifn q22 M
  refine cond_f rfl (bf q22 (by kernel_rfl)) ?_
  refine wp_skip ?_
  refine then_n ?_
  refine wp_seq ?_
  refine wp_seq ?_
  refine wp_region_lit ?_
  refine lv (d := 15) rfl rfl (by kernel_rfl) (e_fieldAddr (b := g12) (off := 0) (o := 2) Try.underlying65 rfl rfl (sz := 1) (by kernel_rfl) (by decide) (by kernel_rfl)) ?_
  refine lv (d := 16) rfl rfl (by kernel_rfl) (e_load1 (ad := ⟨g12, 0 + 2, none⟩) (v := .slice A2 x1.text.length c3) Try.underlying59 rfl (by kernel_rfl) (blk_cell b13 rfl)) ?_
  refine lv (d := 17) rfl rfl (by kernel_rfl) (e_fieldAddr (b := g17) (off := 0) (o := 2) Try.underlying65 rfl rfl (sz := 1) (by kernel_rfl) (by decide) (by kernel_rfl)) ?_
  refine lv (d := 18) rfl rfl (by kernel_rfl) (e_load1 (ad := ⟨g17, 0 + 2, none⟩) (v := .slice A7 x6.text.length c8) Try.underlying59 rfl (by kernel_rfl) (blk_cell b18 rfl)) ?_
  obtain ⟨t23, u24, M⟩ := bnd M
  refine lcall (d := 19) rfl rfl (by kernel_rfl) (e_call (l := [.tmp 16, .tmp 18]) (vs := [.slice A2 x1.text.length c3, .slice A7 x6.text.length c8]) Try.func104 (by kernel_rfl) rfl (by kernel_rfl) rfl) (laws_eqByteS.calls k w16 H x1.text A2 c3 x6.text A7 c8 h4 l5 h9 l10 S19.own0 t23 u24) ?_
  rintro _ w25 ⟨rfl, C26⟩
  refine ⟨_, rfl, ?_⟩
  obtain ⟨S27, K28⟩ := S19.still C26
  replace b18 := K28.blk 0 rfl b18
  replace b13 := K28.blk 1 rfl b13
  refine lv (d := 20) rfl rfl (by kernel_rfl) (e_notv (c := t23) (by kernel_rfl)) ?_
  refine wpList_nil ?_
  refine then_n ?_
  by_cases q29 : ¬ (t23 = true)
  · replace M := ifp q29 M
    refine cond_t rfl (bt q29 (by kernel_rfl)) ?_
    refine wp_seq ?_
    refine wp_region_lit ?_
    refine lv (d := 4) rfl rfl (by kernel_rfl) (e_assign (v := .bool false) rfl) ?_
    refine wpList_nil ?_
    refine then_n ?_
    refine wp_ret ?_
    refine then_r ?_
    obtain rfl := Option.some.inj M
    exact ret1 rfl rfl  (show _ = .bool false from (by kernel_rfl)) ⟨rfl, S27.chg⟩
  replace M := ifn q29 M
  refine cond_f rfl (bf q29 (by kernel_rfl)) ?_
  refine wp_skip ?_
  refine then_n ?_
  refine wp_seq ?_
  refine wp_region_lit ?_
  refine lv (d := 4) rfl rfl (by kernel_rfl) (e_assign (v := .bool true) rfl) ?_
  refine wpList_nil ?_
  refine then_n ?_
  refine wp_ret ?_
  obtain rfl := Option.some.inj M
  exact ret1 rfl rfl  (show _ = .bool true from (by kernel_rfl)) ⟨rfl, S27.chg⟩

/-! laws_eqCellS -/
def laws_eqCellS.l0 : Nat → (List Cell) → (List Cell) → Int → Option Bool
  | 0, _, _, _ => none
  | k23 + 1, x1, x6, x14 => (if x14 < (x1.length : Int) then (if 0 ≤ x14 then (if x14 < (x6.length : Int) then ((laws_eqCell.f k23 (x1.getD ((x14).toNat) z65) (x6.getD ((x14).toNat) z65)).bind fun t47 => (if ¬ (t47 = true) then some false else (laws_eqCellS.l0 k23 x1 x6 (IntKind.i64.wrap (x14 + 1))))) else none) else none) else some true)
def laws_eqCellS.f (k : Nat) (x1 : List Cell) (x6 : List Cell) : Option Bool := (if (x1.length : Int) ≠ (x6.length : Int) then some false else (laws_eqCellS.l0 k x1 x6 0))
theorem laws_eqCellS.calls (k : Nat) (w : World) (H : Hp) (x1 : List Cell) (A2 : Option Addr) (c3 : Nat) (x6 : List Cell) (A7 : Option Addr) (c8 : Nat) (h4 : Rd st65 H A2 x1) (l5 : x1.length ≤ c3) (h9 : Rd st65 H A7 x6) (l10 : x6.length ≤ c8) (S : Own [] H w) (r : Bool) (M : laws_eqCellS.f k x1 x6 = some r) :
    Calls Try.prog 18 #[.slice A2 x1.length c3, .slice A7 x6.length c8] w (fun e e_w => e = .returned (.bool r) ∧ Chg no w e_w) := by
  rw [laws_eqCellS.f] at M
  refine enter (l := [.slice A2 x1.length c3, .slice A7 x6.length c8]) 27 Try.func18 rfl rfl rfl ?_
  have S0_ := S.st
  refine wp_seq ?_
  refine wp_region_lit ?_
  refine lv (d := 4) rfl rfl (by kernel_rfl) (e_assign (v := .bool false) rfl) ?_
  refine wpList_nil ?_
  refine then_n ?_
  refine wp_seq ?_
  refine wp_seq ?_
  refine wp_region_lit ?_
  refine lv (d := 6) rfl rfl (by kernel_rfl) (e_move (v := .slice A2 x1.length c3) (by kernel_rfl)) ?_
  refine lv (d := 7) rfl rfl (by kernel_rfl) (e_len (A := A2) (n := x1.length) (c := c3) Try.underlying25 (by kernel_rfl)) ?_
  refine lv (d := 8) rfl rfl (by kernel_rfl) (e_move (v := .slice A7 x6.length c8) (by kernel_rfl)) ?_
  refine lv (d := 9) rfl rfl (by kernel_rfl) (e_len (A := A7) (n := x6.length) (c := c8) Try.underlying25 (by kernel_rfl)) ?_
  refine lv (d := 10) rfl rfl (by kernel_rfl) (e_neq (k := .i64) (a := (x1.length : Int)) (b := (x6.length : Int)) (by kernel_rfl) (by kernel_rfl)) ?_
  refine wpList_nil ?_
  refine then_n ?_
  by_cases q11 : (x1.length : Int) ≠ (x6.length : Int)
  · replace M := ifp q11 M
    refine cond_t rfl (bt q11 (by kernel_rfl)) ?_
    refine wp_seq ?_
    refine wp_region_lit ?_
    refine lv (d := 4) rfl rfl (by kernel_rfl) (e_assign (v := .bool false) rfl) ?_
    refine wpList_nil ?_
    refine then_n ?_
    refine wp_ret ?_
    refine then_r ?_
    obtain rfl := Option.some.inj M
    exact ret1 rfl rfl  (show _ = .bool false from (by kernel_rfl)) ⟨rfl, S0_.chg⟩
  replace M := ifn q11 M
  refine cond_f rfl (bf q11 (by kernel_rfl)) ?_
  refine wp_skip ?_
  refine then_n ?_
  refine wp_seq ?_
  refine wp_seq ?_
  refine wp_region_lit ?_
  refine lv (d := 5) rfl rfl (by kernel_rfl) (e_assign (v := .int .i64 0) rfl) ?_
  refine wpList_nil ?_
  refine then_n ?_
  refine wp_block ?_
  refine wp_loop_g (fun k21 a22 w12 => ∃ (f13 : Nat → Value) (x14 : Int), a22 = mk 27 f13 ∧ f13 0 = .slice A2 x1.length c3 ∧ f13 1 = .slice A7 x6.length c8 ∧ f13 5 = .int .i64 x14 ∧ St (anyOf []) H w [] H w12 ∧ laws_eqCellS.l0 k21 x1 x6 x14 = some r) k ⟨_, 0, rfl, (by kernel_rfl), (by kernel_rfl), (by kernel_rfl), S0_, M⟩ ?_
  clear M
  rintro k21 a22 w12 ⟨f13, x14, rfl, e15, e16, e17, S18, M⟩
  rcases k21 with _ | k23
  · rw [laws_eqCellS.l0] at M
    cases M
  rw [laws_eqCellS.l0] at M
  refine wp_seq ?_
  refine wp_seq ?_
  refine wp_region_lit ?_
  refine lv (d := 11) rfl rfl (by kernel_rfl) (e_move (v := .int .i64 x14) (by exact e17)) ?_
  refine lv (d := 12) rfl rfl (by kernel_rfl) (e_move (v := .slice A2 x1.length c3) (by exact e15)) ?_
  refine lv (d := 13) rfl rfl (by kernel_rfl) (e_len (A := A2) (n := x1.length) (c := c3) Try.underlying25 (by kernel_rfl)) ?_
  refine lv (d := 14) rfl rfl (by kernel_rfl) (e_lss (k := .i64) (a := x14) (b := (x1.length : Int)) (by kernel_rfl) (by kernel_rfl)) ?_
  refine wpList_nil ?_
  refine then_n ?_
  by_cases q24 : x14 < (x1.length : Int)
  · replace M := ifp q24 M
    refine cond_t rfl (bt q24 (by kernel_rfl)) ?_
    refine wp_skip ?_
    refine then_n ?_
    refine wp_seq ?_
    refine wp_block ?_
    refine wp_seq ?_
    refine region_quiet (by kernel_rfl) (by kernel_rfl) ?_
    refine qv (d := 17) rfl rfl (by kernel_rfl) (fun wq_ hq_ => e_move (v := .slice A2 x1.length c3) (by exact e15)) ?_
    refine qv (d := 18) rfl rfl (by kernel_rfl) (fun wq_ hq_ => e_move (v := .int .i64 x14) (by exact e17)) ?_
    obtain ⟨q25, M⟩ := chk M
    obtain ⟨b26, o27, e28⟩ := Rd.addr h4 (show (x14).toNat < x1.length by omega)
    obtain ⟨y29, r30, k31⟩ := Rd.at h4 e28 (getD_some z65 (show (x14).toNat < x1.length by omega))
    obtain ⟨A32, c33, rfl, l34, h35⟩ := st65_open r30
    refine qv (d := 19) rfl rfl (by kernel_rfl) (fun wq_ hq_ => e_indexAddr (b := b26) (off := o27) (n := x1.length) (c := c3) (sz := 3) (i := x14) (k := .i64) Try.underlying25 e28 (by kernel_rfl) (by kernel_rfl) (by kernel_rfl) q25 q24) ?_
    refine qv (d := 20) rfl rfl (by kernel_rfl) (fun wq_ hq_ => e_loadS (b := b26) (off := o27 + (x14 : Int).toNat * 3) (cs := [.int .i64 ((x1.getD ((x14).toNat) z65).kind), .int .i64 ((x1.getD ((x14).toNat) z65).n), .slice A32 ((x1.getD ((x14).toNat) z65).text).length c33]) Try.underlying65 rfl (by kernel_rfl) (by kernel_rfl) (fun j_ u_ e_ => (hpx ((S18.still hq_).1.inv.cell (k31 j_ u_ e_))))) ?_
    refine qv (d := 21) rfl rfl (by kernel_rfl) (fun wq_ hq_ => e_move (v := .slice A7 x6.length c8) (by exact e16)) ?_
    refine qv (d := 22) rfl rfl (by kernel_rfl) (fun wq_ hq_ => e_move (v := .int .i64 x14) (by exact e17)) ?_
    obtain ⟨q36, M⟩ := chk M
    obtain ⟨b37, o38, e39⟩ := Rd.addr h9 (show (x14).toNat < x6.length by omega)
    obtain ⟨y40, r41, k42⟩ := Rd.at h9 e39 (getD_some z65 (show (x14).toNat < x6.length by omega))
    obtain ⟨A43, c44, rfl, l45, h46⟩ := st65_open r41
    refine qv (d := 23) rfl rfl (by kernel_rfl) (fun wq_ hq_ => e_indexAddr (b := b37) (off := o38) (n := x6.length) (c := c8) (sz := 3) (i := x14) (k := .i64) Try.underlying25 e39 (by kernel_rfl) (by kernel_rfl) (by kernel_rfl) q25 q36) ?_
    refine qv (d := 24) rfl rfl (by kernel_rfl) (fun wq_ hq_ => e_loadS (b := b37) (off := o38 + (x14 : Int).toNat * 3) (cs := [.int .i64 ((x6.getD ((x14).toNat) z65).kind), .int .i64 ((x6.getD ((x14).toNat) z65).n), .slice A43 ((x6.getD ((x14).toNat) z65).text).length c44]) Try.underlying65 rfl (by kernel_rfl) (by kernel_rfl) (fun j_ u_ e_ => (hpx ((S18.still hq_).1.inv.cell (k42 j_ u_ e_))))) ?_
    obtain ⟨t47, u48, M⟩ := bnd M
    refine qcall (v := .bool t47) (d := 25) rfl rfl (by kernel_rfl) (fun w_ => e_call (l := [.tmp 20, .tmp 24]) (vs := [.agg #[.int .i64 ((x1.getD ((x14).toNat) z65).kind), .int .i64 ((x1.getD ((x14).toNat) z65).n), .slice A32 ((x1.getD ((x14).toNat) z65).text).length c33], .agg #[.int .i64 ((x6.getD ((x14).toNat) z65).kind), .int .i64 ((x6.getD ((x14).toNat) z65).n), .slice A43 ((x6.getD ((x14).toNat) z65).text).length c44]]) Try.func59 (by kernel_rfl) rfl (by kernel_rfl) rfl) (fun wq_ hq_ => (by obtain ⟨S_, K_⟩ := S18.still hq_; exact (laws_eqCell.calls k23 wq_ H (x1.getD ((x14).toNat) z65) A32 c33 (x6.getD ((x14).toNat) z65) A43 c44 h35 l34 h46 l45 S_.own0 t47 u48))) ?_
    refine qv (d := 26) rfl rfl (by kernel_rfl) (fun wq_ hq_ => e_notv (c := t47) (by kernel_rfl)) ?_
    refine wpQuiet_nil ?_
    intro w49 C52
    obtain ⟨S50, K51⟩ := S18.still C52
    refine then_n ?_
    by_cases q53 : ¬ (t47 = true)
    · replace M := ifp q53 M
      refine cond_t rfl (bt q53 (by kernel_rfl)) ?_
      refine wp_seq ?_
      refine wp_region_lit ?_
      refine lv (d := 4) rfl rfl (by kernel_rfl) (e_assign (v := .bool false) rfl) ?_
      refine wpList_nil ?_
      refine then_n ?_
      refine wp_ret ?_
      refine inb_r ?_
      refine then_r ?_
      refine then_r ?_
      refine inb_r ?_
      refine then_r ?_
      obtain rfl := Option.some.inj M
      exact ret1 rfl rfl  (show _ = .bool false from (by kernel_rfl)) ⟨rfl, S50.chg⟩
    replace M := ifn q53 M
    refine cond_f rfl (bf q53 (by kernel_rfl)) ?_
    refine wp_skip ?_
    refine inb_n ?_
    refine then_n ?_
    refine wp_region_lit ?_
    refine lv (d := 15) rfl rfl (by kernel_rfl) (e_move (v := .int .i64 x14) (by exact e17)) ?_
    refine lv (d := 16) rfl rfl (by kernel_rfl) (e_add (k := .i64) (a := x14) (b := 1) (by kernel_rfl) rfl) ?_
    refine lv (d := 5) rfl rfl (by kernel_rfl) (e_assign (v := .int .i64 (IntKind.i64.wrap (x14 + 1))) (by kernel_rfl)) ?_
    refine wpList_nil ?_
    refine then_n ?_
    exact ⟨k23, (by omega), _, (IntKind.i64.wrap (x14 + 1)), rfl, (by exact e15), (by exact e16), (by kernel_rfl), S50, M⟩
  replace M := ifn q24 M
  refine cond_f rfl (bf q24 (by kernel_rfl)) ?_
  refine wp_exit ?_
  refine then_e ?_
  refine then_e ?_
  refine inb_hit ?_
  refine then_n ?_
  refine wp_seq ?_
  refine wp_region_lit ?_
  refine lv (d := 4) rfl rfl (by kernel_rfl) (e_assign (v := .bool true) rfl) ?_
  refine wpList_nil ?_
  refine then_n ?_
  refine wp_ret ?_
  obtain rfl := Option.some.inj M
  exact ret1 rfl rfl  (show _ = .bool true from (by kernel_rfl)) ⟨rfl, S18.chg⟩

/-! laws_eqBinding -/
def laws_eqBinding.f (k : Nat) (x1 : Binding) (x6 : Binding) : Option Bool := (if x1.var ≠ x6.var then some false else ((laws_eqCellS.f k x1.term x6.term).bind fun t22 => (if ¬ (t22 = true) then some false else some true)))
theorem laws_eqBinding.calls (k : Nat) (w : World) (H : Hp) (x1 : Binding) (A2 : Option Addr) (c3 : Nat) (x6 : Binding) (A7 : Option Addr) (c8 : Nat) (h4 : Rd st65 H A2 x1.term) (l5 : x1.term.length ≤ c3) (h9 : Rd st65 H A7 x6.term) (l10 : x6.term.length ≤ c8) (S : Own [] H w) (r : Bool) (M : laws_eqBinding.f k x1 x6 = some r) :
    Calls Try.prog 88 #[.agg #[.int .i64 x1.var, .slice A2 x1.term.length c3], .agg #[.int .i64 x6.var, .slice A7 x6.term.length c8]] w (fun e e_w => e = .returned (.bool r) ∧ Chg no w e_w) := by
  rw [laws_eqBinding.f] at M
  refine enter (l := [.agg #[.int .i64 x1.var, .slice A2 x1.term.length c3], .agg #[.int .i64 x6.var, .slice A7 x6.term.length c8]]) 16 Try.func88 rfl rfl rfl ?_
  have S0_ := S.st
  refine wp_seq ?_
  refine wp_region_lit ?_
  refine lve (d := 2) rfl rfl (by kernel_rfl) (new_blk (v := fun g_ => .pointer (some ⟨g_, 0, none⟩)) (cs := #[.int .i64 x1.var, .slice A2 x1.term.length c3]) (t := 63) S0_ (by kernel_rfl)) ?_
  rintro _ w11 ⟨g12, rfl, b13, S14, K15⟩
  refine lve (d := 3) rfl rfl (by kernel_rfl) (new_blk (v := fun g_ => .pointer (some ⟨g_, 0, none⟩)) (cs := #[.int .i64 x6.var, .slice A7 x6.term.length c8]) (t := 63) S14 (by kernel_rfl)) ?_
  rintro _ w16 ⟨g17, rfl, b18, S19, K20⟩
  replace b13 := K20.blk 0 rfl b13
  refine lv (d := 4) rfl rfl (by kernel_rfl) (e_assign (v := .bool false) rfl) ?_
  refine wpList_nil ?_
  refine then_n ?_
  refine wp_seq ?_
  refine wp_seq ?_
  refine wp_region_lit ?_
  refine lv (d := 5) rfl rfl (by kernel_rfl) (e_fieldAddr (b := g12) (off := 0) (o := 0) Try.underlying63 rfl rfl (sz := 1) (by kernel_rfl) (by decide) (by kernel_rfl)) ?_
  refine lv (d := 6) rfl rfl (by kernel_rfl) (e_load1 (ad := ⟨g12, 0 + 0, none⟩) (v := .int .i64 x1.var) Try.underlying3 rfl (by kernel_rfl) (blk_cell b13 rfl)) ?_
  refine lv (d := 7) rfl rfl (by kernel_rfl) (e_fieldAddr (b := g17) (off := 0) (o := 0) Try.underlying63 rfl rfl (sz := 1) (by kernel_rfl) (by decide) (by kernel_rfl)) ?_
  refine lv (d := 8) rfl rfl (by kernel_rfl) (e_load1 (ad := ⟨g17, 0 + 0, none⟩) (v := .int .i64 x6.var) Try.underlying3 rfl (by kernel_rfl) (blk_cell b18 rfl)) ?_
  refine lv (d := 9) rfl rfl (by kernel_rfl) (e_neq (k := .i64) (a := x1.var) (b := x6.var) (by kernel_rfl) (by kernel_rfl)) ?_
  refine wpList_nil ?_
  refine then_n ?_
  by_cases q21 : x1.var ≠ x6.var
  · replace M := ifp q21 M
    refine cond_t rfl (bt q21 (by kernel_rfl)) ?_
    refine wp_seq ?_
    refine wp_region_lit ?_
    refine lv (d := 4) rfl rfl (by kernel_rfl) (e_assign (v := .bool false) rfl) ?_
    refine wpList_nil ?_
    refine then_n ?_
    refine wp_ret ?_
    refine then_r ?_
    obtain rfl := Option.some.inj M
    exact ret1 rfl rfl  (show _ = .bool false from (by kernel_rfl)) ⟨rfl, S19.chg⟩
  replace M := ifn q21 M
  refine cond_f rfl (bf q21 (by kernel_rfl)) ?_
  refine wp_skip ?_
  refine then_n ?_
  refine wp_seq ?_
  refine wp_seq ?_
  refine wp_region_lit ?_
  refine lv (d := 10) rfl rfl (by kernel_rfl) (e_fieldAddr (b := g12) (off := 0) (o := 1) Try.underlying63 rfl rfl (sz := 1) (by kernel_rfl) (by decide) (by kernel_rfl)) ?_
  refine lv (d := 11) rfl rfl (by kernel_rfl) (e_load1 (ad := ⟨g12, 0 + 1, none⟩) (v := .slice A2 x1.term.length c3) Try.underlying25 rfl (by kernel_rfl) (blk_cell b13 rfl)) ?_
  refine lv (d := 12) rfl rfl (by kernel_rfl) (e_fieldAddr (b := g17) (off := 0) (o := 1) Try.underlying63 rfl rfl (sz := 1) (by kernel_rfl) (by decide) (by kernel_rfl)) ?_
  refine lv (d := 13) rfl rfl (by kernel_rfl) (e_load1 (ad := ⟨g17, 0 + 1, none⟩) (v := .slice A7 x6.term.length c8) Try.underlying25 rfl (by kernel_rfl) (blk_cell b18 rfl)) ?_
  obtain ⟨t22, u23, M⟩ := bnd M
  refine lcall (d := 14) rfl rfl (by kernel_rfl) (e_call (l := [.tmp 11, .tmp 13]) (vs := [.slice A2 x1.term.length c3, .slice A7 x6.term.length c8]) Try.func18 (by kernel_rfl) rfl (by kernel_rfl) rfl) (laws_eqCellS.calls k w16 H x1.term A2 c3 x6.term A7 c8 h4 l5 h9 l10 S19.own0 t22 u23) ?_
  rintro _ w24 ⟨rfl, C25⟩
  refine ⟨_, rfl, ?_⟩
  obtain ⟨S26, K27⟩ := S19.still C25
  replace b18 := K27.blk 0 rfl b18
  replace b13 := K27.blk 1 rfl b13
  refine lv (d := 15) rfl rfl (by kernel_rfl) (e_notv (c := t22) (by kernel_rfl)) ?_
  refine wpList_nil ?_
  refine then_n ?_
  by_cases q28 : ¬ (t22 = true)
  · replace M := ifp q28 M
    refine cond_t rfl (bt q28 (by kernel_rfl)) ?_
    refine wp_seq ?_
    refine wp_region_lit ?_
    refine lv (d := 4) rfl rfl (by kernel_rfl) (e_assign (v := .bool false) rfl) ?_
    refine wpList_nil ?_
    refine then_n ?_
    refine wp_ret ?_
    refine then_r ?_
    obtain rfl := Option.some.inj M
    exact ret1 rfl rfl  (show _ = .bool false from (by kernel_rfl)) ⟨rfl, S26.chg⟩
  replace M := ifn q28 M
  refine cond_f rfl (bf q28 (by kernel_rfl)) ?_
  refine wp_skip ?_
  refine then_n ?_
  refine wp_seq ?_
  refine wp_region_lit ?_
  refine lv (d := 4) rfl rfl (by kernel_rfl) (e_assign (v := .bool true) rfl) ?_
  refine wpList_nil ?_
  refine then_n ?_
  refine wp_ret ?_
  obtain rfl := Option.some.inj M
  exact ret1 rfl rfl  (show _ = .bool true from (by kernel_rfl)) ⟨rfl, S26.chg⟩

/-! laws_eqBindingS -/
def laws_eqBindingS.l0 : Nat → (List Binding) → (List Binding) → Int → Option Bool
  | 0, _, _, _ => none
  | k23 + 1, x1, x6, x14 => (if x14 < (x1.length : Int) then (if 0 ≤ x14 then (if x14 < (x6.length : Int) then ((laws_eqBinding.f k23 (x1.getD ((x14).toNat) z63) (x6.getD ((x14).toNat) z63)).bind fun t47 => (if ¬ (t47 = true) then some false else (laws_eqBindingS.l0 k23 x1 x6 (IntKind.i64.wrap (x14 + 1))))) else none) else none) else some true)
def laws_eqBindingS.f (k : Nat) (x1 : List Binding) (x6 : List Binding) : Option Bool := (if (x1.length : Int) ≠ (x6.length : Int) then some false else (laws_eqBindingS.l0 k x1 x6 0))
theorem laws_eqBindingS.calls (k : Nat) (w : World) (H : Hp) (x1 : List Binding) (A2 : Option Addr) (c3 : Nat) (x6 : List Binding) (A7 : Option Addr) (c8 : Nat) (h4 : Rd st63 H A2 x1) (l5 : x1.length ≤ c3) (h9 : Rd st63 H A7 x6) (l10 : x6.length ≤ c8) (S : Own [] H w) (r : Bool) (M : laws_eqBindingS.f k x1 x6 = some r) :
    Calls Try.prog 47 #[.slice A2 x1.length c3, .slice A7 x6.length c8] w (fun e e_w => e = .returned (.bool r) ∧ Chg no w e_w) := by
  rw [laws_eqBindingS.f] at M
  refine enter (l := [.slice A2 x1.length c3, .slice A7 x6.length c8]) 27 Try.func47 rfl rfl rfl ?_
  have S0_ := S.st
  refine wp_seq ?_
  refine wp_region_lit ?_
  refine lv (d := 4) rfl rfl (by kernel_rfl) (e_assign (v := .bool false) rfl) ?_
  refine wpList_nil ?_
  refine then_n ?_
  refine wp_seq ?_
  refine wp_seq ?_
  refine wp_region_lit ?_
  refine lv (d := 6) rfl rfl (by kernel_rfl) (e_move (v := .slice A2 x1.length c3) (by kernel_rfl)) ?_
  refine lv (d := 7) rfl rfl (by kernel_rfl) (e_len (A := A2) (n := x1.length) (c := c3) Try.underlying52 (by kernel_rfl)) ?_
  refine lv (d := 8) rfl rfl (by kernel_rfl) (e_move (v := .slice A7 x6.length c8) (by kernel_rfl)) ?_
  refine lv (d := 9) rfl rfl (by kernel_rfl) (e_len (A := A7) (n := x6.length) (c := c8) Try.underlying52 (by kernel_rfl)) ?_
  refine lv (d := 10) rfl rfl (by kernel_rfl) (e_neq (k := .i64) (a := (x1.length : Int)) (b := (x6.length : Int)) (by kernel_rfl) (by kernel_rfl)) ?_
  refine wpList_nil ?_
  refine then_n ?_
  by_cases q11 : (x1.length : Int) ≠ (x6.length : Int)
  · replace M := ifp q11 M
    refine cond_t rfl (bt q11 (by kernel_rfl)) ?_
    refine wp_seq ?_
    refine wp_region_lit ?_
    refine lv (d := 4) rfl rfl (by kernel_rfl) (e_assign (v := .bool false) rfl) ?_
    refine wpList_nil ?_
    refine then_n ?_
    refine wp_ret ?_
    refine then_r ?_
    obtain rfl := Option.some.inj M
    exact ret1 rfl rfl  (show _ = .bool false from (by kernel_rfl)) ⟨rfl, S0_.chg⟩
  replace M := ifn q11 M
  refine cond_f rfl (bf q11 (by kernel_rfl)) ?_
  refine wp_skip ?_
  refine then_n ?_
  refine wp_seq ?_
  refine wp_seq ?_
  refine wp_region_lit ?_
  refine lv (d := 5) rfl rfl (by kernel_rfl) (e_assign (v := .int .i64 0) rfl) ?_
  refine wpList_nil ?_
  refine then_n ?_
  refine wp_block ?_
  refine wp_loop_g (fun k21 a22 w12 => ∃ (f13 : Nat → Value) (x14 : Int), a22 = mk 27 f13 ∧ f13 0 = .slice A2 x1.length c3 ∧ f13 1 = .slice A7 x6.length c8 ∧ f13 5 = .int .i64 x14 ∧ St (anyOf []) H w [] H w12 ∧ laws_eqBindingS.l0 k21 x1 x6 x14 = some r) k ⟨_, 0, rfl, (by kernel_rfl), (by kernel_rfl), (by kernel_rfl), S0_, M⟩ ?_
  clear M
  rintro k21 a22 w12 ⟨f13, x14, rfl, e15, e16, e17, S18, M⟩
  rcases k21 with _ | k23
  · rw [laws_eqBindingS.l0] at M
    cases M
  rw [laws_eqBindingS.l0] at M
  refine wp_seq ?_
  refine wp_seq ?_
  refine wp_region_lit ?_
  refine lv (d := 11) rfl rfl (by kernel_rfl) (e_move (v := .int .i64 x14) (by exact e17)) ?_
  refine lv (d := 12) rfl rfl (by kernel_rfl) (e_move (v := .slice A2 x1.length c3) (by exact e15)) ?_
  refine lv (d := 13) rfl rfl (by kernel_rfl) (e_len (A := A2) (n := x1.length) (c := c3) Try.underlying52 (by kernel_rfl)) ?_
  refine lv (d := 14) rfl rfl (by kernel_rfl) (e_lss (k := .i64) (a := x14) (b := (x1.length : Int)) (by kernel_rfl) (by kernel_rfl)) ?_
  refine wpList_nil ?_
  refine then_n ?_
  by_cases q24 : x14 < (x1.length : Int)
  · replace M := ifp q24 M
    refine cond_t rfl (bt q24 (by kernel_rfl)) ?_
    refine wp_skip ?_
    refine then_n ?_
    refine wp_seq ?_
    refine wp_block ?_
    refine wp_seq ?_
    refine region_quiet (by kernel_rfl) (by kernel_rfl) ?_
    refine qv (d := 17) rfl rfl (by kernel_rfl) (fun wq_ hq_ => e_move (v := .slice A2 x1.length c3) (by exact e15)) ?_
    refine qv (d := 18) rfl rfl (by kernel_rfl) (fun wq_ hq_ => e_move (v := .int .i64 x14) (by exact e17)) ?_
    obtain ⟨q25, M⟩ := chk M
    obtain ⟨b26, o27, e28⟩ := Rd.addr h4 (show (x14).toNat < x1.length by omega)
    obtain ⟨y29, r30, k31⟩ := Rd.at h4 e28 (getD_some z63 (show (x14).toNat < x1.length by omega))
    obtain ⟨A32, c33, rfl, l34, h35⟩ := st63_open r30
    refine qv (d := 19) rfl rfl (by kernel_rfl) (fun wq_ hq_ => e_indexAddr (b := b26) (off := o27) (n := x1.length) (c := c3) (sz := 2) (i := x14) (k := .i64) Try.underlying52 e28 (by kernel_rfl) (by kernel_rfl) (by kernel_rfl) q25 q24) ?_
    refine qv (d := 20) rfl rfl (by kernel_rfl) (fun wq_ hq_ => e_loadS (b := b26) (off := o27 + (x14 : Int).toNat * 2) (cs := [.int .i64 ((x1.getD ((x14).toNat) z63).var), .slice A32 ((x1.getD ((x14).toNat) z63).term).length c33]) Try.underlying63 rfl (by kernel_rfl) (by kernel_rfl) (fun j_ u_ e_ => (hpx ((S18.still hq_).1.inv.cell (k31 j_ u_ e_))))) ?_
    refine qv (d := 21) rfl rfl (by kernel_rfl) (fun wq_ hq_ => e_move (v := .slice A7 x6.length c8) (by exact e16)) ?_
    refine qv (d := 22) rfl rfl (by kernel_rfl) (fun wq_ hq_ => e_move (v := .int .i64 x14) (by exact e17)) ?_
    obtain ⟨q36, M⟩ := chk M
    obtain ⟨b37, o38, e39⟩ := Rd.addr h9 (show (x14).toNat < x6.length by omega)
    obtain ⟨y40, r41, k42⟩ := Rd.at h9 e39 (getD_some z63 (show (x14).toNat < x6.length by omega))
    obtain ⟨A43, c44, rfl, l45, h46⟩ := st63_open r41
    refine qv (d := 23) rfl rfl (by kernel_rfl) (fun wq_ hq_ => e_indexAddr (b := b37) (off := o38) (n := x6.length) (c := c8) (sz := 2) (i := x14) (k := .i64) Try.underlying52 e39 (by kernel_rfl) (by kernel_rfl) (by kernel_rfl) q25 q36) ?_
    refine qv (d := 24) rfl rfl (by kernel_rfl) (fun wq_ hq_ => e_loadS (b := b37) (off := o38 + (x14 : Int).toNat * 2) (cs := [.int .i64 ((x6.getD ((x14).toNat) z63).var), .slice A43 ((x6.getD ((x14).toNat) z63).term).length c44]) Try.underlying63 rfl (by kernel_rfl) (by kernel_rfl) (fun j_ u_ e_ => (hpx ((S18.still hq_).1.inv.cell (k42 j_ u_ e_))))) ?_
    obtain ⟨t47, u48, M⟩ := bnd M
    refine qcall (v := .bool t47) (d := 25) rfl rfl (by kernel_rfl) (fun w_ => e_call (l := [.tmp 20, .tmp 24]) (vs := [.agg #[.int .i64 ((x1.getD ((x14).toNat) z63).var), .slice A32 ((x1.getD ((x14).toNat) z63).term).length c33], .agg #[.int .i64 ((x6.getD ((x14).toNat) z63).var), .slice A43 ((x6.getD ((x14).toNat) z63).term).length c44]]) Try.func88 (by kernel_rfl) rfl (by kernel_rfl) rfl) (fun wq_ hq_ => (by obtain ⟨S_, K_⟩ := S18.still hq_; exact (laws_eqBinding.calls k23 wq_ H (x1.getD ((x14).toNat) z63) A32 c33 (x6.getD ((x14).toNat) z63) A43 c44 h35 l34 h46 l45 S_.own0 t47 u48))) ?_
    refine qv (d := 26) rfl rfl (by kernel_rfl) (fun wq_ hq_ => e_notv (c := t47) (by kernel_rfl)) ?_
    refine wpQuiet_nil ?_
    intro w49 C52
    obtain ⟨S50, K51⟩ := S18.still C52
    refine then_n ?_
    by_cases q53 : ¬ (t47 = true)
    · replace M := ifp q53 M
      refine cond_t rfl (bt q53 (by kernel_rfl)) ?_
      refine wp_seq ?_
      refine wp_region_lit ?_
      refine lv (d := 4) rfl rfl (by kernel_rfl) (e_assign (v := .bool false) rfl) ?_
      refine wpList_nil ?_
      refine then_n ?_
      refine wp_ret ?_
      refine inb_r ?_
      refine then_r ?_
      refine then_r ?_
      refine inb_r ?_
      refine then_r ?_
      obtain rfl := Option.some.inj M
      exact ret1 rfl rfl  (show _ = .bool false from (by kernel_rfl)) ⟨rfl, S50.chg⟩
    replace M := ifn q53 M
    refine cond_f rfl (bf q53 (by kernel_rfl)) ?_
    refine wp_skip ?_
    refine inb_n ?_
    refine then_n ?_
    refine wp_region_lit ?_
    refine lv (d := 15) rfl rfl (by kernel_rfl) (e_move (v := .int .i64 x14) (by exact e17)) ?_
    refine lv (d := 16) rfl rfl (by kernel_rfl) (e_add (k := .i64) (a := x14) (b := 1) (by kernel_rfl) rfl) ?_
    refine lv (d := 5) rfl rfl (by kernel_rfl) (e_assign (v := .int .i64 (IntKind.i64.wrap (x14 + 1))) (by kernel_rfl)) ?_
    refine wpList_nil ?_
    refine then_n ?_
    exact ⟨k23, (by omega), _, (IntKind.i64.wrap (x14 + 1)), rfl, (by exact e15), (by exact e16), (by kernel_rfl), S50, M⟩
  replace M := ifn q24 M
  refine cond_f rfl (bf q24 (by kernel_rfl)) ?_
  refine wp_exit ?_
  refine then_e ?_
  refine then_e ?_
  refine inb_hit ?_
  refine then_n ?_
  refine wp_seq ?_
  refine wp_region_lit ?_
  refine lv (d := 4) rfl rfl (by kernel_rfl) (e_assign (v := .bool true) rfl) ?_
  refine wpList_nil ?_
  refine then_n ?_
  refine wp_ret ?_
  obtain rfl := Option.some.inj M
  exact ret1 rfl rfl  (show _ = .bool true from (by kernel_rfl)) ⟨rfl, S18.chg⟩

/-! laws_markByteS -/
def laws_markByteS_2.l0 : Nat → (List UInt8) → Int → Int → (List UInt8) → Option (Int × (List UInt8))
  | 0, _, _, _, _ => none
  | k22 + 1, x1, x9, x10, x12 => (if x10 < (x1.length : Int) then (if 0 ≤ x10 then (laws_markByteS_2.l0 k22 x1 (IntKind.i64.wrap (x9 + 1)) (IntKind.i64.wrap (x10 + 1)) (x12.set ((x10).toNat) (b8 (x9)))) else none) else some (x9, x12))
def laws_markByteS_2.f (k : Nat) (x1 : List UInt8) (x6 : Int) : Option (Int × (List UInt8)) := (laws_markByteS_2.l0 k x1 x6 0 x1)
theorem laws_markByteS_2.calls (k : Nat) (w : World) (H : Hp) (x1 : List UInt8) (A2 : Option Addr) (c3 : Nat) (F5 : Foot) (x6 : Int) (h4 : Row tByte 5 H (hp w) F5 A2 c3 x1) (S : Own [F5] H w) (r : Int × (List UInt8)) (M : laws_markByteS_2.f k x1 x6 = some r) :
    Calls Try.prog 65 #[.slice A2 x1.length c3, .int .i64 x6] w (fun e e_w => ∃ (F_1 : Foot) (H_ : Hp), e = .returned (.int .i64 r.1) ∧ r.2.length = x1.length ∧ Row tByte 5 H_ (hp e_w) F_1 A2 c3 r.2 ∧ St (anyOf [F5]) H w [F_1] H_ e_w) := by
  rw [laws_markByteS_2.f] at M
  refine enter (l := [.slice A2 x1.length c3, .int .i64 x6]) 20 Try.func65 rfl rfl rfl ?_
  have S0_ := S.st
  refine wp_seq ?_
  refine wp_region_lit ?_
  refine lv (d := 4) rfl rfl (by kernel_rfl) (e_assign (v := .int .i64 0) rfl) ?_
  refine wpList_nil ?_
  refine then_n ?_
  refine wp_seq ?_
  refine wp_seq ?_
  refine wp_region_lit ?_
  refine lv (d := 5) rfl rfl (by kernel_rfl) (e_assign (v := .int .i64 0) rfl) ?_
  refine wpList_nil ?_
  refine then_n ?_
  refine wp_block ?_
  refine wp_loop_g (fun k20 a21 w7 => ∃ (f8 : Nat → Value) (x9 : Int) (x10 : Int) (F11 : Foot) (x12 : List UInt8), a21 = mk 20 f8 ∧ f8 0 = .slice A2 x1.length c3 ∧ f8 1 = .int .i64 x9 ∧ f8 5 = .int .i64 x10 ∧ Row tByte 5 H (hp w7) F11 A2 c3 x12 ∧ x12.length = x1.length ∧ St (anyOf [F5]) H w [F11] H w7 ∧ laws_markByteS_2.l0 k20 x1 x9 x10 x12 = some r) k ⟨_, x6, 0, F5, x1, rfl, (by kernel_rfl), (by kernel_rfl), (by kernel_rfl), h4, rfl, S0_, M⟩ ?_
  clear M
  rintro k20 a21 w7 ⟨f8, x9, x10, F11, x12, rfl, e14, e15, e16, h4, n13, S17, M⟩
  rcases k20 with _ | k22
  · rw [laws_markByteS_2.l0] at M
    cases M
  rw [laws_markByteS_2.l0] at M
  refine wp_seq ?_
  refine wp_seq ?_
  refine wp_region_lit ?_
  refine lv (d := 6) rfl rfl (by kernel_rfl) (e_move (v := .int .i64 x10) (by exact e16)) ?_
  refine lv (d := 7) rfl rfl (by kernel_rfl) (e_move (v := .slice A2 x1.length c3) (by exact e14)) ?_
  refine lv (d := 8) rfl rfl (by kernel_rfl) (e_len (A := A2) (n := x1.length) (c := c3) Try.underlying59 (by kernel_rfl)) ?_
  refine lv (d := 9) rfl rfl (by kernel_rfl) (e_lss (k := .i64) (a := x10) (b := (x1.length : Int)) (by kernel_rfl) (by kernel_rfl)) ?_
  refine wpList_nil ?_
  refine then_n ?_
  by_cases q23 : x10 < (x1.length : Int)
  · replace M := ifp q23 M
    refine cond_t rfl (bt q23 (by kernel_rfl)) ?_
    refine wp_skip ?_
    refine then_n ?_
    refine wp_seq ?_
    refine wp_block ?_
    refine wp_seq ?_
    refine wp_region_lit ?_
    refine lv (d := 12) rfl rfl (by kernel_rfl) (e_move (v := .slice A2 x1.length c3) (by exact e14)) ?_
    refine lv (d := 13) rfl rfl (by kernel_rfl) (e_move (v := .int .i64 x10) (by exact e16)) ?_
    refine lv (d := 14) rfl rfl (by kernel_rfl) (e_move (v := .int .i64 x9) (by exact e15)) ?_
    refine lv (d := 15) rfl rfl (by kernel_rfl) (e_conv_i8 (k := .i64) (a := x9) (by kernel_rfl) Try.underlying5 (by kernel_rfl)) ?_
    obtain ⟨q24, M⟩ := chk M
    obtain ⟨b25, e27⟩ := Row.addr h4 (show (x10).toNat < x12.length by have : x12.length = x1.length := n13; omega)
    refine lv (d := 16) rfl rfl (by kernel_rfl) (e_indexAddr (b := b25) (off := 0) (n := x1.length) (c := c3) (sz := 1) (i := x10) (k := .i64) Try.underlying59 e27 (by kernel_rfl) (by kernel_rfl) (by kernel_rfl) q24 q23) ?_
    have S28 := S17.unit
    have S29 := S28.pull (F := F11) (Fr := [no]) 1 rfl rfl
    refine lse rfl rfl (by kernel_rfl) (e_setel (d := tByte) (b := b25) (i := (x10).toNat) (v := .int .u8 ((b8 (x9)).toNat : Int)) (vs := [.int .u8 ((b8 (x9)).toNat : Int)]) (yv := (b8 (x9))) S29 (by kernel_rfl) e27 (by kernel_rfl) rfl (by kernel_rfl) h4 (show (x10).toNat < x12.length by have : x12.length = x1.length := n13; omega) rfl) ?_
    rintro w30 ⟨F32, h31, S33, K34⟩
    clear h4
    refine wpList_nil ?_
    refine then_n ?_
    refine wp_region_lit ?_
    refine lv (d := 17) rfl rfl (by kernel_rfl) (e_move (v := .int .i64 x9) (by exact e15)) ?_
    refine lv (d := 18) rfl rfl (by kernel_rfl) (e_add (k := .i64) (a := x9) (b := 1) (by kernel_rfl) rfl) ?_
    refine lv (d := 1) rfl rfl (by kernel_rfl) (e_assign (v := .int .i64 (IntKind.i64.wrap (x9 + 1))) (by kernel_rfl)) ?_
    refine wpList_nil ?_
    refine inb_n ?_
    refine then_n ?_
    refine wp_region_lit ?_
    refine lv (d := 10) rfl rfl (by kernel_rfl) (e_move (v := .int .i64 x10) (by exact e16)) ?_
    refine lv (d := 11) rfl rfl (by kernel_rfl) (e_add (k := .i64) (a := x10) (b := 1) (by kernel_rfl) rfl) ?_
    refine lv (d := 5) rfl rfl (by kernel_rfl) (e_assign (v := .int .i64 (IntKind.i64.wrap (x10 + 1))) (by kernel_rfl)) ?_
    refine wpList_nil ?_
    refine then_n ?_
    exact ⟨k22, (by omega), _, (IntKind.i64.wrap (x9 + 1)), (IntKind.i64.wrap (x10 + 1)), F32, (x12.set ((x10).toNat) (b8 (x9))), rfl, (by exact e14), (by kernel_rfl), (by kernel_rfl), h31, (List.length_set.trans n13), S33, M⟩
  replace M := ifn q23 M
  refine cond_f rfl (bf q23 (by kernel_rfl)) ?_
  refine wp_exit ?_
  refine then_e ?_
  refine then_e ?_
  refine inb_hit ?_
  refine then_n ?_
  refine wp_seq ?_
  refine wp_region_lit ?_
  refine lv (d := 19) rfl rfl (by kernel_rfl) (e_move (v := .int .i64 x9) (by exact e15)) ?_
  refine lv (d := 4) rfl rfl (by kernel_rfl) (e_assign (v := .int .i64 x9) (by kernel_rfl)) ?_
  refine wpList_nil ?_
  refine then_n ?_
  refine wp_ret ?_
  obtain rfl := Option.some.inj M
  exact ret1 rfl rfl  (show _ = .int .i64 x9 from (by kernel_rfl)) ⟨F11, H, rfl, n13, h4, S17⟩

/-! laws_markCellS -/
def laws_markCellS_2.l0 : Nat → (List Cell) → Int → Int → (List Cell) → Option (Int × (List Cell))
  | 0, _, _, _, _ => none
  | k24 + 1, x1, x11, x12, x14 => (if x12 < (x1.length : Int) then (if 0 ≤ x12 then ((laws_markByteS_2.f k24 ((((x14.set ((x12).toNat) ({(x14.getD ((x12).toNat) z65) with kind := x11})).set ((x12).toNat) ({((x14.set ((x12).toNat) ({(x14.getD ((x12).toNat) z65) with kind := x11})).getD ((x12).toNat) z65) with n := (IntKind.i64.wrap (x11 + 1))})).getD ((x12).toNat) z65).text) (IntKind.i64.wrap ((IntKind.i64.wrap (x11 + 1)) + 1))).bind fun t71 => (laws_markCellS_2.l0 k24 x1 t71.1 (IntKind.i64.wrap (x12 + 1)) (((x14.set ((x12).toNat) ({(x14.getD ((x12).toNat) z65) with kind := x11})).set ((x12).toNat) ({((x14.set ((x12).toNat) ({(x14.getD ((x12).toNat) z65) with kind := x11})).getD ((x12).toNat) z65) with n := (IntKind.i64.wrap (x11 + 1))})).set ((x12).toNat) ({(((x14.set ((x12).toNat) ({(x14.getD ((x12).toNat) z65) with kind := x11})).set ((x12).toNat) ({((x14.set ((x12).toNat) ({(x14.getD ((x12).toNat) z65) with kind := x11})).getD ((x12).toNat) z65) with n := (IntKind.i64.wrap (x11 + 1))})).getD ((x12).toNat) z65) with text := t71.2})))) else none) else some (x11, x14))
def laws_markCellS_2.f (k : Nat) (x1 : List Cell) (x6 : Int) : Option (Int × (List Cell)) := (laws_markCellS_2.l0 k x1 x6 0 x1)
theorem laws_markCellS_2.calls (k : Nat) (w : World) (H : Hp) (x1 : List Cell) (A2 : Option Addr) (c3 : Nat) (F5 : Foot) (x6 : Int) (h4 : Row st65 65 H (hp w) F5 A2 c3 x1) (S : Own [F5] H w) (r : Int × (List Cell)) (M : laws_markCellS_2.f k x1 x6 = some r) :
    Calls Try.prog 24 #[.slice A2 x1.length c3, .int .i64 x6] w (fun e e_w => ∃ (F_1 : Foot) (H_ : Hp), e = .returned (.int .i64 r.1) ∧ r.2.length = x1.length ∧ Row st65 65 H_ (hp e_w) F_1 A2 c3 r.2 ∧ St (anyOf [F5]) H w [F_1] H_ e_w) := by
  rw [laws_markCellS_2.f] at M
  refine enter (l := [.slice A2 x1.length c3, .int .i64 x6]) 34 Try.func24 rfl rfl rfl ?_
  have S0_ := S.st
  refine wp_seq ?_
  refine wp_region_lit ?_
  refine lv (d := 4) rfl rfl (by kernel_rfl) (e_assign (v := .int .i64 0) rfl) ?_
  refine wpList_nil ?_
  refine then_n ?_
  refine wp_seq ?_
  refine wp_seq ?_
  refine wp_region_lit ?_
  refine lv (d := 5) rfl rfl (by kernel_rfl) (e_assign (v := .int .i64 0) rfl) ?_
  refine wpList_nil ?_
  refine then_n ?_
  refine wp_block ?_
  refine wp_loop_g (fun k22 a23 w7 => ∃ (f8 : Nat → Value) (H9 : Hp) (x11 : Int) (x12 : Int) (F13 : Foot) (x14 : List Cell), a23 = mk 34 f8 ∧ f8 0 = .slice A2 x1.length c3 ∧ f8 1 = .int .i64 x11 ∧ f8 5 = .int .i64 x12 ∧ Row st65 65 H9 (hp w7) F13 A2 c3 x14 ∧ x14.length = x1.length ∧ Ext H H9 ∧ St (anyOf [F5]) H w [F13] H9 w7 ∧ laws_markCellS_2.l0 k22 x1 x11 x12 x14 = some r) k ⟨_, H, x6, 0, F5, x1, rfl, (by kernel_rfl), (by kernel_rfl), (by kernel_rfl), h4, rfl, (Ext.refl _), S0_, M⟩ ?_
  clear M
  rintro k22 a23 w7 ⟨f8, H9, x11, x12, F13, x14, rfl, e16, e17, e18, h4, n15, Y10, S19, M⟩
  rcases k22 with _ | k24
  · rw [laws_markCellS_2.l0] at M
    cases M
  rw [laws_markCellS_2.l0] at M
  refine wp_seq ?_
  refine wp_seq ?_
  refine wp_region_lit ?_
  refine lv (d := 6) rfl rfl (by kernel_rfl) (e_move (v := .int .i64 x12) (by exact e18)) ?_
  refine lv (d := 7) rfl rfl (by kernel_rfl) (e_move (v := .slice A2 x1.length c3) (by exact e16)) ?_
  refine lv (d := 8) rfl rfl (by kernel_rfl) (e_len (A := A2) (n := x1.length) (c := c3) Try.underlying25 (by kernel_rfl)) ?_
  refine lv (d := 9) rfl rfl (by kernel_rfl) (e_lss (k := .i64) (a := x12) (b := (x1.length : Int)) (by kernel_rfl) (by kernel_rfl)) ?_
  refine wpList_nil ?_
  refine then_n ?_
  by_cases q25 : x12 < (x1.length : Int)
  · replace M := ifp q25 M
    refine cond_t rfl (bt q25 (by kernel_rfl)) ?_
    refine wp_skip ?_
    refine then_n ?_
    refine wp_seq ?_
    refine wp_block ?_
    refine wp_seq ?_
    refine wp_region_lit ?_
    refine lv (d := 12) rfl rfl (by kernel_rfl) (e_move (v := .slice A2 x1.length c3) (by exact e16)) ?_
    refine lv (d := 13) rfl rfl (by kernel_rfl) (e_move (v := .int .i64 x12) (by exact e18)) ?_
    refine lv (d := 14) rfl rfl (by kernel_rfl) (e_move (v := .int .i64 x11) (by exact e17)) ?_
    obtain ⟨q26, M⟩ := chk M
    obtain ⟨b27, e29⟩ := Row.addr h4 (show (x12).toNat < x14.length by have : x14.length = x1.length := n15; omega)
    refine lv (d := 15) rfl rfl (by kernel_rfl) (e_indexAddr (b := b27) (off := 0) (n := x1.length) (c := c3) (sz := 3) (i := x12) (k := .i64) Try.underlying25 e29 (by kernel_rfl) (by kernel_rfl) (by kernel_rfl) q26 q25) ?_
    refine lv (d := 16) rfl rfl (by kernel_rfl) (e_fieldAddr (b := b27) (off := 0 + (x12 : Int).toNat * 3) (o := 0) Try.underlying65 rfl rfl (sz := 1) (by kernel_rfl) (by decide) (by kernel_rfl)) ?_
    have S30 := S19.unit
    have S31 := S30.pull (F := F13) (Fr := [no]) 1 rfl rfl
    refine lse rfl rfl (by kernel_rfl) (e_setpart (d := st65) (b := b27) (i := (x12).toNat) (j := 0) (v := .int .i64 x11) (vs := [.int .i64 x11]) (yv := {(x14.getD ((x12).toNat) z65) with kind := x11}) S31 (by kernel_rfl) e29 (by kernel_rfl) rfl (by kernel_rfl) h4 (getD_some z65 (show (x12).toNat < x14.length by have : x14.length = x1.length := n15; omega)) (Nat.le_of_ble_eq_true rfl) (List.forall_mem_cons.2 ⟨rfl, (fun _ h_ => by cases h_)⟩) (fun _ _ _ o_ => st65_u0 x11 o_)) ?_
    rintro w32 ⟨F34, h33, S35, K36⟩
    clear h4
    refine wpList_nil ?_
    refine then_n ?_
    refine wp_seq ?_
    refine wp_region_lit ?_
    refine lv (d := 17) rfl rfl (by kernel_rfl) (e_move (v := .int .i64 x11) (by exact e17)) ?_
    refine lv (d := 18) rfl rfl (by kernel_rfl) (e_add (k := .i64) (a := x11) (b := 1) (by kernel_rfl) rfl) ?_
    refine lv (d := 1) rfl rfl (by kernel_rfl) (e_assign (v := .int .i64 (IntKind.i64.wrap (x11 + 1))) (by kernel_rfl)) ?_
    refine wpList_nil ?_
    refine then_n ?_
    refine wp_seq ?_
    refine wp_region_lit ?_
    refine lv (d := 19) rfl rfl (by kernel_rfl) (e_move (v := .slice A2 x1.length c3) (by exact e16)) ?_
    refine lv (d := 20) rfl rfl (by kernel_rfl) (e_move (v := .int .i64 x12) (by exact e18)) ?_
    refine lv (d := 21) rfl rfl (by kernel_rfl) (e_move (v := .int .i64 (IntKind.i64.wrap (x11 + 1))) (by kernel_rfl)) ?_
    obtain ⟨b37, e39⟩ := Row.addr h33 (show (x12).toNat < (x14.set ((x12).toNat) ({(x14.getD ((x12).toNat) z65) with kind := x11})).length by have : (x14.set ((x12).toNat) ({(x14.getD ((x12).toNat) z65) with kind := x11})).length = x1.length := (List.length_set.trans n15); omega)
    refine lv (d := 22) rfl rfl (by kernel_rfl) (e_indexAddr (b := b37) (off := 0) (n := x1.length) (c := c3) (sz := 3) (i := x12) (k := .i64) Try.underlying25 e39 (by kernel_rfl) (by kernel_rfl) (by kernel_rfl) q26 q25) ?_
    refine lv (d := 23) rfl rfl (by kernel_rfl) (e_fieldAddr (b := b37) (off := 0 + (x12 : Int).toNat * 3) (o := 1) Try.underlying65 rfl rfl (sz := 1) (by kernel_rfl) (by decide) (by kernel_rfl)) ?_
    have S40 := S35.unit
    have S41 := S40.pull (F := F34) (Fr := [no]) 1 rfl rfl
    refine lse rfl rfl (by kernel_rfl) (e_setpart (d := st65) (b := b37) (i := (x12).toNat) (j := 1) (v := .int .i64 (IntKind.i64.wrap (x11 + 1))) (vs := [.int .i64 (IntKind.i64.wrap (x11 + 1))]) (yv := {((x14.set ((x12).toNat) ({(x14.getD ((x12).toNat) z65) with kind := x11})).getD ((x12).toNat) z65) with n := (IntKind.i64.wrap (x11 + 1))}) S41 (by kernel_rfl) e39 (by kernel_rfl) rfl (by kernel_rfl) h33 (getD_some z65 (show (x12).toNat < (x14.set ((x12).toNat) ({(x14.getD ((x12).toNat) z65) with kind := x11})).length by have : (x14.set ((x12).toNat) ({(x14.getD ((x12).toNat) z65) with kind := x11})).length = x1.length := (List.length_set.trans n15); omega)) (Nat.le_of_ble_eq_true rfl) (List.forall_mem_cons.2 ⟨rfl, (fun _ h_ => by cases h_)⟩) (fun _ _ _ o_ => st65_u1 (IntKind.i64.wrap (x11 + 1)) o_)) ?_
    rintro w42 ⟨F44, h43, S45, K46⟩
    clear h33
    refine wpList_nil ?_
    refine then_n ?_
    refine wp_seq ?_
    refine wp_region_lit ?_
    refine lv (d := 24) rfl rfl (by kernel_rfl) (e_move (v := .int .i64 (IntKind.i64.wrap (x11 + 1))) (by kernel_rfl)) ?_
    refine lv (d := 25) rfl rfl (by kernel_rfl) (e_add (k := .i64) (a := (IntKind.i64.wrap (x11 + 1))) (b := 1) (by kernel_rfl) rfl) ?_
    refine lv (d := 1) rfl rfl (by kernel_rfl) (e_assign (v := .int .i64 (IntKind.i64.wrap ((IntKind.i64.wrap (x11 + 1)) + 1))) (by kernel_rfl)) ?_
    refine wpList_nil ?_
    refine then_n ?_
    refine wp_region_lit ?_
    refine lv (d := 26) rfl rfl (by kernel_rfl) (e_move (v := .slice A2 x1.length c3) (by exact e16)) ?_
    refine lv (d := 27) rfl rfl (by kernel_rfl) (e_move (v := .int .i64 x12) (by exact e18)) ?_
    obtain ⟨b47, e49⟩ := Row.addr h43 (show (x12).toNat < ((x14.set ((x12).toNat) ({(x14.getD ((x12).toNat) z65) with kind := x11})).set ((x12).toNat) ({((x14.set ((x12).toNat) ({(x14.getD ((x12).toNat) z65) with kind := x11})).getD ((x12).toNat) z65) with n := (IntKind.i64.wrap (x11 + 1))})).length by have : ((x14.set ((x12).toNat) ({(x14.getD ((x12).toNat) z65) with kind := x11})).set ((x12).toNat) ({((x14.set ((x12).toNat) ({(x14.getD ((x12).toNat) z65) with kind := x11})).getD ((x12).toNat) z65) with n := (IntKind.i64.wrap (x11 + 1))})).length = x1.length := (List.length_set.trans (List.length_set.trans n15)); omega)
    refine lv (d := 28) rfl rfl (by kernel_rfl) (e_indexAddr (b := b47) (off := 0) (n := x1.length) (c := c3) (sz := 3) (i := x12) (k := .i64) Try.underlying25 e49 (by kernel_rfl) (by kernel_rfl) (by kernel_rfl) q26 q25) ?_
    refine lv (d := 29) rfl rfl (by kernel_rfl) (e_fieldAddr (b := b47) (off := 0 + (x12 : Int).toNat * 3) (o := 2) Try.underlying65 rfl rfl (sz := 1) (by kernel_rfl) (by decide) (by kernel_rfl)) ?_
    obtain ⟨y55, F56, G57, r58, d59, s60, k61, t62⟩ := Row.lend h43 e49 (getD_some z65 (show (x12).toNat < ((x14.set ((x12).toNat) ({(x14.getD ((x12).toNat) z65) with kind := x11})).set ((x12).toNat) ({((x14.set ((x12).toNat) ({(x14.getD ((x12).toNat) z65) with kind := x11})).getD ((x12).toNat) z65) with n := (IntKind.i64.wrap (x11 + 1))})).length by have : ((x14.set ((x12).toNat) ({(x14.getD ((x12).toNat) z65) with kind := x11})).set ((x12).toNat) ({((x14.set ((x12).toNat) ({(x14.getD ((x12).toNat) z65) with kind := x11})).getD ((x12).toNat) z65) with n := (IntKind.i64.wrap (x11 + 1))})).length = x1.length := (List.length_set.trans (List.length_set.trans n15)); omega))
    obtain ⟨A63, c64, F67, rfl, h65, s66⟩ := st65_openO r58
    refine lv (d := 30) rfl rfl (by kernel_rfl) (e_load1 (ad := ⟨b47, 0 + (x12 : Int).toNat * 3 + 2, none⟩) (v := .slice A63 ((((x14.set ((x12).toNat) ({(x14.getD ((x12).toNat) z65) with kind := x11})).set ((x12).toNat) ({((x14.set ((x12).toNat) ({(x14.getD ((x12).toNat) z65) with kind := x11})).getD ((x12).toNat) z65) with n := (IntKind.i64.wrap (x11 + 1))})).getD ((x12).toNat) z65).text).length c64) Try.underlying59 rfl (by kernel_rfl) (hpx (k61 2 _ rfl))) ?_
    refine lv (d := 31) rfl rfl (by kernel_rfl) (e_move (v := .int .i64 (IntKind.i64.wrap ((IntKind.i64.wrap (x11 + 1)) + 1))) (by kernel_rfl)) ?_
    have S68 := S45.part d59 s60
    have S69 := S68.sub s66
    have q70 : ∀ b_, G57 b_ → hp w42 b_ = hp w42 b_ := fun _ _ => rfl
    obtain ⟨t71, u72, M⟩ := bnd M
    refine lcall (d := 32) rfl rfl (by kernel_rfl) (e_call (l := [.tmp 30, .tmp 31]) (vs := [.slice A63 ((((x14.set ((x12).toNat) ({(x14.getD ((x12).toNat) z65) with kind := x11})).set ((x12).toNat) ({((x14.set ((x12).toNat) ({(x14.getD ((x12).toNat) z65) with kind := x11})).getD ((x12).toNat) z65) with n := (IntKind.i64.wrap (x11 + 1))})).getD ((x12).toNat) z65).text).length c64, .int .i64 (IntKind.i64.wrap ((IntKind.i64.wrap (x11 + 1)) + 1))]) Try.func65 (by kernel_rfl) rfl (by kernel_rfl) rfl) (laws_markByteS_2.calls k24 w42 H9 ((((x14.set ((x12).toNat) ({(x14.getD ((x12).toNat) z65) with kind := x11})).set ((x12).toNat) ({((x14.set ((x12).toNat) ({(x14.getD ((x12).toNat) z65) with kind := x11})).getD ((x12).toNat) z65) with n := (IntKind.i64.wrap (x11 + 1))})).getD ((x12).toNat) z65).text) A63 c64 F67 (IntKind.i64.wrap ((IntKind.i64.wrap (x11 + 1)) + 1)) h65 (St.own' (Fa := [F67]) (Fr := [G57]) S69) t71 u72) ?_
    rintro _ w73 ⟨F77, H74, rfl, n78, h76, T75⟩
    refine ⟨_, rfl, ?_⟩
    obtain ⟨S79, K80⟩ := St.call (Fa := [F67]) (Fr := [G57]) S69 T75
    replace q70 := fun b_ h_ => (K80.at 0 rfl b_ h_).trans (q70 b_ h_)
    have E81 := T75.ext
    have S82 := S79.pull (F := G57) (Fr := [F77]) 1 rfl rfl
    have S83 := S82.pull (F := F77) (Fr := [G57]) 1 rfl rfl
    have h84 := t62 H74 (hp w73) F77 ({(((x14.set ((x12).toNat) ({(x14.getD ((x12).toNat) z65) with kind := x11})).set ((x12).toNat) ({((x14.set ((x12).toNat) ({(x14.getD ((x12).toNat) z65) with kind := x11})).getD ((x12).toNat) z65) with n := (IntKind.i64.wrap (x11 + 1))})).getD ((x12).toNat) z65) with text := t71.2} : Cell) E81 q70 (by have q_ := st65_mkO (x := {(((x14.set ((x12).toNat) ({(x14.getD ((x12).toNat) z65) with kind := x11})).set ((x12).toNat) ({((x14.set ((x12).toNat) ({(x14.getD ((x12).toNat) z65) with kind := x11})).getD ((x12).toNat) z65) with n := (IntKind.i64.wrap (x11 + 1))})).getD ((x12).toNat) z65) with text := t71.2}) h76; rw [show t71.2.length = ((((x14.set ((x12).toNat) ({(x14.getD ((x12).toNat) z65) with kind := x11})).set ((x12).toNat) ({((x14.set ((x12).toNat) ({(x14.getD ((x12).toNat) z65) with kind := x11})).getD ((x12).toNat) z65) with n := (IntKind.i64.wrap (x11 + 1))})).getD ((x12).toNat) z65).text).length from n78] at q_; exact q_) S83.dj
    have S85 := S83.join
    refine lv (d := 1) rfl rfl (by kernel_rfl) (e_assign (v := .int .i64 t71.1) (by kernel_rfl)) ?_
    refine wpList_nil ?_
    refine inb_n ?_
    refine then_n ?_
    refine wp_region_lit ?_
    refine lv (d := 10) rfl rfl (by kernel_rfl) (e_move (v := .int .i64 x12) (by exact e18)) ?_
    refine lv (d := 11) rfl rfl (by kernel_rfl) (e_add (k := .i64) (a := x12) (b := 1) (by kernel_rfl) rfl) ?_
    refine lv (d := 5) rfl rfl (by kernel_rfl) (e_assign (v := .int .i64 (IntKind.i64.wrap (x12 + 1))) (by kernel_rfl)) ?_
    refine wpList_nil ?_
    refine then_n ?_
    exact ⟨k24, (by omega), _, H74, t71.1, (IntKind.i64.wrap (x12 + 1)), (or2 F77 G57), (((x14.set ((x12).toNat) ({(x14.getD ((x12).toNat) z65) with kind := x11})).set ((x12).toNat) ({((x14.set ((x12).toNat) ({(x14.getD ((x12).toNat) z65) with kind := x11})).getD ((x12).toNat) z65) with n := (IntKind.i64.wrap (x11 + 1))})).set ((x12).toNat) ({(((x14.set ((x12).toNat) ({(x14.getD ((x12).toNat) z65) with kind := x11})).set ((x12).toNat) ({((x14.set ((x12).toNat) ({(x14.getD ((x12).toNat) z65) with kind := x11})).getD ((x12).toNat) z65) with n := (IntKind.i64.wrap (x11 + 1))})).getD ((x12).toNat) z65) with text := t71.2})), rfl, (by exact e16), (by kernel_rfl), (by kernel_rfl), h84, (List.length_set.trans (List.length_set.trans (List.length_set.trans n15))), (Y10.trans E81), S85, M⟩
  replace M := ifn q25 M
  refine cond_f rfl (bf q25 (by kernel_rfl)) ?_
  refine wp_exit ?_
  refine then_e ?_
  refine then_e ?_
  refine inb_hit ?_
  refine then_n ?_
  refine wp_seq ?_
  refine wp_region_lit ?_
  refine lv (d := 33) rfl rfl (by kernel_rfl) (e_move (v := .int .i64 x11) (by exact e17)) ?_
  refine lv (d := 4) rfl rfl (by kernel_rfl) (e_assign (v := .int .i64 x11) (by kernel_rfl)) ?_
  refine wpList_nil ?_
  refine then_n ?_
  refine wp_ret ?_
  obtain rfl := Option.some.inj M
  exact ret1 rfl rfl  (show _ = .int .i64 x11 from (by kernel_rfl)) ⟨F13, H9, rfl, n15, h4, S19⟩

/-! laws_markBindingS -/
def laws_markBindingS_2.l0 : Nat → (List Binding) → Int → Int → (List Binding) → Option (Int × (List Binding))
  | 0, _, _, _, _ => none
  | k24 + 1, x1, x11, x12, x14 => (if x12 < (x1.length : Int) then (if 0 ≤ x12 then ((laws_markCellS_2.f k24 (((x14.set ((x12).toNat) ({(x14.getD ((x12).toNat) z63) with var := x11})).getD ((x12).toNat) z63).term) (IntKind.i64.wrap (x11 + 1))).bind fun t61 => (laws_markBindingS_2.l0 k24 x1 t61.1 (IntKind.i64.wrap (x12 + 1)) ((x14.set ((x12).toNat) ({(x14.getD ((x12).toNat) z63) with var := x11})).set ((x12).toNat) ({((x14.set ((x12).toNat) ({(x14.getD ((x12).toNat) z63) with var := x11})).getD ((x12).toNat) z63) with term := t61.2})))) else none) else some (x11, x14))
def laws_markBindingS_2.f (k : Nat) (x1 : List Binding) (x6 : Int) : Option (Int × (List Binding)) := (laws_markBindingS_2.l0 k x1 x6 0 x1)
theorem laws_markBindingS_2.calls (k : Nat) (w : World) (H : Hp) (x1 : List Binding) (A2 : Option Addr) (c3 : Nat) (F5 : Foot) (x6 : Int) (h4 : Row st63 63 H (hp w) F5 A2 c3 x1) (S : Own [F5] H w) (r : Int × (List Binding)) (M : laws_markBindingS_2.f k x1 x6 = some r) :
    Calls Try.prog 48 #[.slice A2 x1.length c3, .int .i64 x6] w (fun e e_w => ∃ (F_1 : Foot) (H_ : Hp), e = .returned (.int .i64 r.1) ∧ r.2.length = x1.length ∧ Row st63 63 H_ (hp e_w) F_1 A2 c3 r.2 ∧ St (anyOf [F5]) H w [F_1] H_ e_w) := by
  rw [laws_markBindingS_2.f] at M
  refine enter (l := [.slice A2 x1.length c3, .int .i64 x6]) 27 Try.func48 rfl rfl rfl ?_
  have S0_ := S.st
  refine wp_seq ?_
  refine wp_region_lit ?_
  refine lv (d := 4) rfl rfl (by kernel_rfl) (e_assign (v := .int .i64 0) rfl) ?_
  refine wpList_nil ?_
  refine then_n ?_
  refine wp_seq ?_
  refine wp_seq ?_
  refine wp_region_lit ?_
  refine lv (d := 5) rfl rfl (by kernel_rfl) (e_assign (v := .int .i64 0) rfl) ?_
  refine wpList_nil ?_
  refine then_n ?_
  refine wp_block ?_
  refine wp_loop_g (fun k22 a23 w7 => ∃ (f8 : Nat → Value) (H9 : Hp) (x11 : Int) (x12 : Int) (F13 : Foot) (x14 : List Binding), a23 = mk 27 f8 ∧ f8 0 = .slice A2 x1.length c3 ∧ f8 1 = .int .i64 x11 ∧ f8 5 = .int .i64 x12 ∧ Row st63 63 H9 (hp w7) F13 A2 c3 x14 ∧ x14.length = x1.length ∧ Ext H H9 ∧ St (anyOf [F5]) H w [F13] H9 w7 ∧ laws_markBindingS_2.l0 k22 x1 x11 x12 x14 = some r) k ⟨_, H, x6, 0, F5, x1, rfl, (by kernel_rfl), (by kernel_rfl), (by kernel_rfl), h4, rfl, (Ext.refl _), S0_, M⟩ ?_
  clear M
  rintro k22 a23 w7 ⟨f8, H9, x11, x12, F13, x14, rfl, e16, e17, e18, h4, n15, Y10, S19, M⟩
  rcases k22 with _ | k24
  · rw [laws_markBindingS_2.l0] at M
    cases M
  rw [laws_markBindingS_2.l0] at M
  refine wp_seq ?_
  refine wp_seq ?_
  refine wp_region_lit ?_
  refine lv (d := 6) rfl rfl (by kernel_rfl) (e_move (v := .int .i64 x12) (by exact e18)) ?_
  refine lv (d := 7) rfl rfl (by kernel_rfl) (e_move (v := .slice A2 x1.length c3) (by exact e16)) ?_
  refine lv (d := 8) rfl rfl (by kernel_rfl) (e_len (A := A2) (n := x1.length) (c := c3) Try.underlying52 (by kernel_rfl)) ?_
  refine lv (d := 9) rfl rfl (by kernel_rfl) (e_lss (k := .i64) (a := x12) (b := (x1.length : Int)) (by kernel_rfl) (by kernel_rfl)) ?_
  refine wpList_nil ?_
  refine then_n ?_
  by_cases q25 : x12 < (x1.length : Int)
  · replace M := ifp q25 M
    refine cond_t rfl (bt q25 (by kernel_rfl)) ?_
    refine wp_skip ?_
    refine then_n ?_
    refine wp_seq ?_
    refine wp_block ?_
    refine wp_seq ?_
    refine wp_region_lit ?_
    refine lv (d := 12) rfl rfl (by kernel_rfl) (e_move (v := .slice A2 x1.length c3) (by exact e16)) ?_
    refine lv (d := 13) rfl rfl (by kernel_rfl) (e_move (v := .int .i64 x12) (by exact e18)) ?_
    refine lv (d := 14) rfl rfl (by kernel_rfl) (e_move (v := .int .i64 x11) (by exact e17)) ?_
    obtain ⟨q26, M⟩ := chk M
    obtain ⟨b27, e29⟩ := Row.addr h4 (show (x12).toNat < x14.length by have : x14.length = x1.length := n15; omega)
    refine lv (d := 15) rfl rfl (by kernel_rfl) (e_indexAddr (b := b27) (off := 0) (n := x1.length) (c := c3) (sz := 2) (i := x12) (k := .i64) Try.underlying52 e29 (by kernel_rfl) (by kernel_rfl) (by kernel_rfl) q26 q25) ?_
    refine lv (d := 16) rfl rfl (by kernel_rfl) (e_fieldAddr (b := b27) (off := 0 + (x12 : Int).toNat * 2) (o := 0) Try.underlying63 rfl rfl (sz := 1) (by kernel_rfl) (by decide) (by kernel_rfl)) ?_
    have S30 := S19.unit
    have S31 := S30.pull (F := F13) (Fr := [no]) 1 rfl rfl
    refine lse rfl rfl (by kernel_rfl) (e_setpart (d := st63) (b := b27) (i := (x12).toNat) (j := 0) (v := .int .i64 x11) (vs := [.int .i64 x11]) (yv := {(x14.getD ((x12).toNat) z63) with var := x11}) S31 (by kernel_rfl) e29 (by kernel_rfl) rfl (by kernel_rfl) h4 (getD_some z63 (show (x12).toNat < x14.length by have : x14.length = x1.length := n15; omega)) (Nat.le_of_ble_eq_true rfl) (List.forall_mem_cons.2 ⟨rfl, (fun _ h_ => by cases h_)⟩) (fun _ _ _ o_ => st63_u0 x11 o_)) ?_
    rintro w32 ⟨F34, h33, S35, K36⟩
    clear h4
    refine wpList_nil ?_
    refine then_n ?_
    refine wp_seq ?_
    refine wp_region_lit ?_
    refine lv (d := 17) rfl rfl (by kernel_rfl) (e_move (v := .int .i64 x11) (by exact e17)) ?_
    refine lv (d := 18) rfl rfl (by kernel_rfl) (e_add (k := .i64) (a := x11) (b := 1) (by kernel_rfl) rfl) ?_
    refine lv (d := 1) rfl rfl (by kernel_rfl) (e_assign (v := .int .i64 (IntKind.i64.wrap (x11 + 1))) (by kernel_rfl)) ?_
    refine wpList_nil ?_
    refine then_n ?_
    refine wp_region_lit ?_
    refine lv (d := 19) rfl rfl (by kernel_rfl) (e_move (v := .slice A2 x1.length c3) (by exact e16)) ?_
    refine lv (d := 20) rfl rfl (by kernel_rfl) (e_move (v := .int .i64 x12) (by exact e18)) ?_
    obtain ⟨b37, e39⟩ := Row.addr h33 (show (x12).toNat < (x14.set ((x12).toNat) ({(x14.getD ((x12).toNat) z63) with var := x11})).length by have : (x14.set ((x12).toNat) ({(x14.getD ((x12).toNat) z63) with var := x11})).length = x1.length := (List.length_set.trans n15); omega)
    refine lv (d := 21) rfl rfl (by kernel_rfl) (e_indexAddr (b := b37) (off := 0) (n := x1.length) (c := c3) (sz := 2) (i := x12) (k := .i64) Try.underlying52 e39 (by kernel_rfl) (by kernel_rfl) (by kernel_rfl) q26 q25) ?_
    refine lv (d := 22) rfl rfl (by kernel_rfl) (e_fieldAddr (b := b37) (off := 0 + (x12 : Int).toNat * 2) (o := 1) Try.underlying63 rfl rfl (sz := 1) (by kernel_rfl) (by decide) (by kernel_rfl)) ?_
    obtain ⟨y45, F46, G47, r48, d49, s50, k51, t52⟩ := Row.lend h33 e39 (getD_some z63 (show (x12).toNat < (x14.set ((x12).toNat) ({(x14.getD ((x12).toNat) z63) with var := x11})).length by have : (x14.set ((x12).toNat) ({(x14.getD ((x12).toNat) z63) with var := x11})).length = x1.length := (List.length_set.trans n15); omega))
    obtain ⟨A53, c54, F57, rfl, h55, s56⟩ := st63_openO r48
    refine lv (d := 23) rfl rfl (by kernel_rfl) (e_load1 (ad := ⟨b37, 0 + (x12 : Int).toNat * 2 + 1, none⟩) (v := .slice A53 (((x14.set ((x12).toNat) ({(x14.getD ((x12).toNat) z63) with var := x11})).getD ((x12).toNat) z63).term).length c54) Try.underlying25 rfl (by kernel_rfl) (hpx (k51 1 _ rfl))) ?_
    refine lv (d := 24) rfl rfl (by kernel_rfl) (e_move (v := .int .i64 (IntKind.i64.wrap (x11 + 1))) (by kernel_rfl)) ?_
    have S58 := S35.part d49 s50
    have S59 := S58.sub s56
    have q60 : ∀ b_, G47 b_ → hp w32 b_ = hp w32 b_ := fun _ _ => rfl
    obtain ⟨t61, u62, M⟩ := bnd M
    refine lcall (d := 25) rfl rfl (by kernel_rfl) (e_call (l := [.tmp 23, .tmp 24]) (vs := [.slice A53 (((x14.set ((x12).toNat) ({(x14.getD ((x12).toNat) z63) with var := x11})).getD ((x12).toNat) z63).term).length c54, .int .i64 (IntKind.i64.wrap (x11 + 1))]) Try.func24 (by kernel_rfl) rfl (by kernel_rfl) rfl) (laws_markCellS_2.calls k24 w32 H9 (((x14.set ((x12).toNat) ({(x14.getD ((x12).toNat) z63) with var := x11})).getD ((x12).toNat) z63).term) A53 c54 F57 (IntKind.i64.wrap (x11 + 1)) h55 (St.own' (Fa := [F57]) (Fr := [G47]) S59) t61 u62) ?_
    rintro _ w63 ⟨F67, H64, rfl, n68, h66, T65⟩
    refine ⟨_, rfl, ?_⟩
    obtain ⟨S69, K70⟩ := St.call (Fa := [F57]) (Fr := [G47]) S59 T65
    replace q60 := fun b_ h_ => (K70.at 0 rfl b_ h_).trans (q60 b_ h_)
    have E71 := T65.ext
    have S72 := S69.pull (F := G47) (Fr := [F67]) 1 rfl rfl
    have S73 := S72.pull (F := F67) (Fr := [G47]) 1 rfl rfl
    have h74 := t52 H64 (hp w63) F67 ({((x14.set ((x12).toNat) ({(x14.getD ((x12).toNat) z63) with var := x11})).getD ((x12).toNat) z63) with term := t61.2} : Binding) E71 q60 (by have q_ := st63_mkO (x := {((x14.set ((x12).toNat) ({(x14.getD ((x12).toNat) z63) with var := x11})).getD ((x12).toNat) z63) with term := t61.2}) h66; rw [show t61.2.length = (((x14.set ((x12).toNat) ({(x14.getD ((x12).toNat) z63) with var := x11})).getD ((x12).toNat) z63).term).length from n68] at q_; exact q_) S73.dj
    have S75 := S73.join
    refine lv (d := 1) rfl rfl (by kernel_rfl) (e_assign (v := .int .i64 t61.1) (by kernel_rfl)) ?_
    refine wpList_nil ?_
    refine inb_n ?_
    refine then_n ?_
    refine wp_region_lit ?_
    refine lv (d := 10) rfl rfl (by kernel_rfl) (e_move (v := .int .i64 x12) (by exact e18)) ?_
    refine lv (d := 11) rfl rfl (by kernel_rfl) (e_add (k := .i64) (a := x12) (b := 1) (by kernel_rfl) rfl) ?_
    refine lv (d := 5) rfl rfl (by kernel_rfl) (e_assign (v := .int .i64 (IntKind.i64.wrap (x12 + 1))) (by kernel_rfl)) ?_
    refine wpList_nil ?_
    refine then_n ?_
    exact ⟨k24, (by omega), _, H64, t61.1, (IntKind.i64.wrap (x12 + 1)), (or2 F67 G47), ((x14.set ((x12).toNat) ({(x14.getD ((x12).toNat) z63) with var := x11})).set ((x12).toNat) ({((x14.set ((x12).toNat) ({(x14.getD ((x12).toNat) z63) with var := x11})).getD ((x12).toNat) z63) with term := t61.2})), rfl, (by exact e16), (by kernel_rfl), (by kernel_rfl), h74, (List.length_set.trans (List.length_set.trans n15)), (Y10.trans E71), S75, M⟩
  replace M := ifn q25 M
  refine cond_f rfl (bf q25 (by kernel_rfl)) ?_
  refine wp_exit ?_
  refine then_e ?_
  refine then_e ?_
  refine inb_hit ?_
  refine then_n ?_
  refine wp_seq ?_
  refine wp_region_lit ?_
  refine lv (d := 26) rfl rfl (by kernel_rfl) (e_move (v := .int .i64 x11) (by exact e17)) ?_
  refine lv (d := 4) rfl rfl (by kernel_rfl) (e_assign (v := .int .i64 x11) (by kernel_rfl)) ?_
  refine wpList_nil ?_
  refine then_n ?_
  refine wp_ret ?_
  obtain rfl := Option.some.inj M
  exact ret1 rfl rfl  (show _ = .int .i64 x11 from (by kernel_rfl)) ⟨F13, H9, rfl, n15, h4, S19⟩

/-! laws_heldByteS -/
def laws_heldByteS.l0 : Nat → (List UInt8) → Int → Int → Option Int
  | 0, _, _, _ => none
  | k19 + 1, x1, x9, x10 => (if x10 < (x1.length : Int) then (if 0 ≤ x10 then (if ((x1.getD ((x10).toNat) (0 : UInt8)).toNat : Int) ≠ ((b8 (x9)).toNat : Int) then some (-1) else (laws_heldByteS.l0 k19 x1 (IntKind.i64.wrap (x9 + 1)) (IntKind.i64.wrap (x10 + 1)))) else none) else some x9)
def laws_heldByteS.f (k : Nat) (x1 : List UInt8) (x6 : Int) : Option Int := (laws_heldByteS.l0 k x1 x6 0)
theorem laws_heldByteS.calls (k : Nat) (w : World) (H : Hp) (x1 : List UInt8) (A2 : Option Addr) (c3 : Nat) (x6 : Int) (h4 : Rd tByte H A2 x1) (l5 : x1.length ≤ c3) (S : Own [] H w) (r : Int) (M : laws_heldByteS.f k x1 x6 = some r) :
    Calls Try.prog 69 #[.slice A2 x1.length c3, .int .i64 x6] w (fun e e_w => e = .returned (.int .i64 r) ∧ Chg no w e_w) := by
  rw [laws_heldByteS.f] at M
  refine enter (l := [.slice A2 x1.length c3, .int .i64 x6]) 22 Try.func69 rfl rfl rfl ?_
  have S0_ := S.st
  refine wp_seq ?_
  refine wp_region_lit ?_
  refine lv (d := 4) rfl rfl (by kernel_rfl) (e_assign (v := .int .i64 0) rfl) ?_
  refine wpList_nil ?_
  refine then_n ?_
  refine wp_seq ?_
  refine wp_seq ?_
  refine wp_region_lit ?_
  refine lv (d := 5) rfl rfl (by kernel_rfl) (e_assign (v := .int .i64 0) rfl) ?_
  refine wpList_nil ?_
  refine then_n ?_
  refine wp_block ?_
  refine wp_loop_g (fun k17 a18 w7 => ∃ (f8 : Nat → Value) (x9 : Int) (x10 : Int), a18 = mk 22 f8 ∧ f8 0 = .slice A2 x1.length c3 ∧ f8 1 = .int .i64 x9 ∧ f8 5 = .int .i64 x10 ∧ St (anyOf []) H w [] H w7 ∧ laws_heldByteS.l0 k17 x1 x9 x10 = some r) k ⟨_, x6, 0, rfl, (by kernel_rfl), (by kernel_rfl), (by kernel_rfl), S0_, M⟩ ?_
  clear M
  rintro k17 a18 w7 ⟨f8, x9, x10, rfl, e11, e12, e13, S14, M⟩
  rcases k17 with _ | k19
  · rw [laws_heldByteS.l0] at M
    cases M
  rw [laws_heldByteS.l0] at M
  refine wp_seq ?_
  refine wp_seq ?_
  refine wp_region_lit ?_
  refine lv (d := 6) rfl rfl (by kernel_rfl) (e_move (v := .int .i64 x10) (by exact e13)) ?_
  refine lv (d := 7) rfl rfl (by kernel_rfl) (e_move (v := .slice A2 x1.length c3) (by exact e11)) ?_
  refine lv (d := 8) rfl rfl (by kernel_rfl) (e_len (A := A2) (n := x1.length) (c := c3) Try.underlying59 (by kernel_rfl)) ?_
  refine lv (d := 9) rfl rfl (by kernel_rfl) (e_lss (k := .i64) (a := x10) (b := (x1.length : Int)) (by kernel_rfl) (by kernel_rfl)) ?_
  refine wpList_nil ?_
  refine then_n ?_
  by_cases q20 : x10 < (x1.length : Int)
  · replace M := ifp q20 M
    refine cond_t rfl (bt q20 (by kernel_rfl)) ?_
    refine wp_skip ?_
    refine then_n ?_
    refine wp_seq ?_
    refine wp_block ?_
    refine wp_seq ?_
    refine wp_seq ?_
    refine wp_region_lit ?_
    refine lv (d := 12) rfl rfl (by kernel_rfl) (e_move (v := .slice A2 x1.length c3) (by exact e11)) ?_
    refine lv (d := 13) rfl rfl (by kernel_rfl) (e_move (v := .int .i64 x10) (by exact e13)) ?_
    obtain ⟨q21, M⟩ := chk M
    obtain ⟨b22, o23, e24⟩ := Rd.addr h4 (show (x10).toNat < x1.length by omega)
    obtain ⟨y25, r26, k27⟩ := Rd.at h4 e24 (getD_some (0 : UInt8) (show (x10).toNat < x1.length by omega))
    obtain rfl := r26
    refine lv (d := 14) rfl rfl (by kernel_rfl) (e_indexAddr (b := b22) (off := o23) (n := x1.length) (c := c3) (sz := 1) (i := x10) (k := .i64) Try.underlying59 e24 (by kernel_rfl) (by kernel_rfl) (by kernel_rfl) q21 q20) ?_
    refine lv (d := 15) rfl rfl (by kernel_rfl) (e_load1 (ad := ⟨b22, o23 + (x10 : Int).toNat * 1, none⟩) (v := .int .u8 ((x1.getD ((x10).toNat) (0 : UInt8)).toNat : Int)) Try.underlying5 rfl (by kernel_rfl) (hpx (S14.inv.cell (k27 0 _ rfl)))) ?_
    refine lv (d := 16) rfl rfl (by kernel_rfl) (e_move (v := .int .i64 x9) (by exact e12)) ?_
    refine lv (d := 17) rfl rfl (by kernel_rfl) (e_conv_i8 (k := .i64) (a := x9) (by kernel_rfl) Try.underlying5 (by kernel_rfl)) ?_
    refine lv (d := 18) rfl rfl (by kernel_rfl) (e_neq (k := .u8) (a := ((x1.getD ((x10).toNat) (0 : UInt8)).toNat : Int)) (b := ((b8 (x9)).toNat : Int)) (by kernel_rfl) (by kernel_rfl)) ?_
    refine wpList_nil ?_
    refine then_n ?_
    by_cases q28 : ((x1.getD ((x10).toNat) (0 : UInt8)).toNat : Int) ≠ ((b8 (x9)).toNat : Int)
    · replace M := ifp q28 M
      refine cond_t rfl (bt q28 (by kernel_rfl)) ?_
      refine wp_seq ?_
      refine wp_region_lit ?_
      refine lv (d := 4) rfl rfl (by kernel_rfl) (e_assign (v := .int .i64 (-1)) rfl) ?_
      refine wpList_nil ?_
      refine then_n ?_
      refine wp_ret ?_
      refine then_r ?_
      refine inb_r ?_
      refine then_r ?_
      refine then_r ?_
      refine inb_r ?_
      refine then_r ?_
      obtain rfl := Option.some.inj M
      exact ret1 rfl rfl  (show _ = .int .i64 (-1) from (by kernel_rfl)) ⟨rfl, S14.chg⟩
    replace M := ifn q28 M
    refine cond_f rfl (bf q28 (by kernel_rfl)) ?_
    refine wp_skip ?_
    refine then_n ?_
    refine wp_region_lit ?_
    refine lv (d := 19) rfl rfl (by kernel_rfl) (e_move (v := .int .i64 x9) (by exact e12)) ?_
    refine lv (d := 20) rfl rfl (by kernel_rfl) (e_add (k := .i64) (a := x9) (b := 1) (by kernel_rfl) rfl) ?_
    refine lv (d := 1) rfl rfl (by kernel_rfl) (e_assign (v := .int .i64 (IntKind.i64.wrap (x9 + 1))) (by kernel_rfl)) ?_
    refine wpList_nil ?_
    refine inb_n ?_
    refine then_n ?_
    refine wp_region_lit ?_
    refine lv (d := 10) rfl rfl (by kernel_rfl) (e_move (v := .int .i64 x10) (by exact e13)) ?_
    refine lv (d := 11) rfl rfl (by kernel_rfl) (e_add (k := .i64) (a := x10) (b := 1) (by kernel_rfl) rfl) ?_
    refine lv (d := 5) rfl rfl (by kernel_rfl) (e_assign (v := .int .i64 (IntKind.i64.wrap (x10 + 1))) (by kernel_rfl)) ?_
    refine wpList_nil ?_
    refine then_n ?_
    exact ⟨k19, (by omega), _, (IntKind.i64.wrap (x9 + 1)), (IntKind.i64.wrap (x10 + 1)), rfl, (by exact e11), (by kernel_rfl), (by kernel_rfl), S14, M⟩
  replace M := ifn q20 M
  refine cond_f rfl (bf q20 (by kernel_rfl)) ?_
  refine wp_exit ?_
  refine then_e ?_
  refine then_e ?_
  refine inb_hit ?_
  refine then_n ?_
  refine wp_seq ?_
  refine wp_region_lit ?_
  refine lv (d := 21) rfl rfl (by kernel_rfl) (e_move (v := .int .i64 x9) (by exact e12)) ?_
  refine lv (d := 4) rfl rfl (by kernel_rfl) (e_assign (v := .int .i64 x9) (by kernel_rfl)) ?_
  refine wpList_nil ?_
  refine then_n ?_
  refine wp_ret ?_
  obtain rfl := Option.some.inj M
  exact ret1 rfl rfl  (show _ = .int .i64 x9 from (by kernel_rfl)) ⟨rfl, S14.chg⟩

/-! laws_heldCellS -/
def laws_heldCellS.l0 : Nat → (List Cell) → Int → Int → Option Int
  | 0, _, _, _ => none
  | k19 + 1, x1, x9, x10 => (if x10 < (x1.length : Int) then (if 0 ≤ x10 then (if ((x1.getD ((x10).toNat) z65).kind) ≠ x9 then some (-1) else (if ((x1.getD ((x10).toNat) z65).n) ≠ (IntKind.i64.wrap (x9 + 1)) then some (-1) else ((laws_heldByteS.f k19 ((x1.getD ((x10).toNat) z65).text) (IntKind.i64.wrap ((IntKind.i64.wrap (x9 + 1)) + 1))).bind fun t54 => (if t54 < 0 then some (-1) else (laws_heldCellS.l0 k19 x1 t54 (IntKind.i64.wrap (x10 + 1))))))) else none) else some x9)
def laws_heldCellS.f (k : Nat) (x1 : List Cell) (x6 : Int) : Option Int := (laws_heldCellS.l0 k x1 x6 0)
theorem laws_heldCellS.calls (k : Nat) (w : World) (H : Hp) (x1 : List Cell) (A2 : Option Addr) (c3 : Nat) (x6 : Int) (h4 : Rd st65 H A2 x1) (l5 : x1.length ≤ c3) (S : Own [] H w) (r : Int) (M : laws_heldCellS.f k x1 x6 = some r) :
    Calls Try.prog 29 #[.slice A2 x1.length c3, .int .i64 x6] w (fun e e_w => e = .returned (.int .i64 r) ∧ Chg no w e_w) := by
  rw [laws_heldCellS.f] at M
  refine enter (l := [.slice A2 x1.length c3, .int .i64 x6]) 40 Try.func29 rfl rfl rfl ?_
  have S0_ := S.st
  refine wp_seq ?_
  refine wp_region_lit ?_
  refine lv (d := 4) rfl rfl (by kernel_rfl) (e_assign (v := .int .i64 0) rfl) ?_
  refine wpList_nil ?_
  refine then_n ?_
  refine wp_seq ?_
  refine wp_seq ?_
  refine wp_region_lit ?_
  refine lv (d := 5) rfl rfl (by kernel_rfl) (e_assign (v := .int .i64 0) rfl) ?_
  refine wpList_nil ?_
  refine then_n ?_
  refine wp_block ?_
  refine wp_loop_g (fun k17 a18 w7 => ∃ (f8 : Nat → Value) (x9 : Int) (x10 : Int), a18 = mk 40 f8 ∧ f8 0 = .slice A2 x1.length c3 ∧ f8 1 = .int .i64 x9 ∧ f8 5 = .int .i64 x10 ∧ St (anyOf []) H w [] H w7 ∧ laws_heldCellS.l0 k17 x1 x9 x10 = some r) k ⟨_, x6, 0, rfl, (by kernel_rfl), (by kernel_rfl), (by kernel_rfl), S0_, M⟩ ?_
  clear M
  rintro k17 a18 w7 ⟨f8, x9, x10, rfl, e11, e12, e13, S14, M⟩
  rcases k17 with _ | k19
  · rw [laws_heldCellS.l0] at M
    cases M
  rw [laws_heldCellS.l0] at M
  refine wp_seq ?_
  refine wp_seq ?_
  refine wp_region_lit ?_
  refine lv (d := 6) rfl rfl (by kernel_rfl) (e_move (v := .int .i64 x10) (by exact e13)) ?_
  refine lv (d := 7) rfl rfl (by kernel_rfl) (e_move (v := .slice A2 x1.length c3) (by exact e11)) ?_
  refine lv (d := 8) rfl rfl (by kernel_rfl) (e_len (A := A2) (n := x1.length) (c := c3) Try.underlying25 (by kernel_rfl)) ?_
  refine lv (d := 9) rfl rfl (by kernel_rfl) (e_lss (k := .i64) (a := x10) (b := (x1.length : Int)) (by kernel_rfl) (by kernel_rfl)) ?_
  refine wpList_nil ?_
  refine then_n ?_
  by_cases q20 : x10 < (x1.length : Int)
  · replace M := ifp q20 M
    refine cond_t rfl (bt q20 (by kernel_rfl)) ?_
    refine wp_skip ?_
    refine then_n ?_
    refine wp_seq ?_
    refine wp_block ?_
    refine wp_seq ?_
    refine wp_seq ?_
    refine wp_region_lit ?_
    refine lv (d := 12) rfl rfl (by kernel_rfl) (e_move (v := .slice A2 x1.length c3) (by exact e11)) ?_
    refine lv (d := 13) rfl rfl (by kernel_rfl) (e_move (v := .int .i64 x10) (by exact e13)) ?_
    obtain ⟨q21, M⟩ := chk M
    obtain ⟨b22, o23, e24⟩ := Rd.addr h4 (show (x10).toNat < x1.length by omega)
    obtain ⟨y25, r26, k27⟩ := Rd.at h4 e24 (getD_some z65 (show (x10).toNat < x1.length by omega))
    obtain ⟨A28, c29, rfl, l30, h31⟩ := st65_open r26
    refine lv (d := 14) rfl rfl (by kernel_rfl) (e_indexAddr (b := b22) (off := o23) (n := x1.length) (c := c3) (sz := 3) (i := x10) (k := .i64) Try.underlying25 e24 (by kernel_rfl) (by kernel_rfl) (by kernel_rfl) q21 q20) ?_
    refine lv (d := 15) rfl rfl (by kernel_rfl) (e_fieldAddr (b := b22) (off := o23 + (x10 : Int).toNat * 3) (o := 0) Try.underlying65 rfl rfl (sz := 1) (by kernel_rfl) (by decide) (by kernel_rfl)) ?_
    refine lv (d := 16) rfl rfl (by kernel_rfl) (e_load1 (ad := ⟨b22, o23 + (x10 : Int).toNat * 3 + 0, none⟩) (v := .int .i64 ((x1.getD ((x10).toNat) z65).kind)) Try.underlying3 rfl (by kernel_rfl) (hpx (S14.inv.cell (k27 0 _ rfl)))) ?_
    refine lv (d := 17) rfl rfl (by kernel_rfl) (e_move (v := .int .i64 x9) (by exact e12)) ?_
    refine lv (d := 18) rfl rfl (by kernel_rfl) (e_neq (k := .i64) (a := (x1.getD ((x10).toNat) z65).kind) (b := x9) (by kernel_rfl) (by kernel_rfl)) ?_
    refine wpList_nil ?_
    refine then_n ?_
    by_cases q32 : ((x1.getD ((x10).toNat) z65).kind) ≠ x9
    · replace M := ifp q32 M
      refine cond_t rfl (bt q32 (by kernel_rfl)) ?_
      refine wp_seq ?_
      refine wp_region_lit ?_
      refine lv (d := 4) rfl rfl (by kernel_rfl) (e_assign (v := .int .i64 (-1)) rfl) ?_
      refine wpList_nil ?_
      refine then_n ?_
      refine wp_ret ?_
      refine then_r ?_
      refine inb_r ?_
      refine then_r ?_
      refine then_r ?_
      refine inb_r ?_
      refine then_r ?_
      obtain rfl := Option.some.inj M
      exact ret1 rfl rfl  (show _ = .int .i64 (-1) from (by kernel_rfl)) ⟨rfl, S14.chg⟩
    replace M := ifn q32 M
    refine cond_f rfl (bf q32 (by kernel_rfl)) ?_
    refine wp_skip ?_
    refine then_n ?_
    refine wp_seq ?_
    refine wp_region_lit ?_
    refine lv (d := 19) rfl rfl (by kernel_rfl) (e_move (v := .int .i64 x9) (by exact e12)) ?_
    refine lv (d := 20) rfl rfl (by kernel_rfl) (e_add (k := .i64) (a := x9) (b := 1) (by kernel_rfl) rfl) ?_
    refine lv (d := 1) rfl rfl (by kernel_rfl) (e_assign (v := .int .i64 (IntKind.i64.wrap (x9 + 1))) (by kernel_rfl)) ?_
    refine wpList_nil ?_
    refine then_n ?_
    refine wp_seq ?_
    refine wp_seq ?_
    refine wp_region_lit ?_
    refine lv (d := 21) rfl rfl (by kernel_rfl) (e_move (v := .slice A2 x1.length c3) (by exact e11)) ?_
    refine lv (d := 22) rfl rfl (by kernel_rfl) (e_move (v := .int .i64 x10) (by exact e13)) ?_
    obtain ⟨b33, o34, e35⟩ := Rd.addr h4 (show (x10).toNat < x1.length by omega)
    obtain ⟨y36, r37, k38⟩ := Rd.at h4 e35 (getD_some z65 (show (x10).toNat < x1.length by omega))
    obtain ⟨A39, c40, rfl, l41, h42⟩ := st65_open r37
    refine lv (d := 23) rfl rfl (by kernel_rfl) (e_indexAddr (b := b33) (off := o34) (n := x1.length) (c := c3) (sz := 3) (i := x10) (k := .i64) Try.underlying25 e35 (by kernel_rfl) (by kernel_rfl) (by kernel_rfl) q21 q20) ?_
    refine lv (d := 24) rfl rfl (by kernel_rfl) (e_fieldAddr (b := b33) (off := o34 + (x10 : Int).toNat * 3) (o := 1) Try.underlying65 rfl rfl (sz := 1) (by kernel_rfl) (by decide) (by kernel_rfl)) ?_
    refine lv (d := 25) rfl rfl (by kernel_rfl) (e_load1 (ad := ⟨b33, o34 + (x10 : Int).toNat * 3 + 1, none⟩) (v := .int .i64 ((x1.getD ((x10).toNat) z65).n)) Try.underlying3 rfl (by kernel_rfl) (hpx (S14.inv.cell (k38 1 _ rfl)))) ?_
    refine lv (d := 26) rfl rfl (by kernel_rfl) (e_move (v := .int .i64 (IntKind.i64.wrap (x9 + 1))) (by kernel_rfl)) ?_
    refine lv (d := 27) rfl rfl (by kernel_rfl) (e_neq (k := .i64) (a := (x1.getD ((x10).toNat) z65).n) (b := (IntKind.i64.wrap (x9 + 1))) (by kernel_rfl) (by kernel_rfl)) ?_
    refine wpList_nil ?_
    refine then_n ?_
    by_cases q43 : ((x1.getD ((x10).toNat) z65).n) ≠ (IntKind.i64.wrap (x9 + 1))
    · replace M := ifp q43 M
      refine cond_t rfl (bt q43 (by kernel_rfl)) ?_
      refine wp_seq ?_
      refine wp_region_lit ?_
      refine lv (d := 4) rfl rfl (by kernel_rfl) (e_assign (v := .int .i64 (-1)) rfl) ?_
      refine wpList_nil ?_
      refine then_n ?_
      refine wp_ret ?_
      refine then_r ?_
      refine inb_r ?_
      refine then_r ?_
      refine then_r ?_
      refine inb_r ?_
      refine then_r ?_
      obtain rfl := Option.some.inj M
      exact ret1 rfl rfl  (show _ = .int .i64 (-1) from (by kernel_rfl)) ⟨rfl, S14.chg⟩
    replace M := ifn q43 M
    refine cond_f rfl (bf q43 (by kernel_rfl)) ?_
    refine wp_skip ?_
    refine then_n ?_
    refine wp_seq ?_
    refine wp_region_lit ?_
    refine lv (d := 28) rfl rfl (by kernel_rfl) (e_move (v := .int .i64 (IntKind.i64.wrap (x9 + 1))) (by kernel_rfl)) ?_
    refine lv (d := 29) rfl rfl (by kernel_rfl) (e_add (k := .i64) (a := (IntKind.i64.wrap (x9 + 1))) (b := 1) (by kernel_rfl) rfl) ?_
    refine lv (d := 1) rfl rfl (by kernel_rfl) (e_assign (v := .int .i64 (IntKind.i64.wrap ((IntKind.i64.wrap (x9 + 1)) + 1))) (by kernel_rfl)) ?_
    refine wpList_nil ?_
    refine then_n ?_
    refine wp_seq ?_
    refine wp_region_lit ?_
    refine lv (d := 30) rfl rfl (by kernel_rfl) (e_move (v := .slice A2 x1.length c3) (by exact e11)) ?_
    refine lv (d := 31) rfl rfl (by kernel_rfl) (e_move (v := .int .i64 x10) (by exact e13)) ?_
    obtain ⟨b44, o45, e46⟩ := Rd.addr h4 (show (x10).toNat < x1.length by omega)
    obtain ⟨y47, r48, k49⟩ := Rd.at h4 e46 (getD_some z65 (show (x10).toNat < x1.length by omega))
    obtain ⟨A50, c51, rfl, l52, h53⟩ := st65_open r48
    refine lv (d := 32) rfl rfl (by kernel_rfl) (e_indexAddr (b := b44) (off := o45) (n := x1.length) (c := c3) (sz := 3) (i := x10) (k := .i64) Try.underlying25 e46 (by kernel_rfl) (by kernel_rfl) (by kernel_rfl) q21 q20) ?_
    refine lv (d := 33) rfl rfl (by kernel_rfl) (e_fieldAddr (b := b44) (off := o45 + (x10 : Int).toNat * 3) (o := 2) Try.underlying65 rfl rfl (sz := 1) (by kernel_rfl) (by decide) (by kernel_rfl)) ?_
    refine lv (d := 34) rfl rfl (by kernel_rfl) (e_load1 (ad := ⟨b44, o45 + (x10 : Int).toNat * 3 + 2, none⟩) (v := .slice A50 ((x1.getD ((x10).toNat) z65).text).length c51) Try.underlying59 rfl (by kernel_rfl) (hpx (S14.inv.cell (k49 2 _ rfl)))) ?_
    refine lv (d := 35) rfl rfl (by kernel_rfl) (e_move (v := .int .i64 (IntKind.i64.wrap ((IntKind.i64.wrap (x9 + 1)) + 1))) (by kernel_rfl)) ?_
    obtain ⟨t54, u55, M⟩ := bnd M
    refine lcall (d := 36) rfl rfl (by kernel_rfl) (e_call (l := [.tmp 34, .tmp 35]) (vs := [.slice A50 ((x1.getD ((x10).toNat) z65).text).length c51, .int .i64 (IntKind.i64.wrap ((IntKind.i64.wrap (x9 + 1)) + 1))]) Try.func69 (by kernel_rfl) rfl (by kernel_rfl) rfl) (laws_heldByteS.calls k19 w7 H ((x1.getD ((x10).toNat) z65).text) A50 c51 (IntKind.i64.wrap ((IntKind.i64.wrap (x9 + 1)) + 1)) h53 l52 S14.own0 t54 u55) ?_
    rintro _ w56 ⟨rfl, C57⟩
    refine ⟨_, rfl, ?_⟩
    obtain ⟨S58, K59⟩ := S14.still C57
    refine lv (d := 1) rfl rfl (by kernel_rfl) (e_assign (v := .int .i64 t54) (by kernel_rfl)) ?_
    refine wpList_nil ?_
    refine then_n ?_
    refine wp_seq ?_
    refine wp_region_lit ?_
    refine lv (d := 37) rfl rfl (by kernel_rfl) (e_move (v := .int .i64 t54) (by kernel_rfl)) ?_
    refine lv (d := 38) rfl rfl (by kernel_rfl) (e_lss (k := .i64) (a := t54) (b := 0) (by kernel_rfl) rfl) ?_
    refine wpList_nil ?_
    refine then_n ?_
    by_cases q60 : t54 < 0
    · replace M := ifp q60 M
      refine cond_t rfl (bt q60 (by kernel_rfl)) ?_
      refine wp_seq ?_
      refine wp_region_lit ?_
      refine lv (d := 4) rfl rfl (by kernel_rfl) (e_assign (v := .int .i64 (-1)) rfl) ?_
      refine wpList_nil ?_
      refine then_n ?_
      refine wp_ret ?_
      refine inb_r ?_
      refine then_r ?_
      refine then_r ?_
      refine inb_r ?_
      refine then_r ?_
      obtain rfl := Option.some.inj M
      exact ret1 rfl rfl  (show _ = .int .i64 (-1) from (by kernel_rfl)) ⟨rfl, S58.chg⟩
    replace M := ifn q60 M
    refine cond_f rfl (bf q60 (by kernel_rfl)) ?_
    refine wp_skip ?_
    refine inb_n ?_
    refine then_n ?_
    refine wp_region_lit ?_
    refine lv (d := 10) rfl rfl (by kernel_rfl) (e_move (v := .int .i64 x10) (by exact e13)) ?_
    refine lv (d := 11) rfl rfl (by kernel_rfl) (e_add (k := .i64) (a := x10) (b := 1) (by kernel_rfl) rfl) ?_
    refine lv (d := 5) rfl rfl (by kernel_rfl) (e_assign (v := .int .i64 (IntKind.i64.wrap (x10 + 1))) (by kernel_rfl)) ?_
    refine wpList_nil ?_
    refine then_n ?_
    exact ⟨k19, (by omega), _, t54, (IntKind.i64.wrap (x10 + 1)), rfl, (by exact e11), (by kernel_rfl), (by kernel_rfl), S58, M⟩
  replace M := ifn q20 M
  refine cond_f rfl (bf q20 (by kernel_rfl)) ?_
  refine wp_exit ?_
  refine then_e ?_
  refine then_e ?_
  refine inb_hit ?_
  refine then_n ?_
  refine wp_seq ?_
  refine wp_region_lit ?_
  refine lv (d := 39) rfl rfl (by kernel_rfl) (e_move (v := .int .i64 x9) (by exact e12)) ?_
  refine lv (d := 4) rfl rfl (by kernel_rfl) (e_assign (v := .int .i64 x9) (by kernel_rfl)) ?_
  refine wpList_nil ?_
  refine then_n ?_
  refine wp_ret ?_
  obtain rfl := Option.some.inj M
  exact ret1 rfl rfl  (show _ = .int .i64 x9 from (by kernel_rfl)) ⟨rfl, S14.chg⟩

/-! laws_FnExactApply -/
def laws_FnExactApply.f (k : Nat) (x1 : List Binding) (x6 : List Cell) : Option Bool := ((laws_szBindingS.f k x1 1048576).bind fun t11 => (if t11 < 0 then some true else ((laws_szCellS.f k x6 t11).bind fun t18 => (if t18 < 0 then some true else ((laws_toBindingS.f k x1).bind fun t25 => ((laws_toCellS.f k x6).bind fun t37 => ((spec_Apply.f k t25 t37).bind fun t62 => ((laws_toBindingS.f k x1).bind fun t74 => ((laws_toCellS.f k x6).bind fun t86 => ((impl_Apply.f k t74 t86).bind fun t114 => ((laws_eqCellS.f k t114.1 t62.1).bind fun t133 => (if ¬ (t133 = true) then some false else (if t114.2 ≠ t62.2 then some false else ((laws_toBindingS.f k x1).bind fun t155 => ((laws_eqBindingS.f k t74 t155).bind fun t167 => (if ¬ (t167 = true) then some false else ((laws_toCellS.f k x6).bind fun t187 => ((laws_eqCellS.f k t86 t187).bind fun t199 => (if ¬ (t199 = true) then some false else ((laws_markBindingS_2.f k t74 1).bind fun t220 => ((laws_markCellS_2.f k t86 t220.1).bind fun t232 => (if t232.1 < 0 then some false else ((laws_eqCellS.f k t114.1 t62.1).bind fun t244 => (if ¬ (t244 = true) then some false else ((laws_markCellS_2.f k t114.1 1).bind fun t266 => ((laws_heldCellS.f k t266.2 1).bind fun t277 => (if t277 < 0 then some false else (if t277 ≠ t266.1 then some false else ((laws_toBindingS.f k x1).bind fun t291 => ((laws_toCellS.f k x6).bind fun t303 => ((impl_Apply.f k t291 t303).bind fun t328 => ((laws_eqCellS.f k t328.1 t62.1).bind fun t340 => (if ¬ (t340 = true) then some false else (if t328.2 ≠ t62.2 then some false else ((laws_heldCellS.f k t266.2 1).bind fun t361 => (if t361 < 0 then some false else (if t361 ≠ t266.1 then some false else some true)))))))))))))))))))))))))))))))))))))
theorem laws_FnExactApply.calls (k : Nat) (w : World) (H : Hp) (x1 : List Binding) (A2 : Option Addr) (c3 : Nat) (x6 : List Cell) (A7 : Option Addr) (c8 : Nat) (h4 : Rd st98 H A2 x1) (l5 : x1.length ≤ c3) (h9 : Rd st68 H A7 x6) (l10 : x6.length ≤ c8) (S : Own [] H w) (r : Bool) (M : laws_FnExactApply.f k x1 x6 = some r) :
    Calls Try.prog 11 #[.slice A2 x1.length c3, .slice A7 x6.length c8] w (fun e e_w => e = .returned (.bool r) ∧ Chg no w e_w) := by
  rw [laws_FnExactApply.f] at M
  refine enter (l := [.slice A2 x1.length c3, .slice A7 x6.length c8]) 119 Try.func11 rfl rfl rfl ?_
  have S0_ := S.st
  refine wp_seq ?_
  refine wp_region_lit ?_
  refine lv (d := 4) rfl rfl (by kernel_rfl) (e_assign (v := .bool false) rfl) ?_
  refine wpList_nil ?_
  refine then_n ?_
  refine wp_seq ?_
  refine wp_region_lit ?_
  refine lv (d := 5) rfl rfl (by kernel_rfl) (e_assign (v := .int .i64 1048576) rfl) ?_
  refine wpList_nil ?_
  refine then_n ?_
  refine wp_seq ?_
  refine wp_region_lit ?_
  refine lv (d := 17) rfl rfl (by kernel_rfl) (e_move (v := .slice A2 x1.length c3) (by kernel_rfl)) ?_
  refine lv (d := 18) rfl rfl (by kernel_rfl) (e_move (v := .int .i64 1048576) (by kernel_rfl)) ?_
  obtain ⟨t11, u12, M⟩ := bnd M
  refine lcall (d := 19) rfl rfl (by kernel_rfl) (e_call (l := [.tmp 17, .tmp 18]) (vs := [.slice A2 x1.length c3, .int .i64 1048576]) Try.func43 (by kernel_rfl) rfl (by kernel_rfl) rfl) (laws_szBindingS.calls k w H x1 A2 c3 1048576 h4 l5 S0_.own0 t11 u12) ?_
  rintro _ w13 ⟨rfl, C14⟩
  refine ⟨_, rfl, ?_⟩
  obtain ⟨S15, K16⟩ := S0_.still C14
  refine lv (d := 5) rfl rfl (by kernel_rfl) (e_assign (v := .int .i64 t11) (by kernel_rfl)) ?_
  refine wpList_nil ?_
  refine then_n ?_
  refine wp_seq ?_
  refine wp_seq ?_
  refine wp_region_lit ?_
  refine lv (d := 20) rfl rfl (by kernel_rfl) (e_move (v := .int .i64 t11) (by kernel_rfl)) ?_
  refine lv (d := 21) rfl rfl (by kernel_rfl) (e_lss (k := .i64) (a := t11) (b := 0) (by kernel_rfl) rfl) ?_
  refine wpList_nil ?_
  refine then_n ?_
  by_cases q17 : t11 < 0
  · replace M := ifp q17 M
    refine cond_t rfl (bt q17 (by kernel_rfl)) ?_
    refine wp_seq ?_
    refine wp_region_lit ?_
    refine lv (d := 4) rfl rfl (by kernel_rfl) (e_assign (v := .bool true) rfl) ?_
    refine wpList_nil ?_
    refine then_n ?_
    refine wp_ret ?_
    refine then_r ?_
    obtain rfl := Option.some.inj M
    exact ret1 rfl rfl  (show _ = .bool true from (by kernel_rfl)) ⟨rfl, S15.chg⟩
  replace M := ifn q17 M
  refine cond_f rfl (bf q17 (by kernel_rfl)) ?_
  refine wp_skip ?_
  refine then_n ?_
  refine wp_seq ?_
  refine wp_region_lit ?_
  refine lv (d := 22) rfl rfl (by kernel_rfl) (e_move (v := .slice A7 x6.length c8) (by kernel_rfl)) ?_
  refine lv (d := 23) rfl rfl (by kernel_rfl) (e_move (v := .int .i64 t11) (by kernel_rfl)) ?_
  obtain ⟨t18, u19, M⟩ := bnd M
  refine lcall (d := 24) rfl rfl (by kernel_rfl) (e_call (l := [.tmp 22, .tmp 23]) (vs := [.slice A7 x6.length c8, .int .i64 t11]) Try.func14 (by kernel_rfl) rfl (by kernel_rfl) rfl) (laws_szCellS.calls k w13 H x6 A7 c8 t11 h9 l10 S15.own0 t18 u19) ?_
  rintro _ w20 ⟨rfl, C21⟩
  refine ⟨_, rfl, ?_⟩
  obtain ⟨S22, K23⟩ := S15.still C21
  refine lv (d := 5) rfl rfl (by kernel_rfl) (e_assign (v := .int .i64 t18) (by kernel_rfl)) ?_
  refine wpList_nil ?_
  refine then_n ?_
  refine wp_seq ?_
  refine wp_seq ?_
  refine wp_region_lit ?_
  refine lv (d := 25) rfl rfl (by kernel_rfl) (e_move (v := .int .i64 t18) (by kernel_rfl)) ?_
  refine lv (d := 26) rfl rfl (by kernel_rfl) (e_lss (k := .i64) (a := t18) (b := 0) (by kernel_rfl) rfl) ?_
  refine wpList_nil ?_
  refine then_n ?_
  by_cases q24 : t18 < 0
  · replace M := ifp q24 M
    refine cond_t rfl (bt q24 (by kernel_rfl)) ?_
    refine wp_seq ?_
    refine wp_region_lit ?_
    refine lv (d := 4) rfl rfl (by kernel_rfl) (e_assign (v := .bool true) rfl) ?_
    refine wpList_nil ?_
    refine then_n ?_
    refine wp_ret ?_
    refine then_r ?_
    obtain rfl := Option.some.inj M
    exact ret1 rfl rfl  (show _ = .bool true from (by kernel_rfl)) ⟨rfl, S22.chg⟩
  replace M := ifn q24 M
  refine cond_f rfl (bf q24 (by kernel_rfl)) ?_
  refine wp_skip ?_
  refine then_n ?_
  refine wp_seq ?_
  refine wp_region_lit ?_
  refine lv (d := 28) rfl rfl (by kernel_rfl) (e_move (v := .slice A2 x1.length c3) (by kernel_rfl)) ?_
  obtain ⟨t25, u26, M⟩ := bnd M
  refine lcall (d := 29) rfl rfl (by kernel_rfl) (e_call (l := [.tmp 28]) (vs := [.slice A2 x1.length c3]) Try.func45 (by kernel_rfl) rfl (by kernel_rfl) rfl) (laws_toBindingS.calls k w20 H x1 A2 c3 h4 l5 (St.own' (Fa := []) (Fr := []) S22) t25 u26) ?_
  rintro _ w27 ⟨A30, c31, F33, H28, rfl, h32, T29⟩
  refine ⟨_, rfl, ?_⟩
  obtain ⟨S34, K35⟩ := St.call (Fa := []) (Fr := []) S22 T29
  have E36 := T29.ext
  refine lv (d := 30) rfl rfl (by kernel_rfl) (e_move (v := .slice A7 x6.length c8) (by kernel_rfl)) ?_
  obtain ⟨t37, u38, M⟩ := bnd M
  refine lcall (d := 31) rfl rfl (by kernel_rfl) (e_call (l := [.tmp 30]) (vs := [.slice A7 x6.length c8]) Try.func16 (by kernel_rfl) rfl (by kernel_rfl) rfl) (laws_toCellS.calls k w27 H28 x6 A7 c8 (h9.ext E36) l10 (St.own' (Fa := []) (Fr := [F33]) S34) t37 u38) ?_
  rintro _ w39 ⟨A42, c43, F45, H40, rfl, h44, T41⟩
  refine ⟨_, rfl, ?_⟩
  obtain ⟨S46, K47⟩ := St.call (Fa := []) (Fr := [F33]) S34 T41
  replace h32 := h32.move (K47.at 0 rfl)
  have E48 := T41.ext
  replace h32 := h32.ext E48
  have l49 := h32.le
  have S50 := S46.pull (F := F33) (Fr := [F45]) 1 rfl rfl
  obtain ⟨H51, S52, E53, h54, z55⟩ := S50.frzRow h32
  replace h44 := h44.ext E53
  have l56 := h44.le
  obtain ⟨H57, S58, E59, h60, z61⟩ := S52.frzRow h44
  obtain ⟨t62, u63, M⟩ := bnd M
  refine lcall (d := 32) rfl rfl (by kernel_rfl) (e_call (l := [.tmp 29, .tmp 31]) (vs := [.slice A30 t25.length c31, .slice A42 t37.length c43]) Try.func44 (by kernel_rfl) rfl (by kernel_rfl) rfl) (spec_Apply.calls k w39 H57 t25 A30 c31 t37 A42 c43 (h54.ext E59) l49 h60 l56 (St.own' (Fa := []) (Fr := []) S58) t62 u63) ?_
  rintro _ w64 ⟨A67, c68, F70, H65, rfl, h69, T66⟩
  refine ⟨_, rfl, ?_⟩
  obtain ⟨S71, K72⟩ := St.call (Fa := []) (Fr := []) S58 T66
  have E73 := T66.ext
  refine lv (d := 27) rfl rfl (by kernel_rfl) (e_move (v := .tuple #[.slice A67 t62.1.length c68, .int .i64 t62.2]) (by kernel_rfl)) ?_
  refine lv (d := 33) rfl rfl (by kernel_rfl) (e_extract (vs := #[.slice A67 t62.1.length c68, .int .i64 t62.2]) (v := .slice A67 t62.1.length c68) (by kernel_rfl) rfl) ?_
  refine lv (d := 34) rfl rfl (by kernel_rfl) (e_extract (vs := #[.slice A67 t62.1.length c68, .int .i64 t62.2]) (v := .int .i64 t62.2) (by kernel_rfl) rfl) ?_
  refine lv (d := 6) rfl rfl (by kernel_rfl) (e_assign (v := .slice A67 t62.1.length c68) (by kernel_rfl)) ?_
  refine lv (d := 7) rfl rfl (by kernel_rfl) (e_assign (v := .int .i64 t62.2) (by kernel_rfl)) ?_
  refine wpList_nil ?_
  refine then_n ?_
  refine wp_seq ?_
  refine wp_region_lit ?_
  refine lv (d := 35) rfl rfl (by kernel_rfl) (e_move (v := .slice A2 x1.length c3) (by kernel_rfl)) ?_
  obtain ⟨t74, u75, M⟩ := bnd M
  refine lcall (d := 36) rfl rfl (by kernel_rfl) (e_call (l := [.tmp 35]) (vs := [.slice A2 x1.length c3]) Try.func45 (by kernel_rfl) rfl (by kernel_rfl) rfl) (laws_toBindingS.calls k w64 H65 x1 A2 c3 (h4.ext ((((E36.trans E48).trans E53).trans E59).trans E73)) l5 (St.own' (Fa := []) (Fr := [F70]) S71) t74 u75) ?_
  rintro _ w76 ⟨A79, c80, F82, H77, rfl, h81, T78⟩
  refine ⟨_, rfl, ?_⟩
  obtain ⟨S83, K84⟩ := St.call (Fa := []) (Fr := [F70]) S71 T78
  replace h69 := h69.move (K84.at 0 rfl)
  have E85 := T78.ext
  replace h69 := h69.ext E85
  refine lv (d := 8) rfl rfl (by kernel_rfl) (e_assign (v := .slice A79 t74.length c80) (by kernel_rfl)) ?_
  refine wpList_nil ?_
  refine then_n ?_
  refine wp_seq ?_
  refine wp_region_lit ?_
  refine lv (d := 37) rfl rfl (by kernel_rfl) (e_move (v := .slice A7 x6.length c8) (by kernel_rfl)) ?_
  obtain ⟨t86, u87, M⟩ := bnd M
  refine lcall (d := 38) rfl rfl (by kernel_rfl) (e_call (l := [.tmp 37]) (vs := [.slice A7 x6.length c8]) Try.func16 (by kernel_rfl) rfl (by kernel_rfl) rfl) (laws_toCellS.calls k w76 H77 x6 A7 c8 (h9.ext (((((E36.trans E48).trans E53).trans E59).trans E73).trans E85)) l10 (St.own' (Fa := []) (Fr := [F82, F70]) S83) t86 u87) ?_
  rintro _ w88 ⟨A91, c92, F94, H89, rfl, h93, T90⟩
  refine ⟨_, rfl, ?_⟩
  obtain ⟨S95, K96⟩ := St.call (Fa := []) (Fr := [F82, F70]) S83 T90
  replace h81 := h81.move (K96.at 0 rfl)
  replace h69 := h69.move (K96.at 1 rfl)
  have E97 := T90.ext
  replace h81 := h81.ext E97
  replace h69 := h69.ext E97
  refine lv (d := 9) rfl rfl (by kernel_rfl) (e_assign (v := .slice A91 t86.length c92) (by kernel_rfl)) ?_
  refine wpList_nil ?_
  refine then_n ?_
  refine wp_seq ?_
  refine wp_region_lit ?_
  refine lv (d := 40) rfl rfl (by kernel_rfl) (e_move (v := .slice A79 t74.length c80) (by kernel_rfl)) ?_
  refine lv (d := 41) rfl rfl (by kernel_rfl) (e_move (v := .slice A91 t86.length c92) (by kernel_rfl)) ?_
  have S98 := S95.pull (F := F82) (Fr := [F94, F70]) 1 rfl rfl
  have l99 := h81.le
  obtain ⟨H100, S101, E102, h103, z104⟩ := S98.frzRow h81
  have h105 := h93.ext E102
  have h106 := h69.ext E102
  have l107 := h105.le
  obtain ⟨H108, S109, E110, h111, z112⟩ := S101.frzRow h105
  have h113 := h106.ext E110
  obtain ⟨t114, u115, M⟩ := bnd M
  refine lcall (d := 42) rfl rfl (by kernel_rfl) (e_call (l := [.tmp 40, .tmp 41]) (vs := [.slice A79 t74.length c80, .slice A91 t86.length c92]) Try.func46 (by kernel_rfl) rfl (by kernel_rfl) rfl) (impl_Apply.calls k w88 H108 t74 A79 c80 t86 A91 c92 (h103.ext E110) l99 h111 l107 S109.own0 t114 u115) ?_
  rintro _ w116 ⟨A119, c120, F122, H117, rfl, h121, T118⟩
  refine ⟨_, rfl, ?_⟩
  obtain ⟨S123, K124⟩ := St.call (Fa := []) (Fr := [F70]) S109 T118
  replace h69 := h69.move (K124.at 0 rfl)
  obtain ⟨H125, S126, E127, v128⟩ := St.thaw S101 z112 S123 T118.ext E110 T118.size
  replace h93 := h93.move v128
  obtain ⟨H129, S130, E131, v132⟩ := St.thaw S98 z104 S126 E127 E102 T118.size
  replace h81 := h81.move v132
  replace h81 := h81.ext E131
  replace h93 := h93.ext E131
  replace h69 := h69.ext E131
  replace h121 := Row.free (H' := H129) (free_iso (free_pair (free_scal _ _) (free_pair (free_scal _ _) (free_slice (free_scal _ _))))) h121
  refine lv (d := 39) rfl rfl (by kernel_rfl) (e_move (v := .tuple #[.slice A119 t114.1.length c120, .int .i64 t114.2]) (by kernel_rfl)) ?_
  refine lv (d := 43) rfl rfl (by kernel_rfl) (e_extract (vs := #[.slice A119 t114.1.length c120, .int .i64 t114.2]) (v := .slice A119 t114.1.length c120) (by kernel_rfl) rfl) ?_
  refine lv (d := 44) rfl rfl (by kernel_rfl) (e_extract (vs := #[.slice A119 t114.1.length c120, .int .i64 t114.2]) (v := .int .i64 t114.2) (by kernel_rfl) rfl) ?_
  refine lv (d := 10) rfl rfl (by kernel_rfl) (e_assign (v := .slice A119 t114.1.length c120) (by kernel_rfl)) ?_
  refine lv (d := 11) rfl rfl (by kernel_rfl) (e_assign (v := .int .i64 t114.2) (by kernel_rfl)) ?_
  refine wpList_nil ?_
  refine then_n ?_
  refine wp_seq ?_
  refine wp_seq ?_
  refine wp_region_lit ?_
  refine lv (d := 45) rfl rfl (by kernel_rfl) (e_move (v := .slice A119 t114.1.length c120) (by kernel_rfl)) ?_
  refine lv (d := 46) rfl rfl (by kernel_rfl) (e_move (v := .slice A67 t62.1.length c68) (by kernel_rfl)) ?_
  obtain ⟨t133, u134, M⟩ := bnd M
  refine lcall (d := 47) rfl rfl (by kernel_rfl) (e_call (l := [.tmp 45, .tmp 46]) (vs := [.slice A119 t114.1.length c120, .slice A67 t62.1.length c68]) Try.func18 (by kernel_rfl) rfl (by kernel_rfl) rfl) (by have l135 := h121.le; have S136 := S130.pull (F := F122) (Fr := [F82, F94, F70]) 2 rfl rfl; obtain ⟨H137, S138, E139, h140, z141⟩ := S136.frzRow h121; replace h81 := h81.ext E139; replace h93 := h93.ext E139; replace h69 := h69.ext E139; have l142 := h69.le; have S143 := S138.pull (F := F70) (Fr := [F82, F94]) 2 rfl rfl; obtain ⟨H144, S145, E146, h147, z148⟩ := S143.frzRow h69; replace h81 := h81.ext E146; replace h93 := h93.ext E146; exact (laws_eqCellS.calls k w116 H144 t114.1 A119 c120 t62.1 A67 c68 (h140.ext E146) l135 h147 l142 S145.own0 t133 u134)) ?_
  rintro _ w149 ⟨rfl, C150⟩
  refine ⟨_, rfl, ?_⟩
  obtain ⟨S151, K152⟩ := S130.still C150
  replace h81 := h81.move (K152.at 0 rfl)
  replace h93 := h93.move (K152.at 1 rfl)
  replace h121 := h121.move (K152.at 2 rfl)
  replace h69 := h69.move (K152.at 3 rfl)
  refine lv (d := 48) rfl rfl (by kernel_rfl) (e_notv (c := t133) (by kernel_rfl)) ?_
  refine lv (d := 49) rfl rfl (by kernel_rfl) (e_move (v := .bool (decide (¬ (t133 = true)))) (by kernel_rfl)) ?_
  by_cases q153 : ¬ (t133 = true)
  · replace M := ifp q153 M
    refine lskip (t := 49) (c := true) rfl (by kernel_rfl) rfl (bt q153 (by kernel_rfl)) rfl rfl ?_
    refine lskip (t := 49) (c := true) rfl (by kernel_rfl) rfl (bt q153 (by kernel_rfl)) rfl rfl ?_
    refine lskip (t := 49) (c := true) rfl (by kernel_rfl) rfl (bt q153 (by kernel_rfl)) rfl rfl ?_
    refine lv (d := 53) rfl rfl (by kernel_rfl) (e_pick_t (v := .bool true) (bt q153 (by kernel_rfl)) rfl) ?_
    refine wpList_nil ?_
    refine then_n ?_
    refine cond_t rfl (by kernel_rfl) ?_
    refine wp_seq ?_
    refine wp_region_lit ?_
    refine lv (d := 4) rfl rfl (by kernel_rfl) (e_assign (v := .bool false) rfl) ?_
    refine wpList_nil ?_
    refine then_n ?_
    refine wp_ret ?_
    refine then_r ?_
    obtain rfl := Option.some.inj M
    exact ret1 rfl rfl  (show _ = .bool false from (by kernel_rfl)) ⟨rfl, S151.chg⟩
  replace M := ifn q153 M
  refine lvg (d := 50) (t := 49) rfl (by kernel_rfl) rfl (bf q153 (by kernel_rfl)) rfl (by kernel_rfl) (e_move (v := .int .i64 t114.2) (by kernel_rfl)) ?_
  refine lvg (d := 51) (t := 49) rfl (by kernel_rfl) rfl (bf q153 (by kernel_rfl)) rfl (by kernel_rfl) (e_move (v := .int .i64 t62.2) (by kernel_rfl)) ?_
  refine lvg (d := 52) (t := 49) rfl (by kernel_rfl) rfl (bf q153 (by kernel_rfl)) rfl (by kernel_rfl) (e_neq (k := .i64) (a := t114.2) (b := t62.2) (by kernel_rfl) (by kernel_rfl)) ?_
  refine lv (d := 53) rfl rfl (by kernel_rfl) (e_pick_f (v := .bool (decide (t114.2 ≠ t62.2))) (bf q153 (by kernel_rfl)) (by kernel_rfl)) ?_
  refine wpList_nil ?_
  refine then_n ?_
  by_cases q154 : t114.2 ≠ t62.2
  · replace M := ifp q154 M
    refine cond_t rfl (bt q154 (by kernel_rfl)) ?_
    refine wp_seq ?_
    refine wp_region_lit ?_
    refine lv (d := 4) rfl rfl (by kernel_rfl) (e_assign (v := .bool false) rfl) ?_
    refine wpList_nil ?_
    refine then_n ?_
    refine wp_ret ?_
    refine then_r ?_
    obtain rfl := Option.some.inj M
    exact ret1 rfl rfl  (show _ = .bool false from (by kernel_rfl)) ⟨rfl, S151.chg⟩
  replace M := ifn q154 M
  refine cond_f rfl (bf q154 (by kernel_rfl)) ?_
  refine wp_skip ?_
  refine then_n ?_
  refine wp_seq ?_
  refine wp_seq ?_
  refine wp_region_lit ?_
  refine lv (d := 54) rfl rfl (by kernel_rfl) (e_move (v := .slice A79 t74.length c80) (by kernel_rfl)) ?_
  refine lv (d := 55) rfl rfl (by kernel_rfl) (e_move (v := .slice A2 x1.length c3) (by kernel_rfl)) ?_
  obtain ⟨t155, u156, M⟩ := bnd M
  refine lcall (d := 56) rfl rfl (by kernel_rfl) (e_call (l := [.tmp 55]) (vs := [.slice A2 x1.length c3]) Try.func45 (by kernel_rfl) rfl (by kernel_rfl) rfl) (laws_toBindingS.calls k w149 H129 x1 A2 c3 (h4.ext (((((((E36.trans E48).trans E53).trans E59).trans E73).trans E85).trans E97).trans E131)) l5 (St.own' (Fa := []) (Fr := [F82, F94, F122, F70]) S151) t155 u156) ?_
  rintro _ w157 ⟨A160, c161, F163, H158, rfl, h162, T159⟩
  refine ⟨_, rfl, ?_⟩
  obtain ⟨S164, K165⟩ := St.call (Fa := []) (Fr := [F82, F94, F122, F70]) S151 T159
  replace h81 := h81.move (K165.at 0 rfl)
  replace h93 := h93.move (K165.at 1 rfl)
  replace h121 := h121.move (K165.at 2 rfl)
  replace h69 := h69.move (K165.at 3 rfl)
  have E166 := T159.ext
  replace h81 := h81.ext E166
  replace h93 := h93.ext E166
  replace h121 := h121.ext E166
  replace h69 := h69.ext E166
  obtain ⟨t167, u168, M⟩ := bnd M
  refine lcall (d := 57) rfl rfl (by kernel_rfl) (e_call (l := [.tmp 54, .tmp 56]) (vs := [.slice A79 t74.length c80, .slice A160 t155.length c161]) Try.func47 (by kernel_rfl) rfl (by kernel_rfl) rfl) (by have l169 := h81.le; have S170 := S164.pull (F := F82) (Fr := [F163, F94, F122, F70]) 1 rfl rfl; obtain ⟨H171, S172, E173, h174, z175⟩ := S170.frzRow h81; replace h162 := h162.ext E173; replace h93 := h93.ext E173; replace h121 := h121.ext E173; replace h69 := h69.ext E173; have l176 := h162.le; obtain ⟨H177, S178, E179, h180, z181⟩ := S172.frzRow h162; replace h93 := h93.ext E179; replace h121 := h121.ext E179; replace h69 := h69.ext E179; exact (laws_eqBindingS.calls k w157 H177 t74 A79 c80 t155 A160 c161 (h174.ext E179) l169 h180 l176 S178.own0 t167 u168)) ?_
  rintro _ w182 ⟨rfl, C183⟩
  refine ⟨_, rfl, ?_⟩
  obtain ⟨S184, K185⟩ := S164.still C183
  replace h162 := h162.move (K185.at 0 rfl)
  replace h81 := h81.move (K185.at 1 rfl)
  replace h93 := h93.move (K185.at 2 rfl)
  replace h121 := h121.move (K185.at 3 rfl)
  replace h69 := h69.move (K185.at 4 rfl)
  refine lv (d := 58) rfl rfl (by kernel_rfl) (e_notv (c := t167) (by kernel_rfl)) ?_
  refine wpList_nil ?_
  refine then_n ?_
  by_cases q186 : ¬ (t167 = true)
  · replace M := ifp q186 M
    refine cond_t rfl (bt q186 (by kernel_rfl)) ?_
    refine wp_seq ?_
    refine wp_region_lit ?_
    refine lv (d := 4) rfl rfl (by kernel_rfl) (e_assign (v := .bool false) rfl) ?_
    refine wpList_nil ?_
    refine then_n ?_
    refine wp_ret ?_
    refine then_r ?_
    obtain rfl := Option.some.inj M
    exact ret1 rfl rfl  (show _ = .bool false from (by kernel_rfl)) ⟨rfl, S184.chg⟩
  replace M := ifn q186 M
  refine cond_f rfl (bf q186 (by kernel_rfl)) ?_
  refine wp_skip ?_
  refine then_n ?_
  refine wp_seq ?_
  refine wp_seq ?_
  refine wp_region_lit ?_
  refine lv (d := 59) rfl rfl (by kernel_rfl) (e_move (v := .slice A91 t86.length c92) (by kernel_rfl)) ?_
  refine lv (d := 60) rfl rfl (by kernel_rfl) (e_move (v := .slice A7 x6.length c8) (by kernel_rfl)) ?_
  obtain ⟨t187, u188, M⟩ := bnd M
  refine lcall (d := 61) rfl rfl (by kernel_rfl) (e_call (l := [.tmp 60]) (vs := [.slice A7 x6.length c8]) Try.func16 (by kernel_rfl) rfl (by kernel_rfl) rfl) (laws_toCellS.calls k w182 H158 x6 A7 c8 (h9.ext ((((((((E36.trans E48).trans E53).trans E59).trans E73).trans E85).trans E97).trans E131).trans E166)) l10 (St.own' (Fa := []) (Fr := [F163, F82, F94, F122, F70]) S184) t187 u188) ?_
  rintro _ w189 ⟨A192, c193, F195, H190, rfl, h194, T191⟩
  refine ⟨_, rfl, ?_⟩
  obtain ⟨S196, K197⟩ := St.call (Fa := []) (Fr := [F163, F82, F94, F122, F70]) S184 T191
  replace h162 := h162.move (K197.at 0 rfl)
  replace h81 := h81.move (K197.at 1 rfl)
  replace h93 := h93.move (K197.at 2 rfl)
  replace h121 := h121.move (K197.at 3 rfl)
  replace h69 := h69.move (K197.at 4 rfl)
  have E198 := T191.ext
  replace h162 := h162.ext E198
  replace h81 := h81.ext E198
  replace h93 := h93.ext E198
  replace h121 := h121.ext E198
  replace h69 := h69.ext E198
  obtain ⟨t199, u200, M⟩ := bnd M
  refine lcall (d := 62) rfl rfl (by kernel_rfl) (e_call (l := [.tmp 59, .tmp 61]) (vs := [.slice A91 t86.length c92, .slice A192 t187.length c193]) Try.func18 (by kernel_rfl) rfl (by kernel_rfl) rfl) (by have l201 := h93.le; have S202 := S196.pull (F := F94) (Fr := [F195, F163, F82, F122, F70]) 3 rfl rfl; obtain ⟨H203, S204, E205, h206, z207⟩ := S202.frzRow h93; replace h194 := h194.ext E205; replace h162 := h162.ext E205; replace h81 := h81.ext E205; replace h121 := h121.ext E205; replace h69 := h69.ext E205; have l208 := h194.le; obtain ⟨H209, S210, E211, h212, z213⟩ := S204.frzRow h194; replace h162 := h162.ext E211; replace h81 := h81.ext E211; replace h121 := h121.ext E211; replace h69 := h69.ext E211; exact (laws_eqCellS.calls k w189 H209 t86 A91 c92 t187 A192 c193 (h206.ext E211) l201 h212 l208 S210.own0 t199 u200)) ?_
  rintro _ w214 ⟨rfl, C215⟩
  refine ⟨_, rfl, ?_⟩
  obtain ⟨S216, K217⟩ := S196.still C215
  replace h194 := h194.move (K217.at 0 rfl)
  replace h162 := h162.move (K217.at 1 rfl)
  replace h81 := h81.move (K217.at 2 rfl)
  replace h93 := h93.move (K217.at 3 rfl)
  replace h121 := h121.move (K217.at 4 rfl)
  replace h69 := h69.move (K217.at 5 rfl)
  refine lv (d := 63) rfl rfl (by kernel_rfl) (e_notv (c := t199) (by kernel_rfl)) ?_
  refine wpList_nil ?_
  refine then_n ?_
  by_cases q218 : ¬ (t199 = true)
  · replace M := ifp q218 M
    refine cond_t rfl (bt q218 (by kernel_rfl)) ?_
    refine wp_seq ?_
    refine wp_region_lit ?_
    refine lv (d := 4) rfl rfl (by kernel_rfl) (e_assign (v := .bool false) rfl) ?_
    refine wpList_nil ?_
    refine then_n ?_
    refine wp_ret ?_
    refine then_r ?_
    obtain rfl := Option.some.inj M
    exact ret1 rfl rfl  (show _ = .bool false from (by kernel_rfl)) ⟨rfl, S216.chg⟩
  replace M := ifn q218 M
  refine cond_f rfl (bf q218 (by kernel_rfl)) ?_
  refine wp_skip ?_
  refine then_n ?_
  refine wp_seq ?_
  refine wp_region_lit ?_
  refine lv (d := 12) rfl rfl (by kernel_rfl) (e_assign (v := .int .i64 1) rfl) ?_
  refine wpList_nil ?_
  refine then_n ?_
  refine wp_seq ?_
  refine wp_region_lit ?_
  refine lv (d := 64) rfl rfl (by kernel_rfl) (e_move (v := .slice A79 t74.length c80) (by kernel_rfl)) ?_
  refine lv (d := 65) rfl rfl (by kernel_rfl) (e_move (v := .int .i64 1) (by kernel_rfl)) ?_
  have S219 := S216.pull (F := F82) (Fr := [F195, F163, F94, F122, F70]) 2 rfl rfl
  obtain ⟨t220, u221, M⟩ := bnd M
  refine lcall (d := 66) rfl rfl (by kernel_rfl) (e_call (l := [.tmp 64, .tmp 65]) (vs := [.slice A79 t74.length c80, .int .i64 1]) Try.func48 (by kernel_rfl) rfl (by kernel_rfl) rfl) (laws_markBindingS_2.calls k w214 H190 t74 A79 c80 F82 1 h81 (St.own' (Fa := [F82]) (Fr := [F195, F163, F94, F122, F70]) S219) t220 u221) ?_
  rintro _ w222 ⟨F226, H223, rfl, n227, h225, T224⟩
  refine ⟨_, rfl, ?_⟩
  obtain ⟨S228, K229⟩ := St.call (Fa := [F82]) (Fr := [F195, F163, F94, F122, F70]) S219 T224
  replace h194 := h194.move (K229.at 0 rfl)
  replace h162 := h162.move (K229.at 1 rfl)
  replace h93 := h93.move (K229.at 2 rfl)
  replace h121 := h121.move (K229.at 3 rfl)
  replace h69 := h69.move (K229.at 4 rfl)
  have E230 := T224.ext
  replace h194 := h194.ext E230
  replace h162 := h162.ext E230
  replace h93 := h93.ext E230
  replace h121 := h121.ext E230
  replace h69 := h69.ext E230
  refine lv (d := 12) rfl rfl (by kernel_rfl) (e_assign (v := .int .i64 t220.1) (by kernel_rfl)) ?_
  refine wpList_nil ?_
  refine then_n ?_
  refine wp_seq ?_
  refine wp_region_lit ?_
  refine lv (d := 67) rfl rfl (by kernel_rfl) (e_move (v := .slice A91 t86.length c92) (by kernel_rfl)) ?_
  refine lv (d := 68) rfl rfl (by kernel_rfl) (e_move (v := .int .i64 t220.1) (by kernel_rfl)) ?_
  have S231 := S228.pull (F := F94) (Fr := [F226, F195, F163, F122, F70]) 3 rfl rfl
  obtain ⟨t232, u233, M⟩ := bnd M
  refine lcall (d := 69) rfl rfl (by kernel_rfl) (e_call (l := [.tmp 67, .tmp 68]) (vs := [.slice A91 t86.length c92, .int .i64 t220.1]) Try.func24 (by kernel_rfl) rfl (by kernel_rfl) rfl) (laws_markCellS_2.calls k w222 H223 t86 A91 c92 F94 t220.1 h93 (St.own' (Fa := [F94]) (Fr := [F226, F195, F163, F122, F70]) S231) t232 u233) ?_
  rintro _ w234 ⟨F238, H235, rfl, n239, h237, T236⟩
  refine ⟨_, rfl, ?_⟩
  obtain ⟨S240, K241⟩ := St.call (Fa := [F94]) (Fr := [F226, F195, F163, F122, F70]) S231 T236
  replace h225 := h225.move (K241.at 0 rfl)
  replace h194 := h194.move (K241.at 1 rfl)
  replace h162 := h162.move (K241.at 2 rfl)
  replace h121 := h121.move (K241.at 3 rfl)
  replace h69 := h69.move (K241.at 4 rfl)
  have E242 := T236.ext
  replace h225 := h225.ext E242
  replace h194 := h194.ext E242
  replace h162 := h162.ext E242
  replace h121 := h121.ext E242
  replace h69 := h69.ext E242
  refine lv (d := 12) rfl rfl (by kernel_rfl) (e_assign (v := .int .i64 t232.1) (by kernel_rfl)) ?_
  refine wpList_nil ?_
  refine then_n ?_
  refine wp_seq ?_
  refine wp_seq ?_
  refine wp_region_lit ?_
  refine lv (d := 70) rfl rfl (by kernel_rfl) (e_move (v := .int .i64 t232.1) (by kernel_rfl)) ?_
  refine lv (d := 71) rfl rfl (by kernel_rfl) (e_lss (k := .i64) (a := t232.1) (b := 0) (by kernel_rfl) rfl) ?_
  refine lv (d := 72) rfl rfl (by kernel_rfl) (e_move (v := .bool (decide (t232.1 < 0))) (by kernel_rfl)) ?_
  by_cases q243 : t232.1 < 0
  · replace M := ifp q243 M
    refine lskip (t := 72) (c := true) rfl (by kernel_rfl) rfl (bt q243 (by kernel_rfl)) rfl rfl ?_
    refine lskip (t := 72) (c := true) rfl (by kernel_rfl) rfl (bt q243 (by kernel_rfl)) rfl rfl ?_
    refine lskip (t := 72) (c := true) rfl (by kernel_rfl) rfl (bt q243 (by kernel_rfl)) rfl rfl ?_
    refine lskip (t := 72) (c := true) rfl (by kernel_rfl) rfl (bt q243 (by kernel_rfl)) rfl rfl ?_
    refine lv (d := 77) rfl rfl (by kernel_rfl) (e_pick_t (v := .bool true) (bt q243 (by kernel_rfl)) rfl) ?_
    refine lv (d := 78) rfl rfl (by kernel_rfl) (e_move (v := .bool true) (by kernel_rfl)) ?_
    refine lskip (t := 78) (c := true) rfl (by kernel_rfl) rfl (by kernel_rfl) rfl rfl ?_
    refine lskip (t := 78) (c := true) rfl (by kernel_rfl) rfl (by kernel_rfl) rfl rfl ?_
    refine lskip (t := 78) (c := true) rfl (by kernel_rfl) rfl (by kernel_rfl) rfl rfl ?_
    refine lv (d := 82) rfl rfl (by kernel_rfl) (e_pick_t (v := .bool true) (by kernel_rfl) rfl) ?_
    refine wpList_nil ?_
    refine then_n ?_
    refine cond_t rfl (by kernel_rfl) ?_
    refine wp_seq ?_
    refine wp_region_lit ?_
    refine lv (d := 4) rfl rfl (by kernel_rfl) (e_assign (v := .bool false) rfl) ?_
    refine wpList_nil ?_
    refine then_n ?_
    refine wp_ret ?_
    refine then_r ?_
    obtain rfl := Option.some.inj M
    exact ret1 rfl rfl  (show _ = .bool false from (by kernel_rfl)) ⟨rfl, S240.chg⟩
  replace M := ifn q243 M
  refine lvg (d := 73) (t := 72) rfl (by kernel_rfl) rfl (bf q243 (by kernel_rfl)) rfl (by kernel_rfl) (e_move (v := .slice A119 t114.1.length c120) (by kernel_rfl)) ?_
  refine lvg (d := 74) (t := 72) rfl (by kernel_rfl) rfl (bf q243 (by kernel_rfl)) rfl (by kernel_rfl) (e_move (v := .slice A67 t62.1.length c68) (by kernel_rfl)) ?_
  obtain ⟨t244, u245, M⟩ := bnd M
  refine lcallg (d := 75) (t := 72) rfl (by kernel_rfl) rfl (bf q243 (by kernel_rfl)) rfl (by kernel_rfl) (e_call (l := [.tmp 73, .tmp 74]) (vs := [.slice A119 t114.1.length c120, .slice A67 t62.1.length c68]) Try.func18 (by kernel_rfl) rfl (by kernel_rfl) rfl) (by have l246 := h121.le; have S247 := S240.pull (F := F122) (Fr := [F238, F226, F195, F163, F70]) 4 rfl rfl; obtain ⟨H248, S249, E250, h251, z252⟩ := S247.frzRow h121; replace h237 := h237.ext E250; replace h225 := h225.ext E250; replace h194 := h194.ext E250; replace h162 := h162.ext E250; replace h69 := h69.ext E250; have l253 := h69.le; have S254 := S249.pull (F := F70) (Fr := [F238, F226, F195, F163]) 4 rfl rfl; obtain ⟨H255, S256, E257, h258, z259⟩ := S254.frzRow h69; replace h237 := h237.ext E257; replace h225 := h225.ext E257; replace h194 := h194.ext E257; replace h162 := h162.ext E257; exact (laws_eqCellS.calls k w234 H255 t114.1 A119 c120 t62.1 A67 c68 (h251.ext E257) l246 h258 l253 S256.own0 t244 u245)) ?_
  rintro _ w260 ⟨rfl, C261⟩
  refine ⟨_, rfl, ?_⟩
  obtain ⟨S262, K263⟩ := S240.still C261
  replace h237 := h237.move (K263.at 0 rfl)
  replace h225 := h225.move (K263.at 1 rfl)
  replace h194 := h194.move (K263.at 2 rfl)
  replace h162 := h162.move (K263.at 3 rfl)
  replace h121 := h121.move (K263.at 4 rfl)
  replace h69 := h69.move (K263.at 5 rfl)
  refine lvg (d := 76) (t := 72) rfl (by kernel_rfl) rfl (bf q243 (by kernel_rfl)) rfl (by kernel_rfl) (e_notv (c := t244) (by kernel_rfl)) ?_
  refine lv (d := 77) rfl rfl (by kernel_rfl) (e_pick_f (v := .bool (decide (¬ (t244 = true)))) (bf q243 (by kernel_rfl)) (by kernel_rfl)) ?_
  refine lv (d := 78) rfl rfl (by kernel_rfl) (e_move (v := .bool (decide (¬ (t244 = true)))) (by kernel_rfl)) ?_
  by_cases q264 : ¬ (t244 = true)
  · replace M := ifp q264 M
    refine lskip (t := 78) (c := true) rfl (by kernel_rfl) rfl (bt q264 (by kernel_rfl)) rfl rfl ?_
    refine lskip (t := 78) (c := true) rfl (by kernel_rfl) rfl (bt q264 (by kernel_rfl)) rfl rfl ?_
    refine lskip (t := 78) (c := true) rfl (by kernel_rfl) rfl (bt q264 (by kernel_rfl)) rfl rfl ?_
    refine lv (d := 82) rfl rfl (by kernel_rfl) (e_pick_t (v := .bool true) (bt q264 (by kernel_rfl)) rfl) ?_
    refine wpList_nil ?_
    refine then_n ?_
    refine cond_t rfl (by kernel_rfl) ?_
    refine wp_seq ?_
    refine wp_region_lit ?_
    refine lv (d := 4) rfl rfl (by kernel_rfl) (e_assign (v := .bool false) rfl) ?_
    refine wpList_nil ?_
    refine then_n ?_
    refine wp_ret ?_
    refine then_r ?_
    obtain rfl := Option.some.inj M
    exact ret1 rfl rfl  (show _ = .bool false from (by kernel_rfl)) ⟨rfl, S262.chg⟩
  replace M := ifn q264 M
  refine lvg (d := 79) (t := 78) rfl (by kernel_rfl) rfl (bf q264 (by kernel_rfl)) rfl (by kernel_rfl) (e_move (v := .int .i64 t114.2) (by kernel_rfl)) ?_
  refine lvg (d := 80) (t := 78) rfl (by kernel_rfl) rfl (bf q264 (by kernel_rfl)) rfl (by kernel_rfl) (e_move (v := .int .i64 t62.2) (by kernel_rfl)) ?_
  refine lvg (d := 81) (t := 78) rfl (by kernel_rfl) rfl (bf q264 (by kernel_rfl)) rfl (by kernel_rfl) (e_neq (k := .i64) (a := t114.2) (b := t62.2) (by kernel_rfl) (by kernel_rfl)) ?_
  refine lv (d := 82) rfl rfl (by kernel_rfl) (e_pick_f (v := .bool (decide (t114.2 ≠ t62.2))) (bf q264 (by kernel_rfl)) (by kernel_rfl)) ?_
  refine wpList_nil ?_
  refine then_n ?_
  refine cond_f rfl (bf q154 (by kernel_rfl)) ?_
  refine wp_skip ?_
  refine then_n ?_
  refine wp_seq ?_
  refine wp_region_lit ?_
  refine lv (d := 13) rfl rfl (by kernel_rfl) (e_assign (v := .int .i64 1) rfl) ?_
  refine wpList_nil ?_
  refine then_n ?_
  refine wp_seq ?_
  refine wp_region_lit ?_
  refine lv (d := 83) rfl rfl (by kernel_rfl) (e_move (v := .slice A119 t114.1.length c120) (by kernel_rfl)) ?_
  refine lv (d := 84) rfl rfl (by kernel_rfl) (e_move (v := .int .i64 1) (by kernel_rfl)) ?_
  have S265 := S262.pull (F := F122) (Fr := [F238, F226, F195, F163, F70]) 4 rfl rfl
  obtain ⟨t266, u267, M⟩ := bnd M
  refine lcall (d := 85) rfl rfl (by kernel_rfl) (e_call (l := [.tmp 83, .tmp 84]) (vs := [.slice A119 t114.1.length c120, .int .i64 1]) Try.func24 (by kernel_rfl) rfl (by kernel_rfl) rfl) (laws_markCellS_2.calls k w260 H235 t114.1 A119 c120 F122 1 h121 (St.own' (Fa := [F122]) (Fr := [F238, F226, F195, F163, F70]) S265) t266 u267) ?_
  rintro _ w268 ⟨F272, H269, rfl, n273, h271, T270⟩
  refine ⟨_, rfl, ?_⟩
  obtain ⟨S274, K275⟩ := St.call (Fa := [F122]) (Fr := [F238, F226, F195, F163, F70]) S265 T270
  replace h237 := h237.move (K275.at 0 rfl)
  replace h225 := h225.move (K275.at 1 rfl)
  replace h194 := h194.move (K275.at 2 rfl)
  replace h162 := h162.move (K275.at 3 rfl)
  replace h69 := h69.move (K275.at 4 rfl)
  have E276 := T270.ext
  replace h237 := h237.ext E276
  replace h225 := h225.ext E276
  replace h194 := h194.ext E276
  replace h162 := h162.ext E276
  replace h69 := h69.ext E276
  refine lv (d := 13) rfl rfl (by kernel_rfl) (e_assign (v := .int .i64 t266.1) (by kernel_rfl)) ?_
  refine wpList_nil ?_
  refine then_n ?_
  refine wp_seq ?_
  refine wp_region_lit ?_
  refine lv (d := 14) rfl rfl (by kernel_rfl) (e_assign (v := .int .i64 1) rfl) ?_
  refine wpList_nil ?_
  refine then_n ?_
  refine wp_seq ?_
  refine wp_region_lit ?_
  refine lv (d := 86) rfl rfl (by kernel_rfl) (e_move (v := .slice A119 t114.1.length c120) (by kernel_rfl)) ?_
  refine lv (d := 87) rfl rfl (by kernel_rfl) (e_move (v := .int .i64 1) (by kernel_rfl)) ?_
  obtain ⟨t277, u278, M⟩ := bnd M
  refine lcall (d := 88) rfl rfl (by kernel_rfl) (e_call (l := [.tmp 86, .tmp 87]) (vs := [.slice A119 t114.1.length c120, .int .i64 1]) Try.func29 (by kernel_rfl) rfl (by kernel_rfl) rfl) (by have l279 := h271.le; obtain ⟨H280, S281, E282, h283, z284⟩ := S274.frzRow h271; replace h237 := h237.ext E282; replace h225 := h225.ext E282; replace h194 := h194.ext E282; replace h162 := h162.ext E282; replace h69 := h69.ext E282; exact (by have q_ := (laws_heldCellS.calls k w268 H280 t266.2 A119 c120 1 h283 l279 S281.own0 t277 u278); rw [(show t266.2.length = t114.1.length from n273)] at q_; exact q_)) ?_
  rintro _ w285 ⟨rfl, C286⟩
  refine ⟨_, rfl, ?_⟩
  obtain ⟨S287, K288⟩ := S274.still C286
  replace h271 := h271.move (K288.at 0 rfl)
  replace h237 := h237.move (K288.at 1 rfl)
  replace h225 := h225.move (K288.at 2 rfl)
  replace h194 := h194.move (K288.at 3 rfl)
  replace h162 := h162.move (K288.at 4 rfl)
  replace h69 := h69.move (K288.at 5 rfl)
  refine lv (d := 14) rfl rfl (by kernel_rfl) (e_assign (v := .int .i64 t277) (by kernel_rfl)) ?_
  refine wpList_nil ?_
  refine then_n ?_
  refine wp_seq ?_
  refine wp_seq ?_
  refine wp_region_lit ?_
  refine lv (d := 89) rfl rfl (by kernel_rfl) (e_move (v := .int .i64 t277) (by kernel_rfl)) ?_
  refine lv (d := 90) rfl rfl (by kernel_rfl) (e_lss (k := .i64) (a := t277) (b := 0) (by kernel_rfl) rfl) ?_
  refine wpList_nil ?_
  refine then_n ?_
  by_cases q289 : t277 < 0
  · replace M := ifp q289 M
    refine cond_t rfl (bt q289 (by kernel_rfl)) ?_
    refine wp_seq ?_
    refine wp_region_lit ?_
    refine lv (d := 4) rfl rfl (by kernel_rfl) (e_assign (v := .bool false) rfl) ?_
    refine wpList_nil ?_
    refine then_n ?_
    refine wp_ret ?_
    refine then_r ?_
    obtain rfl := Option.some.inj M
    exact ret1 rfl rfl  (show _ = .bool false from (by kernel_rfl)) ⟨rfl, S287.chg⟩
  replace M := ifn q289 M
  refine cond_f rfl (bf q289 (by kernel_rfl)) ?_
  refine wp_skip ?_
  refine then_n ?_
  refine wp_seq ?_
  refine wp_seq ?_
  refine wp_region_lit ?_
  refine lv (d := 91) rfl rfl (by kernel_rfl) (e_move (v := .int .i64 t277) (by kernel_rfl)) ?_
  refine lv (d := 92) rfl rfl (by kernel_rfl) (e_move (v := .int .i64 t266.1) (by kernel_rfl)) ?_
  refine lv (d := 93) rfl rfl (by kernel_rfl) (e_neq (k := .i64) (a := t277) (b := t266.1) (by kernel_rfl) (by kernel_rfl)) ?_
  refine wpList_nil ?_
  refine then_n ?_
  by_cases q290 : t277 ≠ t266.1
  · replace M := ifp q290 M
    refine cond_t rfl (bt q290 (by kernel_rfl)) ?_
    refine wp_seq ?_
    refine wp_region_lit ?_
    refine lv (d := 4) rfl rfl (by kernel_rfl) (e_assign (v := .bool false) rfl) ?_
    refine wpList_nil ?_
    refine then_n ?_
    refine wp_ret ?_
    refine then_r ?_
    obtain rfl := Option.some.inj M
    exact ret1 rfl rfl  (show _ = .bool false from (by kernel_rfl)) ⟨rfl, S287.chg⟩
  replace M := ifn q290 M
  refine cond_f rfl (bf q290 (by kernel_rfl)) ?_
  refine wp_skip ?_
  refine then_n ?_
  refine wp_seq ?_
  refine wp_region_lit ?_
  refine lv (d := 95) rfl rfl (by kernel_rfl) (e_move (v := .slice A2 x1.length c3) (by kernel_rfl)) ?_
  obtain ⟨t291, u292, M⟩ := bnd M
  refine lcall (d := 96) rfl rfl (by kernel_rfl) (e_call (l := [.tmp 95]) (vs := [.slice A2 x1.length c3]) Try.func45 (by kernel_rfl) rfl (by kernel_rfl) rfl) (laws_toBindingS.calls k w285 H269 x1 A2 c3 (h4.ext ((((((((((((E36.trans E48).trans E53).trans E59).trans E73).trans E85).trans E97).trans E131).trans E166).trans E198).trans E230).trans E242).trans E276)) l5 (St.own' (Fa := []) (Fr := [F272, F238, F226, F195, F163, F70]) S287) t291 u292) ?_
  rintro _ w293 ⟨A296, c297, F299, H294, rfl, h298, T295⟩
  refine ⟨_, rfl, ?_⟩
  obtain ⟨S300, K301⟩ := St.call (Fa := []) (Fr := [F272, F238, F226, F195, F163, F70]) S287 T295
  replace h271 := h271.move (K301.at 0 rfl)
  replace h237 := h237.move (K301.at 1 rfl)
  replace h225 := h225.move (K301.at 2 rfl)
  replace h194 := h194.move (K301.at 3 rfl)
  replace h162 := h162.move (K301.at 4 rfl)
  replace h69 := h69.move (K301.at 5 rfl)
  have E302 := T295.ext
  replace h271 := h271.ext E302
  replace h237 := h237.ext E302
  replace h225 := h225.ext E302
  replace h194 := h194.ext E302
  replace h162 := h162.ext E302
  replace h69 := h69.ext E302
  refine lv (d := 97) rfl rfl (by kernel_rfl) (e_move (v := .slice A7 x6.length c8) (by kernel_rfl)) ?_
  obtain ⟨t303, u304, M⟩ := bnd M
  refine lcall (d := 98) rfl rfl (by kernel_rfl) (e_call (l := [.tmp 97]) (vs := [.slice A7 x6.length c8]) Try.func16 (by kernel_rfl) rfl (by kernel_rfl) rfl) (laws_toCellS.calls k w293 H294 x6 A7 c8 (h9.ext (((((((((((((E36.trans E48).trans E53).trans E59).trans E73).trans E85).trans E97).trans E131).trans E166).trans E198).trans E230).trans E242).trans E276).trans E302)) l10 (St.own' (Fa := []) (Fr := [F299, F272, F238, F226, F195, F163, F70]) S300) t303 u304) ?_
  rintro _ w305 ⟨A308, c309, F311, H306, rfl, h310, T307⟩
  refine ⟨_, rfl, ?_⟩
  obtain ⟨S312, K313⟩ := St.call (Fa := []) (Fr := [F299, F272, F238, F226, F195, F163, F70]) S300 T307
  replace h298 := h298.move (K313.at 0 rfl)
  replace h271 := h271.move (K313.at 1 rfl)
  replace h237 := h237.move (K313.at 2 rfl)
  replace h225 := h225.move (K313.at 3 rfl)
  replace h194 := h194.move (K313.at 4 rfl)
  replace h162 := h162.move (K313.at 5 rfl)
  replace h69 := h69.move (K313.at 6 rfl)
  have E314 := T307.ext
  replace h298 := h298.ext E314
  replace h271 := h271.ext E314
  replace h237 := h237.ext E314
  replace h225 := h225.ext E314
  replace h194 := h194.ext E314
  replace h162 := h162.ext E314
  replace h69 := h69.ext E314
  have l315 := h298.le
  have S316 := S312.pull (F := F299) (Fr := [F311, F272, F238, F226, F195, F163, F70]) 1 rfl rfl
  obtain ⟨H317, S318, E319, h320, z321⟩ := S316.frzRow h298
  replace h310 := h310.ext E319
  replace h271 := h271.ext E319
  replace h237 := h237.ext E319
  replace h225 := h225.ext E319
  replace h194 := h194.ext E319
  replace h162 := h162.ext E319
  replace h69 := h69.ext E319
  have l322 := h310.le
  obtain ⟨H323, S324, E325, h326, z327⟩ := S318.frzRow h310
  replace h271 := h271.ext E325
  replace h237 := h237.ext E325
  replace h225 := h225.ext E325
  replace h194 := h194.ext E325
  replace h162 := h162.ext E325
  replace h69 := h69.ext E325
  obtain ⟨t328, u329, M⟩ := bnd M
  refine lcall (d := 99) rfl rfl (by kernel_rfl) (e_call (l := [.tmp 96, .tmp 98]) (vs := [.slice A296 t291.length c297, .slice A308 t303.length c309]) Try.func46 (by kernel_rfl) rfl (by kernel_rfl) rfl) (impl_Apply.calls k w305 H323 t291 A296 c297 t303 A308 c309 (h320.ext E325) l315 h326 l322 (St.own' (Fa := []) (Fr := [F272, F238, F226, F195, F163, F70]) S324) t328 u329) ?_
  rintro _ w330 ⟨A333, c334, F336, H331, rfl, h335, T332⟩
  refine ⟨_, rfl, ?_⟩
  obtain ⟨S337, K338⟩ := St.call (Fa := []) (Fr := [F272, F238, F226, F195, F163, F70]) S324 T332
  replace h271 := h271.move (K338.at 0 rfl)
  replace h237 := h237.move (K338.at 1 rfl)
  replace h225 := h225.move (K338.at 2 rfl)
  replace h194 := h194.move (K338.at 3 rfl)
  replace h162 := h162.move (K338.at 4 rfl)
  replace h69 := h69.move (K338.at 5 rfl)
  have E339 := T332.ext
  replace h271 := h271.ext E339
  replace h237 := h237.ext E339
  replace h225 := h225.ext E339
  replace h194 := h194.ext E339
  replace h162 := h162.ext E339
  replace h69 := h69.ext E339
  refine lv (d := 94) rfl rfl (by kernel_rfl) (e_move (v := .tuple #[.slice A333 t328.1.length c334, .int .i64 t328.2]) (by kernel_rfl)) ?_
  refine lv (d := 100) rfl rfl (by kernel_rfl) (e_extract (vs := #[.slice A333 t328.1.length c334, .int .i64 t328.2]) (v := .slice A333 t328.1.length c334) (by kernel_rfl) rfl) ?_
  refine lv (d := 101) rfl rfl (by kernel_rfl) (e_extract (vs := #[.slice A333 t328.1.length c334, .int .i64 t328.2]) (v := .int .i64 t328.2) (by kernel_rfl) rfl) ?_
  refine lv (d := 15) rfl rfl (by kernel_rfl) (e_assign (v := .slice A333 t328.1.length c334) (by kernel_rfl)) ?_
  refine lv (d := 16) rfl rfl (by kernel_rfl) (e_assign (v := .int .i64 t328.2) (by kernel_rfl)) ?_
  refine wpList_nil ?_
  refine then_n ?_
  refine wp_seq ?_
  refine wp_seq ?_
  refine wp_region_lit ?_
  refine lv (d := 102) rfl rfl (by kernel_rfl) (e_move (v := .slice A333 t328.1.length c334) (by kernel_rfl)) ?_
  refine lv (d := 103) rfl rfl (by kernel_rfl) (e_move (v := .slice A67 t62.1.length c68) (by kernel_rfl)) ?_
  obtain ⟨t340, u341, M⟩ := bnd M
  refine lcall (d := 104) rfl rfl (by kernel_rfl) (e_call (l := [.tmp 102, .tmp 103]) (vs := [.slice A333 t328.1.length c334, .slice A67 t62.1.length c68]) Try.func18 (by kernel_rfl) rfl (by kernel_rfl) rfl) (by have l342 := h335.le; obtain ⟨H343, S344, E345, h346, z347⟩ := S337.frzRow h335; replace h271 := h271.ext E345; replace h237 := h237.ext E345; replace h225 := h225.ext E345; replace h194 := h194.ext E345; replace h162 := h162.ext E345; replace h69 := h69.ext E345; have l348 := h69.le; have S349 := S344.pull (F := F70) (Fr := [F272, F238, F226, F195, F163]) 5 rfl rfl; obtain ⟨H350, S351, E352, h353, z354⟩ := S349.frzRow h69; replace h271 := h271.ext E352; replace h237 := h237.ext E352; replace h225 := h225.ext E352; replace h194 := h194.ext E352; replace h162 := h162.ext E352; exact (laws_eqCellS.calls k w330 H350 t328.1 A333 c334 t62.1 A67 c68 (h346.ext E352) l342 h353 l348 S351.own0 t340 u341)) ?_
  rintro _ w355 ⟨rfl, C356⟩
  refine ⟨_, rfl, ?_⟩
  obtain ⟨S357, K358⟩ := S337.still C356
  replace h335 := h335.move (K358.at 0 rfl)
  replace h271 := h271.move (K358.at 1 rfl)
  replace h237 := h237.move (K358.at 2 rfl)
  replace h225 := h225.move (K358.at 3 rfl)
  replace h194 := h194.move (K358.at 4 rfl)
  replace h162 := h162.move (K358.at 5 rfl)
  replace h69 := h69.move (K358.at 6 rfl)
  refine lv (d := 105) rfl rfl (by kernel_rfl) (e_notv (c := t340) (by kernel_rfl)) ?_
  refine lv (d := 106) rfl rfl (by kernel_rfl) (e_move (v := .bool (decide (¬ (t340 = true)))) (by kernel_rfl)) ?_
  by_cases q359 : ¬ (t340 = true)
  · replace M := ifp q359 M
    refine lskip (t := 106) (c := true) rfl (by kernel_rfl) rfl (bt q359 (by kernel_rfl)) rfl rfl ?_
    refine lskip (t := 106) (c := true) rfl (by kernel_rfl) rfl (bt q359 (by kernel_rfl)) rfl rfl ?_
    refine lskip (t := 106) (c := true) rfl (by kernel_rfl) rfl (bt q359 (by kernel_rfl)) rfl rfl ?_
    refine lv (d := 110) rfl rfl (by kernel_rfl) (e_pick_t (v := .bool true) (bt q359 (by kernel_rfl)) rfl) ?_
    refine wpList_nil ?_
    refine then_n ?_
    refine cond_t rfl (by kernel_rfl) ?_
    refine wp_seq ?_
    refine wp_region_lit ?_
    refine lv (d := 4) rfl rfl (by kernel_rfl) (e_assign (v := .bool false) rfl) ?_
    refine wpList_nil ?_
    refine then_n ?_
    refine wp_ret ?_
    refine then_r ?_
    obtain rfl := Option.some.inj M
    exact ret1 rfl rfl  (show _ = .bool false from (by kernel_rfl)) ⟨rfl, S357.chg⟩
  replace M := ifn q359 M
  refine lvg (d := 107) (t := 106) rfl (by kernel_rfl) rfl (bf q359 (by kernel_rfl)) rfl (by kernel_rfl) (e_move (v := .int .i64 t328.2) (by kernel_rfl)) ?_
  refine lvg (d := 108) (t := 106) rfl (by kernel_rfl) rfl (bf q359 (by kernel_rfl)) rfl (by kernel_rfl) (e_move (v := .int .i64 t62.2) (by kernel_rfl)) ?_
  refine lvg (d := 109) (t := 106) rfl (by kernel_rfl) rfl (bf q359 (by kernel_rfl)) rfl (by kernel_rfl) (e_neq (k := .i64) (a := t328.2) (b := t62.2) (by kernel_rfl) (by kernel_rfl)) ?_
  refine lv (d := 110) rfl rfl (by kernel_rfl) (e_pick_f (v := .bool (decide (t328.2 ≠ t62.2))) (bf q359 (by kernel_rfl)) (by kernel_rfl)) ?_
  refine wpList_nil ?_
  refine then_n ?_
  by_cases q360 : t328.2 ≠ t62.2
  · replace M := ifp q360 M
    refine cond_t rfl (bt q360 (by kernel_rfl)) ?_
    refine wp_seq ?_
    refine wp_region_lit ?_
    refine lv (d := 4) rfl rfl (by kernel_rfl) (e_assign (v := .bool false) rfl) ?_
    refine wpList_nil ?_
    refine then_n ?_
    refine wp_ret ?_
    refine then_r ?_
    obtain rfl := Option.some.inj M
    exact ret1 rfl rfl  (show _ = .bool false from (by kernel_rfl)) ⟨rfl, S357.chg⟩
  replace M := ifn q360 M
  refine cond_f rfl (bf q360 (by kernel_rfl)) ?_
  refine wp_skip ?_
  refine then_n ?_
  refine wp_seq ?_
  refine wp_region_lit ?_
  refine lv (d := 14) rfl rfl (by kernel_rfl) (e_assign (v := .int .i64 1) rfl) ?_
  refine wpList_nil ?_
  refine then_n ?_
  refine wp_seq ?_
  refine wp_region_lit ?_
  refine lv (d := 111) rfl rfl (by kernel_rfl) (e_move (v := .slice A119 t114.1.length c120) (by kernel_rfl)) ?_
  refine lv (d := 112) rfl rfl (by kernel_rfl) (e_move (v := .int .i64 1) (by kernel_rfl)) ?_
  obtain ⟨t361, u362, M⟩ := bnd M
  refine lcall (d := 113) rfl rfl (by kernel_rfl) (e_call (l := [.tmp 111, .tmp 112]) (vs := [.slice A119 t114.1.length c120, .int .i64 1]) Try.func29 (by kernel_rfl) rfl (by kernel_rfl) rfl) (by have l363 := h271.le; have S364 := S357.pull (F := F272) (Fr := [F336, F238, F226, F195, F163, F70]) 1 rfl rfl; obtain ⟨H365, S366, E367, h368, z369⟩ := S364.frzRow h271; replace h335 := h335.ext E367; replace h237 := h237.ext E367; replace h225 := h225.ext E367; replace h194 := h194.ext E367; replace h162 := h162.ext E367; replace h69 := h69.ext E367; exact (by have q_ := (laws_heldCellS.calls k w355 H365 t266.2 A119 c120 1 h368 l363 S366.own0 t361 u362); rw [(show t266.2.length = t114.1.length from n273)] at q_; exact q_)) ?_
  rintro _ w370 ⟨rfl, C371⟩
  refine ⟨_, rfl, ?_⟩
  obtain ⟨S372, K373⟩ := S357.still C371
  replace h335 := h335.move (K373.at 0 rfl)
  replace h271 := h271.move (K373.at 1 rfl)
  replace h237 := h237.move (K373.at 2 rfl)
  replace h225 := h225.move (K373.at 3 rfl)
  replace h194 := h194.move (K373.at 4 rfl)
  replace h162 := h162.move (K373.at 5 rfl)
  replace h69 := h69.move (K373.at 6 rfl)
  refine lv (d := 14) rfl rfl (by kernel_rfl) (e_assign (v := .int .i64 t361) (by kernel_rfl)) ?_
  refine wpList_nil ?_
  refine then_n ?_
  refine wp_seq ?_
  refine wp_seq ?_
  refine wp_region_lit ?_
  refine lv (d := 114) rfl rfl (by kernel_rfl) (e_move (v := .int .i64 t361) (by kernel_rfl)) ?_
  refine lv (d := 115) rfl rfl (by kernel_rfl) (e_lss (k := .i64) (a := t361) (b := 0) (by kernel_rfl) rfl) ?_
  refine wpList_nil ?_
  refine then_n ?_
  by_cases q374 : t361 < 0
  · replace M := ifp q374 M
    refine cond_t rfl (bt q374 (by kernel_rfl)) ?_
    refine wp_seq ?_
    refine wp_region_lit ?_
    refine lv (d := 4) rfl rfl (by kernel_rfl) (e_assign (v := .bool false) rfl) ?_
    refine wpList_nil ?_
    refine then_n ?_
    refine wp_ret ?_
    refine then_r ?_
    obtain rfl := Option.some.inj M
    exact ret1 rfl rfl  (show _ = .bool false from (by kernel_rfl)) ⟨rfl, S372.chg⟩
  replace M := ifn q374 M
  refine cond_f rfl (bf q374 (by kernel_rfl)) ?_
  refine wp_skip ?_
  refine then_n ?_
  refine wp_seq ?_
  refine wp_seq ?_
  refine wp_region_lit ?_
  refine lv (d := 116) rfl rfl (by kernel_rfl) (e_move (v := .int .i64 t361) (by kernel_rfl)) ?_
  refine lv (d := 117) rfl rfl (by kernel_rfl) (e_move (v := .int .i64 t266.1) (by kernel_rfl)) ?_
  refine lv (d := 118) rfl rfl (by kernel_rfl) (e_neq (k := .i64) (a := t361) (b := t266.1) (by kernel_rfl) (by kernel_rfl)) ?_
  refine wpList_nil ?_
  refine then_n ?_
  by_cases q375 : t361 ≠ t266.1
  · replace M := ifp q375 M
    refine cond_t rfl (bt q375 (by kernel_rfl)) ?_
    refine wp_seq ?_
    refine wp_region_lit ?_
    refine lv (d := 4) rfl rfl (by kernel_rfl) (e_assign (v := .bool false) rfl) ?_
    refine wpList_nil ?_
    refine then_n ?_
    refine wp_ret ?_
    refine then_r ?_
    obtain rfl := Option.some.inj M
    exact ret1 rfl rfl  (show _ = .bool false from (by kernel_rfl)) ⟨rfl, S372.chg⟩
  replace M := ifn q375 M
  refine cond_f rfl (bf q375 (by kernel_rfl)) ?_
  refine wp_skip ?_
  refine then_n ?_
  refine wp_seq ?_
  refine wp_region_lit ?_
  refine lv (d := 4) rfl rfl (by kernel_rfl) (e_assign (v := .bool true) rfl) ?_
  refine wpList_nil ?_
  refine then_n ?_
  refine wp_ret ?_
  obtain rfl := Option.some.inj M
  exact ret1 rfl rfl  (show _ = .bool true from (by kernel_rfl)) ⟨rfl, S372.chg⟩
end Go.Proofs.Ytognefkopbbdnaa
