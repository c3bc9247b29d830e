import Derived.Test.YtmmjeppmglmefaaWkNb1
namespace Go.Proofs.Ytmmjeppmglmefaa
open Go.Sx Go.Sy
attribute [local irreducible] Go.wpList Go.wpStill Go.wpQuiet Go.Code.wp
set_option maxRecDepth 100000
set_option maxHeartbeats 1000000
set_option linter.unusedVariables false
set_option linter.unusedSimpArgs false

/-! impl_fromCells -/
mutual
def impl_fromCells.l0 : Nat → (List Cell) → (List Cell) → Int → (List Tm) → Option (Tm × (List Cell))
  | 0, _, _, _, _ => none
  | k61 + 1, x1, x41, x46, x47 => (if x46 < ((x1.getD 0 z36).n) then ((impl_fromCells.f k61 x41).bind fun t66 => (if x47.length + 1 ≤ 17592186044416 then (impl_fromCells.l0 k61 x1 t66.2 (IntKind.i64.wrap (x46 + 1)) (x47 ++ [t66.1])) else none)) else some ((Tm.mk ((x1.getD 0 z36).kind) ((x1.getD 0 z36).n) ((x1.getD 0 z36).text) x47), x41))
def impl_fromCells.f : Nat → (List Cell) → Option (Tm × (List Cell))
  | 0, _ => none
  | k1_ + 1, x1 => (if 0 < (x1.length : Int) then (if 1 ≤ (x1.length : Int) then (if ((x1.getD 0 z36).kind) = 3 then (impl_fromCells.l0 k1_ x1 (x1.drop ((1 : Int).toNat)) 0 []) else some ((Tm.mk ((x1.getD 0 z36).kind) ((x1.getD 0 z36).n) ((x1.getD 0 z36).text) []), (x1.drop ((1 : Int).toNat)))) else none) else none)
end
theorem impl_fromCells.all : ∀ (K : Nat), (∀ (k : Nat), k < K → ∀ (w : World) (H : Hp) (x1 : List Cell) (A2 : Option Addr) (c3 : Nat) (h4 : Rd st36 H A2 x1) (l5 : x1.length ≤ c3) (S : Own [] H w) (r : Tm × (List Cell)) (M : impl_fromCells.f k x1 = some r), Calls Try.prog 46 #[.slice A2 x1.length c3] w (fun e e_w => ∃ (g_1 : Nat) (A_1 : Option Addr) (c_1 : Nat) (H_ : Hp), e = .returned (.tuple #[.pointer (some ⟨g_1, 0, none⟩), .slice A_1 r.2.length c_1]) ∧ NodeR 74 H_ r.1 (.pointer (some ⟨g_1, 0, none⟩)) ∧ Rd st36 H_ A_1 r.2 ∧ r.2.length ≤ c_1 ∧ St (anyOf []) H w [] H_ e_w)) := by
  intro K
  induction K with
  | zero => intro k hk; omega
  | succ K ih =>
    intro k hk w H x1 A2 c3 h4 l5 S r M
    rcases k with _ | k1_
    · rw [impl_fromCells.f] at M
      cases M
    rw [impl_fromCells.f] at M
    refine enter (l := [.slice A2 x1.length c3]) 48 Try.func46 rfl rfl rfl ?_
    have S0_ := S.st
    refine wp_seq ?_
    refine wp_region_lit ?_
    refine lv (d := 2) rfl rfl (by kernel_rfl) (e_assign (v := .pointer none) rfl) ?_
    refine lv (d := 3) rfl rfl (by kernel_rfl) (e_assign (v := .slice none 0 0) rfl) ?_
    refine wpList_nil ?_
    refine then_n ?_
    refine wp_seq ?_
    refine wp_region_lit ?_
    refine lv (d := 8) rfl rfl (by kernel_rfl) (e_move (v := .slice A2 x1.length c3) (by kernel_rfl)) ?_
    obtain ⟨q6, M⟩ := chk M
    obtain ⟨b7, o8, e9⟩ := Rd.addr h4 (show 0 < x1.length by omega)
    obtain ⟨y10, r11, k12⟩ := Rd.at h4 e9 (getD_some z36 (show 0 < x1.length by omega))
    obtain ⟨A13, c14, rfl, l15, h16⟩ := st36_open r11
    refine lv (d := 9) rfl rfl (by kernel_rfl) (e_indexAddr (b := b7) (off := o8) (n := x1.length) (c := c3) (sz := 3) (i := 0) (k := .i64) Try.underlying24 e9 (by kernel_rfl) (by kernel_rfl) rfl (by omega) q6) ?_
    refine lv (d := 10) rfl rfl (by kernel_rfl) (e_loadS (b := b7) (off := o8 + (0 : Int).toNat * 3) (cs := [.int .i64 ((x1.getD 0 z36).kind), .int .i64 ((x1.getD 0 z36).n), .slice A13 ((x1.getD 0 z36).text).length c14]) Try.underlying36 rfl (by kernel_rfl) (by kernel_rfl) (fun j_ u_ e_ => (hpx (S0_.inv.cell (k12 j_ u_ e_))))) ?_
    refine lve (d := 4) rfl rfl (by kernel_rfl) (new_blk (v := fun g_ => .pointer (some ⟨g_, 0, none⟩)) (cs := #[.int .i64 0, .int .i64 0, .slice none 0 0]) (t := 36) S0_ (by kernel_rfl)) ?_
    rintro _ w17 ⟨g18, rfl, b19, S20, K21⟩
    refine lse rfl rfl (by kernel_rfl) (e_store (g := g18) (o := 0) (v := .agg #[.int .i64 ((x1.getD 0 z36).kind), .int .i64 ((x1.getD 0 z36).n), .slice A13 ((x1.getD 0 z36).text).length c14]) (cur' := #[.int .i64 ((x1.getD 0 z36).kind), .int .i64 ((x1.getD 0 z36).n), .slice A13 ((x1.getD 0 z36).text).length c14]) (vs := [.int .i64 ((x1.getD 0 z36).kind), .int .i64 ((x1.getD 0 z36).n), .slice A13 ((x1.getD 0 z36).text).length c14]) S20 (by kernel_rfl) (by kernel_rfl) rfl (by kernel_rfl) b19 (Nat.le_of_ble_eq_true rfl) (List.forall_mem_cons.2 ⟨rfl, (List.forall_mem_cons.2 ⟨rfl, (List.forall_mem_cons.2 ⟨rfl, (fun _ h_ => by cases h_)⟩)⟩)⟩) rfl) ?_
    rintro w22 ⟨b23, S24, K25⟩
    clear b19
    refine wpList_nil ?_
    refine then_n ?_
    refine wp_seq ?_
    refine wp_region_lit ?_
    refine lv (d := 11) rfl rfl (by kernel_rfl) (e_move (v := .slice A2 x1.length c3) (by kernel_rfl)) ?_
    obtain ⟨q26, M⟩ := chk M
    obtain ⟨A27, h30, l29, h28⟩ := Rd.sub1 (d := st36) (n := x1.length) (m := 3) (cap := c3) (a := 1) rfl h4 (by decide) q26 rfl l5
    refine lv (d := 12) rfl rfl (by kernel_rfl) (e_slice_l (n := x1.length) (m := 3) (cap := c3) (A := A2) (a := 1) (k := .i64) Try.underlying24 (by kernel_rfl) (by kernel_rfl) rfl (by decide) q26 l5 h30) ?_
    refine lv (d := 0) rfl rfl (by kernel_rfl) (e_assign (v := .slice A27 (x1.drop ((1 : Int).toNat)).length (c3 - ((1 : Int).toNat))) (by kernel_rfl)) ?_
    refine wpList_nil ?_
    refine then_n ?_
    refine wp_seq ?_
    refine wp_region_lit ?_
    refine lv (d := 13) rfl rfl (by kernel_rfl) (e_fieldAddr (b := g18) (off := 0) (o := 0) Try.underlying36 rfl rfl (sz := 1) (by kernel_rfl) (by decide) (by kernel_rfl)) ?_
    refine lv (d := 14) rfl rfl (by kernel_rfl) (e_load1 (ad := ⟨g18, 0 + 0, none⟩) (v := .int .i64 ((x1.getD 0 z36).kind)) Try.underlying3 rfl (by kernel_rfl) (blk_cell b23 rfl)) ?_
    refine lv (d := 15) rfl rfl (by kernel_rfl) (e_fieldAddr (b := g18) (off := 0) (o := 1) Try.underlying36 rfl rfl (sz := 1) (by kernel_rfl) (by decide) (by kernel_rfl)) ?_
    refine lv (d := 16) rfl rfl (by kernel_rfl) (e_load1 (ad := ⟨g18, 0 + 1, none⟩) (v := .int .i64 ((x1.getD 0 z36).n)) Try.underlying3 rfl (by kernel_rfl) (blk_cell b23 rfl)) ?_
    refine lv (d := 17) rfl rfl (by kernel_rfl) (e_fieldAddr (b := g18) (off := 0) (o := 2) Try.underlying36 rfl rfl (sz := 1) (by kernel_rfl) (by decide) (by kernel_rfl)) ?_
    refine lv (d := 18) rfl rfl (by kernel_rfl) (e_load1 (ad := ⟨g18, 0 + 2, none⟩) (v := .slice A13 ((x1.getD 0 z36).text).length c14) Try.underlying32 rfl (by kernel_rfl) (blk_cell b23 rfl)) ?_
    refine lv (d := 19) rfl rfl (by kernel_rfl) (e_conv_bs (A := A13) (n := ((x1.getD 0 z36).text).length) (c := c14) (xs := (x1.getD 0 z36).text) Try.underlying32 Try.underlying5 Try.underlying9 (by kernel_rfl) rfl (Rd.bytesE S24.inv h16)) ?_
    refine lv (d := 20) rfl rfl (by kernel_rfl) (show _ = Result.ok (Next.value (.agg #[.int .i64 ((x1.getD 0 z36).kind), .int .i64 ((x1.getD 0 z36).n), str ((x1.getD 0 z36).text), .slice none 0 0])) w22 from by kernel_rfl) ?_
    refine lve (d := 21) rfl rfl (by kernel_rfl) (new_blk (v := fun g_ => .pointer (some ⟨g_, 0, none⟩)) (cs := #[.int .i64 ((x1.getD 0 z36).kind), .int .i64 ((x1.getD 0 z36).n), str ((x1.getD 0 z36).text), .slice none 0 0]) (t := 74) S24 (by kernel_rfl)) ?_
    rintro _ w31 ⟨g32, rfl, b33, S34, K35⟩
    replace b23 := K35.blk 0 rfl b23
    refine lv (d := 5) rfl rfl (by kernel_rfl) (e_assign (v := .pointer (some ⟨g32, 0, none⟩)) (by kernel_rfl)) ?_
    refine wpList_nil ?_
    refine then_n ?_
    refine wp_seq ?_
    refine wp_seq ?_
    refine wp_region_lit ?_
    refine lv (d := 22) rfl rfl (by kernel_rfl) (e_fieldAddr (b := g18) (off := 0) (o := 0) Try.underlying36 rfl rfl (sz := 1) (by kernel_rfl) (by decide) (by kernel_rfl)) ?_
    refine lv (d := 23) rfl rfl (by kernel_rfl) (e_load1 (ad := ⟨g18, 0 + 0, none⟩) (v := .int .i64 ((x1.getD 0 z36).kind)) Try.underlying3 rfl (by kernel_rfl) (blk_cell b23 rfl)) ?_
    refine lv (d := 24) rfl rfl (by kernel_rfl) (e_eql (k := .i64) (a := (x1.getD 0 z36).kind) (b := 3) (by kernel_rfl) rfl) ?_
    refine wpList_nil ?_
    refine then_n ?_
    by_cases q36 : ((x1.getD 0 z36).kind) = 3
    · replace M := ifp q36 M
      refine cond_t rfl (bt q36 (by kernel_rfl)) ?_
      refine wp_seq ?_
      refine wp_region_lit ?_
      refine lv (d := 6) rfl rfl (by kernel_rfl) (e_assign (v := .int .i64 0) rfl) ?_
      refine wpList_nil ?_
      refine then_n ?_
      refine wp_block ?_
      have S62 := S34.unit
      have S63 := S62.pull (F := (is g18)) (Fr := [no, (is g32)]) 2 rfl rfl
      have S64 := S63.pull (F := (is g32)) (Fr := [(is g18), no]) 2 rfl rfl
      refine wp_loop_g (fun k59 a60 w37 => ∃ (f38 : Nat → Value) (H39 : Hp) (x41 : List Cell) (A42 : Option Addr) (c43 : Nat) (x46 : Int) (x47 : List Tm) (A48 : Option Addr) (c49 : Nat) (F50 : Foot), k59 < K ∧ a60 = mk 48 f38 ∧ f38 0 = .slice A42 x41.length c43 ∧ f38 4 = .pointer (some ⟨g18, 0, none⟩) ∧ f38 5 = .pointer (some ⟨g32, 0, none⟩) ∧ f38 6 = .int .i64 x46 ∧ w37.heap[g32]? = some (.cells #[.int .i64 ((x1.getD 0 z36).kind), .int .i64 ((x1.getD 0 z36).n), str ((x1.getD 0 z36).text), .slice A48 x47.length c49] 74 (0, 0)) ∧ w37.heap[g18]? = some (.cells #[.int .i64 ((x1.getD 0 z36).kind), .int .i64 ((x1.getD 0 z36).n), .slice A13 ((x1.getD 0 z36).text).length c14] 36 (0, 0)) ∧ Row (node 74) 38 H39 (hp w37) F50 A48 c49 x47 ∧ Rd st36 H39 A42 x41 ∧ x41.length ≤ c43 ∧ Ext H H39 ∧ St (anyOf []) H w [(is g32), (is g18), F50] H39 w37 ∧ impl_fromCells.l0 k59 x1 x41 x46 x47 = some r) k1_ ⟨_, H, (x1.drop ((1 : Int).toNat)), A27, (c3 - ((1 : Int).toNat)), 0, [], none, 0, no, (by omega), rfl, (by kernel_rfl), (by kernel_rfl), (by kernel_rfl), (by kernel_rfl), b33, b23, (Row.nil _ _ _ _ _), h28, l29, (Ext.refl _), S64, M⟩ ?_
      clear M
      rintro k59 a60 w37 ⟨f38, H39, x41, A42, c43, x46, x47, A48, c49, F50, z57, rfl, e52, e53, e54, e55, b33, b23, h51, h44, l45, Y40, S56, M⟩
      rcases k59 with _ | k61
      · rw [impl_fromCells.l0] at M
        cases M
      rw [impl_fromCells.l0] at M
      refine wp_seq ?_
      refine wp_seq ?_
      refine wp_region_lit ?_
      refine lv (d := 25) rfl rfl (by kernel_rfl) (e_move (v := .int .i64 x46) (by exact e55)) ?_
      refine lv (d := 26) rfl rfl (by kernel_rfl) (e_fieldAddr (b := g18) (off := 0) (o := 1) Try.underlying36 rfl rfl (sz := 1) (by kernel_rfl) (by decide) (by exact e53)) ?_
      refine lv (d := 27) rfl rfl (by kernel_rfl) (e_load1 (ad := ⟨g18, 0 + 1, none⟩) (v := .int .i64 ((x1.getD 0 z36).n)) Try.underlying3 rfl (by kernel_rfl) (blk_cell b23 rfl)) ?_
      refine lv (d := 28) rfl rfl (by kernel_rfl) (e_lss (k := .i64) (a := x46) (b := (x1.getD 0 z36).n) (by kernel_rfl) (by kernel_rfl)) ?_
      refine wpList_nil ?_
      refine then_n ?_
      by_cases q65 : x46 < ((x1.getD 0 z36).n)
      · replace M := ifp q65 M
        refine cond_t rfl (bt q65 (by kernel_rfl)) ?_
        refine wp_skip ?_
        refine then_n ?_
        refine wp_seq ?_
        refine wp_block ?_
        refine wp_seq ?_
        refine wp_region_lit ?_
        refine lv (d := 7) rfl rfl (by kernel_rfl) (e_assign (v := .pointer none) rfl) ?_
        refine wpList_nil ?_
        refine then_n ?_
        refine wp_seq ?_
        refine wp_region_lit ?_
        refine lv (d := 32) rfl rfl (by kernel_rfl) (e_move (v := .slice A42 x41.length c43) (by exact e52)) ?_
        obtain ⟨t66, u67, M⟩ := bnd M
        refine lcall (d := 33) rfl rfl (by kernel_rfl) (e_call (l := [.tmp 32]) (vs := [.slice A42 x41.length c43]) Try.func46 (by kernel_rfl) rfl (by kernel_rfl) rfl) (ih k61 (by omega) w37 H39 x41 A42 c43 h44 l45 (St.own' (Fa := []) (Fr := [(is g32), (is g18), F50]) S56) t66 u67) ?_
        rintro _ w68 ⟨g71, A73, c74, H69, rfl, h72, h75, l76, T70⟩
        refine ⟨_, rfl, ?_⟩
        obtain ⟨S77, K78⟩ := St.call (Fa := []) (Fr := [(is g32), (is g18), F50]) S56 T70
        replace b33 := K78.blk 0 rfl b33
        replace b23 := K78.blk 1 rfl b23
        replace h51 := h51.move (K78.at 2 rfl)
        have E79 := T70.ext
        replace h51 := h51.ext E79
        refine lv (d := 31) rfl rfl (by kernel_rfl) (e_move (v := .tuple #[.pointer (some ⟨g71, 0, none⟩), .slice A73 t66.2.length c74]) (by kernel_rfl)) ?_
        refine lv (d := 34) rfl rfl (by kernel_rfl) (e_extract (vs := #[.pointer (some ⟨g71, 0, none⟩), .slice A73 t66.2.length c74]) (v := .pointer (some ⟨g71, 0, none⟩)) (by kernel_rfl) rfl) ?_
        refine lv (d := 35) rfl rfl (by kernel_rfl) (e_extract (vs := #[.pointer (some ⟨g71, 0, none⟩), .slice A73 t66.2.length c74]) (v := .slice A73 t66.2.length c74) (by kernel_rfl) rfl) ?_
        refine lv (d := 7) rfl rfl (by kernel_rfl) (e_assign (v := .pointer (some ⟨g71, 0, none⟩)) (by kernel_rfl)) ?_
        refine lv (d := 0) rfl rfl (by kernel_rfl) (e_assign (v := .slice A73 t66.2.length c74) (by kernel_rfl)) ?_
        refine wpList_nil ?_
        refine then_n ?_
        refine wp_region_lit ?_
        refine lv (d := 36) rfl rfl (by kernel_rfl) (e_move (v := .pointer (some ⟨g32, 0, none⟩)) (by exact e54)) ?_
        refine lv (d := 37) rfl rfl (by kernel_rfl) (e_move (v := .pointer (some ⟨g32, 0, none⟩)) (by exact e54)) ?_
        refine lv (d := 38) rfl rfl (by kernel_rfl) (e_nilCheck (ad := ⟨g32, 0, none⟩) (by kernel_rfl)) ?_
        refine lv (d := 39) rfl rfl (by kernel_rfl) (e_fieldAddr (b := g32) (off := 0) (o := 3) Try.underlying74 rfl rfl (sz := 1) (by kernel_rfl) (by decide) (by kernel_rfl)) ?_
        refine lv (d := 40) rfl rfl (by kernel_rfl) (e_load1 (ad := ⟨g32, 0 + 3, none⟩) (v := .slice A48 x47.length c49) Try.underlying72 rfl (by kernel_rfl) (blk_cell b33 rfl)) ?_
        refine lv (d := 41) rfl rfl (by kernel_rfl) (e_move (v := .pointer (some ⟨g71, 0, none⟩)) (by kernel_rfl)) ?_
        refine lve (d := 42) rfl rfl (by kernel_rfl) (new_blk (v := fun g_ => .slice (some ⟨g_, 0, none⟩) 1 1) (cs := #[.pointer (some ⟨g71, 0, none⟩)]) (t := 38) S77 (by kernel_rfl)) ?_
        rintro _ w80 ⟨g81, rfl, b82, S83, K84⟩
        replace b33 := K84.blk 0 rfl b33
        replace b23 := K84.blk 1 rfl b23
        replace h51 := h51.move (K84.at 2 rfl)
        obtain ⟨q85, M⟩ := chk M
        have S86 := S83.pull (F := F50) (Fr := [(is g81), (is g32), (is g18)]) 3 rfl rfl
        have S87 := S86.unit
        have S88 := S87.pull (F := F50) (Fr := [no, (is g81), (is g32), (is g18)]) 1 rfl rfl
        refine lve (d := 43) rfl rfl (by kernel_rfl) (e_append (d := (node 74)) (n := x47.length) (xs := x47) (cap := c49) (A := A48) (ys := [t66.1]) (A2 := (some ⟨g81, 0, none⟩)) (c2 := 1) (z := .pointer none) (bytes := 8) S88 Try.underlying72 (by kernel_rfl) rfl (by decide) (by kernel_rfl) rfl (by kernel_rfl) h51 (elsO_one1 ⟨_, rfl, h72⟩) (.inr (blk_news b82 rfl)) (show (x47.length + [t66.1].length) * 8 ≤ _ by first | omega | (simp only [List.length_cons, List.length_nil]; omega)) (by decide)) ?_
        rintro _ w89 ⟨A90, c91, F92, rfl, h93, S94, K95⟩
        replace b82 := K95.blk 0 rfl b82
        replace b33 := K95.blk 1 rfl b33
        replace b23 := K95.blk 2 rfl b23
        refine lv (d := 44) rfl rfl (by kernel_rfl) (e_nilCheck (ad := ⟨g32, 0, none⟩) (by kernel_rfl)) ?_
        refine lv (d := 45) rfl rfl (by kernel_rfl) (e_fieldAddr (b := g32) (off := 0) (o := 3) Try.underlying74 rfl rfl (sz := 1) (by kernel_rfl) (by decide) (by kernel_rfl)) ?_
        have S96 := S94.pull (F := (is g32)) (Fr := [F92, (is g81), (is g18)]) 2 rfl rfl
        refine lse rfl rfl (by kernel_rfl) (e_store (g := g32) (o := 0 + 3) (v := .slice A90 ((x47 ++ [t66.1]).length) c91) (cur' := #[.int .i64 ((x1.getD 0 z36).kind), .int .i64 ((x1.getD 0 z36).n), str ((x1.getD 0 z36).text), .slice A90 ((x47 ++ [t66.1]).length) c91]) (vs := [.slice A90 ((x47 ++ [t66.1]).length) c91]) S96 (by kernel_rfl) (by kernel_rfl) rfl (by kernel_rfl) b33 (Nat.le_of_ble_eq_true rfl) (List.forall_mem_cons.2 ⟨rfl, (fun _ h_ => by cases h_)⟩) rfl) ?_
        rintro w97 ⟨b98, S99, K100⟩
        replace h93 := h93.move (K100.at 0 rfl)
        replace b82 := K100.blk 1 rfl b82
        replace b23 := K100.blk 2 rfl b23
        clear b33
        refine wpList_nil ?_
        refine inb_n ?_
        refine then_n ?_
        refine wp_region_lit ?_
        refine lv (d := 29) rfl rfl (by kernel_rfl) (e_move (v := .int .i64 x46) (by exact e55)) ?_
        refine lv (d := 30) rfl rfl (by kernel_rfl) (e_add (k := .i64) (a := x46) (b := 1) (by kernel_rfl) rfl) ?_
        refine lv (d := 6) rfl rfl (by kernel_rfl) (e_assign (v := .int .i64 (IntKind.i64.wrap (x46 + 1))) (by kernel_rfl)) ?_
        refine wpList_nil ?_
        refine then_n ?_
        have S101 := S99.pull (F := F92) (Fr := [(is g32), (is g81), (is g18)]) 1 rfl rfl
        have S102 := S101.pull (F := (is g18)) (Fr := [F92, (is g32), (is g81)]) 3 rfl rfl
        have S103 := S102.pull (F := (is g32)) (Fr := [(is g18), F92, (is g81)]) 2 rfl rfl
        have S104 := St.first (Fa := [(is g32), (is g18), F92]) (Fr := [(is g81)]) S103
        exact ⟨k61, (by omega), _, H69, t66.2, A73, c74, (IntKind.i64.wrap (x46 + 1)), (x47 ++ [t66.1]), A90, c91, F92, (by omega), rfl, (by kernel_rfl), (by exact e53), (by exact e54), (by kernel_rfl), b98, b23, h93, h75, l76, (Y40.trans E79), S104, M⟩
      replace M := ifn q65 M
      refine cond_f rfl (bf q65 (by kernel_rfl)) ?_
      refine wp_exit ?_
      refine then_e ?_
      refine then_e ?_
      refine inb_hit ?_
      refine then_n ?_
      refine wp_seq ?_
      refine wp_region_lit ?_
      refine lv (d := 46) rfl rfl (by kernel_rfl) (e_move (v := .pointer (some ⟨g32, 0, none⟩)) (by exact e54)) ?_
      refine lv (d := 47) rfl rfl (by kernel_rfl) (e_move (v := .slice A42 x41.length c43) (by exact e52)) ?_
      refine lv (d := 2) rfl rfl (by kernel_rfl) (e_assign (v := .pointer (some ⟨g32, 0, none⟩)) (by kernel_rfl)) ?_
      refine lv (d := 3) rfl rfl (by kernel_rfl) (e_assign (v := .slice A42 x41.length c43) (by kernel_rfl)) ?_
      refine wpList_nil ?_
      refine then_n ?_
      refine wp_ret ?_
      have l105 := h51.le
      have S106 := S56.pull (F := F50) (Fr := [(is g32), (is g18)]) 2 rfl rfl
      obtain ⟨H107, S108, E109, h110, z111⟩ := S106.frzRow h51
      obtain ⟨H112, S113, E114, h115, z116⟩ := S108.frzBlk b33
      have h117 : NodeR 74 H112 (Tm.mk ((x1.getD 0 z36).kind) ((x1.getD 0 z36).n) ((x1.getD 0 z36).text) x47) (.pointer (some ⟨g32, 0, none⟩)) := node_mk (A := A48) (c := c49) h115 rfl l105 (h110.ext E114)
      obtain rfl := Option.some.inj M
      have S118 := St.first (Fa := []) (Fr := [(is g18)]) S113
      exact ret2 rfl rfl rfl (show _ = .pointer (some ⟨g32, 0, none⟩) from (by kernel_rfl)) (show _ = .slice A42 x41.length c43 from (by kernel_rfl)) ⟨g32, A42, c43, H112, rfl, h117, (h44.ext (E109.trans E114)), l45, S118⟩
    replace M := ifn q36 M
    refine cond_f rfl (bf q36 (by kernel_rfl)) ?_
    refine wp_skip ?_
    refine then_n ?_
    refine wp_seq ?_
    refine wp_region_lit ?_
    refine lv (d := 46) rfl rfl (by kernel_rfl) (e_move (v := .pointer (some ⟨g32, 0, none⟩)) (by kernel_rfl)) ?_
    refine lv (d := 47) rfl rfl (by kernel_rfl) (e_move (v := .slice A27 (x1.drop ((1 : Int).toNat)).length (c3 - ((1 : Int).toNat))) (by kernel_rfl)) ?_
    refine lv (d := 2) rfl rfl (by kernel_rfl) (e_assign (v := .pointer (some ⟨g32, 0, none⟩)) (by kernel_rfl)) ?_
    refine lv (d := 3) rfl rfl (by kernel_rfl) (e_assign (v := .slice A27 (x1.drop ((1 : Int).toNat)).length (c3 - ((1 : Int).toNat))) (by kernel_rfl)) ?_
    refine wpList_nil ?_
    refine then_n ?_
    refine wp_ret ?_
    obtain ⟨H119, S120, E121, h122, z123⟩ := S34.frzBlk b33
    have h124 : NodeR 74 H119 (Tm.mk ((x1.getD 0 z36).kind) ((x1.getD 0 z36).n) ((x1.getD 0 z36).text) []) (.pointer (some ⟨g32, 0, none⟩)) := node_mk (A := none) (c := 0) h122 rfl (Nat.le_refl _) (Rd.nil _ _ _)
    obtain rfl := Option.some.inj M
    have S125 := St.first (Fa := []) (Fr := [(is g18)]) S120
    exact ret2 rfl rfl rfl (show _ = .pointer (some ⟨g32, 0, none⟩) from (by kernel_rfl)) (show _ = .slice A27 (x1.drop ((1 : Int).toNat)).length (c3 - ((1 : Int).toNat)) from (by kernel_rfl)) ⟨g32, A27, (c3 - ((1 : Int).toNat)), H119, rfl, h124, (h28.ext E121), l29, S125⟩
theorem impl_fromCells.calls (k : Nat) (w : World) (H : Hp) (x1 : List Cell) (A2 : Option Addr) (c3 : Nat) (h4 : Rd st36 H A2 x1) (l5 : x1.length ≤ c3) (S : Own [] H w) (r : Tm × (List Cell)) (M : impl_fromCells.f k x1 = some r) :
    Calls Try.prog 46 #[.slice A2 x1.length c3] w (fun e e_w => ∃ (g_1 : Nat) (A_1 : Option Addr) (c_1 : Nat) (H_ : Hp), e = .returned (.tuple #[.pointer (some ⟨g_1, 0, none⟩), .slice A_1 r.2.length c_1]) ∧ NodeR 74 H_ r.1 (.pointer (some ⟨g_1, 0, none⟩)) ∧ Rd st36 H_ A_1 r.2 ∧ r.2.length ≤ c_1 ∧ St (anyOf []) H w [] H_ e_w) := (impl_fromCells.all (k + 1)) k (Nat.lt_succ_self k) w H x1 A2 c3 h4 l5 S r M

/-! impl_tree -/
def impl_tree.f (k : Nat) (x1 : List Cell) : Option Tm := ((impl_fromCells.f k x1).bind fun t6 => some t6.1)
theorem impl_tree.calls (k : Nat) (w : World) (H : Hp) (x1 : List Cell) (A2 : Option Addr) (c3 : Nat) (h4 : Rd st36 H A2 x1) (l5 : x1.length ≤ c3) (S : Own [] H w) (r : Tm) (M : impl_tree.f k x1 = some r) :
    Calls Try.prog 20 #[.slice A2 x1.length c3] w (fun e e_w => ∃ (g_1 : Nat) (H_ : Hp), e = .returned (.pointer (some ⟨g_1, 0, none⟩)) ∧ NodeR 74 H_ r (.pointer (some ⟨g_1, 0, none⟩)) ∧ St (anyOf []) H w [] H_ e_w) := by
  rw [impl_tree.f] at M
  refine enter (l := [.slice A2 x1.length c3]) 11 Try.func20 rfl rfl rfl ?_
  have S0_ := S.st
  refine wp_seq ?_
  refine wp_region_lit ?_
  refine lv (d := 2) rfl rfl (by kernel_rfl) (e_assign (v := .pointer none) rfl) ?_
  refine wpList_nil ?_
  refine then_n ?_
  refine wp_seq ?_
  refine wp_region_lit ?_
  refine lv (d := 6) rfl rfl (by kernel_rfl) (e_move (v := .slice A2 x1.length c3) (by kernel_rfl)) ?_
  obtain ⟨t6, u7, M⟩ := bnd M
  refine lcall (d := 7) rfl rfl (by kernel_rfl) (e_call (l := [.tmp 6]) (vs := [.slice A2 x1.length c3]) Try.func46 (by kernel_rfl) rfl (by kernel_rfl) rfl) (impl_fromCells.calls k w H x1 A2 c3 h4 l5 (St.own' (Fa := []) (Fr := []) S0_) t6 u7) ?_
  rintro _ w8 ⟨g11, A13, c14, H9, rfl, h12, h15, l16, T10⟩
  refine ⟨_, rfl, ?_⟩
  obtain ⟨S17, K18⟩ := St.call (Fa := []) (Fr := []) S0_ T10
  have E19 := T10.ext
  refine lv (d := 5) rfl rfl (by kernel_rfl) (e_move (v := .tuple #[.pointer (some ⟨g11, 0, none⟩), .slice A13 t6.2.length c14]) (by kernel_rfl)) ?_
  refine lv (d := 8) rfl rfl (by kernel_rfl) (e_extract (vs := #[.pointer (some ⟨g11, 0, none⟩), .slice A13 t6.2.length c14]) (v := .pointer (some ⟨g11, 0, none⟩)) (by kernel_rfl) rfl) ?_
  refine lv (d := 9) rfl rfl (by kernel_rfl) (e_extract (vs := #[.pointer (some ⟨g11, 0, none⟩), .slice A13 t6.2.length c14]) (v := .slice A13 t6.2.length c14) (by kernel_rfl) rfl) ?_
  refine lv (d := 3) rfl rfl (by kernel_rfl) (e_assign (v := .pointer (some ⟨g11, 0, none⟩)) (by kernel_rfl)) ?_
  refine lv (d := 4) rfl rfl (by kernel_rfl) (e_assign (v := .slice A13 t6.2.length c14) (by kernel_rfl)) ?_
  refine wpList_nil ?_
  refine then_n ?_
  refine wp_seq ?_
  refine wp_region_lit ?_
  refine lv (d := 10) rfl rfl (by kernel_rfl) (e_move (v := .pointer (some ⟨g11, 0, none⟩)) (by kernel_rfl)) ?_
  refine lv (d := 2) rfl rfl (by kernel_rfl) (e_assign (v := .pointer (some ⟨g11, 0, none⟩)) (by kernel_rfl)) ?_
  refine wpList_nil ?_
  refine then_n ?_
  refine wp_ret ?_
  obtain rfl := Option.some.inj M
  exact ret1 rfl rfl  (show _ = .pointer (some ⟨g11, 0, none⟩) from (by kernel_rfl)) ⟨g11, H9, rfl, h12, S17⟩

/-! impl_comp -/
def impl_comp.f (x1 : List UInt8) (x2 : List Tm) : Option Tm := some (Tm.mk 3 (x2.length : Int) x1 x2)
theorem impl_comp.calls (w : World) (H : Hp) (x1 : List UInt8) (x2 : List Tm) (A3 : Option Addr) (c4 : Nat) (h5 : Rd (node 74) H A3 x2) (l6 : x2.length ≤ c4) (S : Own [] H w) (r : Tm) (M : impl_comp.f x1 x2 = some r) :
    Calls Try.prog 60 #[str x1, .slice A3 x2.length c4] w (fun e e_w => ∃ (g_1 : Nat) (H_ : Hp), e = .returned (.pointer (some ⟨g_1, 0, none⟩)) ∧ NodeR 74 H_ r (.pointer (some ⟨g_1, 0, none⟩)) ∧ St (anyOf []) H w [] H_ e_w) := by
  rw [impl_comp.f] at M
  refine enter (l := [str x1, .slice A3 x2.length c4]) 11 Try.func60 rfl rfl rfl ?_
  have S0_ := S.st
  refine wp_seq ?_
  refine wp_region_lit ?_
  refine lv (d := 4) rfl rfl (by kernel_rfl) (e_assign (v := .pointer none) rfl) ?_
  refine wpList_nil ?_
  refine then_n ?_
  refine wp_seq ?_
  refine wp_region_lit ?_
  refine lv (d := 5) rfl rfl (by kernel_rfl) (e_move (v := .slice A3 x2.length c4) (by kernel_rfl)) ?_
  refine lv (d := 6) rfl rfl (by kernel_rfl) (e_len (A := A3) (n := x2.length) (c := c4) Try.underlying72 (by kernel_rfl)) ?_
  refine lv (d := 7) rfl rfl (by kernel_rfl) (e_move (v := str x1) (by kernel_rfl)) ?_
  refine lv (d := 8) rfl rfl (by kernel_rfl) (e_move (v := .slice A3 x2.length c4) (by kernel_rfl)) ?_
  refine lv (d := 9) rfl rfl (by kernel_rfl) (show _ = Result.ok (Next.value (.agg #[.int .i64 3, .int .i64 (x2.length : Int), str x1, .slice A3 x2.length c4])) w from by kernel_rfl) ?_
  refine lve (d := 10) rfl rfl (by kernel_rfl) (new_blk (v := fun g_ => .pointer (some ⟨g_, 0, none⟩)) (cs := #[.int .i64 3, .int .i64 (x2.length : Int), str x1, .slice A3 x2.length c4]) (t := 74) S0_ (by kernel_rfl)) ?_
  rintro _ w7 ⟨g8, rfl, b9, S10, K11⟩
  refine lv (d := 4) rfl rfl (by kernel_rfl) (e_assign (v := .pointer (some ⟨g8, 0, none⟩)) (by kernel_rfl)) ?_
  refine wpList_nil ?_
  refine then_n ?_
  refine wp_ret ?_
  obtain ⟨H12, S13, E14, h15, z16⟩ := S10.frzBlk b9
  have h17 : NodeR 74 H12 (Tm.mk 3 (x2.length : Int) x1 x2) (.pointer (some ⟨g8, 0, none⟩)) := node_mk (A := A3) (c := c4) h15 rfl l6 (h5.ext E14)
  obtain rfl := Option.some.inj M
  exact ret1 rfl rfl  (show _ = .pointer (some ⟨g8, 0, none⟩) from (by kernel_rfl)) ⟨g8, H12, rfl, h17, S13⟩

/-! stringslite_HasPrefix -/
def stringslite_HasPrefix.f (x1 : List UInt8) (x2 : List UInt8) : Option Bool := (if (x1.length : Int) ≥ (x2.length : Int) then (if 0 ≤ (x2.length : Int) then (if (x2.length : Int) ≤ (x1.length : Int) then some (decide ((x1.take ((x2.length : Int) : Int).toNat) = x2)) else none) else none) else some false)
theorem stringslite_HasPrefix.calls (w : World) (H : Hp) (x1 : List UInt8) (x2 : List UInt8) (S : Own [] H w) (r : Bool) (M : stringslite_HasPrefix.f x1 x2 = some r) :
    Calls Try.prog 73 #[str x1, str x2] w (fun e e_w => e = .returned (.bool r) ∧ Chg no w e_w) := by
  rw [stringslite_HasPrefix.f] at M
  refine enter (l := [str x1, str x2]) 18 Try.func73 rfl rfl rfl ?_
  have S0_ := S.st
  refine wp_seq ?_
  refine wp_region_lit ?_
  refine lv (d := 4) rfl rfl (by kernel_rfl) (e_assign (v := .bool false) rfl) ?_
  refine wpList_nil ?_
  refine then_n ?_
  refine wp_seq ?_
  refine wp_region_lit ?_
  refine lv (d := 5) rfl rfl (by kernel_rfl) (e_move (v := str x1) (by kernel_rfl)) ?_
  refine lv (d := 6) rfl rfl (by kernel_rfl) (e_slen (p := x1) Try.underlying9 (by kernel_rfl)) ?_
  refine lv (d := 7) rfl rfl (by kernel_rfl) (e_move (v := str x2) (by kernel_rfl)) ?_
  refine lv (d := 8) rfl rfl (by kernel_rfl) (e_slen (p := x2) Try.underlying9 (by kernel_rfl)) ?_
  refine lv (d := 9) rfl rfl (by kernel_rfl) (e_geq (k := .i64) (a := (x1.length : Int)) (b := (x2.length : Int)) (by kernel_rfl) (by kernel_rfl)) ?_
  refine lv (d := 10) rfl rfl (by kernel_rfl) (e_move (v := .bool (decide ((x1.length : Int) ≥ (x2.length : Int)))) (by kernel_rfl)) ?_
  by_cases q3 : (x1.length : Int) ≥ (x2.length : Int)
  · replace M := ifp q3 M
    refine lvg (d := 11) (t := 10) rfl (by kernel_rfl) rfl (bt q3 (by kernel_rfl)) rfl (by kernel_rfl) (e_move (v := str x1) (by kernel_rfl)) ?_
    refine lvg (d := 12) (t := 10) rfl (by kernel_rfl) rfl (bt q3 (by kernel_rfl)) rfl (by kernel_rfl) (e_move (v := str x2) (by kernel_rfl)) ?_
    refine lvg (d := 13) (t := 10) rfl (by kernel_rfl) rfl (bt q3 (by kernel_rfl)) rfl (by kernel_rfl) (e_slen (p := x2) Try.underlying9 (by kernel_rfl)) ?_
    obtain ⟨q4, M⟩ := chk M
    obtain ⟨q5, M⟩ := chk M
    refine lvg (d := 14) (t := 10) rfl (by kernel_rfl) rfl (bt q3 (by kernel_rfl)) rfl (by kernel_rfl) (e_sslice_h (p := x1) (b := (x2.length : Int)) (k2 := .i64) Try.underlying9 (by kernel_rfl) (by kernel_rfl) q4 q5) ?_
    refine lvg (d := 15) (t := 10) rfl (by kernel_rfl) rfl (bt q3 (by kernel_rfl)) rfl (by kernel_rfl) (e_move (v := str x2) (by kernel_rfl)) ?_
    refine lvg (d := 16) (t := 10) rfl (by kernel_rfl) rfl (bt q3 (by kernel_rfl)) rfl (by kernel_rfl) (e_seql (p := (x1.take ((x2.length : Int) : Int).toNat)) (q := x2) (by kernel_rfl) (by kernel_rfl)) ?_
    refine lv (d := 17) rfl rfl (by kernel_rfl) (e_pick_t (v := .bool (decide ((x1.take ((x2.length : Int) : Int).toNat) = x2))) (bt q3 (by kernel_rfl)) (by kernel_rfl)) ?_
    refine lv (d := 4) rfl rfl (by kernel_rfl) (e_assign (v := .bool (decide ((x1.take ((x2.length : Int) : Int).toNat) = x2))) (by kernel_rfl)) ?_
    refine wpList_nil ?_
    refine then_n ?_
    refine wp_ret ?_
    obtain rfl := Option.some.inj M
    exact ret1 rfl rfl  (show _ = .bool (decide ((x1.take ((x2.length : Int) : Int).toNat) = x2)) from (by kernel_rfl)) ⟨rfl, S0_.chg⟩
  replace M := ifn q3 M
  refine lskip (t := 10) (c := false) rfl (by kernel_rfl) rfl (bf q3 (by kernel_rfl)) rfl rfl ?_
  refine lskip (t := 10) (c := false) rfl (by kernel_rfl) rfl (bf q3 (by kernel_rfl)) rfl rfl ?_
  refine lskip (t := 10) (c := false) rfl (by kernel_rfl) rfl (bf q3 (by kernel_rfl)) rfl rfl ?_
  refine lskip (t := 10) (c := false) rfl (by kernel_rfl) rfl (bf q3 (by kernel_rfl)) rfl rfl ?_
  refine lskip (t := 10) (c := false) rfl (by kernel_rfl) rfl (bf q3 (by kernel_rfl)) rfl rfl ?_
  refine lskip (t := 10) (c := false) rfl (by kernel_rfl) rfl (bf q3 (by kernel_rfl)) rfl rfl ?_
  refine lv (d := 17) rfl rfl (by kernel_rfl) (e_pick_f (v := .bool false) (bf q3 (by kernel_rfl)) rfl) ?_
  refine lv (d := 4) rfl rfl (by kernel_rfl) (e_assign (v := .bool false) (by kernel_rfl)) ?_
  refine wpList_nil ?_
  refine then_n ?_
  refine wp_ret ?_
  obtain rfl := Option.some.inj M
  exact ret1 rfl rfl  (show _ = .bool false from (by kernel_rfl)) ⟨rfl, S0_.chg⟩

/-! strings_HasPrefix -/
def strings_HasPrefix.f (x1 : List UInt8) (x2 : List UInt8) : Option Bool := ((stringslite_HasPrefix.f x1 x2).bind fun t3 => some t3)
theorem strings_HasPrefix.calls (w : World) (H : Hp) (x1 : List UInt8) (x2 : List UInt8) (S : Own [] H w) (r : Bool) (M : strings_HasPrefix.f x1 x2 = some r) :
    Calls Try.prog 65 #[str x1, str x2] w (fun e e_w => e = .returned (.bool r) ∧ Chg no w e_w) := by
  rw [strings_HasPrefix.f] at M
  refine enter (l := [str x1, str x2]) 8 Try.func65 rfl rfl rfl ?_
  have S0_ := S.st
  refine wp_seq ?_
  refine wp_region_lit ?_
  refine lv (d := 4) rfl rfl (by kernel_rfl) (e_assign (v := .bool false) rfl) ?_
  refine wpList_nil ?_
  refine then_n ?_
  refine wp_seq ?_
  refine wp_region_lit ?_
  refine lv (d := 5) rfl rfl (by kernel_rfl) (e_move (v := str x1) (by kernel_rfl)) ?_
  refine lv (d := 6) rfl rfl (by kernel_rfl) (e_move (v := str x2) (by kernel_rfl)) ?_
  obtain ⟨t3, u4, M⟩ := bnd M
  refine lcall (d := 7) rfl rfl (by kernel_rfl) (e_call (l := [.tmp 5, .tmp 6]) (vs := [str x1, str x2]) Try.func73 (by kernel_rfl) rfl (by kernel_rfl) rfl) (stringslite_HasPrefix.calls w H x1 x2  S0_.own0 t3 u4) ?_
  rintro _ w5 ⟨rfl, C6⟩
  refine ⟨_, rfl, ?_⟩
  obtain ⟨S7, K8⟩ := S0_.still C6
  refine lv (d := 4) rfl rfl (by kernel_rfl) (e_assign (v := .bool t3) (by kernel_rfl)) ?_
  refine wpList_nil ?_
  refine then_n ?_
  refine wp_ret ?_
  obtain rfl := Option.some.inj M
  exact ret1 rfl rfl  (show _ = .bool t3 from (by kernel_rfl)) ⟨rfl, S7.chg⟩

/-! impl_node_is -/
def impl_node_is.f (x1 : Tm) (x4 : List UInt8) (x5 : Int) : Option Bool := (if x5 = 0 then (if x1.kind = 2 then some (decide (x1.text = x4)) else some false) else (if x1.kind = 3 then (if x1.text = x4 then some (decide (x1.n = x5)) else some false) else some false))
theorem impl_node_is.calls (w : World) (H : Hp) (x1 : Tm) (g2 : Nat) (x4 : List UInt8) (x5 : Int) (h3 : NodeR 74 H x1 (.pointer (some ⟨g2, 0, none⟩))) (S : Own [] H w) (r : Bool) (M : impl_node_is.f x1 x4 x5 = some r) :
    Calls Try.prog 33 #[.pointer (some ⟨g2, 0, none⟩), str x4, .int .i64 x5] w (fun e e_w => e = .returned (.bool r) ∧ Chg no w e_w) := by
  rw [impl_node_is.f] at M
  refine enter (l := [.pointer (some ⟨g2, 0, none⟩), str x4, .int .i64 x5]) 43 Try.func33 rfl rfl rfl ?_
  have S0_ := S.st
  refine wp_seq ?_
  refine wp_region_lit ?_
  refine lv (d := 6) rfl rfl (by kernel_rfl) (e_assign (v := .bool false) rfl) ?_
  refine wpList_nil ?_
  refine then_n ?_
  refine wp_seq ?_
  refine wp_seq ?_
  refine wp_region_lit ?_
  refine lv (d := 7) rfl rfl (by kernel_rfl) (e_move (v := .int .i64 x5) (by kernel_rfl)) ?_
  refine lv (d := 8) rfl rfl (by kernel_rfl) (e_eql (k := .i64) (a := x5) (b := 0) (by kernel_rfl) rfl) ?_
  refine wpList_nil ?_
  refine then_n ?_
  by_cases q6 : x5 = 0
  · replace M := ifp q6 M
    refine cond_t rfl (bt q6 (by kernel_rfl)) ?_
    refine wp_seq ?_
    refine wp_region_lit ?_
    refine lv (d := 9) rfl rfl (by kernel_rfl) (e_move (v := .pointer (some ⟨g2, 0, none⟩)) (by kernel_rfl)) ?_
    refine lv (d := 10) rfl rfl (by kernel_rfl) (e_nilCheck (ad := ⟨g2, 0, none⟩) (by kernel_rfl)) ?_
    refine lv (d := 11) rfl rfl (by kernel_rfl) (e_fieldAddr (b := g2) (off := 0) (o := 0) Try.underlying74 rfl rfl (sz := 1) (by kernel_rfl) (by decide) (by kernel_rfl)) ?_
    obtain ⟨A7, c8, y9, q10, h11, h12, l13, h14⟩ := node_open h3
    refine lv (d := 12) rfl rfl (by kernel_rfl) (e_load1 (ad := ⟨g2, 0 + 0, none⟩) (v := .int .i64 x1.kind) Try.underlying3 rfl (by kernel_rfl) (blk_cells (S0_.inv _ _ h11) h12 0 _ rfl)) ?_
    refine lv (d := 13) rfl rfl (by kernel_rfl) (e_eql (k := .i64) (a := x1.kind) (b := 2) (by kernel_rfl) rfl) ?_
    refine lv (d := 14) rfl rfl (by kernel_rfl) (e_move (v := .bool (decide (x1.kind = 2))) (by kernel_rfl)) ?_
    by_cases q15 : x1.kind = 2
    · replace M := ifp q15 M
      refine lvg (d := 15) (t := 14) rfl (by kernel_rfl) rfl (bt q15 (by kernel_rfl)) rfl (by kernel_rfl) (e_move (v := .pointer (some ⟨g2, 0, none⟩)) (by kernel_rfl)) ?_
      refine lvg (d := 16) (t := 14) rfl (by kernel_rfl) rfl (bt q15 (by kernel_rfl)) rfl (by kernel_rfl) (e_nilCheck (ad := ⟨g2, 0, none⟩) (by kernel_rfl)) ?_
      refine lvg (d := 17) (t := 14) rfl (by kernel_rfl) rfl (bt q15 (by kernel_rfl)) rfl (by kernel_rfl) (e_fieldAddr (b := g2) (off := 0) (o := 2) Try.underlying74 rfl rfl (sz := 1) (by kernel_rfl) (by decide) (by kernel_rfl)) ?_
      refine lvg (d := 18) (t := 14) rfl (by kernel_rfl) rfl (bt q15 (by kernel_rfl)) rfl (by kernel_rfl) (e_load1 (ad := ⟨g2, 0 + 2, none⟩) (v := str x1.text) Try.underlying9 rfl (by kernel_rfl) (blk_cells (S0_.inv _ _ h11) h12 2 _ rfl)) ?_
      refine lvg (d := 19) (t := 14) rfl (by kernel_rfl) rfl (bt q15 (by kernel_rfl)) rfl (by kernel_rfl) (e_move (v := str x4) (by kernel_rfl)) ?_
      refine lvg (d := 20) (t := 14) rfl (by kernel_rfl) rfl (bt q15 (by kernel_rfl)) rfl (by kernel_rfl) (e_seql (p := x1.text) (q := x4) (by kernel_rfl) (by kernel_rfl)) ?_
      refine lv (d := 21) rfl rfl (by kernel_rfl) (e_pick_t (v := .bool (decide (x1.text = x4))) (bt q15 (by kernel_rfl)) (by kernel_rfl)) ?_
      refine lv (d := 6) rfl rfl (by kernel_rfl) (e_assign (v := .bool (decide (x1.text = x4))) (by kernel_rfl)) ?_
      refine wpList_nil ?_
      refine then_n ?_
      refine wp_ret ?_
      refine then_r ?_
      obtain rfl := Option.some.inj M
      exact ret1 rfl rfl  (show _ = .bool (decide (x1.text = x4)) from (by kernel_rfl)) ⟨rfl, S0_.chg⟩
    replace M := ifn q15 M
    refine lskip (t := 14) (c := false) rfl (by kernel_rfl) rfl (bf q15 (by kernel_rfl)) rfl rfl ?_
    refine lskip (t := 14) (c := false) rfl (by kernel_rfl) rfl (bf q15 (by kernel_rfl)) rfl rfl ?_
    refine lskip (t := 14) (c := false) rfl (by kernel_rfl) rfl (bf q15 (by kernel_rfl)) rfl rfl ?_
    refine lskip (t := 14) (c := false) rfl (by kernel_rfl) rfl (bf q15 (by kernel_rfl)) rfl rfl ?_
    refine lskip (t := 14) (c := false) rfl (by kernel_rfl) rfl (bf q15 (by kernel_rfl)) rfl rfl ?_
    refine lskip (t := 14) (c := false) rfl (by kernel_rfl) rfl (bf q15 (by kernel_rfl)) rfl rfl ?_
    refine lv (d := 21) rfl rfl (by kernel_rfl) (e_pick_f (v := .bool false) (bf q15 (by kernel_rfl)) rfl) ?_
    refine lv (d := 6) rfl rfl (by kernel_rfl) (e_assign (v := .bool false) (by kernel_rfl)) ?_
    refine wpList_nil ?_
    refine then_n ?_
    refine wp_ret ?_
    refine then_r ?_
    obtain rfl := Option.some.inj M
    exact ret1 rfl rfl  (show _ = .bool false from (by kernel_rfl)) ⟨rfl, S0_.chg⟩
  replace M := ifn q6 M
  refine cond_f rfl (bf q6 (by kernel_rfl)) ?_
  refine wp_skip ?_
  refine then_n ?_
  refine wp_seq ?_
  refine wp_region_lit ?_
  refine lv (d := 22) rfl rfl (by kernel_rfl) (e_move (v := .pointer (some ⟨g2, 0, none⟩)) (by kernel_rfl)) ?_
  refine lv (d := 23) rfl rfl (by kernel_rfl) (e_nilCheck (ad := ⟨g2, 0, none⟩) (by kernel_rfl)) ?_
  refine lv (d := 24) rfl rfl (by kernel_rfl) (e_fieldAddr (b := g2) (off := 0) (o := 0) Try.underlying74 rfl rfl (sz := 1) (by kernel_rfl) (by decide) (by kernel_rfl)) ?_
  obtain ⟨A16, c17, y18, q19, h20, h21, l22, h23⟩ := node_open h3
  refine lv (d := 25) rfl rfl (by kernel_rfl) (e_load1 (ad := ⟨g2, 0 + 0, none⟩) (v := .int .i64 x1.kind) Try.underlying3 rfl (by kernel_rfl) (blk_cells (S0_.inv _ _ h20) h21 0 _ rfl)) ?_
  refine lv (d := 26) rfl rfl (by kernel_rfl) (e_eql (k := .i64) (a := x1.kind) (b := 3) (by kernel_rfl) rfl) ?_
  refine lv (d := 27) rfl rfl (by kernel_rfl) (e_move (v := .bool (decide (x1.kind = 3))) (by kernel_rfl)) ?_
  by_cases q24 : x1.kind = 3
  · replace M := ifp q24 M
    refine lvg (d := 28) (t := 27) rfl (by kernel_rfl) rfl (bt q24 (by kernel_rfl)) rfl (by kernel_rfl) (e_move (v := .pointer (some ⟨g2, 0, none⟩)) (by kernel_rfl)) ?_
    refine lvg (d := 29) (t := 27) rfl (by kernel_rfl) rfl (bt q24 (by kernel_rfl)) rfl (by kernel_rfl) (e_nilCheck (ad := ⟨g2, 0, none⟩) (by kernel_rfl)) ?_
    refine lvg (d := 30) (t := 27) rfl (by kernel_rfl) rfl (bt q24 (by kernel_rfl)) rfl (by kernel_rfl) (e_fieldAddr (b := g2) (off := 0) (o := 2) Try.underlying74 rfl rfl (sz := 1) (by kernel_rfl) (by decide) (by kernel_rfl)) ?_
    refine lvg (d := 31) (t := 27) rfl (by kernel_rfl) rfl (bt q24 (by kernel_rfl)) rfl (by kernel_rfl) (e_load1 (ad := ⟨g2, 0 + 2, none⟩) (v := str x1.text) Try.underlying9 rfl (by kernel_rfl) (blk_cells (S0_.inv _ _ h20) h21 2 _ rfl)) ?_
    refine lvg (d := 32) (t := 27) rfl (by kernel_rfl) rfl (bt q24 (by kernel_rfl)) rfl (by kernel_rfl) (e_move (v := str x4) (by kernel_rfl)) ?_
    refine lvg (d := 33) (t := 27) rfl (by kernel_rfl) rfl (bt q24 (by kernel_rfl)) rfl (by kernel_rfl) (e_seql (p := x1.text) (q := x4) (by kernel_rfl) (by kernel_rfl)) ?_
    refine lv (d := 34) rfl rfl (by kernel_rfl) (e_pick_t (v := .bool (decide (x1.text = x4))) (bt q24 (by kernel_rfl)) (by kernel_rfl)) ?_
    refine lv (d := 35) rfl rfl (by kernel_rfl) (e_move (v := .bool (decide (x1.text = x4))) (by kernel_rfl)) ?_
    by_cases q25 : x1.text = x4
    · replace M := ifp q25 M
      refine lvg (d := 36) (t := 35) rfl (by kernel_rfl) rfl (bt q25 (by kernel_rfl)) rfl (by kernel_rfl) (e_move (v := .pointer (some ⟨g2, 0, none⟩)) (by kernel_rfl)) ?_
      refine lvg (d := 37) (t := 35) rfl (by kernel_rfl) rfl (bt q25 (by kernel_rfl)) rfl (by kernel_rfl) (e_nilCheck (ad := ⟨g2, 0, none⟩) (by kernel_rfl)) ?_
      refine lvg (d := 38) (t := 35) rfl (by kernel_rfl) rfl (bt q25 (by kernel_rfl)) rfl (by kernel_rfl) (e_fieldAddr (b := g2) (off := 0) (o := 1) Try.underlying74 rfl rfl (sz := 1) (by kernel_rfl) (by decide) (by kernel_rfl)) ?_
      refine lvg (d := 39) (t := 35) rfl (by kernel_rfl) rfl (bt q25 (by kernel_rfl)) rfl (by kernel_rfl) (e_load1 (ad := ⟨g2, 0 + 1, none⟩) (v := .int .i64 x1.n) Try.underlying3 rfl (by kernel_rfl) (blk_cells (S0_.inv _ _ h20) h21 1 _ rfl)) ?_
      refine lvg (d := 40) (t := 35) rfl (by kernel_rfl) rfl (bt q25 (by kernel_rfl)) rfl (by kernel_rfl) (e_move (v := .int .i64 x5) (by kernel_rfl)) ?_
      refine lvg (d := 41) (t := 35) rfl (by kernel_rfl) rfl (bt q25 (by kernel_rfl)) rfl (by kernel_rfl) (e_eql (k := .i64) (a := x1.n) (b := x5) (by kernel_rfl) (by kernel_rfl)) ?_
      refine lv (d := 42) rfl rfl (by kernel_rfl) (e_pick_t (v := .bool (decide (x1.n = x5))) (bt q25 (by kernel_rfl)) (by kernel_rfl)) ?_
      refine lv (d := 6) rfl rfl (by kernel_rfl) (e_assign (v := .bool (decide (x1.n = x5))) (by kernel_rfl)) ?_
      refine wpList_nil ?_
      refine then_n ?_
      refine wp_ret ?_
      obtain rfl := Option.some.inj M
      exact ret1 rfl rfl  (show _ = .bool (decide (x1.n = x5)) from (by kernel_rfl)) ⟨rfl, S0_.chg⟩
    replace M := ifn q25 M
    refine lskip (t := 35) (c := false) rfl (by kernel_rfl) rfl (bf q25 (by kernel_rfl)) rfl rfl ?_
    refine lskip (t := 35) (c := false) rfl (by kernel_rfl) rfl (bf q25 (by kernel_rfl)) rfl rfl ?_
    refine lskip (t := 35) (c := false) rfl (by kernel_rfl) rfl (bf q25 (by kernel_rfl)) rfl rfl ?_
    refine lskip (t := 35) (c := false) rfl (by kernel_rfl) rfl (bf q25 (by kernel_rfl)) rfl rfl ?_
    refine lskip (t := 35) (c := false) rfl (by kernel_rfl) rfl (bf q25 (by kernel_rfl)) rfl rfl ?_
    refine lskip (t := 35) (c := false) rfl (by kernel_rfl) rfl (bf q25 (by kernel_rfl)) rfl rfl ?_
    refine lv (d := 42) rfl rfl (by kernel_rfl) (e_pick_f (v := .bool false) (bf q25 (by kernel_rfl)) rfl) ?_
    refine lv (d := 6) rfl rfl (by kernel_rfl) (e_assign (v := .bool false) (by kernel_rfl)) ?_
    refine wpList_nil ?_
    refine then_n ?_
    refine wp_ret ?_
    obtain rfl := Option.some.inj M
    exact ret1 rfl rfl  (show _ = .bool false from (by kernel_rfl)) ⟨rfl, S0_.chg⟩
  replace M := ifn q24 M
  refine lskip (t := 27) (c := false) rfl (by kernel_rfl) rfl (bf q24 (by kernel_rfl)) rfl rfl ?_
  refine lskip (t := 27) (c := false) rfl (by kernel_rfl) rfl (bf q24 (by kernel_rfl)) rfl rfl ?_
  refine lskip (t := 27) (c := false) rfl (by kernel_rfl) rfl (bf q24 (by kernel_rfl)) rfl rfl ?_
  refine lskip (t := 27) (c := false) rfl (by kernel_rfl) rfl (bf q24 (by kernel_rfl)) rfl rfl ?_
  refine lskip (t := 27) (c := false) rfl (by kernel_rfl) rfl (bf q24 (by kernel_rfl)) rfl rfl ?_
  refine lskip (t := 27) (c := false) rfl (by kernel_rfl) rfl (bf q24 (by kernel_rfl)) rfl rfl ?_
  refine lv (d := 34) rfl rfl (by kernel_rfl) (e_pick_f (v := .bool false) (bf q24 (by kernel_rfl)) rfl) ?_
  refine lv (d := 35) rfl rfl (by kernel_rfl) (e_move (v := .bool false) (by kernel_rfl)) ?_
  refine lskip (t := 35) (c := false) rfl (by kernel_rfl) rfl (by kernel_rfl) rfl rfl ?_
  refine lskip (t := 35) (c := false) rfl (by kernel_rfl) rfl (by kernel_rfl) rfl rfl ?_
  refine lskip (t := 35) (c := false) rfl (by kernel_rfl) rfl (by kernel_rfl) rfl rfl ?_
  refine lskip (t := 35) (c := false) rfl (by kernel_rfl) rfl (by kernel_rfl) rfl rfl ?_
  refine lskip (t := 35) (c := false) rfl (by kernel_rfl) rfl (by kernel_rfl) rfl rfl ?_
  refine lskip (t := 35) (c := false) rfl (by kernel_rfl) rfl (by kernel_rfl) rfl rfl ?_
  refine lv (d := 42) rfl rfl (by kernel_rfl) (e_pick_f (v := .bool false) (by kernel_rfl) rfl) ?_
  refine lv (d := 6) rfl rfl (by kernel_rfl) (e_assign (v := .bool false) (by kernel_rfl)) ?_
  refine wpList_nil ?_
  refine then_n ?_
  refine wp_ret ?_
  obtain rfl := Option.some.inj M
  exact ret1 rfl rfl  (show _ = .bool false from (by kernel_rfl)) ⟨rfl, S0_.chg⟩

/-! impl_normal_c1 -/
def impl_normal_c1.f (x1 : List UInt8) (x2 : Option Tm) (x5 : Option Tm) : Option (Option Tm) := (if ¬ (x2.isSome = true) then some none else (if ¬ (x5.isSome = true) then some none else ((impl_comp.f x1 [(x2.getD (Tm.mk 0 0 [] [])), (x5.getD (Tm.mk 0 0 [] []))]).bind fun t31 => some (some t31))))
theorem impl_normal_c1.calls (w : World) (H : Hp) (x1 : List UInt8) (x2 : Option Tm) (p3 : Option Addr) (x5 : Option Tm) (p6 : Option Addr) (h4 : NodeQ 74 H x2 (.pointer p3)) (h7 : NodeQ 74 H x5 (.pointer p6)) (S : Own [] H w) (r : Option Tm) (M : impl_normal_c1.f x1 x2 x5 = some r) :
    Calls Try.prog 63 #[str x1, .pointer p3, .pointer p6] w (fun e e_w => ∃ (p_1 : Option Addr) (H_ : Hp), e = .returned (.pointer p_1) ∧ NodeQ 74 H_ r (.pointer p_1) ∧ St (anyOf []) H w [] H_ e_w) := by
  rw [impl_normal_c1.f] at M
  refine enter (l := [str x1, .pointer p3, .pointer p6]) 18 Try.func63 rfl rfl rfl ?_
  have S0_ := S.st
  refine wp_seq ?_
  refine wp_region_lit ?_
  refine lv (d := 6) rfl rfl (by kernel_rfl) (e_assign (v := .pointer none) rfl) ?_
  refine wpList_nil ?_
  refine then_n ?_
  refine wp_seq ?_
  refine wp_seq ?_
  refine wp_region_lit ?_
  refine lv (d := 7) rfl rfl (by kernel_rfl) (e_move (v := .pointer p3) (by kernel_rfl)) ?_
  refine lv (d := 8) rfl rfl (by kernel_rfl) (e_qeql (p := p3) h4 Try.underlying38 (by kernel_rfl) rfl) ?_
  refine lv (d := 9) rfl rfl (by kernel_rfl) (e_move (v := .bool (decide (¬ (x2.isSome = true)))) (by kernel_rfl)) ?_
  by_cases q8 : ¬ (x2.isSome = true)
  · replace M := ifp q8 M
    refine lskip (t := 9) (c := true) rfl (by kernel_rfl) rfl (bt q8 (by kernel_rfl)) rfl rfl ?_
    refine lskip (t := 9) (c := true) rfl (by kernel_rfl) rfl (bt q8 (by kernel_rfl)) rfl rfl ?_
    refine lv (d := 12) rfl rfl (by kernel_rfl) (e_pick_t (v := .bool true) (bt q8 (by kernel_rfl)) rfl) ?_
    refine wpList_nil ?_
    refine then_n ?_
    refine cond_t rfl (by kernel_rfl) ?_
    refine wp_seq ?_
    refine wp_region_lit ?_
    refine lv (d := 6) rfl rfl (by kernel_rfl) (e_assign (v := .pointer none) rfl) ?_
    refine wpList_nil ?_
    refine then_n ?_
    refine wp_ret ?_
    refine then_r ?_
    obtain rfl := Option.some.inj M
    exact ret1 rfl rfl  (show _ = .pointer none from (by kernel_rfl)) ⟨none, H, rfl, NodeQ.nil, S0_⟩
  replace M := ifn q8 M
  refine lvg (d := 10) (t := 9) rfl (by kernel_rfl) rfl (bf q8 (by kernel_rfl)) rfl (by kernel_rfl) (e_move (v := .pointer p6) (by kernel_rfl)) ?_
  refine lvg (d := 11) (t := 9) rfl (by kernel_rfl) rfl (bf q8 (by kernel_rfl)) rfl (by kernel_rfl) (e_qeql (p := p6) h7 Try.underlying38 (by kernel_rfl) rfl) ?_
  refine lv (d := 12) rfl rfl (by kernel_rfl) (e_pick_f (v := .bool (decide (¬ (x5.isSome = true)))) (bf q8 (by kernel_rfl)) (by kernel_rfl)) ?_
  refine wpList_nil ?_
  refine then_n ?_
  by_cases q9 : ¬ (x5.isSome = true)
  · replace M := ifp q9 M
    refine cond_t rfl (bt q9 (by kernel_rfl)) ?_
    refine wp_seq ?_
    refine wp_region_lit ?_
    refine lv (d := 6) rfl rfl (by kernel_rfl) (e_assign (v := .pointer none) rfl) ?_
    refine wpList_nil ?_
    refine then_n ?_
    refine wp_ret ?_
    refine then_r ?_
    obtain rfl := Option.some.inj M
    exact ret1 rfl rfl  (show _ = .pointer none from (by kernel_rfl)) ⟨none, H, rfl, NodeQ.nil, S0_⟩
  replace M := ifn q9 M
  refine cond_f rfl (bf q9 (by kernel_rfl)) ?_
  refine wp_skip ?_
  refine then_n ?_
  refine wp_seq ?_
  refine wp_region_lit ?_
  refine lv (d := 13) rfl rfl (by kernel_rfl) (e_move (v := str x1) (by kernel_rfl)) ?_
  refine lv (d := 14) rfl rfl (by kernel_rfl) (e_move (v := .pointer p3) (by kernel_rfl)) ?_
  refine lv (d := 15) rfl rfl (by kernel_rfl) (e_move (v := .pointer p6) (by kernel_rfl)) ?_
  obtain ⟨g10, e11, h12⟩ := NodeQ.get h4 (Decidable.not_not.1 q8) (Tm.mk 0 0 [] [])
  subst e11
  obtain ⟨g13, e14, h15⟩ := NodeQ.get h7 (Decidable.not_not.1 q9) (Tm.mk 0 0 [] [])
  subst e14
  refine lve (d := 16) rfl rfl (by kernel_rfl) (new_blk (v := fun g_ => .slice (some ⟨g_, 0, none⟩) 2 2) (cs := #[.pointer (some ⟨g10, 0, none⟩), .pointer (some ⟨g13, 0, none⟩)]) (t := 38) S0_ (by kernel_rfl)) ?_
  rintro _ w16 ⟨g17, rfl, b18, S19, K20⟩
  have S21 := S19.unit
  have S22 := S21.pull (F := (is g17)) (Fr := [no]) 1 rfl rfl
  obtain ⟨h23, S24⟩ := row_lit (d := (node 74)) (xs := [(x2.getD (Tm.mk 0 0 [] [])), (x5.getD (Tm.mk 0 0 [] []))]) S22 b18 rfl (elsO_no (d := (node 74)) ⟨_, rfl, h12⟩ (elsO_no (d := (node 74)) ⟨_, rfl, h15⟩ (elsO_nil _ _ _ no))) (Nat.le_of_ble_eq_true rfl)
  have l25 := h23.le
  obtain ⟨H26, S27, E28, h29, z30⟩ := S24.frzRow h23
  obtain ⟨t31, u32, M⟩ := bnd M
  refine lcall (d := 17) rfl rfl (by kernel_rfl) (e_call (l := [.tmp 13, .tmp 16]) (vs := [str x1, .slice (some ⟨g17, 0, none⟩) 2 2]) Try.func60 (by kernel_rfl) rfl (by kernel_rfl) rfl) (impl_comp.calls w16 H26 x1 [(x2.getD (Tm.mk 0 0 [] [])), (x5.getD (Tm.mk 0 0 [] []))] (some ⟨g17, 0, none⟩) 2 h29 l25 (St.own' (Fa := []) (Fr := []) S27) t31 u32) ?_
  rintro _ w33 ⟨g36, H34, rfl, h37, T35⟩
  refine ⟨_, rfl, ?_⟩
  obtain ⟨S38, K39⟩ := St.call (Fa := []) (Fr := []) S27 T35
  have E40 := T35.ext
  refine lv (d := 6) rfl rfl (by kernel_rfl) (e_assign (v := .pointer (some ⟨g36, 0, none⟩)) (by kernel_rfl)) ?_
  refine wpList_nil ?_
  refine then_n ?_
  refine wp_ret ?_
  obtain rfl := Option.some.inj M
  exact ret1 rfl rfl  (show _ = .pointer (some ⟨g36, 0, none⟩) from (by kernel_rfl)) ⟨(some ⟨g36, 0, none⟩), H34, rfl, (NodeQ.of h37), S38⟩

/-! impl_normal_c2 -/
def impl_normal_c2.f (x1 : Option Tm) : Option (Option Tm) := (if ¬ (x1.isSome = true) then some none else ((impl_comp.f ([92, 43] : List UInt8) [(x1.getD (Tm.mk 0 0 [] []))]).bind fun t23 => some (some t23)))
theorem impl_normal_c2.calls (w : World) (H : Hp) (x1 : Option Tm) (p2 : Option Addr) (h3 : NodeQ 74 H x1 (.pointer p2)) (S : Own [] H w) (r : Option Tm) (M : impl_normal_c2.f x1 = some r) :
    Calls Try.prog 64 #[.pointer p2] w (fun e e_w => ∃ (p_1 : Option Addr) (H_ : Hp), e = .returned (.pointer p_1) ∧ NodeQ 74 H_ r (.pointer p_1) ∧ St (anyOf []) H w [] H_ e_w) := by
  rw [impl_normal_c2.f] at M
  refine enter (l := [.pointer p2]) 8 Try.func64 rfl rfl rfl ?_
  have S0_ := S.st
  refine wp_seq ?_
  refine wp_region_lit ?_
  refine lv (d := 2) rfl rfl (by kernel_rfl) (e_assign (v := .pointer none) rfl) ?_
  refine wpList_nil ?_
  refine then_n ?_
  refine wp_seq ?_
  refine wp_seq ?_
  refine wp_region_lit ?_
  refine lv (d := 3) rfl rfl (by kernel_rfl) (e_move (v := .pointer p2) (by kernel_rfl)) ?_
  refine lv (d := 4) rfl rfl (by kernel_rfl) (e_qeql (p := p2) h3 Try.underlying38 (by kernel_rfl) rfl) ?_
  refine wpList_nil ?_
  refine then_n ?_
  by_cases q4 : ¬ (x1.isSome = true)
  · replace M := ifp q4 M
    refine cond_t rfl (bt q4 (by kernel_rfl)) ?_
    refine wp_seq ?_
    refine wp_region_lit ?_
    refine lv (d := 2) rfl rfl (by kernel_rfl) (e_assign (v := .pointer none) rfl) ?_
    refine wpList_nil ?_
    refine then_n ?_
    refine wp_ret ?_
    refine then_r ?_
    obtain rfl := Option.some.inj M
    exact ret1 rfl rfl  (show _ = .pointer none from (by kernel_rfl)) ⟨none, H, rfl, NodeQ.nil, S0_⟩
  replace M := ifn q4 M
  refine cond_f rfl (bf q4 (by kernel_rfl)) ?_
  refine wp_skip ?_
  refine then_n ?_
  refine wp_seq ?_
  refine wp_region_lit ?_
  refine lv (d := 5) rfl rfl (by kernel_rfl) (e_move (v := .pointer p2) (by kernel_rfl)) ?_
  obtain ⟨g5, e6, h7⟩ := NodeQ.get h3 (Decidable.not_not.1 q4) (Tm.mk 0 0 [] [])
  subst e6
  refine lve (d := 6) rfl rfl (by kernel_rfl) (new_blk (v := fun g_ => .slice (some ⟨g_, 0, none⟩) 1 1) (cs := #[.pointer (some ⟨g5, 0, none⟩)]) (t := 38) S0_ (by kernel_rfl)) ?_
  rintro _ w8 ⟨g9, rfl, b10, S11, K12⟩
  have S13 := S11.unit
  have S14 := S13.pull (F := (is g9)) (Fr := [no]) 1 rfl rfl
  obtain ⟨h15, S16⟩ := row_lit (d := (node 74)) (xs := [(x1.getD (Tm.mk 0 0 [] []))]) S14 b10 rfl (elsO_one1 ⟨_, rfl, h7⟩) (Nat.le_of_ble_eq_true rfl)
  have l17 := h15.le
  obtain ⟨H18, S19, E20, h21, z22⟩ := S16.frzRow h15
  obtain ⟨t23, u24, M⟩ := bnd M
  refine lcall (d := 7) rfl rfl (by kernel_rfl) (e_call (l := [.const (str ([92, 43] : List UInt8)), .tmp 6]) (vs := [str ([92, 43] : List UInt8), .slice (some ⟨g9, 0, none⟩) 1 1]) Try.func60 (by kernel_rfl) rfl (by kernel_rfl) rfl) (impl_comp.calls w8 H18 ([92, 43] : List UInt8) [(x1.getD (Tm.mk 0 0 [] []))] (some ⟨g9, 0, none⟩) 1 h21 l17 (St.own' (Fa := []) (Fr := []) S19) t23 u24) ?_
  rintro _ w25 ⟨g28, H26, rfl, h29, T27⟩
  refine ⟨_, rfl, ?_⟩
  obtain ⟨S30, K31⟩ := St.call (Fa := []) (Fr := []) S19 T27
  have E32 := T27.ext
  refine lv (d := 2) rfl rfl (by kernel_rfl) (e_assign (v := .pointer (some ⟨g28, 0, none⟩)) (by kernel_rfl)) ?_
  refine wpList_nil ?_
  refine then_n ?_
  refine wp_ret ?_
  obtain rfl := Option.some.inj M
  exact ret1 rfl rfl  (show _ = .pointer (some ⟨g28, 0, none⟩) from (by kernel_rfl)) ⟨(some ⟨g28, 0, none⟩), H26, rfl, (NodeQ.of h29), S30⟩

/-! impl_atom -/
def impl_atom.f (x1 : List UInt8) : Option Tm := some (Tm.mk 2 0 x1 [])
theorem impl_atom.calls (w : World) (H : Hp) (x1 : List UInt8) (S : Own [] H w) (r : Tm) (M : impl_atom.f x1 = some r) :
    Calls Try.prog 66 #[str x1] w (fun e e_w => ∃ (g_1 : Nat) (H_ : Hp), e = .returned (.pointer (some ⟨g_1, 0, none⟩)) ∧ NodeR 74 H_ r (.pointer (some ⟨g_1, 0, none⟩)) ∧ St (anyOf []) H w [] H_ e_w) := by
  rw [impl_atom.f] at M
  refine enter (l := [str x1]) 6 Try.func66 rfl rfl rfl ?_
  have S0_ := S.st
  refine wp_seq ?_
  refine wp_region_lit ?_
  refine lv (d := 2) rfl rfl (by kernel_rfl) (e_assign (v := .pointer none) rfl) ?_
  refine wpList_nil ?_
  refine then_n ?_
  refine wp_seq ?_
  refine wp_region_lit ?_
  refine lv (d := 3) rfl rfl (by kernel_rfl) (e_move (v := str x1) (by kernel_rfl)) ?_
  refine lv (d := 4) rfl rfl (by kernel_rfl) (show _ = Result.ok (Next.value (.agg #[.int .i64 2, .int .i64 0, str x1, .slice none 0 0])) w from by kernel_rfl) ?_
  refine lve (d := 5) rfl rfl (by kernel_rfl) (new_blk (v := fun g_ => .pointer (some ⟨g_, 0, none⟩)) (cs := #[.int .i64 2, .int .i64 0, str x1, .slice none 0 0]) (t := 74) S0_ (by kernel_rfl)) ?_
  rintro _ w2 ⟨g3, rfl, b4, S5, K6⟩
  refine lv (d := 2) rfl rfl (by kernel_rfl) (e_assign (v := .pointer (some ⟨g3, 0, none⟩)) (by kernel_rfl)) ?_
  refine wpList_nil ?_
  refine then_n ?_
  refine wp_ret ?_
  obtain ⟨H7, S8, E9, h10, z11⟩ := S5.frzBlk b4
  have h12 : NodeR 74 H7 (Tm.mk 2 0 x1 []) (.pointer (some ⟨g3, 0, none⟩)) := node_mk (A := none) (c := 0) h10 rfl (Nat.le_refl _) (Rd.nil _ _ _)
  obtain rfl := Option.some.inj M
  exact ret1 rfl rfl  (show _ = .pointer (some ⟨g3, 0, none⟩) from (by kernel_rfl)) ⟨g3, H7, rfl, h12, S8⟩

/-! impl_normal_c1 -/
def impl_normal_c1_2.f (x1 : List UInt8) (x2 : Option Tm) (x5 : Tm) : Option (Option Tm) := (if ¬ (x2.isSome = true) then some none else ((impl_comp.f x1 [(x2.getD (Tm.mk 0 0 [] [])), x5]).bind fun t27 => some (some t27)))
theorem impl_normal_c1_2.calls (w : World) (H : Hp) (x1 : List UInt8) (x2 : Option Tm) (p3 : Option Addr) (x5 : Tm) (g6 : Nat) (h4 : NodeQ 74 H x2 (.pointer p3)) (h7 : NodeR 74 H x5 (.pointer (some ⟨g6, 0, none⟩))) (S : Own [] H w) (r : Option Tm) (M : impl_normal_c1_2.f x1 x2 x5 = some r) :
    Calls Try.prog 63 #[str x1, .pointer p3, .pointer (some ⟨g6, 0, none⟩)] w (fun e e_w => ∃ (p_1 : Option Addr) (H_ : Hp), e = .returned (.pointer p_1) ∧ NodeQ 74 H_ r (.pointer p_1) ∧ St (anyOf []) H w [] H_ e_w) := by
  rw [impl_normal_c1_2.f] at M
  refine enter (l := [str x1, .pointer p3, .pointer (some ⟨g6, 0, none⟩)]) 18 Try.func63 rfl rfl rfl ?_
  have S0_ := S.st
  refine wp_seq ?_
  refine wp_region_lit ?_
  refine lv (d := 6) rfl rfl (by kernel_rfl) (e_assign (v := .pointer none) rfl) ?_
  refine wpList_nil ?_
  refine then_n ?_
  refine wp_seq ?_
  refine wp_seq ?_
  refine wp_region_lit ?_
  refine lv (d := 7) rfl rfl (by kernel_rfl) (e_move (v := .pointer p3) (by kernel_rfl)) ?_
  refine lv (d := 8) rfl rfl (by kernel_rfl) (e_qeql (p := p3) h4 Try.underlying38 (by kernel_rfl) rfl) ?_
  refine lv (d := 9) rfl rfl (by kernel_rfl) (e_move (v := .bool (decide (¬ (x2.isSome = true)))) (by kernel_rfl)) ?_
  by_cases q8 : ¬ (x2.isSome = true)
  · replace M := ifp q8 M
    refine lskip (t := 9) (c := true) rfl (by kernel_rfl) rfl (bt q8 (by kernel_rfl)) rfl rfl ?_
    refine lskip (t := 9) (c := true) rfl (by kernel_rfl) rfl (bt q8 (by kernel_rfl)) rfl rfl ?_
    refine lv (d := 12) rfl rfl (by kernel_rfl) (e_pick_t (v := .bool true) (bt q8 (by kernel_rfl)) rfl) ?_
    refine wpList_nil ?_
    refine then_n ?_
    refine cond_t rfl (by kernel_rfl) ?_
    refine wp_seq ?_
    refine wp_region_lit ?_
    refine lv (d := 6) rfl rfl (by kernel_rfl) (e_assign (v := .pointer none) rfl) ?_
    refine wpList_nil ?_
    refine then_n ?_
    refine wp_ret ?_
    refine then_r ?_
    obtain rfl := Option.some.inj M
    exact ret1 rfl rfl  (show _ = .pointer none from (by kernel_rfl)) ⟨none, H, rfl, NodeQ.nil, S0_⟩
  replace M := ifn q8 M
  refine lvg (d := 10) (t := 9) rfl (by kernel_rfl) rfl (bf q8 (by kernel_rfl)) rfl (by kernel_rfl) (e_move (v := .pointer (some ⟨g6, 0, none⟩)) (by kernel_rfl)) ?_
  refine lvg (d := 11) (t := 9) rfl (by kernel_rfl) rfl (bf q8 (by kernel_rfl)) rfl (by kernel_rfl) (e_peql (p := (some ⟨g6, 0, none⟩)) Try.underlying38 (by kernel_rfl) rfl) ?_
  refine lv (d := 12) rfl rfl (by kernel_rfl) (e_pick_f (v := .bool false) (bf q8 (by kernel_rfl)) (by kernel_rfl)) ?_
  refine wpList_nil ?_
  refine then_n ?_
  refine cond_f rfl (by kernel_rfl) ?_
  refine wp_skip ?_
  refine then_n ?_
  refine wp_seq ?_
  refine wp_region_lit ?_
  refine lv (d := 13) rfl rfl (by kernel_rfl) (e_move (v := str x1) (by kernel_rfl)) ?_
  refine lv (d := 14) rfl rfl (by kernel_rfl) (e_move (v := .pointer p3) (by kernel_rfl)) ?_
  refine lv (d := 15) rfl rfl (by kernel_rfl) (e_move (v := .pointer (some ⟨g6, 0, none⟩)) (by kernel_rfl)) ?_
  obtain ⟨g9, e10, h11⟩ := NodeQ.get h4 (Decidable.not_not.1 q8) (Tm.mk 0 0 [] [])
  subst e10
  refine lve (d := 16) rfl rfl (by kernel_rfl) (new_blk (v := fun g_ => .slice (some ⟨g_, 0, none⟩) 2 2) (cs := #[.pointer (some ⟨g9, 0, none⟩), .pointer (some ⟨g6, 0, none⟩)]) (t := 38) S0_ (by kernel_rfl)) ?_
  rintro _ w12 ⟨g13, rfl, b14, S15, K16⟩
  have S17 := S15.unit
  have S18 := S17.pull (F := (is g13)) (Fr := [no]) 1 rfl rfl
  obtain ⟨h19, S20⟩ := row_lit (d := (node 74)) (xs := [(x2.getD (Tm.mk 0 0 [] [])), x5]) S18 b14 rfl (elsO_no (d := (node 74)) ⟨_, rfl, h11⟩ (elsO_no (d := (node 74)) ⟨_, rfl, h7⟩ (elsO_nil _ _ _ no))) (Nat.le_of_ble_eq_true rfl)
  have l21 := h19.le
  obtain ⟨H22, S23, E24, h25, z26⟩ := S20.frzRow h19
  obtain ⟨t27, u28, M⟩ := bnd M
  refine lcall (d := 17) rfl rfl (by kernel_rfl) (e_call (l := [.tmp 13, .tmp 16]) (vs := [str x1, .slice (some ⟨g13, 0, none⟩) 2 2]) Try.func60 (by kernel_rfl) rfl (by kernel_rfl) rfl) (impl_comp.calls w12 H22 x1 [(x2.getD (Tm.mk 0 0 [] [])), x5] (some ⟨g13, 0, none⟩) 2 h25 l21 (St.own' (Fa := []) (Fr := []) S23) t27 u28) ?_
  rintro _ w29 ⟨g32, H30, rfl, h33, T31⟩
  refine ⟨_, rfl, ?_⟩
  obtain ⟨S34, K35⟩ := St.call (Fa := []) (Fr := []) S23 T31
  have E36 := T31.ext
  refine lv (d := 6) rfl rfl (by kernel_rfl) (e_assign (v := .pointer (some ⟨g32, 0, none⟩)) (by kernel_rfl)) ?_
  refine wpList_nil ?_
  refine then_n ?_
  refine wp_ret ?_
  obtain rfl := Option.some.inj M
  exact ret1 rfl rfl  (show _ = .pointer (some ⟨g32, 0, none⟩) from (by kernel_rfl)) ⟨(some ⟨g32, 0, none⟩), H30, rfl, (NodeQ.of h33), S34⟩

/-! impl_normal -/
mutual
def impl_normal.l0 : Nat → Tm → Bool → Option (Option Tm)
  | 0, _, _ => none
  | k49 + 1, x1, x40 => (if x40 = true then some none else ((impl_node_is.f x1 ([44] : List UInt8) 2).bind fun t72 => (if t72 = true then (impl_normal.l1 k49 x1 t72) else ((impl_node_is.f x1 ([59] : List UInt8) 2).bind fun t79 => (if t79 = true then (impl_normal.l1 k49 x1 t79) else ((impl_node_is.f x1 ([45, 62] : List UInt8) 2).bind fun t86 => (impl_normal.l1 k49 x1 t86)))))))
def impl_normal.l1 : Nat → Tm → Bool → Option (Option Tm)
  | 0, _, _ => none
  | k70 + 1, x1, x61 => (if x61 = true then (if 0 < (x1.args.length : Int) then (if 1 < (x1.args.length : Int) then ((impl_normal.f k70 (x1.args.getD 0 (Tm.mk 0 0 [] []))).bind fun t152 => ((impl_normal.f k70 (x1.args.getD 1 (Tm.mk 0 0 [] []))).bind fun t164 => ((impl_normal_c1.f x1.text t152 t164).bind fun t176 => some t176))) else none) else none) else ((impl_node_is.f x1 ([92, 43] : List UInt8) 1).bind fun t190 => (if t190 = true then (if 0 < (x1.args.length : Int) then ((impl_normal.f k70 (x1.args.getD 0 (Tm.mk 0 0 [] []))).bind fun t207 => ((impl_normal_c2.f t207).bind fun t217 => some t217)) else none) else ((impl_node_is.f x1 ([111, 110, 99, 101] : List UInt8) 1).bind fun t227 => (if t227 = true then (if 0 < (x1.args.length : Int) then ((impl_normal.f k70 (x1.args.getD 0 (Tm.mk 0 0 [] []))).bind fun t244 => ((impl_atom.f ([116, 114, 117, 101] : List UInt8)).bind fun t254 => ((impl_normal_c1_2.f ([45, 62] : List UInt8) t244 t254).bind fun t264 => some t264))) else none) else ((impl_node_is.f x1 ([102, 111, 114, 97, 108, 108] : List UInt8) 2).bind fun t274 => (if t274 = true then (if 0 < (x1.args.length : Int) then (if 1 < (x1.args.length : Int) then ((impl_normal.f k70 (x1.args.getD 0 (Tm.mk 0 0 [] []))).bind fun t336 => ((impl_normal.f k70 (x1.args.getD 1 (Tm.mk 0 0 [] []))).bind fun t348 => ((impl_normal_c2.f t348).bind fun t360 => ((impl_normal_c1.f ([44] : List UInt8) t336 t360).bind fun t372 => ((impl_normal_c2.f t372).bind fun t384 => some t384))))) else none) else none) else some (some x1))))))))
def impl_normal.f : Nat → Tm → Option (Option Tm)
  | 0, _ => none
  | k1_ + 1, x1 => (if x1.kind = 0 then ((impl_comp.f ([99, 97, 108, 108] : List UInt8) [x1]).bind fun t28 => some (some t28)) else (if x1.kind = 1 then (impl_normal.l0 k1_ x1 (decide (x1.kind = 1))) else ((strings_HasPrefix.f x1.text ([36] : List UInt8)).bind fun t52 => (impl_normal.l0 k1_ x1 t52))))
end
theorem impl_normal.all : ∀ (K : Nat), (∀ (k : Nat), k < K → ∀ (w : World) (H : Hp) (x1 : Tm) (g2 : Nat) (h3 : NodeR 74 H x1 (.pointer (some ⟨g2, 0, none⟩))) (S : Own [] H w) (r : Option Tm) (M : impl_normal.f k x1 = some r), Calls Try.prog 44 #[.pointer (some ⟨g2, 0, none⟩)] w (fun e e_w => ∃ (p_1 : Option Addr) (H_ : Hp), e = .returned (.pointer p_1) ∧ NodeQ 74 H_ r (.pointer p_1) ∧ St (anyOf []) H w [] H_ e_w)) := by
  intro K
  induction K with
  | zero => intro k hk; omega
  | succ K ih =>
    intro k hk w H x1 g2 h3 S r M
    rcases k with _ | k1_
    · rw [impl_normal.f] at M
      cases M
    rw [impl_normal.f] at M
    refine enter (l := [.pointer (some ⟨g2, 0, none⟩)]) 101 Try.func44 rfl rfl rfl ?_
    have S0_ := S.st
    refine wp_seq ?_
    refine wp_region_lit ?_
    refine lv (d := 2) rfl rfl (by kernel_rfl) (e_assign (v := .pointer none) rfl) ?_
    refine wpList_nil ?_
    refine then_n ?_
    refine wp_seq ?_
    refine wp_region_lit ?_
    refine lv (d := 3) rfl rfl (by kernel_rfl) (e_assign (v := .func (.func 63) #[] #[]) rfl) ?_
    refine wpList_nil ?_
    refine then_n ?_
    refine wp_seq ?_
    refine wp_region_lit ?_
    refine lv (d := 4) rfl rfl (by kernel_rfl) (e_assign (v := .func (.func 64) #[] #[]) rfl) ?_
    refine wpList_nil ?_
    refine then_n ?_
    refine wp_seq ?_
    refine wp_block ?_
    refine wp_seq ?_
    refine wp_region_lit ?_
    refine lv (d := 6) rfl rfl (by kernel_rfl) (e_move (v := .pointer (some ⟨g2, 0, none⟩)) (by kernel_rfl)) ?_
    refine lv (d := 7) rfl rfl (by kernel_rfl) (e_nilCheck (ad := ⟨g2, 0, none⟩) (by kernel_rfl)) ?_
    refine lv (d := 8) rfl rfl (by kernel_rfl) (e_fieldAddr (b := g2) (off := 0) (o := 0) Try.underlying74 rfl rfl (sz := 1) (by kernel_rfl) (by decide) (by kernel_rfl)) ?_
    obtain ⟨A4, c5, y6, q7, h8, h9, l10, h11⟩ := node_open h3
    refine lv (d := 9) rfl rfl (by kernel_rfl) (e_load1 (ad := ⟨g2, 0 + 0, none⟩) (v := .int .i64 x1.kind) Try.underlying3 rfl (by kernel_rfl) (blk_cells (S0_.inv _ _ h8) h9 0 _ rfl)) ?_
    refine lv (d := 10) rfl rfl (by kernel_rfl) (e_eql (k := .i64) (a := x1.kind) (b := 0) (by kernel_rfl) rfl) ?_
    refine lv (d := 5) rfl rfl (by kernel_rfl) (e_assign (v := .bool (decide (x1.kind = 0))) (by kernel_rfl)) ?_
    refine wpList_nil ?_
    refine then_n ?_
    by_cases q12 : x1.kind = 0
    · replace M := ifp q12 M
      refine cond_t rfl (bt q12 (by kernel_rfl)) ?_
      refine wp_seq ?_
      refine wp_region_lit ?_
      refine lv (d := 11) rfl rfl (by kernel_rfl) (e_move (v := .pointer (some ⟨g2, 0, none⟩)) (by kernel_rfl)) ?_
      refine lve (d := 12) rfl rfl (by kernel_rfl) (new_blk (v := fun g_ => .slice (some ⟨g_, 0, none⟩) 1 1) (cs := #[.pointer (some ⟨g2, 0, none⟩)]) (t := 38) S0_ (by kernel_rfl)) ?_
      rintro _ w13 ⟨g14, rfl, b15, S16, K17⟩
      have S18 := S16.unit
      have S19 := S18.pull (F := (is g14)) (Fr := [no]) 1 rfl rfl
      obtain ⟨h20, S21⟩ := row_lit (d := (node 74)) (xs := [x1]) S19 b15 rfl (elsO_one1 ⟨_, rfl, h3⟩) (Nat.le_of_ble_eq_true rfl)
      have l22 := h20.le
      obtain ⟨H23, S24, E25, h26, z27⟩ := S21.frzRow h20
      obtain ⟨t28, u29, M⟩ := bnd M
      refine lcall (d := 13) rfl rfl (by kernel_rfl) (e_call (l := [.const (str ([99, 97, 108, 108] : List UInt8)), .tmp 12]) (vs := [str ([99, 97, 108, 108] : List UInt8), .slice (some ⟨g14, 0, none⟩) 1 1]) Try.func60 (by kernel_rfl) rfl (by kernel_rfl) rfl) (impl_comp.calls w13 H23 ([99, 97, 108, 108] : List UInt8) [x1] (some ⟨g14, 0, none⟩) 1 h26 l22 (St.own' (Fa := []) (Fr := []) S24) t28 u29) ?_
      rintro _ w30 ⟨g33, H31, rfl, h34, T32⟩
      refine ⟨_, rfl, ?_⟩
      obtain ⟨S35, K36⟩ := St.call (Fa := []) (Fr := []) S24 T32
      have E37 := T32.ext
      refine lv (d := 2) rfl rfl (by kernel_rfl) (e_assign (v := .pointer (some ⟨g33, 0, none⟩)) (by kernel_rfl)) ?_
      refine wpList_nil ?_
      refine then_n ?_
      refine wp_ret ?_
      refine inb_r ?_
      refine then_r ?_
      obtain rfl := Option.some.inj M
      exact ret1 rfl rfl  (show _ = .pointer (some ⟨g33, 0, none⟩) from (by kernel_rfl)) ⟨(some ⟨g33, 0, none⟩), H31, rfl, (NodeQ.of h34), S35⟩
    replace M := ifn q12 M
    refine cond_f rfl (bf q12 (by kernel_rfl)) ?_
    refine wp_seq_cut (fun a48 w38 => ∃ (k50 : Nat), k50 ≤ k1_ ∧ ∃ (f39 : Nat → Value) (x40 : Bool), k50 < K ∧ a48 = mk 101 f39 ∧ f39 0 = .pointer (some ⟨g2, 0, none⟩) ∧ f39 3 = .func (.func 63) #[] #[] ∧ f39 4 = .func (.func 64) #[] #[] ∧ f39 14 = .bool x40 ∧ St (anyOf []) H w [] H w38 ∧ impl_normal.l0 k50 x1 x40 = some r) ?_ ?_
    · refine wp_seq ?_
      refine wp_region_lit ?_
      refine lv (d := 15) rfl rfl (by kernel_rfl) (e_move (v := .pointer (some ⟨g2, 0, none⟩)) (by kernel_rfl)) ?_
      refine lv (d := 16) rfl rfl (by kernel_rfl) (e_nilCheck (ad := ⟨g2, 0, none⟩) (by kernel_rfl)) ?_
      refine lv (d := 17) rfl rfl (by kernel_rfl) (e_fieldAddr (b := g2) (off := 0) (o := 0) Try.underlying74 rfl rfl (sz := 1) (by kernel_rfl) (by decide) (by kernel_rfl)) ?_
      refine lv (d := 18) rfl rfl (by kernel_rfl) (e_load1 (ad := ⟨g2, 0 + 0, none⟩) (v := .int .i64 x1.kind) Try.underlying3 rfl (by kernel_rfl) (blk_cells (S0_.inv _ _ h8) h9 0 _ rfl)) ?_
      refine lv (d := 19) rfl rfl (by kernel_rfl) (e_eql (k := .i64) (a := x1.kind) (b := 1) (by kernel_rfl) rfl) ?_
      refine lv (d := 14) rfl rfl (by kernel_rfl) (e_assign (v := .bool (decide (x1.kind = 1))) (by kernel_rfl)) ?_
      refine wpList_nil ?_
      refine then_n ?_
      by_cases q51 : x1.kind = 1
      · replace M := ifp q51 M
        refine cond_t rfl (bt q51 (by kernel_rfl)) ?_
        refine wp_skip ?_
        refine then_n ?_
        exact ⟨k1_, (by omega), _, (decide (x1.kind = 1)), (by omega), rfl, (by kernel_rfl), (by kernel_rfl), (by kernel_rfl), (by kernel_rfl), S0_, M⟩
      replace M := ifn q51 M
      refine cond_f rfl (bf q51 (by kernel_rfl)) ?_
      refine wp_region_lit ?_
      refine lv (d := 20) rfl rfl (by kernel_rfl) (e_move (v := .pointer (some ⟨g2, 0, none⟩)) (by kernel_rfl)) ?_
      refine lv (d := 21) rfl rfl (by kernel_rfl) (e_nilCheck (ad := ⟨g2, 0, none⟩) (by kernel_rfl)) ?_
      refine lv (d := 22) rfl rfl (by kernel_rfl) (e_fieldAddr (b := g2) (off := 0) (o := 2) Try.underlying74 rfl rfl (sz := 1) (by kernel_rfl) (by decide) (by kernel_rfl)) ?_
      refine lv (d := 23) rfl rfl (by kernel_rfl) (e_load1 (ad := ⟨g2, 0 + 2, none⟩) (v := str x1.text) Try.underlying9 rfl (by kernel_rfl) (blk_cells (S0_.inv _ _ h8) h9 2 _ rfl)) ?_
      obtain ⟨t52, u53, M⟩ := bnd M
      refine lcall (d := 24) rfl rfl (by kernel_rfl) (e_call (l := [.tmp 23, .const (str ([36] : List UInt8))]) (vs := [str x1.text, str ([36] : List UInt8)]) Try.func65 (by kernel_rfl) rfl (by kernel_rfl) rfl) (strings_HasPrefix.calls w H x1.text ([36] : List UInt8)  S0_.own0 t52 u53) ?_
      rintro _ w54 ⟨rfl, C55⟩
      refine ⟨_, rfl, ?_⟩
      obtain ⟨S56, K57⟩ := S0_.still C55
      refine lv (d := 14) rfl rfl (by kernel_rfl) (e_assign (v := .bool t52) (by kernel_rfl)) ?_
      refine wpList_nil ?_
      refine then_n ?_
      exact ⟨k1_, (by omega), _, t52, (by omega), rfl, (by kernel_rfl), (by kernel_rfl), (by kernel_rfl), (by kernel_rfl), S56, M⟩
    clear M
    rintro a48 w38 ⟨k50, z399, f39, x40, z46, rfl, e41, e42, e43, e44, S45, M⟩
    rcases k50 with _ | k49
    · rw [impl_normal.l0] at M
      cases M
    rw [impl_normal.l0] at M
    by_cases q58 : x40 = true
    · replace M := ifp q58 M
      refine cond_t rfl (bvt q58 (by exact e44)) ?_
      refine wp_seq ?_
      refine wp_region_lit ?_
      refine lv (d := 2) rfl rfl (by kernel_rfl) (e_assign (v := .pointer none) rfl) ?_
      refine wpList_nil ?_
      refine then_n ?_
      refine wp_ret ?_
      refine inb_r ?_
      refine then_r ?_
      obtain rfl := Option.some.inj M
      exact ret1 rfl rfl  (show _ = .pointer none from (by kernel_rfl)) ⟨none, H, rfl, NodeQ.nil, S45⟩
    replace M := ifn q58 M
    refine cond_f rfl (bvf q58 (by exact e44)) ?_
    refine wp_seq_cut (fun a69 w59 => ∃ (k71 : Nat), k71 ≤ k49 ∧ ∃ (f60 : Nat → Value) (x61 : Bool), k71 < K ∧ a69 = mk 101 f60 ∧ f60 0 = .pointer (some ⟨g2, 0, none⟩) ∧ f60 3 = .func (.func 63) #[] #[] ∧ f60 4 = .func (.func 64) #[] #[] ∧ f60 25 = .bool x61 ∧ St (anyOf []) H w [] H w59 ∧ impl_normal.l1 k71 x1 x61 = some r) ?_ ?_
    · refine wp_seq ?_
      refine wp_region_lit ?_
      refine lv (d := 26) rfl rfl (by kernel_rfl) (e_move (v := .pointer (some ⟨g2, 0, none⟩)) (by exact e41)) ?_
      obtain ⟨t72, u73, M⟩ := bnd M
      refine lcall (d := 27) rfl rfl (by kernel_rfl) (e_call (l := [.tmp 26, .const (str ([44] : List UInt8)), .const (.int .i64 2)]) (vs := [.pointer (some ⟨g2, 0, none⟩), str ([44] : List UInt8), .int .i64 2]) Try.func33 (by kernel_rfl) rfl (by kernel_rfl) rfl) (impl_node_is.calls w38 H x1 g2 ([44] : List UInt8) 2 h3 S45.own0 t72 u73) ?_
      rintro _ w74 ⟨rfl, C75⟩
      refine ⟨_, rfl, ?_⟩
      obtain ⟨S76, K77⟩ := S45.still C75
      refine lv (d := 25) rfl rfl (by kernel_rfl) (e_assign (v := .bool t72) (by kernel_rfl)) ?_
      refine wpList_nil ?_
      refine then_n ?_
      by_cases q78 : t72 = true
      · replace M := ifp q78 M
        refine cond_t rfl (bvt q78 (by kernel_rfl)) ?_
        refine wp_skip ?_
        refine then_n ?_
        exact ⟨k49, (by omega), _, t72, (by omega), rfl, (by exact e41), (by exact e42), (by exact e43), (by kernel_rfl), S76, M⟩
      replace M := ifn q78 M
      refine cond_f rfl (bvf q78 (by kernel_rfl)) ?_
      refine wp_seq ?_
      refine wp_region_lit ?_
      refine lv (d := 28) rfl rfl (by kernel_rfl) (e_move (v := .pointer (some ⟨g2, 0, none⟩)) (by exact e41)) ?_
      obtain ⟨t79, u80, M⟩ := bnd M
      refine lcall (d := 29) rfl rfl (by kernel_rfl) (e_call (l := [.tmp 28, .const (str ([59] : List UInt8)), .const (.int .i64 2)]) (vs := [.pointer (some ⟨g2, 0, none⟩), str ([59] : List UInt8), .int .i64 2]) Try.func33 (by kernel_rfl) rfl (by kernel_rfl) rfl) (impl_node_is.calls w74 H x1 g2 ([59] : List UInt8) 2 h3 S76.own0 t79 u80) ?_
      rintro _ w81 ⟨rfl, C82⟩
      refine ⟨_, rfl, ?_⟩
      obtain ⟨S83, K84⟩ := S76.still C82
      refine lv (d := 25) rfl rfl (by kernel_rfl) (e_assign (v := .bool t79) (by kernel_rfl)) ?_
      refine wpList_nil ?_
      refine then_n ?_
      by_cases q85 : t79 = true
      · replace M := ifp q85 M
        refine cond_t rfl (bvt q85 (by kernel_rfl)) ?_
        refine wp_skip ?_
        refine then_n ?_
        exact ⟨k49, (by omega), _, t79, (by omega), rfl, (by exact e41), (by exact e42), (by exact e43), (by kernel_rfl), S83, M⟩
      replace M := ifn q85 M
      refine cond_f rfl (bvf q85 (by kernel_rfl)) ?_
      refine wp_region_lit ?_
      refine lv (d := 30) rfl rfl (by kernel_rfl) (e_move (v := .pointer (some ⟨g2, 0, none⟩)) (by exact e41)) ?_
      obtain ⟨t86, u87, M⟩ := bnd M
      refine lcall (d := 31) rfl rfl (by kernel_rfl) (e_call (l := [.tmp 30, .const (str ([45, 62] : List UInt8)), .const (.int .i64 2)]) (vs := [.pointer (some ⟨g2, 0, none⟩), str ([45, 62] : List UInt8), .int .i64 2]) Try.func33 (by kernel_rfl) rfl (by kernel_rfl) rfl) (impl_node_is.calls w81 H x1 g2 ([45, 62] : List UInt8) 2 h3 S83.own0 t86 u87) ?_
      rintro _ w88 ⟨rfl, C89⟩
      refine ⟨_, rfl, ?_⟩
      obtain ⟨S90, K91⟩ := S83.still C89
      refine lv (d := 25) rfl rfl (by kernel_rfl) (e_assign (v := .bool t86) (by kernel_rfl)) ?_
      refine wpList_nil ?_
      refine then_n ?_
      exact ⟨k49, (by omega), _, t86, (by omega), rfl, (by exact e41), (by exact e42), (by exact e43), (by kernel_rfl), S90, M⟩
    clear M
    rintro a69 w59 ⟨k71, z398, f60, x61, z67, rfl, e62, e63, e64, e65, S66, M⟩
    rcases k71 with _ | k70
    · rw [impl_normal.l1] at M
      cases M
    rw [impl_normal.l1] at M
    by_cases q92 : x61 = true
    · replace M := ifp q92 M
      refine cond_t rfl (bvt q92 (by exact e65)) ?_
      refine wp_seq ?_
      refine region_mix (S := (fun (L_ : Array Bool) (w_ : World) => Ext H (hp w_) ∧ True)) (by kernel_rfl) S66 ?_
      intro w93 S94 K95 hc96
      have hs97 : (fun (L_ : Array Bool) (w_ : World) => Ext H (hp w_) ∧ True) (Array.replicate 21 false) w93 := ⟨S94.inv, trivial⟩
      refine xv (i := 0) (d := 32) rfl rfl rfl (by kernel_rfl) (by kernel_rfl) (fun _ _ => Iff.rfl) hc96 hs97 (fun L_ w_ hc_ hu_ hs_ => e_move (v := .func (.func 63) #[] #[]) (by exact e63)) ?_; intro hc98 hs99
      refine xv (i := 1) (d := 33) rfl rfl rfl (by kernel_rfl) (by kernel_rfl) (fun _ _ => Iff.rfl) hc98 hs99 (fun L_ w_ hc_ hu_ hs_ => e_move (v := .pointer (some ⟨g2, 0, none⟩)) (by exact e62)) ?_; intro hc100 hs101
      refine xv (i := 2) (d := 34) rfl rfl rfl (by kernel_rfl) (by kernel_rfl) (fun _ _ => Iff.rfl) hc100 hs101 (fun L_ w_ hc_ hu_ hs_ => e_nilCheck (ad := ⟨g2, 0, none⟩) (by kernel_rfl)) ?_; intro hc102 hs103
      refine xv (i := 3) (d := 35) rfl rfl rfl (by kernel_rfl) (by kernel_rfl) (fun _ _ => Iff.rfl) hc102 hs103 (fun L_ w_ hc_ hu_ hs_ => e_fieldAddr (b := g2) (off := 0) (o := 2) Try.underlying74 rfl rfl (sz := 1) (by kernel_rfl) (by decide) (by kernel_rfl)) ?_; intro hc104 hs105
      refine xv (i := 4) (d := 36) rfl rfl rfl (by kernel_rfl) (by kernel_rfl) (fun _ _ => Iff.rfl) hc104 hs105 (fun L_ w_ hc_ hu_ hs_ => e_load1 (ad := ⟨g2, 0 + 2, none⟩) (v := str x1.text) Try.underlying9 rfl (by kernel_rfl) (blk_cells (hs_.1 _ _ h8) h9 2 _ rfl)) ?_; intro hc106 hs107
      refine xv (i := 5) (d := 37) rfl rfl rfl (by kernel_rfl) (by kernel_rfl) (fun _ _ => Iff.rfl) hc106 hs107 (fun L_ w_ hc_ hu_ hs_ => e_move (v := .pointer (some ⟨g2, 0, none⟩)) (by exact e62)) ?_; intro hc108 hs109
      refine xv (i := 6) (d := 38) rfl rfl rfl (by kernel_rfl) (by kernel_rfl) (fun _ _ => Iff.rfl) hc108 hs109 (fun L_ w_ hc_ hu_ hs_ => e_nilCheck (ad := ⟨g2, 0, none⟩) (by kernel_rfl)) ?_; intro hc110 hs111
      refine xv (i := 7) (d := 39) rfl rfl rfl (by kernel_rfl) (by kernel_rfl) (fun _ _ => Iff.rfl) hc110 hs111 (fun L_ w_ hc_ hu_ hs_ => e_fieldAddr (b := g2) (off := 0) (o := 3) Try.underlying74 rfl rfl (sz := 1) (by kernel_rfl) (by decide) (by kernel_rfl)) ?_; intro hc112 hs113
      refine xv (i := 8) (d := 40) rfl rfl rfl (by kernel_rfl) (by kernel_rfl) (fun _ _ => Iff.rfl) hc112 hs113 (fun L_ w_ hc_ hu_ hs_ => e_load1 (ad := ⟨g2, 0 + 3, none⟩) (v := .slice A4 x1.args.length c5) Try.underlying72 rfl (by kernel_rfl) (blk_cells (hs_.1 _ _ h8) h9 3 _ rfl)) ?_; intro hc114 hs115
      obtain ⟨q116, M⟩ := chk M
      obtain ⟨b117, o118, e119⟩ := Rd.addr h11 (show 0 < x1.args.length by omega)
      obtain ⟨y120, r121, k122⟩ := Rd.at h11 e119 (getD_some (Tm.mk 0 0 [] []) (show 0 < x1.args.length by omega))
      obtain ⟨v123, rfl, h124⟩ := r121
      obtain ⟨g125, rfl⟩ := node_ptr h124
      refine xv (i := 9) (d := 41) rfl rfl rfl (by kernel_rfl) (by kernel_rfl) (fun _ _ => Iff.rfl) hc114 hs115 (fun L_ w_ hc_ hu_ hs_ => e_indexAddr (b := b117) (off := o118) (n := x1.args.length) (c := c5) (sz := 1) (i := 0) (k := .i64) Try.underlying72 e119 (by kernel_rfl) (by kernel_rfl) rfl (by omega) q116) ?_; intro hc126 hs127
      refine xv (i := 10) (d := 42) rfl rfl rfl (by kernel_rfl) (by kernel_rfl) (fun _ _ => Iff.rfl) hc126 hs127 (fun L_ w_ hc_ hu_ hs_ => e_load1 (ad := ⟨b117, o118 + (0 : Int).toNat * 1, none⟩) (v := .pointer (some ⟨g125, 0, none⟩)) Try.underlying38 rfl (by kernel_rfl) (hpx (hs_.1.cell (k122 0 _ rfl)))) ?_; intro hc128 hs129
      refine xv (i := 12) (d := 44) rfl rfl rfl (by kernel_rfl) (by kernel_rfl) (fun _ _ => Iff.rfl) hc128 hs129 (fun L_ w_ hc_ hu_ hs_ => e_move (v := .pointer (some ⟨g2, 0, none⟩)) (by exact e62)) ?_; intro hc130 hs131
      refine xv (i := 13) (d := 45) rfl rfl rfl (by kernel_rfl) (by kernel_rfl) (fun _ _ => Iff.rfl) hc130 hs131 (fun L_ w_ hc_ hu_ hs_ => e_nilCheck (ad := ⟨g2, 0, none⟩) (by kernel_rfl)) ?_; intro hc132 hs133
      refine xv (i := 14) (d := 46) rfl rfl rfl (by kernel_rfl) (by kernel_rfl) (fun _ _ => Iff.rfl) hc132 hs133 (fun L_ w_ hc_ hu_ hs_ => e_fieldAddr (b := g2) (off := 0) (o := 3) Try.underlying74 rfl rfl (sz := 1) (by kernel_rfl) (by decide) (by kernel_rfl)) ?_; intro hc134 hs135
      refine xv (i := 15) (d := 47) rfl rfl rfl (by kernel_rfl) (by kernel_rfl) (fun _ _ => Iff.rfl) hc134 hs135 (fun L_ w_ hc_ hu_ hs_ => e_load1 (ad := ⟨g2, 0 + 3, none⟩) (v := .slice A4 x1.args.length c5) Try.underlying72 rfl (by kernel_rfl) (blk_cells (hs_.1 _ _ h8) h9 3 _ rfl)) ?_; intro hc136 hs137
      obtain ⟨q138, M⟩ := chk M
      obtain ⟨b139, o140, e141⟩ := Rd.addr h11 (show 1 < x1.args.length by omega)
      obtain ⟨y142, r143, k144⟩ := Rd.at h11 e141 (getD_some (Tm.mk 0 0 [] []) (show 1 < x1.args.length by omega))
      obtain ⟨v145, rfl, h146⟩ := r143
      obtain ⟨g147, rfl⟩ := node_ptr h146
      refine xv (i := 16) (d := 48) rfl rfl rfl (by kernel_rfl) (by kernel_rfl) (fun _ _ => Iff.rfl) hc136 hs137 (fun L_ w_ hc_ hu_ hs_ => e_indexAddr (b := b139) (off := o140) (n := x1.args.length) (c := c5) (sz := 1) (i := 1) (k := .i64) Try.underlying72 e141 (by kernel_rfl) (by kernel_rfl) rfl (by omega) q138) ?_; intro hc148 hs149
      refine xv (i := 17) (d := 49) rfl rfl rfl (by kernel_rfl) (by kernel_rfl) (fun _ _ => Iff.rfl) hc148 hs149 (fun L_ w_ hc_ hu_ hs_ => e_load1 (ad := ⟨b139, o140 + (1 : Int).toNat * 1, none⟩) (v := .pointer (some ⟨g147, 0, none⟩)) Try.underlying38 rfl (by kernel_rfl) (hpx (hs_.1.cell (k144 0 _ rfl)))) ?_; intro hc150 hs151
      obtain ⟨t152, u153, M⟩ := bnd M
      refine xone (i := 11) (by kernel_rfl) hc150 ?_
      refine yc (i := 11) rfl (wanted_none rfl _) (by kernel_rfl) (by kernel_rfl) (e_call (l := [.tmp 42]) (vs := [.pointer (some ⟨g125, 0, none⟩)]) Try.func44 (by kernel_rfl) rfl (by kernel_rfl) rfl) (ih k70 (by omega) w93 H (x1.args.getD 0 (Tm.mk 0 0 [] [])) g125 h124 (St.own' (Fa := []) (Fr := []) S94) t152 u153) ?_
      rintro hc159 _ w154 ⟨p157, H155, rfl, h158, T156⟩
      refine ⟨_, rfl, ?_⟩
      obtain ⟨S160, K161⟩ := St.call (Fa := []) (Fr := []) S94 T156
      have E162 := T156.ext
      refine ⟨⟨(Ext.trans E162 S160.inv), trivial⟩, fun hs163 => ?_⟩
      obtain ⟨t164, u165, M⟩ := bnd M
      refine xone (i := 18) (by kernel_rfl) hc159 ?_
      refine yc (i := 18) rfl (wanted_none rfl _) (by kernel_rfl) (by kernel_rfl) (e_call (l := [.tmp 49]) (vs := [.pointer (some ⟨g147, 0, none⟩)]) Try.func44 (by kernel_rfl) rfl (by kernel_rfl) rfl) (ih k70 (by omega) w154 H155 (x1.args.getD 1 (Tm.mk 0 0 [] [])) g147 (h146.ext' E162) (St.own' (Fa := []) (Fr := []) S160) t164 u165) ?_
      rintro hc171 _ w166 ⟨p169, H167, rfl, h170, T168⟩
      refine ⟨_, rfl, ?_⟩
      obtain ⟨S172, K173⟩ := St.call (Fa := []) (Fr := []) S160 T168
      have E174 := T168.ext
      refine ⟨⟨(Ext.trans (E162.trans E174) S172.inv), trivial⟩, fun hs175 => ?_⟩
      obtain ⟨t176, u177, M⟩ := bnd M
      refine xone (i := 19) (by kernel_rfl) hc171 ?_
      refine yc (i := 19) rfl (wanted_none rfl _) (by kernel_rfl) (by kernel_rfl) (e_callv (l := [.tmp 36, .tmp 43, .tmp 50]) (vs := [str x1.text, .pointer p157, .pointer p169]) (cs := []) Try.func63 (by kernel_rfl) rfl (by kernel_rfl) (by kernel_rfl)) (impl_normal_c1.calls w166 H167 x1.text t152 p157 t164 p169 (h158.ext' E174) h170 (St.own' (Fa := []) (Fr := []) S172) t176 u177) ?_
      rintro hc183 _ w178 ⟨p181, H179, rfl, h182, T180⟩
      refine ⟨_, rfl, ?_⟩
      obtain ⟨S184, K185⟩ := St.call (Fa := []) (Fr := []) S172 T180
      have E186 := T180.ext
      refine ⟨⟨(Ext.trans ((E162.trans E174).trans E186) S184.inv), trivial⟩, fun hs187 => ?_⟩
      refine xone (i := 20) (by kernel_rfl) hc183 ?_
      refine yo (i := 20) (d := 2) rfl rfl (wanted_none rfl _) (by kernel_rfl) (by kernel_rfl) (fun _ _ => Iff.rfl) hs187 (e_assign (v := .pointer p181) (by kernel_rfl)) ?_; intro hc188 hs189
      refine xn (by kernel_rfl) ?_ _
      refine then_n ?_
      refine wp_ret ?_
      refine inb_r ?_
      refine then_r ?_
      obtain rfl := Option.some.inj M
      exact ret1 rfl rfl  (show _ = .pointer p181 from (by kernel_rfl)) ⟨p181, H179, rfl, h182, S184⟩
    replace M := ifn q92 M
    refine cond_f rfl (bvf q92 (by exact e65)) ?_
    refine wp_seq ?_
    refine wp_region_lit ?_
    refine lv (d := 53) rfl rfl (by kernel_rfl) (e_move (v := .pointer (some ⟨g2, 0, none⟩)) (by exact e62)) ?_
    obtain ⟨t190, u191, M⟩ := bnd M
    refine lcall (d := 54) rfl rfl (by kernel_rfl) (e_call (l := [.tmp 53, .const (str ([92, 43] : List UInt8)), .const (.int .i64 1)]) (vs := [.pointer (some ⟨g2, 0, none⟩), str ([92, 43] : List UInt8), .int .i64 1]) Try.func33 (by kernel_rfl) rfl (by kernel_rfl) rfl) (impl_node_is.calls w59 H x1 g2 ([92, 43] : List UInt8) 1 h3 S66.own0 t190 u191) ?_
    rintro _ w192 ⟨rfl, C193⟩
    refine ⟨_, rfl, ?_⟩
    obtain ⟨S194, K195⟩ := S66.still C193
    refine lv (d := 52) rfl rfl (by kernel_rfl) (e_assign (v := .bool t190) (by kernel_rfl)) ?_
    refine wpList_nil ?_
    refine then_n ?_
    by_cases q196 : t190 = true
    · replace M := ifp q196 M
      refine cond_t rfl (bvt q196 (by kernel_rfl)) ?_
      refine wp_seq ?_
      refine wp_region_lit ?_
      refine lv (d := 55) rfl rfl (by kernel_rfl) (e_move (v := .func (.func 64) #[] #[]) (by exact e64)) ?_
      refine lv (d := 56) rfl rfl (by kernel_rfl) (e_move (v := .pointer (some ⟨g2, 0, none⟩)) (by exact e62)) ?_
      refine lv (d := 57) rfl rfl (by kernel_rfl) (e_nilCheck (ad := ⟨g2, 0, none⟩) (by kernel_rfl)) ?_
      refine lv (d := 58) rfl rfl (by kernel_rfl) (e_fieldAddr (b := g2) (off := 0) (o := 3) Try.underlying74 rfl rfl (sz := 1) (by kernel_rfl) (by decide) (by kernel_rfl)) ?_
      refine lv (d := 59) rfl rfl (by kernel_rfl) (e_load1 (ad := ⟨g2, 0 + 3, none⟩) (v := .slice A4 x1.args.length c5) Try.underlying72 rfl (by kernel_rfl) (blk_cells (S194.inv _ _ h8) h9 3 _ rfl)) ?_
      obtain ⟨q197, M⟩ := chk M
      obtain ⟨b198, o199, e200⟩ := Rd.addr h11 (show 0 < x1.args.length by omega)
      obtain ⟨y201, r202, k203⟩ := Rd.at h11 e200 (getD_some (Tm.mk 0 0 [] []) (show 0 < x1.args.length by omega))
      obtain ⟨v204, rfl, h205⟩ := r202
      obtain ⟨g206, rfl⟩ := node_ptr h205
      refine lv (d := 60) rfl rfl (by kernel_rfl) (e_indexAddr (b := b198) (off := o199) (n := x1.args.length) (c := c5) (sz := 1) (i := 0) (k := .i64) Try.underlying72 e200 (by kernel_rfl) (by kernel_rfl) rfl (by omega) q197) ?_
      refine lv (d := 61) rfl rfl (by kernel_rfl) (e_load1 (ad := ⟨b198, o199 + (0 : Int).toNat * 1, none⟩) (v := .pointer (some ⟨g206, 0, none⟩)) Try.underlying38 rfl (by kernel_rfl) (hpx (S194.inv.cell (k203 0 _ rfl)))) ?_
      obtain ⟨t207, u208, M⟩ := bnd M
      refine lcall (d := 62) rfl rfl (by kernel_rfl) (e_call (l := [.tmp 61]) (vs := [.pointer (some ⟨g206, 0, none⟩)]) Try.func44 (by kernel_rfl) rfl (by kernel_rfl) rfl) (ih k70 (by omega) w192 H (x1.args.getD 0 (Tm.mk 0 0 [] [])) g206 h205 (St.own' (Fa := []) (Fr := []) S194) t207 u208) ?_
      rintro _ w209 ⟨p212, H210, rfl, h213, T211⟩
      refine ⟨_, rfl, ?_⟩
      obtain ⟨S214, K215⟩ := St.call (Fa := []) (Fr := []) S194 T211
      have E216 := T211.ext
      obtain ⟨t217, u218, M⟩ := bnd M
      refine lcall (d := 63) rfl rfl (by kernel_rfl) (e_callv (l := [.tmp 62]) (vs := [.pointer p212]) (cs := []) Try.func64 (by kernel_rfl) rfl (by kernel_rfl) (by kernel_rfl)) (impl_normal_c2.calls w209 H210 t207 p212 h213 (St.own' (Fa := []) (Fr := []) S214) t217 u218) ?_
      rintro _ w219 ⟨p222, H220, rfl, h223, T221⟩
      refine ⟨_, rfl, ?_⟩
      obtain ⟨S224, K225⟩ := St.call (Fa := []) (Fr := []) S214 T221
      have E226 := T221.ext
      refine lv (d := 2) rfl rfl (by kernel_rfl) (e_assign (v := .pointer p222) (by kernel_rfl)) ?_
      refine wpList_nil ?_
      refine then_n ?_
      refine wp_ret ?_
      refine inb_r ?_
      refine then_r ?_
      obtain rfl := Option.some.inj M
      exact ret1 rfl rfl  (show _ = .pointer p222 from (by kernel_rfl)) ⟨p222, H220, rfl, h223, S224⟩
    replace M := ifn q196 M
    refine cond_f rfl (bvf q196 (by kernel_rfl)) ?_
    refine wp_seq ?_
    refine wp_region_lit ?_
    refine lv (d := 65) rfl rfl (by kernel_rfl) (e_move (v := .pointer (some ⟨g2, 0, none⟩)) (by exact e62)) ?_
    obtain ⟨t227, u228, M⟩ := bnd M
    refine lcall (d := 66) rfl rfl (by kernel_rfl) (e_call (l := [.tmp 65, .const (str ([111, 110, 99, 101] : List UInt8)), .const (.int .i64 1)]) (vs := [.pointer (some ⟨g2, 0, none⟩), str ([111, 110, 99, 101] : List UInt8), .int .i64 1]) Try.func33 (by kernel_rfl) rfl (by kernel_rfl) rfl) (impl_node_is.calls w192 H x1 g2 ([111, 110, 99, 101] : List UInt8) 1 h3 S194.own0 t227 u228) ?_
    rintro _ w229 ⟨rfl, C230⟩
    refine ⟨_, rfl, ?_⟩
    obtain ⟨S231, K232⟩ := S194.still C230
    refine lv (d := 64) rfl rfl (by kernel_rfl) (e_assign (v := .bool t227) (by kernel_rfl)) ?_
    refine wpList_nil ?_
    refine then_n ?_
    by_cases q233 : t227 = true
    · replace M := ifp q233 M
      refine cond_t rfl (bvt q233 (by kernel_rfl)) ?_
      refine wp_seq ?_
      refine wp_region_lit ?_
      refine lv (d := 67) rfl rfl (by kernel_rfl) (e_move (v := .func (.func 63) #[] #[]) (by exact e63)) ?_
      refine lv (d := 68) rfl rfl (by kernel_rfl) (e_move (v := .pointer (some ⟨g2, 0, none⟩)) (by exact e62)) ?_
      refine lv (d := 69) rfl rfl (by kernel_rfl) (e_nilCheck (ad := ⟨g2, 0, none⟩) (by kernel_rfl)) ?_
      refine lv (d := 70) rfl rfl (by kernel_rfl) (e_fieldAddr (b := g2) (off := 0) (o := 3) Try.underlying74 rfl rfl (sz := 1) (by kernel_rfl) (by decide) (by kernel_rfl)) ?_
      refine lv (d := 71) rfl rfl (by kernel_rfl) (e_load1 (ad := ⟨g2, 0 + 3, none⟩) (v := .slice A4 x1.args.length c5) Try.underlying72 rfl (by kernel_rfl) (blk_cells (S231.inv _ _ h8) h9 3 _ rfl)) ?_
      obtain ⟨q234, M⟩ := chk M
      obtain ⟨b235, o236, e237⟩ := Rd.addr h11 (show 0 < x1.args.length by omega)
      obtain ⟨y238, r239, k240⟩ := Rd.at h11 e237 (getD_some (Tm.mk 0 0 [] []) (show 0 < x1.args.length by omega))
      obtain ⟨v241, rfl, h242⟩ := r239
      obtain ⟨g243, rfl⟩ := node_ptr h242
      refine lv (d := 72) rfl rfl (by kernel_rfl) (e_indexAddr (b := b235) (off := o236) (n := x1.args.length) (c := c5) (sz := 1) (i := 0) (k := .i64) Try.underlying72 e237 (by kernel_rfl) (by kernel_rfl) rfl (by omega) q234) ?_
      refine lv (d := 73) rfl rfl (by kernel_rfl) (e_load1 (ad := ⟨b235, o236 + (0 : Int).toNat * 1, none⟩) (v := .pointer (some ⟨g243, 0, none⟩)) Try.underlying38 rfl (by kernel_rfl) (hpx (S231.inv.cell (k240 0 _ rfl)))) ?_
      obtain ⟨t244, u245, M⟩ := bnd M
      refine lcall (d := 74) rfl rfl (by kernel_rfl) (e_call (l := [.tmp 73]) (vs := [.pointer (some ⟨g243, 0, none⟩)]) Try.func44 (by kernel_rfl) rfl (by kernel_rfl) rfl) (ih k70 (by omega) w229 H (x1.args.getD 0 (Tm.mk 0 0 [] [])) g243 h242 (St.own' (Fa := []) (Fr := []) S231) t244 u245) ?_
      rintro _ w246 ⟨p249, H247, rfl, h250, T248⟩
      refine ⟨_, rfl, ?_⟩
      obtain ⟨S251, K252⟩ := St.call (Fa := []) (Fr := []) S231 T248
      have E253 := T248.ext
      obtain ⟨t254, u255, M⟩ := bnd M
      refine lcall (d := 75) rfl rfl (by kernel_rfl) (e_call (l := [.const (str ([116, 114, 117, 101] : List UInt8))]) (vs := [str ([116, 114, 117, 101] : List UInt8)]) Try.func66 (by kernel_rfl) rfl (by kernel_rfl) rfl) (impl_atom.calls w246 H247 ([116, 114, 117, 101] : List UInt8)  (St.own' (Fa := []) (Fr := []) S251) t254 u255) ?_
      rintro _ w256 ⟨g259, H257, rfl, h260, T258⟩
      refine ⟨_, rfl, ?_⟩
      obtain ⟨S261, K262⟩ := St.call (Fa := []) (Fr := []) S251 T258
      have E263 := T258.ext
      obtain ⟨t264, u265, M⟩ := bnd M
      refine lcall (d := 76) rfl rfl (by kernel_rfl) (e_callv (l := [.const (str ([45, 62] : List UInt8)), .tmp 74, .tmp 75]) (vs := [str ([45, 62] : List UInt8), .pointer p249, .pointer (some ⟨g259, 0, none⟩)]) (cs := []) Try.func63 (by kernel_rfl) rfl (by kernel_rfl) (by kernel_rfl)) (impl_normal_c1_2.calls w256 H257 ([45, 62] : List UInt8) t244 p249 t254 g259 (h250.ext' E263) h260 (St.own' (Fa := []) (Fr := []) S261) t264 u265) ?_
      rintro _ w266 ⟨p269, H267, rfl, h270, T268⟩
      refine ⟨_, rfl, ?_⟩
      obtain ⟨S271, K272⟩ := St.call (Fa := []) (Fr := []) S261 T268
      have E273 := T268.ext
      refine lv (d := 2) rfl rfl (by kernel_rfl) (e_assign (v := .pointer p269) (by kernel_rfl)) ?_
      refine wpList_nil ?_
      refine then_n ?_
      refine wp_ret ?_
      refine inb_r ?_
      refine then_r ?_
      obtain rfl := Option.some.inj M
      exact ret1 rfl rfl  (show _ = .pointer p269 from (by kernel_rfl)) ⟨p269, H267, rfl, h270, S271⟩
    replace M := ifn q233 M
    refine cond_f rfl (bvf q233 (by kernel_rfl)) ?_
    refine wp_seq ?_
    refine wp_region_lit ?_
    refine lv (d := 78) rfl rfl (by kernel_rfl) (e_move (v := .pointer (some ⟨g2, 0, none⟩)) (by exact e62)) ?_
    obtain ⟨t274, u275, M⟩ := bnd M
    refine lcall (d := 79) rfl rfl (by kernel_rfl) (e_call (l := [.tmp 78, .const (str ([102, 111, 114, 97, 108, 108] : List UInt8)), .const (.int .i64 2)]) (vs := [.pointer (some ⟨g2, 0, none⟩), str ([102, 111, 114, 97, 108, 108] : List UInt8), .int .i64 2]) Try.func33 (by kernel_rfl) rfl (by kernel_rfl) rfl) (impl_node_is.calls w229 H x1 g2 ([102, 111, 114, 97, 108, 108] : List UInt8) 2 h3 S231.own0 t274 u275) ?_
    rintro _ w276 ⟨rfl, C277⟩
    refine ⟨_, rfl, ?_⟩
    obtain ⟨S278, K279⟩ := S231.still C277
    refine lv (d := 77) rfl rfl (by kernel_rfl) (e_assign (v := .bool t274) (by kernel_rfl)) ?_
    refine wpList_nil ?_
    refine then_n ?_
    by_cases q280 : t274 = true
    · replace M := ifp q280 M
      refine cond_t rfl (bvt q280 (by kernel_rfl)) ?_
      refine wp_seq ?_
      refine region_mix (S := (fun (L_ : Array Bool) (w_ : World) => Ext H (hp w_) ∧ True)) (by kernel_rfl) S278 ?_
      intro w281 S282 K283 hc284
      have hs285 : (fun (L_ : Array Bool) (w_ : World) => Ext H (hp w_) ∧ True) (Array.replicate 21 false) w281 := ⟨S282.inv, trivial⟩
      refine xv (i := 0) (d := 80) rfl rfl rfl (by kernel_rfl) (by kernel_rfl) (fun _ _ => Iff.rfl) hc284 hs285 (fun L_ w_ hc_ hu_ hs_ => e_move (v := .func (.func 64) #[] #[]) (by exact e64)) ?_; intro hc286 hs287
      refine xv (i := 1) (d := 81) rfl rfl rfl (by kernel_rfl) (by kernel_rfl) (fun _ _ => Iff.rfl) hc286 hs287 (fun L_ w_ hc_ hu_ hs_ => e_move (v := .func (.func 63) #[] #[]) (by exact e63)) ?_; intro hc288 hs289
      refine xv (i := 2) (d := 82) rfl rfl rfl (by kernel_rfl) (by kernel_rfl) (fun _ _ => Iff.rfl) hc288 hs289 (fun L_ w_ hc_ hu_ hs_ => e_move (v := .pointer (some ⟨g2, 0, none⟩)) (by exact e62)) ?_; intro hc290 hs291
      refine xv (i := 3) (d := 83) rfl rfl rfl (by kernel_rfl) (by kernel_rfl) (fun _ _ => Iff.rfl) hc290 hs291 (fun L_ w_ hc_ hu_ hs_ => e_nilCheck (ad := ⟨g2, 0, none⟩) (by kernel_rfl)) ?_; intro hc292 hs293
      refine xv (i := 4) (d := 84) rfl rfl rfl (by kernel_rfl) (by kernel_rfl) (fun _ _ => Iff.rfl) hc292 hs293 (fun L_ w_ hc_ hu_ hs_ => e_fieldAddr (b := g2) (off := 0) (o := 3) Try.underlying74 rfl rfl (sz := 1) (by kernel_rfl) (by decide) (by kernel_rfl)) ?_; intro hc294 hs295
      refine xv (i := 5) (d := 85) rfl rfl rfl (by kernel_rfl) (by kernel_rfl) (fun _ _ => Iff.rfl) hc294 hs295 (fun L_ w_ hc_ hu_ hs_ => e_load1 (ad := ⟨g2, 0 + 3, none⟩) (v := .slice A4 x1.args.length c5) Try.underlying72 rfl (by kernel_rfl) (blk_cells (hs_.1 _ _ h8) h9 3 _ rfl)) ?_; intro hc296 hs297
      obtain ⟨q298, M⟩ := chk M
      obtain ⟨b299, o300, e301⟩ := Rd.addr h11 (show 0 < x1.args.length by omega)
      obtain ⟨y302, r303, k304⟩ := Rd.at h11 e301 (getD_some (Tm.mk 0 0 [] []) (show 0 < x1.args.length by omega))
      obtain ⟨v305, rfl, h306⟩ := r303
      obtain ⟨g307, rfl⟩ := node_ptr h306
      refine xv (i := 6) (d := 86) rfl rfl rfl (by kernel_rfl) (by kernel_rfl) (fun _ _ => Iff.rfl) hc296 hs297 (fun L_ w_ hc_ hu_ hs_ => e_indexAddr (b := b299) (off := o300) (n := x1.args.length) (c := c5) (sz := 1) (i := 0) (k := .i64) Try.underlying72 e301 (by kernel_rfl) (by kernel_rfl) rfl (by omega) q298) ?_; intro hc308 hs309
      refine xv (i := 7) (d := 87) rfl rfl rfl (by kernel_rfl) (by kernel_rfl) (fun _ _ => Iff.rfl) hc308 hs309 (fun L_ w_ hc_ hu_ hs_ => e_load1 (ad := ⟨b299, o300 + (0 : Int).toNat * 1, none⟩) (v := .pointer (some ⟨g307, 0, none⟩)) Try.underlying38 rfl (by kernel_rfl) (hpx (hs_.1.cell (k304 0 _ rfl)))) ?_; intro hc310 hs311
      refine xv (i := 9) (d := 89) rfl rfl rfl (by kernel_rfl) (by kernel_rfl) (fun _ _ => Iff.rfl) hc310 hs311 (fun L_ w_ hc_ hu_ hs_ => e_move (v := .func (.func 64) #[] #[]) (by exact e64)) ?_; intro hc312 hs313
      refine xv (i := 10) (d := 90) rfl rfl rfl (by kernel_rfl) (by kernel_rfl) (fun _ _ => Iff.rfl) hc312 hs313 (fun L_ w_ hc_ hu_ hs_ => e_move (v := .pointer (some ⟨g2, 0, none⟩)) (by exact e62)) ?_; intro hc314 hs315
      refine xv (i := 11) (d := 91) rfl rfl rfl (by kernel_rfl) (by kernel_rfl) (fun _ _ => Iff.rfl) hc314 hs315 (fun L_ w_ hc_ hu_ hs_ => e_nilCheck (ad := ⟨g2, 0, none⟩) (by kernel_rfl)) ?_; intro hc316 hs317
      refine xv (i := 12) (d := 92) rfl rfl rfl (by kernel_rfl) (by kernel_rfl) (fun _ _ => Iff.rfl) hc316 hs317 (fun L_ w_ hc_ hu_ hs_ => e_fieldAddr (b := g2) (off := 0) (o := 3) Try.underlying74 rfl rfl (sz := 1) (by kernel_rfl) (by decide) (by kernel_rfl)) ?_; intro hc318 hs319
      refine xv (i := 13) (d := 93) rfl rfl rfl (by kernel_rfl) (by kernel_rfl) (fun _ _ => Iff.rfl) hc318 hs319 (fun L_ w_ hc_ hu_ hs_ => e_load1 (ad := ⟨g2, 0 + 3, none⟩) (v := .slice A4 x1.args.length c5) Try.underlying72 rfl (by kernel_rfl) (blk_cells (hs_.1 _ _ h8) h9 3 _ rfl)) ?_; intro hc320 hs321
      obtain ⟨q322, M⟩ := chk M
      obtain ⟨b323, o324, e325⟩ := Rd.addr h11 (show 1 < x1.args.length by omega)
      obtain ⟨y326, r327, k328⟩ := Rd.at h11 e325 (getD_some (Tm.mk 0 0 [] []) (show 1 < x1.args.length by omega))
      obtain ⟨v329, rfl, h330⟩ := r327
      obtain ⟨g331, rfl⟩ := node_ptr h330
      refine xv (i := 14) (d := 94) rfl rfl rfl (by kernel_rfl) (by kernel_rfl) (fun _ _ => Iff.rfl) hc320 hs321 (fun L_ w_ hc_ hu_ hs_ => e_indexAddr (b := b323) (off := o324) (n := x1.args.length) (c := c5) (sz := 1) (i := 1) (k := .i64) Try.underlying72 e325 (by kernel_rfl) (by kernel_rfl) rfl (by omega) q322) ?_; intro hc332 hs333
      refine xv (i := 15) (d := 95) rfl rfl rfl (by kernel_rfl) (by kernel_rfl) (fun _ _ => Iff.rfl) hc332 hs333 (fun L_ w_ hc_ hu_ hs_ => e_load1 (ad := ⟨b323, o324 + (1 : Int).toNat * 1, none⟩) (v := .pointer (some ⟨g331, 0, none⟩)) Try.underlying38 rfl (by kernel_rfl) (hpx (hs_.1.cell (k328 0 _ rfl)))) ?_; intro hc334 hs335
      obtain ⟨t336, u337, M⟩ := bnd M
      refine xone (i := 8) (by kernel_rfl) hc334 ?_
      refine yc (i := 8) rfl (wanted_none rfl _) (by kernel_rfl) (by kernel_rfl) (e_call (l := [.tmp 87]) (vs := [.pointer (some ⟨g307, 0, none⟩)]) Try.func44 (by kernel_rfl) rfl (by kernel_rfl) rfl) (ih k70 (by omega) w281 H (x1.args.getD 0 (Tm.mk 0 0 [] [])) g307 h306 (St.own' (Fa := []) (Fr := []) S282) t336 u337) ?_
      rintro hc343 _ w338 ⟨p341, H339, rfl, h342, T340⟩
      refine ⟨_, rfl, ?_⟩
      obtain ⟨S344, K345⟩ := St.call (Fa := []) (Fr := []) S282 T340
      have E346 := T340.ext
      refine ⟨⟨(Ext.trans E346 S344.inv), trivial⟩, fun hs347 => ?_⟩
      obtain ⟨t348, u349, M⟩ := bnd M
      refine xone (i := 16) (by kernel_rfl) hc343 ?_
      refine yc (i := 16) rfl (wanted_none rfl _) (by kernel_rfl) (by kernel_rfl) (e_call (l := [.tmp 95]) (vs := [.pointer (some ⟨g331, 0, none⟩)]) Try.func44 (by kernel_rfl) rfl (by kernel_rfl) rfl) (ih k70 (by omega) w338 H339 (x1.args.getD 1 (Tm.mk 0 0 [] [])) g331 (h330.ext' E346) (St.own' (Fa := []) (Fr := []) S344) t348 u349) ?_
      rintro hc355 _ w350 ⟨p353, H351, rfl, h354, T352⟩
      refine ⟨_, rfl, ?_⟩
      obtain ⟨S356, K357⟩ := St.call (Fa := []) (Fr := []) S344 T352
      have E358 := T352.ext
      refine ⟨⟨(Ext.trans (E346.trans E358) S356.inv), trivial⟩, fun hs359 => ?_⟩
      obtain ⟨t360, u361, M⟩ := bnd M
      refine xone (i := 17) (by kernel_rfl) hc355 ?_
      refine yc (i := 17) rfl (wanted_none rfl _) (by kernel_rfl) (by kernel_rfl) (e_callv (l := [.tmp 96]) (vs := [.pointer p353]) (cs := []) Try.func64 (by kernel_rfl) rfl (by kernel_rfl) (by kernel_rfl)) (impl_normal_c2.calls w350 H351 t348 p353 h354 (St.own' (Fa := []) (Fr := []) S356) t360 u361) ?_
      rintro hc367 _ w362 ⟨p365, H363, rfl, h366, T364⟩
      refine ⟨_, rfl, ?_⟩
      obtain ⟨S368, K369⟩ := St.call (Fa := []) (Fr := []) S356 T364
      have E370 := T364.ext
      refine ⟨⟨(Ext.trans ((E346.trans E358).trans E370) S368.inv), trivial⟩, fun hs371 => ?_⟩
      obtain ⟨t372, u373, M⟩ := bnd M
      refine xone (i := 18) (by kernel_rfl) hc367 ?_
      refine yc (i := 18) rfl (wanted_none rfl _) (by kernel_rfl) (by kernel_rfl) (e_callv (l := [.const (str ([44] : List UInt8)), .tmp 88, .tmp 97]) (vs := [str ([44] : List UInt8), .pointer p341, .pointer p365]) (cs := []) Try.func63 (by kernel_rfl) rfl (by kernel_rfl) (by kernel_rfl)) (impl_normal_c1.calls w362 H363 ([44] : List UInt8) t336 p341 t360 p365 (h342.ext' (E358.trans E370)) h366 (St.own' (Fa := []) (Fr := []) S368) t372 u373) ?_
      rintro hc379 _ w374 ⟨p377, H375, rfl, h378, T376⟩
      refine ⟨_, rfl, ?_⟩
      obtain ⟨S380, K381⟩ := St.call (Fa := []) (Fr := []) S368 T376
      have E382 := T376.ext
      refine ⟨⟨(Ext.trans (((E346.trans E358).trans E370).trans E382) S380.inv), trivial⟩, fun hs383 => ?_⟩
      obtain ⟨t384, u385, M⟩ := bnd M
      refine xone (i := 19) (by kernel_rfl) hc379 ?_
      refine yc (i := 19) rfl (wanted_none rfl _) (by kernel_rfl) (by kernel_rfl) (e_callv (l := [.tmp 98]) (vs := [.pointer p377]) (cs := []) Try.func64 (by kernel_rfl) rfl (by kernel_rfl) (by kernel_rfl)) (impl_normal_c2.calls w374 H375 t372 p377 h378 (St.own' (Fa := []) (Fr := []) S380) t384 u385) ?_
      rintro hc391 _ w386 ⟨p389, H387, rfl, h390, T388⟩
      refine ⟨_, rfl, ?_⟩
      obtain ⟨S392, K393⟩ := St.call (Fa := []) (Fr := []) S380 T388
      have E394 := T388.ext
      refine ⟨⟨(Ext.trans ((((E346.trans E358).trans E370).trans E382).trans E394) S392.inv), trivial⟩, fun hs395 => ?_⟩
      refine xone (i := 20) (by kernel_rfl) hc391 ?_
      refine yo (i := 20) (d := 2) rfl rfl (wanted_none rfl _) (by kernel_rfl) (by kernel_rfl) (fun _ _ => Iff.rfl) hs395 (e_assign (v := .pointer p389) (by kernel_rfl)) ?_; intro hc396 hs397
      refine xn (by kernel_rfl) ?_ _
      refine then_n ?_
      refine wp_ret ?_
      refine inb_r ?_
      refine then_r ?_
      obtain rfl := Option.some.inj M
      exact ret1 rfl rfl  (show _ = .pointer p389 from (by kernel_rfl)) ⟨p389, H387, rfl, h390, S392⟩
    replace M := ifn q280 M
    refine cond_f rfl (bvf q280 (by kernel_rfl)) ?_
    refine wp_skip ?_
    refine inb_n ?_
    refine then_n ?_
    refine wp_seq ?_
    refine wp_region_lit ?_
    refine lv (d := 100) rfl rfl (by kernel_rfl) (e_move (v := .pointer (some ⟨g2, 0, none⟩)) (by exact e62)) ?_
    refine lv (d := 2) rfl rfl (by kernel_rfl) (e_assign (v := .pointer (some ⟨g2, 0, none⟩)) (by kernel_rfl)) ?_
    refine wpList_nil ?_
    refine then_n ?_
    refine wp_ret ?_
    obtain rfl := Option.some.inj M
    exact ret1 rfl rfl  (show _ = .pointer (some ⟨g2, 0, none⟩) from (by kernel_rfl)) ⟨(some ⟨g2, 0, none⟩), H, rfl, (NodeQ.of h3), S278⟩
theorem impl_normal.calls (k : Nat) (w : World) (H : Hp) (x1 : Tm) (g2 : Nat) (h3 : NodeR 74 H x1 (.pointer (some ⟨g2, 0, none⟩))) (S : Own [] H w) (r : Option Tm) (M : impl_normal.f k x1 = some r) :
    Calls Try.prog 44 #[.pointer (some ⟨g2, 0, none⟩)] w (fun e e_w => ∃ (p_1 : Option Addr) (H_ : Hp), e = .returned (.pointer p_1) ∧ NodeQ 74 H_ r (.pointer p_1) ∧ St (anyOf []) H w [] H_ e_w) := (impl_normal.all (k + 1)) k (Nat.lt_succ_self k) w H x1 g2 h3 S r M

/-! impl_node_size -/
mutual
def impl_node_size.l0 : Nat → Tm → Int → Int → Int → Option Int
  | 0, _, _, _, _ => none
  | k27 + 1, x1, x4, x15, x16 => (if x16 < (x1.args.length : Int) then (if 0 ≤ x16 then (if x15 > x4 then some x15 else ((impl_node_size.f k27 (x1.args.getD ((x16).toNat) (Tm.mk 0 0 [] [])) (IntKind.i64.wrap (x4 - x15))).bind fun t40 => (impl_node_size.l0 k27 x1 x4 (IntKind.i64.wrap (x15 + t40)) (IntKind.i64.wrap (x16 + 1))))) else none) else some x15)
def impl_node_size.f : Nat → Tm → Int → Option Int
  | 0, _, _ => none
  | k1_ + 1, x1, x4 => (impl_node_size.l0 k1_ x1 x4 1 0)
end
theorem impl_node_size.all : ∀ (K : Nat), (∀ (k : Nat), k < K → ∀ (w : World) (H : Hp) (x1 : Tm) (g2 : Nat) (x4 : Int) (h3 : NodeR 74 H x1 (.pointer (some ⟨g2, 0, none⟩))) (S : Own [] H w) (r : Int) (M : impl_node_size.f k x1 x4 = some r), Calls Try.prog 45 #[.pointer (some ⟨g2, 0, none⟩), .int .i64 x4] w (fun e e_w => e = .returned (.int .i64 r) ∧ Chg no w e_w)) := by
  intro K
  induction K with
  | zero => intro k hk; omega
  | succ K ih =>
    intro k hk w H x1 g2 x4 h3 S r M
    rcases k with _ | k1_
    · rw [impl_node_size.f] at M
      cases M
    rw [impl_node_size.f] at M
    refine enter (l := [.pointer (some ⟨g2, 0, none⟩), .int .i64 x4]) 30 Try.func45 rfl rfl rfl ?_
    have S0_ := S.st
    refine wp_seq ?_
    refine wp_region_lit ?_
    refine lv (d := 4) rfl rfl (by kernel_rfl) (e_assign (v := .int .i64 0) rfl) ?_
    refine wpList_nil ?_
    refine then_n ?_
    refine wp_seq ?_
    refine wp_region_lit ?_
    refine lv (d := 5) rfl rfl (by kernel_rfl) (e_assign (v := .int .i64 1) rfl) ?_
    refine wpList_nil ?_
    refine then_n ?_
    refine wp_seq ?_
    refine wp_seq ?_
    refine wp_region_lit ?_
    refine lv (d := 8) rfl rfl (by kernel_rfl) (e_move (v := .pointer (some ⟨g2, 0, none⟩)) (by kernel_rfl)) ?_
    refine lv (d := 9) rfl rfl (by kernel_rfl) (e_nilCheck (ad := ⟨g2, 0, none⟩) (by kernel_rfl)) ?_
    refine lv (d := 10) rfl rfl (by kernel_rfl) (e_fieldAddr (b := g2) (off := 0) (o := 3) Try.underlying74 rfl rfl (sz := 1) (by kernel_rfl) (by decide) (by kernel_rfl)) ?_
    obtain ⟨A5, c6, y7, q8, h9, h10, l11, h12⟩ := node_open h3
    refine lv (d := 11) rfl rfl (by kernel_rfl) (e_load1 (ad := ⟨g2, 0 + 3, none⟩) (v := .slice A5 x1.args.length c6) Try.underlying72 rfl (by kernel_rfl) (blk_cells (S0_.inv _ _ h9) h10 3 _ rfl)) ?_
    refine lv (d := 12) rfl rfl (by kernel_rfl) (e_len (A := A5) (n := x1.args.length) (c := c6) Try.underlying72 (by kernel_rfl)) ?_
    refine lv (d := 13) rfl rfl (by kernel_rfl) (e_move (v := .int .i64 0) rfl) ?_
    refine wpList_nil ?_
    refine then_n ?_
    refine wp_block ?_
    refine wp_loop_g (fun k25 a26 w13 => ∃ (f14 : Nat → Value) (x15 : Int) (x16 : Int), k25 < K ∧ a26 = mk 30 f14 ∧ f14 1 = .int .i64 x4 ∧ f14 5 = .int .i64 x15 ∧ f14 11 = .slice A5 x1.args.length c6 ∧ f14 12 = .int .i64 (x1.args.length : Int) ∧ f14 13 = .int .i64 x16 ∧ St (anyOf []) H w [] H w13 ∧ impl_node_size.l0 k25 x1 x4 x15 x16 = some r) k1_ ⟨_, 1, 0, (by omega), rfl, (by kernel_rfl), (by kernel_rfl), (by kernel_rfl), (by kernel_rfl), (by kernel_rfl), S0_, M⟩ ?_
    clear M
    rintro k25 a26 w13 ⟨f14, x15, x16, z23, rfl, e17, e18, e19, e20, e21, S22, M⟩
    rcases k25 with _ | k27
    · rw [impl_node_size.l0] at M
      cases M
    rw [impl_node_size.l0] at M
    refine wp_seq ?_
    refine wp_region_lit ?_
    refine lv (d := 14) rfl rfl (by kernel_rfl) (e_lss (k := .i64) (a := x16) (b := (x1.args.length : Int)) (by exact e21) (by exact e20)) ?_
    refine wpList_nil ?_
    refine then_n ?_
    refine wp_seq ?_
    by_cases q28 : x16 < (x1.args.length : Int)
    · replace M := ifp q28 M
      refine cond_t rfl (bt q28 (by kernel_rfl)) ?_
      refine wp_skip ?_
      refine then_n ?_
      refine wp_seq ?_
      refine wp_block ?_
      refine wp_seq ?_
      refine wp_region_lit ?_
      obtain ⟨q29, M⟩ := chk M
      obtain ⟨b30, o31, e32⟩ := Rd.addr h12 (show (x16).toNat < x1.args.length by omega)
      obtain ⟨y33, r34, k35⟩ := Rd.at h12 e32 (getD_some (Tm.mk 0 0 [] []) (show (x16).toNat < x1.args.length by omega))
      obtain ⟨v36, rfl, h37⟩ := r34
      obtain ⟨g38, rfl⟩ := node_ptr h37
      refine lv (d := 15) rfl rfl (by kernel_rfl) (e_indexAddr (b := b30) (off := o31) (n := x1.args.length) (c := c6) (sz := 1) (i := x16) (k := .i64) Try.underlying72 e32 (by kernel_rfl) (by exact e19) (by exact e21) q29 q28) ?_
      refine lv (d := 16) rfl rfl (by kernel_rfl) (e_load1 (ad := ⟨b30, o31 + (x16 : Int).toNat * 1, none⟩) (v := .pointer (some ⟨g38, 0, none⟩)) Try.underlying38 rfl (by kernel_rfl) (hpx (S22.inv.cell (k35 0 _ rfl)))) ?_
      refine lv (d := 7) rfl rfl (by kernel_rfl) (e_assign (v := .pointer (some ⟨g38, 0, none⟩)) (by kernel_rfl)) ?_
      refine wpList_nil ?_
      refine then_n ?_
      refine wp_seq ?_
      refine wp_seq ?_
      refine wp_region_lit ?_
      refine lv (d := 17) rfl rfl (by kernel_rfl) (e_move (v := .int .i64 x15) (by exact e18)) ?_
      refine lv (d := 18) rfl rfl (by kernel_rfl) (e_move (v := .int .i64 x4) (by exact e17)) ?_
      refine lv (d := 19) rfl rfl (by kernel_rfl) (e_gtr (k := .i64) (a := x15) (b := x4) (by kernel_rfl) (by kernel_rfl)) ?_
      refine wpList_nil ?_
      refine then_n ?_
      by_cases q39 : x15 > x4
      · replace M := ifp q39 M
        refine cond_t rfl (bt q39 (by kernel_rfl)) ?_
        refine wp_seq ?_
        refine wp_region_lit ?_
        refine lv (d := 20) rfl rfl (by kernel_rfl) (e_move (v := .int .i64 x15) (by exact e18)) ?_
        refine lv (d := 4) rfl rfl (by kernel_rfl) (e_assign (v := .int .i64 x15) (by kernel_rfl)) ?_
        refine wpList_nil ?_
        refine then_n ?_
        refine wp_ret ?_
        refine then_r ?_
        refine inb_r ?_
        refine then_r ?_
        refine then_r ?_
        refine inb_r ?_
        refine then_r ?_
        obtain rfl := Option.some.inj M
        exact ret1 rfl rfl  (show _ = .int .i64 x15 from (by kernel_rfl)) ⟨rfl, S22.chg⟩
      replace M := ifn q39 M
      refine cond_f rfl (bf q39 (by kernel_rfl)) ?_
      refine wp_skip ?_
      refine then_n ?_
      refine wp_region_lit ?_
      refine lv (d := 21) rfl rfl (by kernel_rfl) (e_move (v := .int .i64 x15) (by exact e18)) ?_
      refine lv (d := 22) rfl rfl (by kernel_rfl) (e_move (v := .pointer (some ⟨g38, 0, none⟩)) (by kernel_rfl)) ?_
      refine lv (d := 23) rfl rfl (by kernel_rfl) (e_move (v := .int .i64 x4) (by exact e17)) ?_
      refine lv (d := 24) rfl rfl (by kernel_rfl) (e_move (v := .int .i64 x15) (by exact e18)) ?_
      refine lv (d := 25) rfl rfl (by kernel_rfl) (e_sub (k := .i64) (a := x4) (b := x15) (by kernel_rfl) (by kernel_rfl)) ?_
      obtain ⟨t40, u41, M⟩ := bnd M
      refine lcall (d := 26) rfl rfl (by kernel_rfl) (e_call (l := [.tmp 22, .tmp 25]) (vs := [.pointer (some ⟨g38, 0, none⟩), .int .i64 (IntKind.i64.wrap (x4 - x15))]) Try.func45 (by kernel_rfl) rfl (by kernel_rfl) rfl) (ih k27 (by omega) w13 H (x1.args.getD ((x16).toNat) (Tm.mk 0 0 [] [])) g38 (IntKind.i64.wrap (x4 - x15)) h37 S22.own0 t40 u41) ?_
      rintro _ w42 ⟨rfl, C43⟩
      refine ⟨_, rfl, ?_⟩
      obtain ⟨S44, K45⟩ := S22.still C43
      refine lv (d := 27) rfl rfl (by kernel_rfl) (e_add (k := .i64) (a := x15) (b := t40) (by kernel_rfl) (by kernel_rfl)) ?_
      refine lv (d := 5) rfl rfl (by kernel_rfl) (e_assign (v := .int .i64 (IntKind.i64.wrap (x15 + t40))) (by kernel_rfl)) ?_
      refine wpList_nil ?_
      refine inb_n ?_
      refine then_n ?_
      refine wp_region_lit ?_
      refine lv (d := 28) rfl rfl (by kernel_rfl) (e_add (k := .i64) (a := x16) (b := 1) (by exact e21) rfl) ?_
      refine lv (d := 13) rfl rfl (by kernel_rfl) (e_move (v := .int .i64 (IntKind.i64.wrap (x16 + 1))) (by kernel_rfl)) ?_
      refine wpList_nil ?_
      refine then_n ?_
      exact ⟨k27, (by omega), _, (IntKind.i64.wrap (x15 + t40)), (IntKind.i64.wrap (x16 + 1)), (by omega), rfl, (by exact e17), (by kernel_rfl), (by exact e19), (by exact e20), (by kernel_rfl), S44, M⟩
    replace M := ifn q28 M
    refine cond_f rfl (bf q28 (by kernel_rfl)) ?_
    refine wp_exit ?_
    refine then_e ?_
    refine then_e ?_
    refine inb_hit ?_
    refine then_n ?_
    refine wp_seq ?_
    refine wp_region_lit ?_
    refine lv (d := 29) rfl rfl (by kernel_rfl) (e_move (v := .int .i64 x15) (by exact e18)) ?_
    refine lv (d := 4) rfl rfl (by kernel_rfl) (e_assign (v := .int .i64 x15) (by kernel_rfl)) ?_
    refine wpList_nil ?_
    refine then_n ?_
    refine wp_ret ?_
    obtain rfl := Option.some.inj M
    exact ret1 rfl rfl  (show _ = .int .i64 x15 from (by kernel_rfl)) ⟨rfl, S22.chg⟩
theorem impl_node_size.calls (k : Nat) (w : World) (H : Hp) (x1 : Tm) (g2 : Nat) (x4 : Int) (h3 : NodeR 74 H x1 (.pointer (some ⟨g2, 0, none⟩))) (S : Own [] H w) (r : Int) (M : impl_node_size.f k x1 x4 = some r) :
    Calls Try.prog 45 #[.pointer (some ⟨g2, 0, none⟩), .int .i64 x4] w (fun e e_w => e = .returned (.int .i64 r) ∧ Chg no w e_w) := (impl_node_size.all (k + 1)) k (Nat.lt_succ_self k) w H x1 g2 x4 h3 S r M

/-! impl_normalCode -/
def impl_normalCode.f (k : Nat) (x1 : Tm) : Option ((Option Tm) × Int) := ((impl_normal.f k x1).bind fun t4 => (if ¬ (t4.isSome = true) then some (none, 4) else ((impl_node_size.f k (t4.getD (Tm.mk 0 0 [] [])) 2000).bind fun t18 => (if t18 > 2000 then some (none, 3) else some ((some (t4.getD (Tm.mk 0 0 [] []))), 0)))))
theorem impl_normalCode.calls (k : Nat) (w : World) (H : Hp) (x1 : Tm) (g2 : Nat) (h3 : NodeR 74 H x1 (.pointer (some ⟨g2, 0, none⟩))) (S : Own [] H w) (r : (Option Tm) × Int) (M : impl_normalCode.f k x1 = some r) :
    Calls Try.prog 19 #[.pointer (some ⟨g2, 0, none⟩)] w (fun e e_w => ∃ (p_1 : Option Addr) (H_ : Hp), e = .returned (.tuple #[.pointer p_1, .int .i64 r.2]) ∧ NodeQ 74 H_ r.1 (.pointer p_1) ∧ St (anyOf []) H w [] H_ e_w) := by
  rw [impl_normalCode.f] at M
  refine enter (l := [.pointer (some ⟨g2, 0, none⟩)]) 13 Try.func19 rfl rfl rfl ?_
  have S0_ := S.st
  refine wp_seq ?_
  refine wp_region_lit ?_
  refine lv (d := 2) rfl rfl (by kernel_rfl) (e_assign (v := .pointer none) rfl) ?_
  refine lv (d := 3) rfl rfl (by kernel_rfl) (e_assign (v := .int .i64 0) rfl) ?_
  refine wpList_nil ?_
  refine then_n ?_
  refine wp_seq ?_
  refine wp_region_lit ?_
  refine lv (d := 5) rfl rfl (by kernel_rfl) (e_move (v := .pointer (some ⟨g2, 0, none⟩)) (by kernel_rfl)) ?_
  obtain ⟨t4, u5, M⟩ := bnd M
  refine lcall (d := 6) rfl rfl (by kernel_rfl) (e_call (l := [.tmp 5]) (vs := [.pointer (some ⟨g2, 0, none⟩)]) Try.func44 (by kernel_rfl) rfl (by kernel_rfl) rfl) (impl_normal.calls k w H x1 g2 h3 (St.own' (Fa := []) (Fr := []) S0_) t4 u5) ?_
  rintro _ w6 ⟨p9, H7, rfl, h10, T8⟩
  refine ⟨_, rfl, ?_⟩
  obtain ⟨S11, K12⟩ := St.call (Fa := []) (Fr := []) S0_ T8
  have E13 := T8.ext
  refine lv (d := 4) rfl rfl (by kernel_rfl) (e_assign (v := .pointer p9) (by kernel_rfl)) ?_
  refine wpList_nil ?_
  refine then_n ?_
  refine wp_seq ?_
  refine wp_seq ?_
  refine wp_region_lit ?_
  refine lv (d := 7) rfl rfl (by kernel_rfl) (e_move (v := .pointer p9) (by kernel_rfl)) ?_
  refine lv (d := 8) rfl rfl (by kernel_rfl) (e_qeql (p := p9) h10 Try.underlying38 (by kernel_rfl) rfl) ?_
  refine wpList_nil ?_
  refine then_n ?_
  by_cases q14 : ¬ (t4.isSome = true)
  · replace M := ifp q14 M
    refine cond_t rfl (bt q14 (by kernel_rfl)) ?_
    refine wp_seq ?_
    refine wp_region_lit ?_
    refine lv (d := 2) rfl rfl (by kernel_rfl) (e_assign (v := .pointer none) rfl) ?_
    refine lv (d := 3) rfl rfl (by kernel_rfl) (e_assign (v := .int .i64 4) rfl) ?_
    refine wpList_nil ?_
    refine then_n ?_
    refine wp_ret ?_
    refine then_r ?_
    obtain rfl := Option.some.inj M
    exact ret2 rfl rfl rfl (show _ = .pointer none from (by kernel_rfl)) (show _ = .int .i64 4 from (by kernel_rfl)) ⟨none, H7, rfl, NodeQ.nil, S11⟩
  replace M := ifn q14 M
  refine cond_f rfl (bf q14 (by kernel_rfl)) ?_
  refine wp_skip ?_
  refine then_n ?_
  refine wp_seq ?_
  refine wp_seq ?_
  refine wp_region_lit ?_
  refine lv (d := 9) rfl rfl (by kernel_rfl) (e_move (v := .pointer p9) (by kernel_rfl)) ?_
  obtain ⟨g15, e16, h17⟩ := NodeQ.get h10 (Decidable.not_not.1 q14) (Tm.mk 0 0 [] [])
  subst e16
  obtain ⟨t18, u19, M⟩ := bnd M
  refine lcall (d := 10) rfl rfl (by kernel_rfl) (e_call (l := [.tmp 9, .const (.int .i64 2000)]) (vs := [.pointer (some ⟨g15, 0, none⟩), .int .i64 2000]) Try.func45 (by kernel_rfl) rfl (by kernel_rfl) rfl) (impl_node_size.calls k w6 H7 (t4.getD (Tm.mk 0 0 [] [])) g15 2000 h17 S11.own0 t18 u19) ?_
  rintro _ w20 ⟨rfl, C21⟩
  refine ⟨_, rfl, ?_⟩
  obtain ⟨S22, K23⟩ := S11.still C21
  refine lv (d := 11) rfl rfl (by kernel_rfl) (e_gtr (k := .i64) (a := t18) (b := 2000) (by kernel_rfl) rfl) ?_
  refine wpList_nil ?_
  refine then_n ?_
  by_cases q24 : t18 > 2000
  · replace M := ifp q24 M
    refine cond_t rfl (bt q24 (by kernel_rfl)) ?_
    refine wp_seq ?_
    refine wp_region_lit ?_
    refine lv (d := 2) rfl rfl (by kernel_rfl) (e_assign (v := .pointer none) rfl) ?_
    refine lv (d := 3) rfl rfl (by kernel_rfl) (e_assign (v := .int .i64 3) rfl) ?_
    refine wpList_nil ?_
    refine then_n ?_
    refine wp_ret ?_
    refine then_r ?_
    obtain rfl := Option.some.inj M
    exact ret2 rfl rfl rfl (show _ = .pointer none from (by kernel_rfl)) (show _ = .int .i64 3 from (by kernel_rfl)) ⟨none, H7, rfl, NodeQ.nil, S22⟩
  replace M := ifn q24 M
  refine cond_f rfl (bf q24 (by kernel_rfl)) ?_
  refine wp_skip ?_
  refine then_n ?_
  refine wp_seq ?_
  refine wp_region_lit ?_
  refine lv (d := 12) rfl rfl (by kernel_rfl) (e_move (v := .pointer (some ⟨g15, 0, none⟩)) (by kernel_rfl)) ?_
  refine lv (d := 2) rfl rfl (by kernel_rfl) (e_assign (v := .pointer (some ⟨g15, 0, none⟩)) (by kernel_rfl)) ?_
  refine lv (d := 3) rfl rfl (by kernel_rfl) (e_assign (v := .int .i64 0) rfl) ?_
  refine wpList_nil ?_
  refine then_n ?_
  refine wp_ret ?_
  obtain rfl := Option.some.inj M
  exact ret2 rfl rfl rfl (show _ = .pointer (some ⟨g15, 0, none⟩) from (by kernel_rfl)) (show _ = .int .i64 0 from (by kernel_rfl)) ⟨(some ⟨g15, 0, none⟩), H7, rfl, (NodeQ.of h17), S22⟩

/-! impl_node_put -/
mutual
def impl_node_put_2.l0 : Nat → Tm → (List Cell) → (List UInt8) → Option (List Cell)
  | 0, _, _, _ => none
  | k67 + 1, x1, x4, x55 => (if x4.length + 1 ≤ 3518437208883 then (impl_node_put_2.l1 k67 x1 (x4 ++ [(⟨x1.kind, x1.n, x55⟩ : Cell)]) 0) else none)
def impl_node_put_2.l1 : Nat → Tm → (List Cell) → Int → Option (List Cell)
  | 0, _, _, _ => none
  | k124 + 1, x1, x108, x113 => (if x113 < (x1.args.length : Int) then (if 0 ≤ x113 then ((impl_node_cut_2.f k124 x1 (x1.args.getD ((x113).toNat) (Tm.mk 0 0 [] [])) x108).bind fun t137 => (impl_node_put_2.l1 k124 x1 t137 (IntKind.i64.wrap (x113 + 1)))) else none) else some x108)
def impl_node_put_2.f : Nat → Tm → (List Cell) → Option (List Cell)
  | 0, _, _ => none
  | k1_ + 1, x1, x4 => (if x1.kind ≥ 2 then (if x1.text.length ≤ 9223372036854775807 then (impl_node_put_2.l0 k1_ x1 x4 x1.text) else none) else (impl_node_put_2.l0 k1_ x1 x4 []))
def impl_node_cut_2.f : Nat → Tm → Tm → (List Cell) → Option (List Cell)
  | 0, _, _, _ => none
  | k1_ + 1, _, x4, x7 => ((impl_node_put_2.f k1_ x4 x7).bind fun t12 => some t12)
end
theorem impl_node_put_2.all : ∀ (K : Nat), (∀ (k : Nat), k < K → ∀ (w : World) (H : Hp) (x1 : Tm) (g2 : Nat) (x4 : List Cell) (A5 : Option Addr) (c6 : Nat) (F8 : Foot) (h3 : NodeR 74 H x1 (.pointer (some ⟨g2, 0, none⟩))) (h7 : Row st36 36 H (hp w) F8 A5 c6 x4) (S : Own [F8] H w) (r : List Cell) (M : impl_node_put_2.f k x1 x4 = some r), Calls Try.prog 47 #[.pointer (some ⟨g2, 0, none⟩), .slice A5 x4.length c6] w (fun e e_w => ∃ (A_1 : Option Addr) (c_1 : Nat) (F_1 : Foot) (H_ : Hp), e = .returned (.slice A_1 r.length c_1) ∧ Row st36 36 H_ (hp e_w) F_1 A_1 c_1 r ∧ St (anyOf [F8]) H w [F_1] H_ e_w)) ∧ (∀ (k : Nat), k < K → ∀ (w : World) (H : Hp) (x1 : Tm) (g2 : Nat) (x4 : Tm) (g5 : Nat) (x7 : List Cell) (A8 : Option Addr) (c9 : Nat) (F11 : Foot) (h3 : NodeR 74 H x1 (.pointer (some ⟨g2, 0, none⟩))) (h6 : NodeR 74 H x4 (.pointer (some ⟨g5, 0, none⟩))) (h10 : Row st36 36 H (hp w) F11 A8 c9 x7) (S : Own [F11] H w) (r : List Cell) (M : impl_node_cut_2.f k x1 x4 x7 = some r), Calls Try.prog 67 #[.pointer (some ⟨g2, 0, none⟩), .pointer (some ⟨g5, 0, none⟩), .slice A8 x7.length c9] w (fun e e_w => ∃ (A_1 : Option Addr) (c_1 : Nat) (F_1 : Foot) (H_ : Hp), e = .returned (.slice A_1 r.length c_1) ∧ Row st36 36 H_ (hp e_w) F_1 A_1 c_1 r ∧ St (anyOf [F11]) H w [F_1] H_ e_w)) := by
  intro K
  induction K with
  | zero => exact ⟨fun k hk => by omega, fun k hk => by omega⟩
  | succ K ih =>
    refine ⟨?_, ?_⟩
    · intro k hk w H x1 g2 x4 A5 c6 F8 h3 h7 S r M
      rcases k with _ | k1_
      · rw [impl_node_put_2.f] at M
        cases M
      rw [impl_node_put_2.f] at M
      refine enter (l := [.pointer (some ⟨g2, 0, none⟩), .slice A5 x4.length c6]) 47 Try.func47 rfl rfl rfl ?_
      have S0_ := S.st
      refine wp_seq ?_
      refine wp_region_lit ?_
      refine lv (d := 4) rfl rfl (by kernel_rfl) (e_assign (v := .slice none 0 0) rfl) ?_
      refine wpList_nil ?_
      refine then_n ?_
      refine wp_seq ?_
      refine region_mix (S := (fun (L_ : Array Bool) (w_ : World) => Ext H (hp w_) ∧ True)) (by kernel_rfl) S0_ ?_
      intro w9 S10 K11 hc12
      have hs13 : (fun (L_ : Array Bool) (w_ : World) => Ext H (hp w_) ∧ True) (Array.replicate 11 false) w9 := ⟨S10.inv, trivial⟩
      replace h7 := h7.move (K11.at 0 rfl)
      refine xv (i := 0) (d := 8) rfl rfl rfl (by kernel_rfl) (by kernel_rfl) (fun _ _ => Iff.rfl) hc12 hs13 (fun L_ w_ hc_ hu_ hs_ => e_move (v := .pointer (some ⟨g2, 0, none⟩)) (by kernel_rfl)) ?_; intro hc14 hs15
      refine xv (i := 1) (d := 9) rfl rfl rfl (by kernel_rfl) (by kernel_rfl) (fun _ _ => Iff.rfl) hc14 hs15 (fun L_ w_ hc_ hu_ hs_ => e_nilCheck (ad := ⟨g2, 0, none⟩) (by kernel_rfl)) ?_; intro hc16 hs17
      refine xv (i := 2) (d := 10) rfl rfl rfl (by kernel_rfl) (by kernel_rfl) (fun _ _ => Iff.rfl) hc16 hs17 (fun L_ w_ hc_ hu_ hs_ => e_fieldAddr (b := g2) (off := 0) (o := 0) Try.underlying74 rfl rfl (sz := 1) (by kernel_rfl) (by decide) (by kernel_rfl)) ?_; intro hc18 hs19
      obtain ⟨A20, c21, y22, q23, h24, h25, l26, h27⟩ := node_open h3
      refine xv (i := 3) (d := 11) rfl rfl rfl (by kernel_rfl) (by kernel_rfl) (fun _ _ => Iff.rfl) hc18 hs19 (fun L_ w_ hc_ hu_ hs_ => e_load1 (ad := ⟨g2, 0 + 0, none⟩) (v := .int .i64 x1.kind) Try.underlying3 rfl (by kernel_rfl) (blk_cells (hs_.1 _ _ h24) h25 0 _ rfl)) ?_; intro hc28 hs29
      refine xv (i := 4) (d := 12) rfl rfl rfl (by kernel_rfl) (by kernel_rfl) (fun _ _ => Iff.rfl) hc28 hs29 (fun L_ w_ hc_ hu_ hs_ => e_move (v := .pointer (some ⟨g2, 0, none⟩)) (by kernel_rfl)) ?_; intro hc30 hs31
      refine xv (i := 5) (d := 13) rfl rfl rfl (by kernel_rfl) (by kernel_rfl) (fun _ _ => Iff.rfl) hc30 hs31 (fun L_ w_ hc_ hu_ hs_ => e_nilCheck (ad := ⟨g2, 0, none⟩) (by kernel_rfl)) ?_; intro hc32 hs33
      refine xv (i := 6) (d := 14) rfl rfl rfl (by kernel_rfl) (by kernel_rfl) (fun _ _ => Iff.rfl) hc32 hs33 (fun L_ w_ hc_ hu_ hs_ => e_fieldAddr (b := g2) (off := 0) (o := 1) Try.underlying74 rfl rfl (sz := 1) (by kernel_rfl) (by decide) (by kernel_rfl)) ?_; intro hc34 hs35
      refine xv (i := 7) (d := 15) rfl rfl rfl (by kernel_rfl) (by kernel_rfl) (fun _ _ => Iff.rfl) hc34 hs35 (fun L_ w_ hc_ hu_ hs_ => e_load1 (ad := ⟨g2, 0 + 1, none⟩) (v := .int .i64 x1.n) Try.underlying3 rfl (by kernel_rfl) (blk_cells (hs_.1 _ _ h24) h25 1 _ rfl)) ?_; intro hc36 hs37
      refine xv (i := 8) (d := 16) rfl rfl rfl (by kernel_rfl) (by kernel_rfl) (fun _ _ => Iff.rfl) hc36 hs37 (fun L_ w_ hc_ hu_ hs_ => (show _ = Result.ok (Next.value (.agg #[.int .i64 x1.kind, .int .i64 x1.n, .slice none 0 0])) w_ from by kernel_rfl)) ?_; intro hc38 hs39
      refine xone (i := 9) (by kernel_rfl) hc38 ?_
      refine ye (i := 9) (d := 5) rfl rfl (wanted_none rfl _) (by kernel_rfl) (by kernel_rfl) (new_blk (v := fun g_ => .pointer (some ⟨g_, 0, none⟩)) (cs := #[.int .i64 0, .int .i64 0, .slice none 0 0]) (t := 36) S10 (by kernel_rfl)) ?_
      rintro hc45 _ w40 ⟨g41, rfl, b42, S43, K44⟩
      replace h7 := h7.move (K44.at 0 rfl)
      refine ⟨⟨S43.inv, trivial⟩, fun hs46 => ?_⟩
      refine xone (i := 10) (by kernel_rfl) hc45 ?_
      refine ys (i := 10) rfl rfl (wanted_none rfl _) (by kernel_rfl) (by kernel_rfl) (e_store (g := g41) (o := 0) (v := .agg #[.int .i64 x1.kind, .int .i64 x1.n, .slice none 0 0]) (cur' := #[.int .i64 x1.kind, .int .i64 x1.n, .slice none 0 0]) (vs := [.int .i64 x1.kind, .int .i64 x1.n, .slice none 0 0]) S43 (by kernel_rfl) (by kernel_rfl) rfl (by kernel_rfl) b42 (Nat.le_of_ble_eq_true rfl) (List.forall_mem_cons.2 ⟨rfl, (List.forall_mem_cons.2 ⟨rfl, (List.forall_mem_cons.2 ⟨rfl, (fun _ h_ => by cases h_)⟩)⟩)⟩) rfl) ?_
      rintro hc51 w47 ⟨b48, S49, K50⟩
      replace h7 := h7.move (K50.at 0 rfl)
      refine ⟨⟨S49.inv, trivial⟩, fun hs52 => ?_⟩
      clear b42
      refine xn (by kernel_rfl) ?_ _
      refine then_n ?_
      refine wp_seq_cut (fun a66 w53 => ∃ (k68 : Nat), k68 ≤ k1_ ∧ ∃ (f54 : Nat → Value) (x55 : List UInt8) (A56 : Option Addr) (c57 : Nat) (F58 : Foot), k68 < K ∧ a66 = mk 47 f54 ∧ f54 0 = .pointer (some ⟨g2, 0, none⟩) ∧ f54 1 = .slice A5 x4.length c6 ∧ f54 5 = .pointer (some ⟨g41, 0, none⟩) ∧ w53.heap[g41]? = some (.cells #[.int .i64 x1.kind, .int .i64 x1.n, .slice A56 x55.length c57] 36 (0, 0)) ∧ Row st36 36 H (hp w53) F8 A5 c6 x4 ∧ Row tByte 5 H (hp w53) F58 A56 c57 x55 ∧ St (anyOf [F8]) H w [(is g41), F8, F58] H w53 ∧ impl_node_put_2.l0 k68 x1 x4 x55 = some r) ?_ ?_
      · refine wp_seq ?_
        refine wp_region_lit ?_
        refine lv (d := 17) rfl rfl (by kernel_rfl) (e_move (v := .pointer (some ⟨g2, 0, none⟩)) (by kernel_rfl)) ?_
        refine lv (d := 18) rfl rfl (by kernel_rfl) (e_nilCheck (ad := ⟨g2, 0, none⟩) (by kernel_rfl)) ?_
        refine lv (d := 19) rfl rfl (by kernel_rfl) (e_fieldAddr (b := g2) (off := 0) (o := 0) Try.underlying74 rfl rfl (sz := 1) (by kernel_rfl) (by decide) (by kernel_rfl)) ?_
        refine lv (d := 20) rfl rfl (by kernel_rfl) (e_load1 (ad := ⟨g2, 0 + 0, none⟩) (v := .int .i64 x1.kind) Try.underlying3 rfl (by kernel_rfl) (blk_cells (S49.inv _ _ h24) h25 0 _ rfl)) ?_
        refine lv (d := 21) rfl rfl (by kernel_rfl) (e_geq (k := .i64) (a := x1.kind) (b := 2) (by kernel_rfl) rfl) ?_
        refine wpList_nil ?_
        refine then_n ?_
        by_cases q69 : x1.kind ≥ 2
        · replace M := ifp q69 M
          refine cond_t rfl (bt q69 (by kernel_rfl)) ?_
          refine wp_region_lit ?_
          refine lv (d := 22) rfl rfl (by kernel_rfl) (e_move (v := .pointer (some ⟨g2, 0, none⟩)) (by kernel_rfl)) ?_
          refine lv (d := 23) rfl rfl (by kernel_rfl) (e_nilCheck (ad := ⟨g2, 0, none⟩) (by kernel_rfl)) ?_
          refine lv (d := 24) rfl rfl (by kernel_rfl) (e_fieldAddr (b := g2) (off := 0) (o := 2) Try.underlying74 rfl rfl (sz := 1) (by kernel_rfl) (by decide) (by kernel_rfl)) ?_
          refine lv (d := 25) rfl rfl (by kernel_rfl) (e_load1 (ad := ⟨g2, 0 + 2, none⟩) (v := str x1.text) Try.underlying9 rfl (by kernel_rfl) (blk_cells (S49.inv _ _ h24) h25 2 _ rfl)) ?_
          obtain ⟨q70, M⟩ := chk M
          refine lve (d := 26) rfl rfl (by kernel_rfl) (e_conv_sb (xs := x1.text) S49 Try.underlying9 Try.underlying32 Try.underlying5 (by kernel_rfl) q70) ?_
          rintro _ w71 ⟨A72, c73, F74, rfl, h75, S76, K77⟩
          replace b48 := K77.blk 0 rfl b48
          replace h7 := h7.move (K77.at 1 rfl)
          refine lv (d := 27) rfl rfl (by kernel_rfl) (e_fieldAddr (b := g41) (off := 0) (o := 2) Try.underlying36 rfl rfl (sz := 1) (by kernel_rfl) (by decide) (by kernel_rfl)) ?_
          have S78 := S76.pull (F := (is g41)) (Fr := [F74, F8]) 1 rfl rfl
          refine lse rfl rfl (by kernel_rfl) (e_store (g := g41) (o := 0 + 2) (v := .slice A72 x1.text.length c73) (cur' := #[.int .i64 x1.kind, .int .i64 x1.n, .slice A72 x1.text.length c73]) (vs := [.slice A72 x1.text.length c73]) S78 (by kernel_rfl) (by kernel_rfl) rfl (by kernel_rfl) b48 (Nat.le_of_ble_eq_true rfl) (List.forall_mem_cons.2 ⟨rfl, (fun _ h_ => by cases h_)⟩) rfl) ?_
          rintro w79 ⟨b80, S81, K82⟩
          replace h75 := h75.move (K82.at 0 rfl)
          replace h7 := h7.move (K82.at 1 rfl)
          clear b48
          refine wpList_nil ?_
          refine then_n ?_
          have S83 := S81.pull (F := F74) (Fr := [(is g41), F8]) 1 rfl rfl
          have S84 := S83.pull (F := F8) (Fr := [F74, (is g41)]) 2 rfl rfl
          have S85 := S84.pull (F := (is g41)) (Fr := [F8, F74]) 2 rfl rfl
          exact ⟨k1_, (by omega), _, x1.text, A72, c73, F74, (by omega), rfl, (by kernel_rfl), (by kernel_rfl), (by kernel_rfl), b80, h7, h75, S85, M⟩
        replace M := ifn q69 M
        refine cond_f rfl (bf q69 (by kernel_rfl)) ?_
        refine wp_skip ?_
        refine then_n ?_
        have S86 := S49.unit
        have S87 := S86.pull (F := F8) (Fr := [no, (is g41)]) 2 rfl rfl
        have S88 := S87.pull (F := (is g41)) (Fr := [F8, no]) 2 rfl rfl
        exact ⟨k1_, (by omega), _, [], none, 0, no, (by omega), rfl, (by kernel_rfl), (by kernel_rfl), (by kernel_rfl), b48, h7, (Row.nil _ _ _ _ _), S88, M⟩
      clear M
      rintro a66 w53 ⟨k68, z149, f54, x55, A56, c57, F58, z64, rfl, e60, e61, e62, b48, h7, h59, S63, M⟩
      rcases k68 with _ | k67
      · rw [impl_node_put_2.l0] at M
        cases M
      rw [impl_node_put_2.l0] at M
      refine wp_seq ?_
      refine wp_region_lit ?_
      refine lv (d := 28) rfl rfl (by kernel_rfl) (e_move (v := .slice A5 x4.length c6) (by exact e61)) ?_
      refine lv (d := 29) rfl rfl (by kernel_rfl) (e_loadS (b := g41) (off := 0) (cs := [.int .i64 x1.kind, .int .i64 x1.n, .slice A56 x55.length c57]) Try.underlying36 rfl (by kernel_rfl) (by exact e62) (blk_cells b48 rfl)) ?_
      refine lve (d := 30) rfl rfl (by kernel_rfl) (new_blk (v := fun g_ => .slice (some ⟨g_, 0, none⟩) 1 1) (cs := #[.int .i64 x1.kind, .int .i64 x1.n, .slice A56 x55.length c57]) (t := 36) S63 (by kernel_rfl)) ?_
      rintro _ w89 ⟨g90, rfl, b91, S92, K93⟩
      replace b48 := K93.blk 0 rfl b48
      replace h7 := h7.move (K93.at 1 rfl)
      replace h59 := h59.move (K93.at 2 rfl)
      obtain ⟨q94, M⟩ := chk M
      have S95 := S92.pull (F := F58) (Fr := [(is g90), (is g41), F8]) 3 rfl rfl
      have S96 := S95.pull (F := F8) (Fr := [F58, (is g90), (is g41)]) 3 rfl rfl
      refine lve (d := 31) rfl rfl (by kernel_rfl) (e_append (d := st36) (n := x4.length) (xs := x4) (cap := c6) (A := A5) (ys := [(⟨x1.kind, x1.n, x55⟩ : Cell)]) (A2 := (some ⟨g90, 0, none⟩)) (c2 := 1) (z := .agg #[.int .i64 0, .int .i64 0, .slice none 0 0]) (bytes := 40) S96 Try.underlying24 (by kernel_rfl) rfl (by decide) (by kernel_rfl) rfl (by kernel_rfl) h7 (elsO_one1 (st36_mkO (x := (⟨x1.kind, x1.n, x55⟩ : Cell)) h59)) (.inr (blk_news b91 rfl)) (show (x4.length + [(⟨x1.kind, x1.n, x55⟩ : Cell)].length) * 40 ≤ _ by first | omega | (simp only [List.length_cons, List.length_nil]; omega)) (by decide)) ?_
      rintro _ w97 ⟨A98, c99, F100, rfl, h101, S102, K103⟩
      replace b91 := K103.blk 0 rfl b91
      replace b48 := K103.blk 1 rfl b48
      refine lv (d := 1) rfl rfl (by kernel_rfl) (e_assign (v := .slice A98 ((x4 ++ [(⟨x1.kind, x1.n, x55⟩ : Cell)]).length) c99) (by kernel_rfl)) ?_
      refine wpList_nil ?_
      refine then_n ?_
      refine wp_seq ?_
      refine wp_seq ?_
      refine wp_region_lit ?_
      refine lv (d := 32) rfl rfl (by kernel_rfl) (e_move (v := .pointer (some ⟨g2, 0, none⟩)) (by exact e60)) ?_
      refine lv (d := 33) rfl rfl (by kernel_rfl) (e_nilCheck (ad := ⟨g2, 0, none⟩) (by kernel_rfl)) ?_
      refine lv (d := 34) rfl rfl (by kernel_rfl) (e_fieldAddr (b := g2) (off := 0) (o := 3) Try.underlying74 rfl rfl (sz := 1) (by kernel_rfl) (by decide) (by kernel_rfl)) ?_
      refine lv (d := 35) rfl rfl (by kernel_rfl) (e_load1 (ad := ⟨g2, 0 + 3, none⟩) (v := .slice A20 x1.args.length c21) Try.underlying72 rfl (by kernel_rfl) (blk_cells (S102.inv _ _ h24) h25 3 _ rfl)) ?_
      refine lv (d := 36) rfl rfl (by kernel_rfl) (e_len (A := A20) (n := x1.args.length) (c := c21) Try.underlying72 (by kernel_rfl)) ?_
      refine lv (d := 37) rfl rfl (by kernel_rfl) (e_move (v := .int .i64 0) rfl) ?_
      refine wpList_nil ?_
      refine then_n ?_
      refine wp_block ?_
      have S125 := St.first (Fa := [F100]) (Fr := [(is g90), (is g41)]) S102
      refine wp_loop_g (fun k122 a123 w104 => ∃ (f105 : Nat → Value) (H106 : Hp) (x108 : List Cell) (A109 : Option Addr) (c110 : Nat) (F111 : Foot) (x113 : Int), k122 < K ∧ a123 = mk 47 f105 ∧ f105 0 = .pointer (some ⟨g2, 0, none⟩) ∧ f105 1 = .slice A109 x108.length c110 ∧ f105 35 = .slice A20 x1.args.length c21 ∧ f105 36 = .int .i64 (x1.args.length : Int) ∧ f105 37 = .int .i64 x113 ∧ Row st36 36 H106 (hp w104) F111 A109 c110 x108 ∧ Ext H H106 ∧ St (anyOf [F8]) H w [F111] H106 w104 ∧ impl_node_put_2.l1 k122 x1 x108 x113 = some r) k67 ⟨_, H, (x4 ++ [(⟨x1.kind, x1.n, x55⟩ : Cell)]), A98, c99, F100, 0, (by omega), rfl, (by exact e60), (by kernel_rfl), (by kernel_rfl), (by kernel_rfl), (by kernel_rfl), h101, (Ext.refl _), S125, M⟩ ?_
      clear M
      rintro k122 a123 w104 ⟨f105, H106, x108, A109, c110, F111, x113, z120, rfl, e114, e115, e116, e117, e118, h112, Y107, S119, M⟩
      rcases k122 with _ | k124
      · rw [impl_node_put_2.l1] at M
        cases M
      rw [impl_node_put_2.l1] at M
      refine wp_seq ?_
      refine wp_region_lit ?_
      refine lv (d := 38) rfl rfl (by kernel_rfl) (e_lss (k := .i64) (a := x113) (b := (x1.args.length : Int)) (by exact e118) (by exact e117)) ?_
      refine wpList_nil ?_
      refine then_n ?_
      refine wp_seq ?_
      by_cases q126 : x113 < (x1.args.length : Int)
      · replace M := ifp q126 M
        refine cond_t rfl (bt q126 (by kernel_rfl)) ?_
        refine wp_skip ?_
        refine then_n ?_
        refine wp_seq ?_
        refine wp_block ?_
        refine wp_seq ?_
        refine wp_region_lit ?_
        obtain ⟨q127, M⟩ := chk M
        obtain ⟨b128, o129, e130⟩ := Rd.addr h27 (show (x113).toNat < x1.args.length by omega)
        obtain ⟨y131, r132, k133⟩ := Rd.at h27 e130 (getD_some (Tm.mk 0 0 [] []) (show (x113).toNat < x1.args.length by omega))
        obtain ⟨v134, rfl, h135⟩ := r132
        obtain ⟨g136, rfl⟩ := node_ptr h135
        refine lv (d := 39) rfl rfl (by kernel_rfl) (e_indexAddr (b := b128) (off := o129) (n := x1.args.length) (c := c21) (sz := 1) (i := x113) (k := .i64) Try.underlying72 e130 (by kernel_rfl) (by exact e116) (by exact e118) q127 q126) ?_
        refine lv (d := 40) rfl rfl (by kernel_rfl) (e_load1 (ad := ⟨b128, o129 + (x113 : Int).toNat * 1, none⟩) (v := .pointer (some ⟨g136, 0, none⟩)) Try.underlying38 rfl (by kernel_rfl) (hpx (S119.inv.cell (Y107.cell (k133 0 _ rfl))))) ?_
        refine lv (d := 7) rfl rfl (by kernel_rfl) (e_assign (v := .pointer (some ⟨g136, 0, none⟩)) (by kernel_rfl)) ?_
        refine wpList_nil ?_
        refine then_n ?_
        refine wp_region_lit ?_
        refine lv (d := 41) rfl rfl (by kernel_rfl) (e_move (v := .pointer (some ⟨g2, 0, none⟩)) (by exact e114)) ?_
        refine lv (d := 42) rfl rfl (by kernel_rfl) (e_move (v := .pointer (some ⟨g136, 0, none⟩)) (by kernel_rfl)) ?_
        refine lv (d := 43) rfl rfl (by kernel_rfl) (e_move (v := .slice A109 x108.length c110) (by exact e115)) ?_
        obtain ⟨t137, u138, M⟩ := bnd M
        refine lcall (d := 44) rfl rfl (by kernel_rfl) (e_call (l := [.tmp 41, .tmp 42, .tmp 43]) (vs := [.pointer (some ⟨g2, 0, none⟩), .pointer (some ⟨g136, 0, none⟩), .slice A109 x108.length c110]) Try.func67 (by kernel_rfl) rfl (by kernel_rfl) rfl) (ih.2 k124 (by omega) w104 H106 x1 g2 (x1.args.getD ((x113).toNat) (Tm.mk 0 0 [] [])) g136 x108 A109 c110 F111 (h3.ext' Y107) (h135.ext' Y107) h112 (St.own' (Fa := [F111]) (Fr := []) S119) t137 u138) ?_
        rintro _ w139 ⟨A142, c143, F145, H140, rfl, h144, T141⟩
        refine ⟨_, rfl, ?_⟩
        obtain ⟨S146, K147⟩ := St.call (Fa := [F111]) (Fr := []) S119 T141
        have E148 := T141.ext
        refine lv (d := 1) rfl rfl (by kernel_rfl) (e_assign (v := .slice A142 t137.length c143) (by kernel_rfl)) ?_
        refine wpList_nil ?_
        refine inb_n ?_
        refine then_n ?_
        refine wp_region_lit ?_
        refine lv (d := 45) rfl rfl (by kernel_rfl) (e_add (k := .i64) (a := x113) (b := 1) (by exact e118) rfl) ?_
        refine lv (d := 37) rfl rfl (by kernel_rfl) (e_move (v := .int .i64 (IntKind.i64.wrap (x113 + 1))) (by kernel_rfl)) ?_
        refine wpList_nil ?_
        refine then_n ?_
        exact ⟨k124, (by omega), _, H140, t137, A142, c143, F145, (IntKind.i64.wrap (x113 + 1)), (by omega), rfl, (by exact e114), (by kernel_rfl), (by exact e116), (by exact e117), (by kernel_rfl), h144, (Y107.trans E148), S146, M⟩
      replace M := ifn q126 M
      refine cond_f rfl (bf q126 (by kernel_rfl)) ?_
      refine wp_exit ?_
      refine then_e ?_
      refine then_e ?_
      refine inb_hit ?_
      refine then_n ?_
      refine wp_seq ?_
      refine wp_region_lit ?_
      refine lv (d := 46) rfl rfl (by kernel_rfl) (e_move (v := .slice A109 x108.length c110) (by exact e115)) ?_
      refine lv (d := 4) rfl rfl (by kernel_rfl) (e_assign (v := .slice A109 x108.length c110) (by kernel_rfl)) ?_
      refine wpList_nil ?_
      refine then_n ?_
      refine wp_ret ?_
      obtain rfl := Option.some.inj M
      exact ret1 rfl rfl  (show _ = .slice A109 x108.length c110 from (by kernel_rfl)) ⟨A109, c110, F111, H106, rfl, h112, S119⟩
    · intro k hk w H x1 g2 x4 g5 x7 A8 c9 F11 h3 h6 h10 S r M
      rcases k with _ | k1_
      · rw [impl_node_cut_2.f] at M
        cases M
      rw [impl_node_cut_2.f] at M
      refine enter (l := [.pointer (some ⟨g2, 0, none⟩), .pointer (some ⟨g5, 0, none⟩), .slice A8 x7.length c9]) 10 Try.func67 rfl rfl rfl ?_
      have S0_ := S.st
      refine wp_seq ?_
      refine wp_region_lit ?_
      refine lv (d := 6) rfl rfl (by kernel_rfl) (e_assign (v := .slice none 0 0) rfl) ?_
      refine wpList_nil ?_
      refine then_n ?_
      refine wp_seq ?_
      refine wp_region_lit ?_
      refine lv (d := 7) rfl rfl (by kernel_rfl) (e_move (v := .pointer (some ⟨g5, 0, none⟩)) (by kernel_rfl)) ?_
      refine lv (d := 8) rfl rfl (by kernel_rfl) (e_move (v := .slice A8 x7.length c9) (by kernel_rfl)) ?_
      obtain ⟨t12, u13, M⟩ := bnd M
      refine lcall (d := 9) rfl rfl (by kernel_rfl) (e_call (l := [.tmp 7, .tmp 8]) (vs := [.pointer (some ⟨g5, 0, none⟩), .slice A8 x7.length c9]) Try.func47 (by kernel_rfl) rfl (by kernel_rfl) rfl) (ih.1 k1_ (by omega) w H x4 g5 x7 A8 c9 F11 h6 h10 (St.own' (Fa := [F11]) (Fr := []) S0_) t12 u13) ?_
      rintro _ w14 ⟨A17, c18, F20, H15, rfl, h19, T16⟩
      refine ⟨_, rfl, ?_⟩
      obtain ⟨S21, K22⟩ := St.call (Fa := [F11]) (Fr := []) S0_ T16
      have E23 := T16.ext
      refine lv (d := 6) rfl rfl (by kernel_rfl) (e_assign (v := .slice A17 t12.length c18) (by kernel_rfl)) ?_
      refine wpList_nil ?_
      refine then_n ?_
      refine wp_ret ?_
      obtain rfl := Option.some.inj M
      exact ret1 rfl rfl  (show _ = .slice A17 t12.length c18 from (by kernel_rfl)) ⟨A17, c18, F20, H15, rfl, h19, S21⟩
theorem impl_node_put_2.calls (k : Nat) (w : World) (H : Hp) (x1 : Tm) (g2 : Nat) (x4 : List Cell) (A5 : Option Addr) (c6 : Nat) (F8 : Foot) (h3 : NodeR 74 H x1 (.pointer (some ⟨g2, 0, none⟩))) (h7 : Row st36 36 H (hp w) F8 A5 c6 x4) (S : Own [F8] H w) (r : List Cell) (M : impl_node_put_2.f k x1 x4 = some r) :
    Calls Try.prog 47 #[.pointer (some ⟨g2, 0, none⟩), .slice A5 x4.length c6] w (fun e e_w => ∃ (A_1 : Option Addr) (c_1 : Nat) (F_1 : Foot) (H_ : Hp), e = .returned (.slice A_1 r.length c_1) ∧ Row st36 36 H_ (hp e_w) F_1 A_1 c_1 r ∧ St (anyOf [F8]) H w [F_1] H_ e_w) := (impl_node_put_2.all (k + 1)).1 k (Nat.lt_succ_self k) w H x1 g2 x4 A5 c6 F8 h3 h7 S r M
theorem impl_node_cut_2.calls (k : Nat) (w : World) (H : Hp) (x1 : Tm) (g2 : Nat) (x4 : Tm) (g5 : Nat) (x7 : List Cell) (A8 : Option Addr) (c9 : Nat) (F11 : Foot) (h3 : NodeR 74 H x1 (.pointer (some ⟨g2, 0, none⟩))) (h6 : NodeR 74 H x4 (.pointer (some ⟨g5, 0, none⟩))) (h10 : Row st36 36 H (hp w) F11 A8 c9 x7) (S : Own [F11] H w) (r : List Cell) (M : impl_node_cut_2.f k x1 x4 x7 = some r) :
    Calls Try.prog 67 #[.pointer (some ⟨g2, 0, none⟩), .pointer (some ⟨g5, 0, none⟩), .slice A8 x7.length c9] w (fun e e_w => ∃ (A_1 : Option Addr) (c_1 : Nat) (F_1 : Foot) (H_ : Hp), e = .returned (.slice A_1 r.length c_1) ∧ Row st36 36 H_ (hp e_w) F_1 A_1 c_1 r ∧ St (anyOf [F11]) H w [F_1] H_ e_w) := (impl_node_put_2.all (k + 1)).2 k (Nat.lt_succ_self k) w H x1 g2 x4 g5 x7 A8 c9 F11 h3 h6 h10 S r M

/-! impl_node_cells -/
def impl_node_cells.f (k : Nat) (x1 : Tm) : Option (List Cell) := ((impl_node_put_2.f k x1 []).bind fun t5 => some t5)
theorem impl_node_cells.calls (k : Nat) (w : World) (H : Hp) (x1 : Tm) (g2 : Nat) (h3 : NodeR 74 H x1 (.pointer (some ⟨g2, 0, none⟩))) (S : Own [] H w) (r : List Cell) (M : impl_node_cells.f k x1 = some r) :
    Calls Try.prog 21 #[.pointer (some ⟨g2, 0, none⟩)] w (fun e e_w => ∃ (A_1 : Option Addr) (c_1 : Nat) (F_1 : Foot) (H_ : Hp), e = .returned (.slice A_1 r.length c_1) ∧ Row st36 36 H_ (hp e_w) F_1 A_1 c_1 r ∧ St (anyOf []) H w [F_1] H_ e_w) := by
  rw [impl_node_cells.f] at M
  refine enter (l := [.pointer (some ⟨g2, 0, none⟩)]) 5 Try.func21 rfl rfl rfl ?_
  have S0_ := S.st
  refine wp_seq ?_
  refine wp_region_lit ?_
  refine lv (d := 2) rfl rfl (by kernel_rfl) (e_assign (v := .slice none 0 0) rfl) ?_
  refine wpList_nil ?_
  refine then_n ?_
  refine wp_seq ?_
  refine wp_region_lit ?_
  refine lv (d := 3) rfl rfl (by kernel_rfl) (e_move (v := .pointer (some ⟨g2, 0, none⟩)) (by kernel_rfl)) ?_
  have S4 := S0_.unit
  obtain ⟨t5, u6, M⟩ := bnd M
  refine lcall (d := 4) rfl rfl (by kernel_rfl) (e_call (l := [.tmp 3, .const (.slice none 0 0)]) (vs := [.pointer (some ⟨g2, 0, none⟩), .slice none 0 0]) Try.func47 (by kernel_rfl) rfl (by kernel_rfl) rfl) (impl_node_put_2.calls k w H x1 g2 [] none 0 no h3 (Row.nil _ _ _ _ no) (St.own' (Fa := [no]) (Fr := []) S4) t5 u6) ?_
  rintro _ w7 ⟨A10, c11, F13, H8, rfl, h12, T9⟩
  refine ⟨_, rfl, ?_⟩
  obtain ⟨S14, K15⟩ := St.call (Fa := [no]) (Fr := []) S4 T9
  have E16 := T9.ext
  refine lv (d := 2) rfl rfl (by kernel_rfl) (e_assign (v := .slice A10 t5.length c11) (by kernel_rfl)) ?_
  refine wpList_nil ?_
  refine then_n ?_
  refine wp_ret ?_
  obtain rfl := Option.some.inj M
  exact ret1 rfl rfl  (show _ = .slice A10 t5.length c11 from (by kernel_rfl)) ⟨A10, c11, F13, H8, rfl, h12, S14⟩

/-! impl_NormalBody -/
def impl_NormalBody.f (k : Nat) (x1 : List Cell) : Option ((List Cell) × Int) := ((impl_ValidTerm.f k x1).bind fun t6 => (if ¬ (t6 = true) then some ([], 1) else ((impl_tree.f k x1).bind fun t14 => ((impl_normalCode.f k t14).bind fun t24 => (if t24.2 ≠ 0 then some ([], t24.2) else (if t24.1.isSome = true then ((impl_node_cells.f k (t24.1.getD (Tm.mk 0 0 [] []))).bind fun t40 => some (t40, 0)) else none))))))
theorem impl_NormalBody.calls (k : Nat) (w : World) (H : Hp) (x1 : List Cell) (A2 : Option Addr) (c3 : Nat) (h4 : Rd st36 H A2 x1) (l5 : x1.length ≤ c3) (S : Own [] H w) (r : (List Cell) × Int) (M : impl_NormalBody.f k x1 = some r) :
    Calls Try.prog 8 #[.slice A2 x1.length c3] w (fun e e_w => ∃ (A_1 : Option Addr) (c_1 : Nat) (F_1 : Foot) (H_ : Hp), e = .returned (.tuple #[.slice A_1 r.1.length c_1, .int .i64 r.2]) ∧ Row st36 36 H_ (hp e_w) F_1 A_1 c_1 r.1 ∧ St (anyOf []) H w [F_1] H_ e_w) := by
  rw [impl_NormalBody.f] at M
  refine enter (l := [.slice A2 x1.length c3]) 20 Try.func8 rfl rfl rfl ?_
  have S0_ := S.st
  refine wp_seq ?_
  refine wp_region_lit ?_
  refine lv (d := 2) rfl rfl (by kernel_rfl) (e_assign (v := .slice none 0 0) rfl) ?_
  refine lv (d := 3) rfl rfl (by kernel_rfl) (e_assign (v := .int .i64 0) rfl) ?_
  refine wpList_nil ?_
  refine then_n ?_
  refine wp_seq ?_
  refine wp_seq ?_
  refine wp_region_lit ?_
  refine lv (d := 6) rfl rfl (by kernel_rfl) (e_move (v := .slice A2 x1.length c3) (by kernel_rfl)) ?_
  obtain ⟨t6, u7, M⟩ := bnd M
  refine lcall (d := 7) rfl rfl (by kernel_rfl) (e_call (l := [.tmp 6]) (vs := [.slice A2 x1.length c3]) Try.func18 (by kernel_rfl) rfl (by kernel_rfl) rfl) (impl_ValidTerm.calls k w H x1 A2 c3 h4 l5 S0_.own0 t6 u7) ?_
  rintro _ w8 ⟨rfl, C9⟩
  refine ⟨_, rfl, ?_⟩
  obtain ⟨S10, K11⟩ := S0_.still C9
  refine lv (d := 8) rfl rfl (by kernel_rfl) (e_notv (c := t6) (by kernel_rfl)) ?_
  refine wpList_nil ?_
  refine then_n ?_
  by_cases q12 : ¬ (t6 = true)
  · replace M := ifp q12 M
    refine cond_t rfl (bt q12 (by kernel_rfl)) ?_
    refine wp_seq ?_
    refine wp_region_lit ?_
    refine lv (d := 2) rfl rfl (by kernel_rfl) (e_assign (v := .slice none 0 0) rfl) ?_
    refine lv (d := 3) rfl rfl (by kernel_rfl) (e_assign (v := .int .i64 1) rfl) ?_
    refine wpList_nil ?_
    refine then_n ?_
    refine wp_ret ?_
    refine then_r ?_
    obtain rfl := Option.some.inj M
    have S13 := S10.unit
    exact ret2 rfl rfl rfl (show _ = .slice none 0 0 from (by kernel_rfl)) (show _ = .int .i64 1 from (by kernel_rfl)) ⟨none, 0, no, H, rfl, (Row.nil _ _ _ _ no), S13⟩
  replace M := ifn q12 M
  refine cond_f rfl (bf q12 (by kernel_rfl)) ?_
  refine wp_skip ?_
  refine then_n ?_
  refine wp_seq ?_
  refine wp_region_lit ?_
  refine lv (d := 10) rfl rfl (by kernel_rfl) (e_move (v := .slice A2 x1.length c3) (by kernel_rfl)) ?_
  obtain ⟨t14, u15, M⟩ := bnd M
  refine lcall (d := 11) rfl rfl (by kernel_rfl) (e_call (l := [.tmp 10]) (vs := [.slice A2 x1.length c3]) Try.func20 (by kernel_rfl) rfl (by kernel_rfl) rfl) (impl_tree.calls k w8 H x1 A2 c3 h4 l5 (St.own' (Fa := []) (Fr := []) S10) t14 u15) ?_
  rintro _ w16 ⟨g19, H17, rfl, h20, T18⟩
  refine ⟨_, rfl, ?_⟩
  obtain ⟨S21, K22⟩ := St.call (Fa := []) (Fr := []) S10 T18
  have E23 := T18.ext
  obtain ⟨t24, u25, M⟩ := bnd M
  refine lcall (d := 12) rfl rfl (by kernel_rfl) (e_call (l := [.tmp 11]) (vs := [.pointer (some ⟨g19, 0, none⟩)]) Try.func19 (by kernel_rfl) rfl (by kernel_rfl) rfl) (impl_normalCode.calls k w16 H17 t14 g19 h20 (St.own' (Fa := []) (Fr := []) S21) t24 u25) ?_
  rintro _ w26 ⟨p29, H27, rfl, h30, T28⟩
  refine ⟨_, rfl, ?_⟩
  obtain ⟨S31, K32⟩ := St.call (Fa := []) (Fr := []) S21 T28
  have E33 := T28.ext
  refine lv (d := 9) rfl rfl (by kernel_rfl) (e_move (v := .tuple #[.pointer p29, .int .i64 t24.2]) (by kernel_rfl)) ?_
  refine lv (d := 13) rfl rfl (by kernel_rfl) (e_extract (vs := #[.pointer p29, .int .i64 t24.2]) (v := .pointer p29) (by kernel_rfl) rfl) ?_
  refine lv (d := 14) rfl rfl (by kernel_rfl) (e_extract (vs := #[.pointer p29, .int .i64 t24.2]) (v := .int .i64 t24.2) (by kernel_rfl) rfl) ?_
  refine lv (d := 4) rfl rfl (by kernel_rfl) (e_assign (v := .pointer p29) (by kernel_rfl)) ?_
  refine lv (d := 5) rfl rfl (by kernel_rfl) (e_assign (v := .int .i64 t24.2) (by kernel_rfl)) ?_
  refine wpList_nil ?_
  refine then_n ?_
  refine wp_seq ?_
  refine wp_seq ?_
  refine wp_region_lit ?_
  refine lv (d := 15) rfl rfl (by kernel_rfl) (e_move (v := .int .i64 t24.2) (by kernel_rfl)) ?_
  refine lv (d := 16) rfl rfl (by kernel_rfl) (e_neq (k := .i64) (a := t24.2) (b := 0) (by kernel_rfl) rfl) ?_
  refine wpList_nil ?_
  refine then_n ?_
  by_cases q34 : t24.2 ≠ 0
  · replace M := ifp q34 M
    refine cond_t rfl (bt q34 (by kernel_rfl)) ?_
    refine wp_seq ?_
    refine wp_region_lit ?_
    refine lv (d := 17) rfl rfl (by kernel_rfl) (e_move (v := .int .i64 t24.2) (by kernel_rfl)) ?_
    refine lv (d := 2) rfl rfl (by kernel_rfl) (e_assign (v := .slice none 0 0) rfl) ?_
    refine lv (d := 3) rfl rfl (by kernel_rfl) (e_assign (v := .int .i64 t24.2) (by kernel_rfl)) ?_
    refine wpList_nil ?_
    refine then_n ?_
    refine wp_ret ?_
    refine then_r ?_
    obtain rfl := Option.some.inj M
    have S35 := S31.unit
    exact ret2 rfl rfl rfl (show _ = .slice none 0 0 from (by kernel_rfl)) (show _ = .int .i64 t24.2 from (by kernel_rfl)) ⟨none, 0, no, H27, rfl, (Row.nil _ _ _ _ no), S35⟩
  replace M := ifn q34 M
  refine cond_f rfl (bf q34 (by kernel_rfl)) ?_
  refine wp_skip ?_
  refine then_n ?_
  refine wp_seq ?_
  refine wp_region_lit ?_
  refine lv (d := 18) rfl rfl (by kernel_rfl) (e_move (v := .pointer p29) (by kernel_rfl)) ?_
  obtain ⟨q36, M⟩ := chk M
  obtain ⟨g37, e38, h39⟩ := NodeQ.get h30 q36 (Tm.mk 0 0 [] [])
  subst e38
  obtain ⟨t40, u41, M⟩ := bnd M
  refine lcall (d := 19) rfl rfl (by kernel_rfl) (e_call (l := [.tmp 18]) (vs := [.pointer (some ⟨g37, 0, none⟩)]) Try.func21 (by kernel_rfl) rfl (by kernel_rfl) rfl) (impl_node_cells.calls k w26 H27 (t24.1.getD (Tm.mk 0 0 [] [])) g37 h39 (St.own' (Fa := []) (Fr := []) S31) t40 u41) ?_
  rintro _ w42 ⟨A45, c46, F48, H43, rfl, h47, T44⟩
  refine ⟨_, rfl, ?_⟩
  obtain ⟨S49, K50⟩ := St.call (Fa := []) (Fr := []) S31 T44
  have E51 := T44.ext
  refine lv (d := 2) rfl rfl (by kernel_rfl) (e_assign (v := .slice A45 t40.length c46) (by kernel_rfl)) ?_
  refine lv (d := 3) rfl rfl (by kernel_rfl) (e_assign (v := .int .i64 0) rfl) ?_
  refine wpList_nil ?_
  refine then_n ?_
  refine wp_ret ?_
  obtain rfl := Option.some.inj M
  exact ret2 rfl rfl rfl (show _ = .slice A45 t40.length c46 from (by kernel_rfl)) (show _ = .int .i64 0 from (by kernel_rfl)) ⟨A45, c46, F48, H43, rfl, h47, S49⟩

/-! laws_eqByteS -/
def laws_eqByteS.l0 : Nat → (List UInt8) → (List UInt8) → Int → Option Bool
  | 0, _, _, _ => none
  | k23 + 1, x1, x6, x14 => (if x14 < (x1.length : Int) then (if 0 ≤ x14 then (if x14 < (x6.length : Int) then (if ((x1.getD ((x14).toNat) (0 : UInt8)).toNat : Int) ≠ ((x6.getD ((x14).toNat) (0 : UInt8)).toNat : Int) then some false else (laws_eqByteS.l0 k23 x1 x6 (IntKind.i64.wrap (x14 + 1)))) else none) else none) else some true)
def laws_eqByteS.f (k : Nat) (x1 : List UInt8) (x6 : List UInt8) : Option Bool := (if (x1.length : Int) ≠ (x6.length : Int) then some false else (laws_eqByteS.l0 k x1 x6 0))
theorem laws_eqByteS.calls (k : Nat) (w : World) (H : Hp) (x1 : List UInt8) (A2 : Option Addr) (c3 : Nat) (x6 : List UInt8) (A7 : Option Addr) (c8 : Nat) (h4 : Rd tByte H A2 x1) (l5 : x1.length ≤ c3) (h9 : Rd tByte H A7 x6) (l10 : x6.length ≤ c8) (S : Own [] H w) (r : Bool) (M : laws_eqByteS.f k x1 x6 = some r) :
    Calls Try.prog 48 #[.slice A2 x1.length c3, .slice A7 x6.length c8] w (fun e e_w => e = .returned (.bool r) ∧ Chg no w e_w) := by
  rw [laws_eqByteS.f] at M
  refine enter (l := [.slice A2 x1.length c3, .slice A7 x6.length c8]) 26 Try.func48 rfl rfl rfl ?_
  have S0_ := S.st
  refine wp_seq ?_
  refine wp_region_lit ?_
  refine lv (d := 4) rfl rfl (by kernel_rfl) (e_assign (v := .bool false) rfl) ?_
  refine wpList_nil ?_
  refine then_n ?_
  refine wp_seq ?_
  refine wp_seq ?_
  refine wp_region_lit ?_
  refine lv (d := 6) rfl rfl (by kernel_rfl) (e_move (v := .slice A2 x1.length c3) (by kernel_rfl)) ?_
  refine lv (d := 7) rfl rfl (by kernel_rfl) (e_len (A := A2) (n := x1.length) (c := c3) Try.underlying32 (by kernel_rfl)) ?_
  refine lv (d := 8) rfl rfl (by kernel_rfl) (e_move (v := .slice A7 x6.length c8) (by kernel_rfl)) ?_
  refine lv (d := 9) rfl rfl (by kernel_rfl) (e_len (A := A7) (n := x6.length) (c := c8) Try.underlying32 (by kernel_rfl)) ?_
  refine lv (d := 10) rfl rfl (by kernel_rfl) (e_neq (k := .i64) (a := (x1.length : Int)) (b := (x6.length : Int)) (by kernel_rfl) (by kernel_rfl)) ?_
  refine wpList_nil ?_
  refine then_n ?_
  by_cases q11 : (x1.length : Int) ≠ (x6.length : Int)
  · replace M := ifp q11 M
    refine cond_t rfl (bt q11 (by kernel_rfl)) ?_
    refine wp_seq ?_
    refine wp_region_lit ?_
    refine lv (d := 4) rfl rfl (by kernel_rfl) (e_assign (v := .bool false) rfl) ?_
    refine wpList_nil ?_
    refine then_n ?_
    refine wp_ret ?_
    refine then_r ?_
    obtain rfl := Option.some.inj M
    exact ret1 rfl rfl  (show _ = .bool false from (by kernel_rfl)) ⟨rfl, S0_.chg⟩
  replace M := ifn q11 M
  refine cond_f rfl (bf q11 (by kernel_rfl)) ?_
  refine wp_skip ?_
  refine then_n ?_
  refine wp_seq ?_
  refine wp_seq ?_
  refine wp_region_lit ?_
  refine lv (d := 5) rfl rfl (by kernel_rfl) (e_assign (v := .int .i64 0) rfl) ?_
  refine wpList_nil ?_
  refine then_n ?_
  refine wp_block ?_
  refine wp_loop_g (fun k21 a22 w12 => ∃ (f13 : Nat → Value) (x14 : Int), a22 = mk 26 f13 ∧ f13 0 = .slice A2 x1.length c3 ∧ f13 1 = .slice A7 x6.length c8 ∧ f13 5 = .int .i64 x14 ∧ St (anyOf []) H w [] H w12 ∧ laws_eqByteS.l0 k21 x1 x6 x14 = some r) k ⟨_, 0, rfl, (by kernel_rfl), (by kernel_rfl), (by kernel_rfl), S0_, M⟩ ?_
  clear M
  rintro k21 a22 w12 ⟨f13, x14, rfl, e15, e16, e17, S18, M⟩
  rcases k21 with _ | k23
  · rw [laws_eqByteS.l0] at M
    cases M
  rw [laws_eqByteS.l0] at M
  refine wp_seq ?_
  refine wp_seq ?_
  refine wp_region_lit ?_
  refine lv (d := 11) rfl rfl (by kernel_rfl) (e_move (v := .int .i64 x14) (by exact e17)) ?_
  refine lv (d := 12) rfl rfl (by kernel_rfl) (e_move (v := .slice A2 x1.length c3) (by exact e15)) ?_
  refine lv (d := 13) rfl rfl (by kernel_rfl) (e_len (A := A2) (n := x1.length) (c := c3) Try.underlying32 (by kernel_rfl)) ?_
  refine lv (d := 14) rfl rfl (by kernel_rfl) (e_lss (k := .i64) (a := x14) (b := (x1.length : Int)) (by kernel_rfl) (by kernel_rfl)) ?_
  refine wpList_nil ?_
  refine then_n ?_
  by_cases q24 : x14 < (x1.length : Int)
  · replace M := ifp q24 M
    refine cond_t rfl (bt q24 (by kernel_rfl)) ?_
    refine wp_skip ?_
    refine then_n ?_
    refine wp_seq ?_
    refine wp_block ?_
    refine wp_seq ?_
    refine region_still (by kernel_rfl) (by kernel_rfl) S18 ?_
    intro w25 S26 K27
    refine sv (d := 17) rfl rfl (by kernel_rfl) (e_move (v := .slice A2 x1.length c3) (by exact e15)) ?_
    refine sv (d := 18) rfl rfl (by kernel_rfl) (e_move (v := .int .i64 x14) (by exact e17)) ?_
    obtain ⟨q28, M⟩ := chk M
    obtain ⟨b29, o30, e31⟩ := Rd.addr h4 (show (x14).toNat < x1.length by omega)
    obtain ⟨y32, r33, k34⟩ := Rd.at h4 e31 (getD_some (0 : UInt8) (show (x14).toNat < x1.length by omega))
    obtain rfl := r33
    refine sv (d := 19) rfl rfl (by kernel_rfl) (e_indexAddr (b := b29) (off := o30) (n := x1.length) (c := c3) (sz := 1) (i := x14) (k := .i64) Try.underlying32 e31 (by kernel_rfl) (by kernel_rfl) (by kernel_rfl) q28 q24) ?_
    refine sv (d := 20) rfl rfl (by kernel_rfl) (e_load1 (ad := ⟨b29, o30 + (x14 : Int).toNat * 1, none⟩) (v := .int .u8 ((x1.getD ((x14).toNat) (0 : UInt8)).toNat : Int)) Try.underlying5 rfl (by kernel_rfl) (hpx (S26.inv.cell (k34 0 _ rfl)))) ?_
    refine sv (d := 21) rfl rfl (by kernel_rfl) (e_move (v := .slice A7 x6.length c8) (by exact e16)) ?_
    refine sv (d := 22) rfl rfl (by kernel_rfl) (e_move (v := .int .i64 x14) (by exact e17)) ?_
    obtain ⟨q35, M⟩ := chk M
    obtain ⟨b36, o37, e38⟩ := Rd.addr h9 (show (x14).toNat < x6.length by omega)
    obtain ⟨y39, r40, k41⟩ := Rd.at h9 e38 (getD_some (0 : UInt8) (show (x14).toNat < x6.length by omega))
    obtain rfl := r40
    refine sv (d := 23) rfl rfl (by kernel_rfl) (e_indexAddr (b := b36) (off := o37) (n := x6.length) (c := c8) (sz := 1) (i := x14) (k := .i64) Try.underlying32 e38 (by kernel_rfl) (by kernel_rfl) (by kernel_rfl) q28 q35) ?_
    refine sv (d := 24) rfl rfl (by kernel_rfl) (e_load1 (ad := ⟨b36, o37 + (x14 : Int).toNat * 1, none⟩) (v := .int .u8 ((x6.getD ((x14).toNat) (0 : UInt8)).toNat : Int)) Try.underlying5 rfl (by kernel_rfl) (hpx (S26.inv.cell (k41 0 _ rfl)))) ?_
    refine sv (d := 25) rfl rfl (by kernel_rfl) (e_neq (k := .u8) (a := ((x1.getD ((x14).toNat) (0 : UInt8)).toNat : Int)) (b := ((x6.getD ((x14).toNat) (0 : UInt8)).toNat : Int)) (by kernel_rfl) (by kernel_rfl)) ?_
    refine wpStill_nil ?_
    refine then_n ?_
    by_cases q42 : ((x1.getD ((x14).toNat) (0 : UInt8)).toNat : Int) ≠ ((x6.getD ((x14).toNat) (0 : UInt8)).toNat : Int)
    · replace M := ifp q42 M
      refine cond_t rfl (bt q42 (by kernel_rfl)) ?_
      refine wp_seq ?_
      refine wp_region_lit ?_
      refine lv (d := 4) rfl rfl (by kernel_rfl) (e_assign (v := .bool false) rfl) ?_
      refine wpList_nil ?_
      refine then_n ?_
      refine wp_ret ?_
      refine inb_r ?_
      refine then_r ?_
      refine then_r ?_
      refine inb_r ?_
      refine then_r ?_
      obtain rfl := Option.some.inj M
      exact ret1 rfl rfl  (show _ = .bool false from (by kernel_rfl)) ⟨rfl, S26.chg⟩
    replace M := ifn q42 M
    refine cond_f rfl (bf q42 (by kernel_rfl)) ?_
    refine wp_skip ?_
    refine inb_n ?_
    refine then_n ?_
    refine wp_region_lit ?_
    refine lv (d := 15) rfl rfl (by kernel_rfl) (e_move (v := .int .i64 x14) (by exact e17)) ?_
    refine lv (d := 16) rfl rfl (by kernel_rfl) (e_add (k := .i64) (a := x14) (b := 1) (by kernel_rfl) rfl) ?_
    refine lv (d := 5) rfl rfl (by kernel_rfl) (e_assign (v := .int .i64 (IntKind.i64.wrap (x14 + 1))) (by kernel_rfl)) ?_
    refine wpList_nil ?_
    refine then_n ?_
    exact ⟨k23, (by omega), _, (IntKind.i64.wrap (x14 + 1)), rfl, (by exact e15), (by exact e16), (by kernel_rfl), S26, M⟩
  replace M := ifn q24 M
  refine cond_f rfl (bf q24 (by kernel_rfl)) ?_
  refine wp_exit ?_
  refine then_e ?_
  refine then_e ?_
  refine inb_hit ?_
  refine then_n ?_
  refine wp_seq ?_
  refine wp_region_lit ?_
  refine lv (d := 4) rfl rfl (by kernel_rfl) (e_assign (v := .bool true) rfl) ?_
  refine wpList_nil ?_
  refine then_n ?_
  refine wp_ret ?_
  obtain rfl := Option.some.inj M
  exact ret1 rfl rfl  (show _ = .bool true from (by kernel_rfl)) ⟨rfl, S18.chg⟩

/-! laws_eqCell -/
def laws_eqCell.f (k : Nat) (x1 : Cell) (x6 : Cell) : Option Bool := (if x1.kind ≠ x6.kind then some false else (if x1.n ≠ x6.n then some false else ((laws_eqByteS.f k x1.text x6.text).bind fun t23 => (if ¬ (t23 = true) then some false else some true))))
theorem laws_eqCell.calls (k : Nat) (w : World) (H : Hp) (x1 : Cell) (A2 : Option Addr) (c3 : Nat) (x6 : Cell) (A7 : Option Addr) (c8 : Nat) (h4 : Rd tByte H A2 x1.text) (l5 : x1.text.length ≤ c3) (h9 : Rd tByte H A7 x6.text) (l10 : x6.text.length ≤ c8) (S : Own [] H w) (r : Bool) (M : laws_eqCell.f k x1 x6 = some r) :
    Calls Try.prog 22 #[.agg #[.int .i64 x1.kind, .int .i64 x1.n, .slice A2 x1.text.length c3], .agg #[.int .i64 x6.kind, .int .i64 x6.n, .slice A7 x6.text.length c8]] w (fun e e_w => e = .returned (.bool r) ∧ Chg no w e_w) := by
  rw [laws_eqCell.f] at M
  refine enter (l := [.agg #[.int .i64 x1.kind, .int .i64 x1.n, .slice A2 x1.text.length c3], .agg #[.int .i64 x6.kind, .int .i64 x6.n, .slice A7 x6.text.length c8]]) 21 Try.func22 rfl rfl rfl ?_
  have S0_ := S.st
  refine wp_seq ?_
  refine wp_region_lit ?_
  refine lve (d := 2) rfl rfl (by kernel_rfl) (new_blk (v := fun g_ => .pointer (some ⟨g_, 0, none⟩)) (cs := #[.int .i64 x1.kind, .int .i64 x1.n, .slice A2 x1.text.length c3]) (t := 36) S0_ (by kernel_rfl)) ?_
  rintro _ w11 ⟨g12, rfl, b13, S14, K15⟩
  refine lve (d := 3) rfl rfl (by kernel_rfl) (new_blk (v := fun g_ => .pointer (some ⟨g_, 0, none⟩)) (cs := #[.int .i64 x6.kind, .int .i64 x6.n, .slice A7 x6.text.length c8]) (t := 36) S14 (by kernel_rfl)) ?_
  rintro _ w16 ⟨g17, rfl, b18, S19, K20⟩
  replace b13 := K20.blk 0 rfl b13
  refine lv (d := 4) rfl rfl (by kernel_rfl) (e_assign (v := .bool false) rfl) ?_
  refine wpList_nil ?_
  refine then_n ?_
  refine wp_seq ?_
  refine wp_seq ?_
  refine wp_region_lit ?_
  refine lv (d := 5) rfl rfl (by kernel_rfl) (e_fieldAddr (b := g12) (off := 0) (o := 0) Try.underlying36 rfl rfl (sz := 1) (by kernel_rfl) (by decide) (by kernel_rfl)) ?_
  refine lv (d := 6) rfl rfl (by kernel_rfl) (e_load1 (ad := ⟨g12, 0 + 0, none⟩) (v := .int .i64 x1.kind) Try.underlying3 rfl (by kernel_rfl) (blk_cell b13 rfl)) ?_
  refine lv (d := 7) rfl rfl (by kernel_rfl) (e_fieldAddr (b := g17) (off := 0) (o := 0) Try.underlying36 rfl rfl (sz := 1) (by kernel_rfl) (by decide) (by kernel_rfl)) ?_
  refine lv (d := 8) rfl rfl (by kernel_rfl) (e_load1 (ad := ⟨g17, 0 + 0, none⟩) (v := .int .i64 x6.kind) Try.underlying3 rfl (by kernel_rfl) (blk_cell b18 rfl)) ?_
  refine lv (d := 9) rfl rfl (by kernel_rfl) (e_neq (k := .i64) (a := x1.kind) (b := x6.kind) (by kernel_rfl) (by kernel_rfl)) ?_
  refine wpList_nil ?_
  refine then_n ?_
  by_cases q21 : x1.kind ≠ x6.kind
  · replace M := ifp q21 M
    refine cond_t rfl (bt q21 (by kernel_rfl)) ?_
    refine wp_seq ?_
    refine wp_region_lit ?_
    refine lv (d := 4) rfl rfl (by kernel_rfl) (e_assign (v := .bool false) rfl) ?_
    refine wpList_nil ?_
    refine then_n ?_
    refine wp_ret ?_
    refine then_r ?_
    obtain rfl := Option.some.inj M
    exact ret1 rfl rfl  (show _ = .bool false from (by kernel_rfl)) ⟨rfl, S19.chg⟩
  replace M := ifn q21 M
  refine cond_f rfl (bf q21 (by kernel_rfl)) ?_
  refine wp_skip ?_
  refine then_n ?_
  refine wp_seq ?_
  refine wp_seq ?_
  refine wp_region_lit ?_
  refine lv (d := 10) rfl rfl (by kernel_rfl) (e_fieldAddr (b := g12) (off := 0) (o := 1) Try.underlying36 rfl rfl (sz := 1) (by kernel_rfl) (by decide) (by kernel_rfl)) ?_
  refine lv (d := 11) rfl rfl (by kernel_rfl) (e_load1 (ad := ⟨g12, 0 + 1, none⟩) (v := .int .i64 x1.n) Try.underlying3 rfl (by kernel_rfl) (blk_cell b13 rfl)) ?_
  refine lv (d := 12) rfl rfl (by kernel_rfl) (e_fieldAddr (b := g17) (off := 0) (o := 1) Try.underlying36 rfl rfl (sz := 1) (by kernel_rfl) (by decide) (by kernel_rfl)) ?_
  refine lv (d := 13) rfl rfl (by kernel_rfl) (e_load1 (ad := ⟨g17, 0 + 1, none⟩) (v := .int .i64 x6.n) Try.underlying3 rfl (by kernel_rfl) (blk_cell b18 rfl)) ?_
  refine lv (d := 14) rfl rfl (by kernel_rfl) (e_neq (k := .i64) (a := x1.n) (b := x6.n) (by kernel_rfl) (by kernel_rfl)) ?_
  refine wpList_nil ?_
  refine then_n ?_
  by_cases q22 : x1.n ≠ x6.n
  · replace M := ifp q22 M
    refine cond_t rfl (bt q22 (by kernel_rfl)) ?_
    refine wp_seq ?_
    refine wp_region_lit ?_
    refine lv (d := 4) rfl rfl (by kernel_rfl) (e_assign (v := .bool false) rfl) ?_
    refine wpList_nil ?_
    refine then_n ?_
    refine wp_ret ?_
    refine then_r ?_
    obtain rfl := Option.some.inj M
    exact ret1 rfl rfl  (show _ = .bool false from (by kernel_rfl)) ⟨rfl, S19.chg⟩
  replace M := ifn q22 M
  refine cond_f rfl (bf q22 (by kernel_rfl)) ?_
  refine wp_skip ?_
  refine then_n ?_
  refine wp_seq ?_
  refine wp_seq ?_
  refine wp_region_lit ?_
  refine lv (d := 15) rfl rfl (by kernel_rfl) (e_fieldAddr (b := g12) (off := 0) (o := 2) Try.underlying36 rfl rfl (sz := 1) (by kernel_rfl) (by decide) (by kernel_rfl)) ?_
  refine lv (d := 16) rfl rfl (by kernel_rfl) (e_load1 (ad := ⟨g12, 0 + 2, none⟩) (v := .slice A2 x1.text.length c3) Try.underlying32 rfl (by kernel_rfl) (blk_cell b13 rfl)) ?_
  refine lv (d := 17) rfl rfl (by kernel_rfl) (e_fieldAddr (b := g17) (off := 0) (o := 2) Try.underlying36 rfl rfl (sz := 1) (by kernel_rfl) (by decide) (by kernel_rfl)) ?_
  refine lv (d := 18) rfl rfl (by kernel_rfl) (e_load1 (ad := ⟨g17, 0 + 2, none⟩) (v := .slice A7 x6.text.length c8) Try.underlying32 rfl (by kernel_rfl) (blk_cell b18 rfl)) ?_
  obtain ⟨t23, u24, M⟩ := bnd M
  refine lcall (d := 19) rfl rfl (by kernel_rfl) (e_call (l := [.tmp 16, .tmp 18]) (vs := [.slice A2 x1.text.length c3, .slice A7 x6.text.length c8]) Try.func48 (by kernel_rfl) rfl (by kernel_rfl) rfl) (laws_eqByteS.calls k w16 H x1.text A2 c3 x6.text A7 c8 h4 l5 h9 l10 S19.own0 t23 u24) ?_
  rintro _ w25 ⟨rfl, C26⟩
  refine ⟨_, rfl, ?_⟩
  obtain ⟨S27, K28⟩ := S19.still C26
  replace b18 := K28.blk 0 rfl b18
  replace b13 := K28.blk 1 rfl b13
  refine lv (d := 20) rfl rfl (by kernel_rfl) (e_notv (c := t23) (by kernel_rfl)) ?_
  refine wpList_nil ?_
  refine then_n ?_
  by_cases q29 : ¬ (t23 = true)
  · replace M := ifp q29 M
    refine cond_t rfl (bt q29 (by kernel_rfl)) ?_
    refine wp_seq ?_
    refine wp_region_lit ?_
    refine lv (d := 4) rfl rfl (by kernel_rfl) (e_assign (v := .bool false) rfl) ?_
    refine wpList_nil ?_
    refine then_n ?_
    refine wp_ret ?_
    refine then_r ?_
    obtain rfl := Option.some.inj M
    exact ret1 rfl rfl  (show _ = .bool false from (by kernel_rfl)) ⟨rfl, S27.chg⟩
  replace M := ifn q29 M
  refine cond_f rfl (bf q29 (by kernel_rfl)) ?_
  refine wp_skip ?_
  refine then_n ?_
  refine wp_seq ?_
  refine wp_region_lit ?_
  refine lv (d := 4) rfl rfl (by kernel_rfl) (e_assign (v := .bool true) rfl) ?_
  refine wpList_nil ?_
  refine then_n ?_
  refine wp_ret ?_
  obtain rfl := Option.some.inj M
  exact ret1 rfl rfl  (show _ = .bool true from (by kernel_rfl)) ⟨rfl, S27.chg⟩

/-! laws_eqCellS -/
def laws_eqCellS.l0 : Nat → (List Cell) → (List Cell) → Int → Option Bool
  | 0, _, _, _ => none
  | k23 + 1, x1, x6, x14 => (if x14 < (x1.length : Int) then (if 0 ≤ x14 then (if x14 < (x6.length : Int) then ((laws_eqCell.f k23 (x1.getD ((x14).toNat) z36) (x6.getD ((x14).toNat) z36)).bind fun t47 => (if ¬ (t47 = true) then some false else (laws_eqCellS.l0 k23 x1 x6 (IntKind.i64.wrap (x14 + 1))))) else none) else none) else some true)
def laws_eqCellS.f (k : Nat) (x1 : List Cell) (x6 : List Cell) : Option Bool := (if (x1.length : Int) ≠ (x6.length : Int) then some false else (laws_eqCellS.l0 k x1 x6 0))
theorem laws_eqCellS.calls (k : Nat) (w : World) (H : Hp) (x1 : List Cell) (A2 : Option Addr) (c3 : Nat) (x6 : List Cell) (A7 : Option Addr) (c8 : Nat) (h4 : Rd st36 H A2 x1) (l5 : x1.length ≤ c3) (h9 : Rd st36 H A7 x6) (l10 : x6.length ≤ c8) (S : Own [] H w) (r : Bool) (M : laws_eqCellS.f k x1 x6 = some r) :
    Calls Try.prog 9 #[.slice A2 x1.length c3, .slice A7 x6.length c8] w (fun e e_w => e = .returned (.bool r) ∧ Chg no w e_w) := by
  rw [laws_eqCellS.f] at M
  refine enter (l := [.slice A2 x1.length c3, .slice A7 x6.length c8]) 27 Try.func9 rfl rfl rfl ?_
  have S0_ := S.st
  refine wp_seq ?_
  refine wp_region_lit ?_
  refine lv (d := 4) rfl rfl (by kernel_rfl) (e_assign (v := .bool false) rfl) ?_
  refine wpList_nil ?_
  refine then_n ?_
  refine wp_seq ?_
  refine wp_seq ?_
  refine wp_region_lit ?_
  refine lv (d := 6) rfl rfl (by kernel_rfl) (e_move (v := .slice A2 x1.length c3) (by kernel_rfl)) ?_
  refine lv (d := 7) rfl rfl (by kernel_rfl) (e_len (A := A2) (n := x1.length) (c := c3) Try.underlying24 (by kernel_rfl)) ?_
  refine lv (d := 8) rfl rfl (by kernel_rfl) (e_move (v := .slice A7 x6.length c8) (by kernel_rfl)) ?_
  refine lv (d := 9) rfl rfl (by kernel_rfl) (e_len (A := A7) (n := x6.length) (c := c8) Try.underlying24 (by kernel_rfl)) ?_
  refine lv (d := 10) rfl rfl (by kernel_rfl) (e_neq (k := .i64) (a := (x1.length : Int)) (b := (x6.length : Int)) (by kernel_rfl) (by kernel_rfl)) ?_
  refine wpList_nil ?_
  refine then_n ?_
  by_cases q11 : (x1.length : Int) ≠ (x6.length : Int)
  · replace M := ifp q11 M
    refine cond_t rfl (bt q11 (by kernel_rfl)) ?_
    refine wp_seq ?_
    refine wp_region_lit ?_
    refine lv (d := 4) rfl rfl (by kernel_rfl) (e_assign (v := .bool false) rfl) ?_
    refine wpList_nil ?_
    refine then_n ?_
    refine wp_ret ?_
    refine then_r ?_
    obtain rfl := Option.some.inj M
    exact ret1 rfl rfl  (show _ = .bool false from (by kernel_rfl)) ⟨rfl, S0_.chg⟩
  replace M := ifn q11 M
  refine cond_f rfl (bf q11 (by kernel_rfl)) ?_
  refine wp_skip ?_
  refine then_n ?_
  refine wp_seq ?_
  refine wp_seq ?_
  refine wp_region_lit ?_
  refine lv (d := 5) rfl rfl (by kernel_rfl) (e_assign (v := .int .i64 0) rfl) ?_
  refine wpList_nil ?_
  refine then_n ?_
  refine wp_block ?_
  refine wp_loop_g (fun k21 a22 w12 => ∃ (f13 : Nat → Value) (x14 : Int), a22 = mk 27 f13 ∧ f13 0 = .slice A2 x1.length c3 ∧ f13 1 = .slice A7 x6.length c8 ∧ f13 5 = .int .i64 x14 ∧ St (anyOf []) H w [] H w12 ∧ laws_eqCellS.l0 k21 x1 x6 x14 = some r) k ⟨_, 0, rfl, (by kernel_rfl), (by kernel_rfl), (by kernel_rfl), S0_, M⟩ ?_
  clear M
  rintro k21 a22 w12 ⟨f13, x14, rfl, e15, e16, e17, S18, M⟩
  rcases k21 with _ | k23
  · rw [laws_eqCellS.l0] at M
    cases M
  rw [laws_eqCellS.l0] at M
  refine wp_seq ?_
  refine wp_seq ?_
  refine wp_region_lit ?_
  refine lv (d := 11) rfl rfl (by kernel_rfl) (e_move (v := .int .i64 x14) (by exact e17)) ?_
  refine lv (d := 12) rfl rfl (by kernel_rfl) (e_move (v := .slice A2 x1.length c3) (by exact e15)) ?_
  refine lv (d := 13) rfl rfl (by kernel_rfl) (e_len (A := A2) (n := x1.length) (c := c3) Try.underlying24 (by kernel_rfl)) ?_
  refine lv (d := 14) rfl rfl (by kernel_rfl) (e_lss (k := .i64) (a := x14) (b := (x1.length : Int)) (by kernel_rfl) (by kernel_rfl)) ?_
  refine wpList_nil ?_
  refine then_n ?_
  by_cases q24 : x14 < (x1.length : Int)
  · replace M := ifp q24 M
    refine cond_t rfl (bt q24 (by kernel_rfl)) ?_
    refine wp_skip ?_
    refine then_n ?_
    refine wp_seq ?_
    refine wp_block ?_
    refine wp_seq ?_
    refine region_quiet (by kernel_rfl) (by kernel_rfl) ?_
    refine qv (d := 17) rfl rfl (by kernel_rfl) (fun wq_ hq_ => e_move (v := .slice A2 x1.length c3) (by exact e15)) ?_
    refine qv (d := 18) rfl rfl (by kernel_rfl) (fun wq_ hq_ => e_move (v := .int .i64 x14) (by exact e17)) ?_
    obtain ⟨q25, M⟩ := chk M
    obtain ⟨b26, o27, e28⟩ := Rd.addr h4 (show (x14).toNat < x1.length by omega)
    obtain ⟨y29, r30, k31⟩ := Rd.at h4 e28 (getD_some z36 (show (x14).toNat < x1.length by omega))
    obtain ⟨A32, c33, rfl, l34, h35⟩ := st36_open r30
    refine qv (d := 19) rfl rfl (by kernel_rfl) (fun wq_ hq_ => e_indexAddr (b := b26) (off := o27) (n := x1.length) (c := c3) (sz := 3) (i := x14) (k := .i64) Try.underlying24 e28 (by kernel_rfl) (by kernel_rfl) (by kernel_rfl) q25 q24) ?_
    refine qv (d := 20) rfl rfl (by kernel_rfl) (fun wq_ hq_ => e_loadS (b := b26) (off := o27 + (x14 : Int).toNat * 3) (cs := [.int .i64 ((x1.getD ((x14).toNat) z36).kind), .int .i64 ((x1.getD ((x14).toNat) z36).n), .slice A32 ((x1.getD ((x14).toNat) z36).text).length c33]) Try.underlying36 rfl (by kernel_rfl) (by kernel_rfl) (fun j_ u_ e_ => (hpx ((S18.still hq_).1.inv.cell (k31 j_ u_ e_))))) ?_
    refine qv (d := 21) rfl rfl (by kernel_rfl) (fun wq_ hq_ => e_move (v := .slice A7 x6.length c8) (by exact e16)) ?_
    refine qv (d := 22) rfl rfl (by kernel_rfl) (fun wq_ hq_ => e_move (v := .int .i64 x14) (by exact e17)) ?_
    obtain ⟨q36, M⟩ := chk M
    obtain ⟨b37, o38, e39⟩ := Rd.addr h9 (show (x14).toNat < x6.length by omega)
    obtain ⟨y40, r41, k42⟩ := Rd.at h9 e39 (getD_some z36 (show (x14).toNat < x6.length by omega))
    obtain ⟨A43, c44, rfl, l45, h46⟩ := st36_open r41
    refine qv (d := 23) rfl rfl (by kernel_rfl) (fun wq_ hq_ => e_indexAddr (b := b37) (off := o38) (n := x6.length) (c := c8) (sz := 3) (i := x14) (k := .i64) Try.underlying24 e39 (by kernel_rfl) (by kernel_rfl) (by kernel_rfl) q25 q36) ?_
    refine qv (d := 24) rfl rfl (by kernel_rfl) (fun wq_ hq_ => e_loadS (b := b37) (off := o38 + (x14 : Int).toNat * 3) (cs := [.int .i64 ((x6.getD ((x14).toNat) z36).kind), .int .i64 ((x6.getD ((x14).toNat) z36).n), .slice A43 ((x6.getD ((x14).toNat) z36).text).length c44]) Try.underlying36 rfl (by kernel_rfl) (by kernel_rfl) (fun j_ u_ e_ => (hpx ((S18.still hq_).1.inv.cell (k42 j_ u_ e_))))) ?_
    obtain ⟨t47, u48, M⟩ := bnd M
    refine qcall (v := .bool t47) (d := 25) rfl rfl (by kernel_rfl) (fun w_ => e_call (l := [.tmp 20, .tmp 24]) (vs := [.agg #[.int .i64 ((x1.getD ((x14).toNat) z36).kind), .int .i64 ((x1.getD ((x14).toNat) z36).n), .slice A32 ((x1.getD ((x14).toNat) z36).text).length c33], .agg #[.int .i64 ((x6.getD ((x14).toNat) z36).kind), .int .i64 ((x6.getD ((x14).toNat) z36).n), .slice A43 ((x6.getD ((x14).toNat) z36).text).length c44]]) Try.func22 (by kernel_rfl) rfl (by kernel_rfl) rfl) (fun wq_ hq_ => (by obtain ⟨S_, K_⟩ := S18.still hq_; exact (laws_eqCell.calls k23 wq_ H (x1.getD ((x14).toNat) z36) A32 c33 (x6.getD ((x14).toNat) z36) A43 c44 h35 l34 h46 l45 S_.own0 t47 u48))) ?_
    refine qv (d := 26) rfl rfl (by kernel_rfl) (fun wq_ hq_ => e_notv (c := t47) (by kernel_rfl)) ?_
    refine wpQuiet_nil ?_
    intro w49 C52
    obtain ⟨S50, K51⟩ := S18.still C52
    refine then_n ?_
    by_cases q53 : ¬ (t47 = true)
    · replace M := ifp q53 M
      refine cond_t rfl (bt q53 (by kernel_rfl)) ?_
      refine wp_seq ?_
      refine wp_region_lit ?_
      refine lv (d := 4) rfl rfl (by kernel_rfl) (e_assign (v := .bool false) rfl) ?_
      refine wpList_nil ?_
      refine then_n ?_
      refine wp_ret ?_
      refine inb_r ?_
      refine then_r ?_
      refine then_r ?_
      refine inb_r ?_
      refine then_r ?_
      obtain rfl := Option.some.inj M
      exact ret1 rfl rfl  (show _ = .bool false from (by kernel_rfl)) ⟨rfl, S50.chg⟩
    replace M := ifn q53 M
    refine cond_f rfl (bf q53 (by kernel_rfl)) ?_
    refine wp_skip ?_
    refine inb_n ?_
    refine then_n ?_
    refine wp_region_lit ?_
    refine lv (d := 15) rfl rfl (by kernel_rfl) (e_move (v := .int .i64 x14) (by exact e17)) ?_
    refine lv (d := 16) rfl rfl (by kernel_rfl) (e_add (k := .i64) (a := x14) (b := 1) (by kernel_rfl) rfl) ?_
    refine lv (d := 5) rfl rfl (by kernel_rfl) (e_assign (v := .int .i64 (IntKind.i64.wrap (x14 + 1))) (by kernel_rfl)) ?_
    refine wpList_nil ?_
    refine then_n ?_
    exact ⟨k23, (by omega), _, (IntKind.i64.wrap (x14 + 1)), rfl, (by exact e15), (by exact e16), (by kernel_rfl), S50, M⟩
  replace M := ifn q24 M
  refine cond_f rfl (bf q24 (by kernel_rfl)) ?_
  refine wp_exit ?_
  refine then_e ?_
  refine then_e ?_
  refine inb_hit ?_
  refine then_n ?_
  refine wp_seq ?_
  refine wp_region_lit ?_
  refine lv (d := 4) rfl rfl (by kernel_rfl) (e_assign (v := .bool true) rfl) ?_
  refine wpList_nil ?_
  refine then_n ?_
  refine wp_ret ?_
  obtain rfl := Option.some.inj M
  exact ret1 rfl rfl  (show _ = .bool true from (by kernel_rfl)) ⟨rfl, S18.chg⟩

/-! laws_markByteS -/
def laws_markByteS_2.l0 : Nat → (List UInt8) → Int → Int → (List UInt8) → Option (Int × (List UInt8))
  | 0, _, _, _, _ => none
  | k22 + 1, x1, x9, x10, x12 => (if x10 < (x1.length : Int) then (if 0 ≤ x10 then (laws_markByteS_2.l0 k22 x1 (IntKind.i64.wrap (x9 + 1)) (IntKind.i64.wrap (x10 + 1)) (x12.set ((x10).toNat) (b8 (x9)))) else none) else some (x9, x12))
def laws_markByteS_2.f (k : Nat) (x1 : List UInt8) (x6 : Int) : Option (Int × (List UInt8)) := (laws_markByteS_2.l0 k x1 x6 0 x1)
theorem laws_markByteS_2.calls (k : Nat) (w : World) (H : Hp) (x1 : List UInt8) (A2 : Option Addr) (c3 : Nat) (F5 : Foot) (x6 : Int) (h4 : Row tByte 5 H (hp w) F5 A2 c3 x1) (S : Own [F5] H w) (r : Int × (List UInt8)) (M : laws_markByteS_2.f k x1 x6 = some r) :
    Calls Try.prog 23 #[.slice A2 x1.length c3, .int .i64 x6] w (fun e e_w => ∃ (F_1 : Foot) (H_ : Hp), e = .returned (.int .i64 r.1) ∧ r.2.length = x1.length ∧ Row tByte 5 H_ (hp e_w) F_1 A2 c3 r.2 ∧ St (anyOf [F5]) H w [F_1] H_ e_w) := by
  rw [laws_markByteS_2.f] at M
  refine enter (l := [.slice A2 x1.length c3, .int .i64 x6]) 20 Try.func23 rfl rfl rfl ?_
  have S0_ := S.st
  refine wp_seq ?_
  refine wp_region_lit ?_
  refine lv (d := 4) rfl rfl (by kernel_rfl) (e_assign (v := .int .i64 0) rfl) ?_
  refine wpList_nil ?_
  refine then_n ?_
  refine wp_seq ?_
  refine wp_seq ?_
  refine wp_region_lit ?_
  refine lv (d := 5) rfl rfl (by kernel_rfl) (e_assign (v := .int .i64 0) rfl) ?_
  refine wpList_nil ?_
  refine then_n ?_
  refine wp_block ?_
  refine wp_loop_g (fun k20 a21 w7 => ∃ (f8 : Nat → Value) (x9 : Int) (x10 : Int) (F11 : Foot) (x12 : List UInt8), a21 = mk 20 f8 ∧ f8 0 = .slice A2 x1.length c3 ∧ f8 1 = .int .i64 x9 ∧ f8 5 = .int .i64 x10 ∧ Row tByte 5 H (hp w7) F11 A2 c3 x12 ∧ x12.length = x1.length ∧ St (anyOf [F5]) H w [F11] H w7 ∧ laws_markByteS_2.l0 k20 x1 x9 x10 x12 = some r) k ⟨_, x6, 0, F5, x1, rfl, (by kernel_rfl), (by kernel_rfl), (by kernel_rfl), h4, rfl, S0_, M⟩ ?_
  clear M
  rintro k20 a21 w7 ⟨f8, x9, x10, F11, x12, rfl, e14, e15, e16, h4, n13, S17, M⟩
  rcases k20 with _ | k22
  · rw [laws_markByteS_2.l0] at M
    cases M
  rw [laws_markByteS_2.l0] at M
  refine wp_seq ?_
  refine wp_seq ?_
  refine wp_region_lit ?_
  refine lv (d := 6) rfl rfl (by kernel_rfl) (e_move (v := .int .i64 x10) (by exact e16)) ?_
  refine lv (d := 7) rfl rfl (by kernel_rfl) (e_move (v := .slice A2 x1.length c3) (by exact e14)) ?_
  refine lv (d := 8) rfl rfl (by kernel_rfl) (e_len (A := A2) (n := x1.length) (c := c3) Try.underlying32 (by kernel_rfl)) ?_
  refine lv (d := 9) rfl rfl (by kernel_rfl) (e_lss (k := .i64) (a := x10) (b := (x1.length : Int)) (by kernel_rfl) (by kernel_rfl)) ?_
  refine wpList_nil ?_
  refine then_n ?_
  by_cases q23 : x10 < (x1.length : Int)
  · replace M := ifp q23 M
    refine cond_t rfl (bt q23 (by kernel_rfl)) ?_
    refine wp_skip ?_
    refine then_n ?_
    refine wp_seq ?_
    refine wp_block ?_
    refine wp_seq ?_
    refine wp_region_lit ?_
    refine lv (d := 12) rfl rfl (by kernel_rfl) (e_move (v := .slice A2 x1.length c3) (by exact e14)) ?_
    refine lv (d := 13) rfl rfl (by kernel_rfl) (e_move (v := .int .i64 x10) (by exact e16)) ?_
    refine lv (d := 14) rfl rfl (by kernel_rfl) (e_move (v := .int .i64 x9) (by exact e15)) ?_
    refine lv (d := 15) rfl rfl (by kernel_rfl) (e_conv_i8 (k := .i64) (a := x9) (by kernel_rfl) Try.underlying5 (by kernel_rfl)) ?_
    obtain ⟨q24, M⟩ := chk M
    obtain ⟨b25, e27⟩ := Row.addr h4 (show (x10).toNat < x12.length by have : x12.length = x1.length := n13; omega)
    refine lv (d := 16) rfl rfl (by kernel_rfl) (e_indexAddr (b := b25) (off := 0) (n := x1.length) (c := c3) (sz := 1) (i := x10) (k := .i64) Try.underlying32 e27 (by kernel_rfl) (by kernel_rfl) (by kernel_rfl) q24 q23) ?_
    have S28 := S17.unit
    have S29 := S28.pull (F := F11) (Fr := [no]) 1 rfl rfl
    refine lse rfl rfl (by kernel_rfl) (e_setel (d := tByte) (b := b25) (i := (x10).toNat) (v := .int .u8 ((b8 (x9)).toNat : Int)) (vs := [.int .u8 ((b8 (x9)).toNat : Int)]) (yv := (b8 (x9))) S29 (by kernel_rfl) e27 (by kernel_rfl) rfl (by kernel_rfl) h4 (show (x10).toNat < x12.length by have : x12.length = x1.length := n13; omega) rfl) ?_
    rintro w30 ⟨F32, h31, S33, K34⟩
    clear h4
    refine wpList_nil ?_
    refine then_n ?_
    refine wp_region_lit ?_
    refine lv (d := 17) rfl rfl (by kernel_rfl) (e_move (v := .int .i64 x9) (by exact e15)) ?_
    refine lv (d := 18) rfl rfl (by kernel_rfl) (e_add (k := .i64) (a := x9) (b := 1) (by kernel_rfl) rfl) ?_
    refine lv (d := 1) rfl rfl (by kernel_rfl) (e_assign (v := .int .i64 (IntKind.i64.wrap (x9 + 1))) (by kernel_rfl)) ?_
    refine wpList_nil ?_
    refine inb_n ?_
    refine then_n ?_
    refine wp_region_lit ?_
    refine lv (d := 10) rfl rfl (by kernel_rfl) (e_move (v := .int .i64 x10) (by exact e16)) ?_
    refine lv (d := 11) rfl rfl (by kernel_rfl) (e_add (k := .i64) (a := x10) (b := 1) (by kernel_rfl) rfl) ?_
    refine lv (d := 5) rfl rfl (by kernel_rfl) (e_assign (v := .int .i64 (IntKind.i64.wrap (x10 + 1))) (by kernel_rfl)) ?_
    refine wpList_nil ?_
    refine then_n ?_
    exact ⟨k22, (by omega), _, (IntKind.i64.wrap (x9 + 1)), (IntKind.i64.wrap (x10 + 1)), F32, (x12.set ((x10).toNat) (b8 (x9))), rfl, (by exact e14), (by kernel_rfl), (by kernel_rfl), h31, (List.length_set.trans n13), S33, M⟩
  replace M := ifn q23 M
  refine cond_f rfl (bf q23 (by kernel_rfl)) ?_
  refine wp_exit ?_
  refine then_e ?_
  refine then_e ?_
  refine inb_hit ?_
  refine then_n ?_
  refine wp_seq ?_
  refine wp_region_lit ?_
  refine lv (d := 19) rfl rfl (by kernel_rfl) (e_move (v := .int .i64 x9) (by exact e15)) ?_
  refine lv (d := 4) rfl rfl (by kernel_rfl) (e_assign (v := .int .i64 x9) (by kernel_rfl)) ?_
  refine wpList_nil ?_
  refine then_n ?_
  refine wp_ret ?_
  obtain rfl := Option.some.inj M
  exact ret1 rfl rfl  (show _ = .int .i64 x9 from (by kernel_rfl)) ⟨F11, H, rfl, n13, h4, S17⟩

/-! laws_markCellS -/
def laws_markCellS_2.l0 : Nat → (List Cell) → Int → Int → (List Cell) → Option (Int × (List Cell))
  | 0, _, _, _, _ => none
  | k24 + 1, x1, x11, x12, x14 => (if x12 < (x1.length : Int) then (if 0 ≤ x12 then ((laws_markByteS_2.f k24 ((((x14.set ((x12).toNat) ({(x14.getD ((x12).toNat) z36) with kind := x11})).set ((x12).toNat) ({((x14.set ((x12).toNat) ({(x14.getD ((x12).toNat) z36) with kind := x11})).getD ((x12).toNat) z36) with n := (IntKind.i64.wrap (x11 + 1))})).getD ((x12).toNat) z36).text) (IntKind.i64.wrap ((IntKind.i64.wrap (x11 + 1)) + 1))).bind fun t71 => (laws_markCellS_2.l0 k24 x1 t71.1 (IntKind.i64.wrap (x12 + 1)) (((x14.set ((x12).toNat) ({(x14.getD ((x12).toNat) z36) with kind := x11})).set ((x12).toNat) ({((x14.set ((x12).toNat) ({(x14.getD ((x12).toNat) z36) with kind := x11})).getD ((x12).toNat) z36) with n := (IntKind.i64.wrap (x11 + 1))})).set ((x12).toNat) ({(((x14.set ((x12).toNat) ({(x14.getD ((x12).toNat) z36) with kind := x11})).set ((x12).toNat) ({((x14.set ((x12).toNat) ({(x14.getD ((x12).toNat) z36) with kind := x11})).getD ((x12).toNat) z36) with n := (IntKind.i64.wrap (x11 + 1))})).getD ((x12).toNat) z36) with text := t71.2})))) else none) else some (x11, x14))
def laws_markCellS_2.f (k : Nat) (x1 : List Cell) (x6 : Int) : Option (Int × (List Cell)) := (laws_markCellS_2.l0 k x1 x6 0 x1)
theorem laws_markCellS_2.calls (k : Nat) (w : World) (H : Hp) (x1 : List Cell) (A2 : Option Addr) (c3 : Nat) (F5 : Foot) (x6 : Int) (h4 : Row st36 36 H (hp w) F5 A2 c3 x1) (S : Own [F5] H w) (r : Int × (List Cell)) (M : laws_markCellS_2.f k x1 x6 = some r) :
    Calls Try.prog 10 #[.slice A2 x1.length c3, .int .i64 x6] w (fun e e_w => ∃ (F_1 : Foot) (H_ : Hp), e = .returned (.int .i64 r.1) ∧ r.2.length = x1.length ∧ Row st36 36 H_ (hp e_w) F_1 A2 c3 r.2 ∧ St (anyOf [F5]) H w [F_1] H_ e_w) := by
  rw [laws_markCellS_2.f] at M
  refine enter (l := [.slice A2 x1.length c3, .int .i64 x6]) 34 Try.func10 rfl rfl rfl ?_
  have S0_ := S.st
  refine wp_seq ?_
  refine wp_region_lit ?_
  refine lv (d := 4) rfl rfl (by kernel_rfl) (e_assign (v := .int .i64 0) rfl) ?_
  refine wpList_nil ?_
  refine then_n ?_
  refine wp_seq ?_
  refine wp_seq ?_
  refine wp_region_lit ?_
  refine lv (d := 5) rfl rfl (by kernel_rfl) (e_assign (v := .int .i64 0) rfl) ?_
  refine wpList_nil ?_
  refine then_n ?_
  refine wp_block ?_
  refine wp_loop_g (fun k22 a23 w7 => ∃ (f8 : Nat → Value) (H9 : Hp) (x11 : Int) (x12 : Int) (F13 : Foot) (x14 : List Cell), a23 = mk 34 f8 ∧ f8 0 = .slice A2 x1.length c3 ∧ f8 1 = .int .i64 x11 ∧ f8 5 = .int .i64 x12 ∧ Row st36 36 H9 (hp w7) F13 A2 c3 x14 ∧ x14.length = x1.length ∧ Ext H H9 ∧ St (anyOf [F5]) H w [F13] H9 w7 ∧ laws_markCellS_2.l0 k22 x1 x11 x12 x14 = some r) k ⟨_, H, x6, 0, F5, x1, rfl, (by kernel_rfl), (by kernel_rfl), (by kernel_rfl), h4, rfl, (Ext.refl _), S0_, M⟩ ?_
  clear M
  rintro k22 a23 w7 ⟨f8, H9, x11, x12, F13, x14, rfl, e16, e17, e18, h4, n15, Y10, S19, M⟩
  rcases k22 with _ | k24
  · rw [laws_markCellS_2.l0] at M
    cases M
  rw [laws_markCellS_2.l0] at M
  refine wp_seq ?_
  refine wp_seq ?_
  refine wp_region_lit ?_
  refine lv (d := 6) rfl rfl (by kernel_rfl) (e_move (v := .int .i64 x12) (by exact e18)) ?_
  refine lv (d := 7) rfl rfl (by kernel_rfl) (e_move (v := .slice A2 x1.length c3) (by exact e16)) ?_
  refine lv (d := 8) rfl rfl (by kernel_rfl) (e_len (A := A2) (n := x1.length) (c := c3) Try.underlying24 (by kernel_rfl)) ?_
  refine lv (d := 9) rfl rfl (by kernel_rfl) (e_lss (k := .i64) (a := x12) (b := (x1.length : Int)) (by kernel_rfl) (by kernel_rfl)) ?_
  refine wpList_nil ?_
  refine then_n ?_
  by_cases q25 : x12 < (x1.length : Int)
  · replace M := ifp q25 M
    refine cond_t rfl (bt q25 (by kernel_rfl)) ?_
    refine wp_skip ?_
    refine then_n ?_
    refine wp_seq ?_
    refine wp_block ?_
    refine wp_seq ?_
    refine wp_region_lit ?_
    refine lv (d := 12) rfl rfl (by kernel_rfl) (e_move (v := .slice A2 x1.length c3) (by exact e16)) ?_
    refine lv (d := 13) rfl rfl (by kernel_rfl) (e_move (v := .int .i64 x12) (by exact e18)) ?_
    refine lv (d := 14) rfl rfl (by kernel_rfl) (e_move (v := .int .i64 x11) (by exact e17)) ?_
    obtain ⟨q26, M⟩ := chk M
    obtain ⟨b27, e29⟩ := Row.addr h4 (show (x12).toNat < x14.length by have : x14.length = x1.length := n15; omega)
    refine lv (d := 15) rfl rfl (by kernel_rfl) (e_indexAddr (b := b27) (off := 0) (n := x1.length) (c := c3) (sz := 3) (i := x12) (k := .i64) Try.underlying24 e29 (by kernel_rfl) (by kernel_rfl) (by kernel_rfl) q26 q25) ?_
    refine lv (d := 16) rfl rfl (by kernel_rfl) (e_fieldAddr (b := b27) (off := 0 + (x12 : Int).toNat * 3) (o := 0) Try.underlying36 rfl rfl (sz := 1) (by kernel_rfl) (by decide) (by kernel_rfl)) ?_
    have S30 := S19.unit
    have S31 := S30.pull (F := F13) (Fr := [no]) 1 rfl rfl
    refine lse rfl rfl (by kernel_rfl) (e_setpart (d := st36) (b := b27) (i := (x12).toNat) (j := 0) (v := .int .i64 x11) (vs := [.int .i64 x11]) (yv := {(x14.getD ((x12).toNat) z36) with kind := x11}) S31 (by kernel_rfl) e29 (by kernel_rfl) rfl (by kernel_rfl) h4 (getD_some z36 (show (x12).toNat < x14.length by have : x14.length = x1.length := n15; omega)) (Nat.le_of_ble_eq_true rfl) (List.forall_mem_cons.2 ⟨rfl, (fun _ h_ => by cases h_)⟩) (fun _ _ _ o_ => st36_u0 x11 o_)) ?_
    rintro w32 ⟨F34, h33, S35, K36⟩
    clear h4
    refine wpList_nil ?_
    refine then_n ?_
    refine wp_seq ?_
    refine wp_region_lit ?_
    refine lv (d := 17) rfl rfl (by kernel_rfl) (e_move (v := .int .i64 x11) (by exact e17)) ?_
    refine lv (d := 18) rfl rfl (by kernel_rfl) (e_add (k := .i64) (a := x11) (b := 1) (by kernel_rfl) rfl) ?_
    refine lv (d := 1) rfl rfl (by kernel_rfl) (e_assign (v := .int .i64 (IntKind.i64.wrap (x11 + 1))) (by kernel_rfl)) ?_
    refine wpList_nil ?_
    refine then_n ?_
    refine wp_seq ?_
    refine wp_region_lit ?_
    refine lv (d := 19) rfl rfl (by kernel_rfl) (e_move (v := .slice A2 x1.length c3) (by exact e16)) ?_
    refine lv (d := 20) rfl rfl (by kernel_rfl) (e_move (v := .int .i64 x12) (by exact e18)) ?_
    refine lv (d := 21) rfl rfl (by kernel_rfl) (e_move (v := .int .i64 (IntKind.i64.wrap (x11 + 1))) (by kernel_rfl)) ?_
    obtain ⟨b37, e39⟩ := Row.addr h33 (show (x12).toNat < (x14.set ((x12).toNat) ({(x14.getD ((x12).toNat) z36) with kind := x11})).length by have : (x14.set ((x12).toNat) ({(x14.getD ((x12).toNat) z36) with kind := x11})).length = x1.length := (List.length_set.trans n15); omega)
    refine lv (d := 22) rfl rfl (by kernel_rfl) (e_indexAddr (b := b37) (off := 0) (n := x1.length) (c := c3) (sz := 3) (i := x12) (k := .i64) Try.underlying24 e39 (by kernel_rfl) (by kernel_rfl) (by kernel_rfl) q26 q25) ?_
    refine lv (d := 23) rfl rfl (by kernel_rfl) (e_fieldAddr (b := b37) (off := 0 + (x12 : Int).toNat * 3) (o := 1) Try.underlying36 rfl rfl (sz := 1) (by kernel_rfl) (by decide) (by kernel_rfl)) ?_
    have S40 := S35.unit
    have S41 := S40.pull (F := F34) (Fr := [no]) 1 rfl rfl
    refine lse rfl rfl (by kernel_rfl) (e_setpart (d := st36) (b := b37) (i := (x12).toNat) (j := 1) (v := .int .i64 (IntKind.i64.wrap (x11 + 1))) (vs := [.int .i64 (IntKind.i64.wrap (x11 + 1))]) (yv := {((x14.set ((x12).toNat) ({(x14.getD ((x12).toNat) z36) with kind := x11})).getD ((x12).toNat) z36) with n := (IntKind.i64.wrap (x11 + 1))}) S41 (by kernel_rfl) e39 (by kernel_rfl) rfl (by kernel_rfl) h33 (getD_some z36 (show (x12).toNat < (x14.set ((x12).toNat) ({(x14.getD ((x12).toNat) z36) with kind := x11})).length by have : (x14.set ((x12).toNat) ({(x14.getD ((x12).toNat) z36) with kind := x11})).length = x1.length := (List.length_set.trans n15); omega)) (Nat.le_of_ble_eq_true rfl) (List.forall_mem_cons.2 ⟨rfl, (fun _ h_ => by cases h_)⟩) (fun _ _ _ o_ => st36_u1 (IntKind.i64.wrap (x11 + 1)) o_)) ?_
    rintro w42 ⟨F44, h43, S45, K46⟩
    clear h33
    refine wpList_nil ?_
    refine then_n ?_
    refine wp_seq ?_
    refine wp_region_lit ?_
    refine lv (d := 24) rfl rfl (by kernel_rfl) (e_move (v := .int .i64 (IntKind.i64.wrap (x11 + 1))) (by kernel_rfl)) ?_
    refine lv (d := 25) rfl rfl (by kernel_rfl) (e_add (k := .i64) (a := (IntKind.i64.wrap (x11 + 1))) (b := 1) (by kernel_rfl) rfl) ?_
    refine lv (d := 1) rfl rfl (by kernel_rfl) (e_assign (v := .int .i64 (IntKind.i64.wrap ((IntKind.i64.wrap (x11 + 1)) + 1))) (by kernel_rfl)) ?_
    refine wpList_nil ?_
    refine then_n ?_
    refine wp_region_lit ?_
    refine lv (d := 26) rfl rfl (by kernel_rfl) (e_move (v := .slice A2 x1.length c3) (by exact e16)) ?_
    refine lv (d := 27) rfl rfl (by kernel_rfl) (e_move (v := .int .i64 x12) (by exact e18)) ?_
    obtain ⟨b47, e49⟩ := Row.addr h43 (show (x12).toNat < ((x14.set ((x12).toNat) ({(x14.getD ((x12).toNat) z36) with kind := x11})).set ((x12).toNat) ({((x14.set ((x12).toNat) ({(x14.getD ((x12).toNat) z36) with kind := x11})).getD ((x12).toNat) z36) with n := (IntKind.i64.wrap (x11 + 1))})).length by have : ((x14.set ((x12).toNat) ({(x14.getD ((x12).toNat) z36) with kind := x11})).set ((x12).toNat) ({((x14.set ((x12).toNat) ({(x14.getD ((x12).toNat) z36) with kind := x11})).getD ((x12).toNat) z36) with n := (IntKind.i64.wrap (x11 + 1))})).length = x1.length := (List.length_set.trans (List.length_set.trans n15)); omega)
    refine lv (d := 28) rfl rfl (by kernel_rfl) (e_indexAddr (b := b47) (off := 0) (n := x1.length) (c := c3) (sz := 3) (i := x12) (k := .i64) Try.underlying24 e49 (by kernel_rfl) (by kernel_rfl) (by kernel_rfl) q26 q25) ?_
    refine lv (d := 29) rfl rfl (by kernel_rfl) (e_fieldAddr (b := b47) (off := 0 + (x12 : Int).toNat * 3) (o := 2) Try.underlying36 rfl rfl (sz := 1) (by kernel_rfl) (by decide) (by kernel_rfl)) ?_
    obtain ⟨y55, F56, G57, r58, d59, s60, k61, t62⟩ := Row.lend h43 e49 (getD_some z36 (show (x12).toNat < ((x14.set ((x12).toNat) ({(x14.getD ((x12).toNat) z36) with kind := x11})).set ((x12).toNat) ({((x14.set ((x12).toNat) ({(x14.getD ((x12).toNat) z36) with kind := x11})).getD ((x12).toNat) z36) with n := (IntKind.i64.wrap (x11 + 1))})).length by have : ((x14.set ((x12).toNat) ({(x14.getD ((x12).toNat) z36) with kind := x11})).set ((x12).toNat) ({((x14.set ((x12).toNat) ({(x14.getD ((x12).toNat) z36) with kind := x11})).getD ((x12).toNat) z36) with n := (IntKind.i64.wrap (x11 + 1))})).length = x1.length := (List.length_set.trans (List.length_set.trans n15)); omega))
    obtain ⟨A63, c64, F67, rfl, h65, s66⟩ := st36_openO r58
    refine lv (d := 30) rfl rfl (by kernel_rfl) (e_load1 (ad := ⟨b47, 0 + (x12 : Int).toNat * 3 + 2, none⟩) (v := .slice A63 ((((x14.set ((x12).toNat) ({(x14.getD ((x12).toNat) z36) with kind := x11})).set ((x12).toNat) ({((x14.set ((x12).toNat) ({(x14.getD ((x12).toNat) z36) with kind := x11})).getD ((x12).toNat) z36) with n := (IntKind.i64.wrap (x11 + 1))})).getD ((x12).toNat) z36).text).length c64) Try.underlying32 rfl (by kernel_rfl) (hpx (k61 2 _ rfl))) ?_
    refine lv (d := 31) rfl rfl (by kernel_rfl) (e_move (v := .int .i64 (IntKind.i64.wrap ((IntKind.i64.wrap (x11 + 1)) + 1))) (by kernel_rfl)) ?_
    have S68 := S45.part d59 s60
    have S69 := S68.sub s66
    have q70 : ∀ b_, G57 b_ → hp w42 b_ = hp w42 b_ := fun _ _ => rfl
    obtain ⟨t71, u72, M⟩ := bnd M
    refine lcall (d := 32) rfl rfl (by kernel_rfl) (e_call (l := [.tmp 30, .tmp 31]) (vs := [.slice A63 ((((x14.set ((x12).toNat) ({(x14.getD ((x12).toNat) z36) with kind := x11})).set ((x12).toNat) ({((x14.set ((x12).toNat) ({(x14.getD ((x12).toNat) z36) with kind := x11})).getD ((x12).toNat) z36) with n := (IntKind.i64.wrap (x11 + 1))})).getD ((x12).toNat) z36).text).length c64, .int .i64 (IntKind.i64.wrap ((IntKind.i64.wrap (x11 + 1)) + 1))]) Try.func23 (by kernel_rfl) rfl (by kernel_rfl) rfl) (laws_markByteS_2.calls k24 w42 H9 ((((x14.set ((x12).toNat) ({(x14.getD ((x12).toNat) z36) with kind := x11})).set ((x12).toNat) ({((x14.set ((x12).toNat) ({(x14.getD ((x12).toNat) z36) with kind := x11})).getD ((x12).toNat) z36) with n := (IntKind.i64.wrap (x11 + 1))})).getD ((x12).toNat) z36).text) A63 c64 F67 (IntKind.i64.wrap ((IntKind.i64.wrap (x11 + 1)) + 1)) h65 (St.own' (Fa := [F67]) (Fr := [G57]) S69) t71 u72) ?_
    rintro _ w73 ⟨F77, H74, rfl, n78, h76, T75⟩
    refine ⟨_, rfl, ?_⟩
    obtain ⟨S79, K80⟩ := St.call (Fa := [F67]) (Fr := [G57]) S69 T75
    replace q70 := fun b_ h_ => (K80.at 0 rfl b_ h_).trans (q70 b_ h_)
    have E81 := T75.ext
    have S82 := S79.pull (F := G57) (Fr := [F77]) 1 rfl rfl
    have S83 := S82.pull (F := F77) (Fr := [G57]) 1 rfl rfl
    have h84 := t62 H74 (hp w73) F77 ({(((x14.set ((x12).toNat) ({(x14.getD ((x12).toNat) z36) with kind := x11})).set ((x12).toNat) ({((x14.set ((x12).toNat) ({(x14.getD ((x12).toNat) z36) with kind := x11})).getD ((x12).toNat) z36) with n := (IntKind.i64.wrap (x11 + 1))})).getD ((x12).toNat) z36) with text := t71.2} : Cell) E81 q70 (by have q_ := st36_mkO (x := {(((x14.set ((x12).toNat) ({(x14.getD ((x12).toNat) z36) with kind := x11})).set ((x12).toNat) ({((x14.set ((x12).toNat) ({(x14.getD ((x12).toNat) z36) with kind := x11})).getD ((x12).toNat) z36) with n := (IntKind.i64.wrap (x11 + 1))})).getD ((x12).toNat) z36) with text := t71.2}) h76; rw [show t71.2.length = ((((x14.set ((x12).toNat) ({(x14.getD ((x12).toNat) z36) with kind := x11})).set ((x12).toNat) ({((x14.set ((x12).toNat) ({(x14.getD ((x12).toNat) z36) with kind := x11})).getD ((x12).toNat) z36) with n := (IntKind.i64.wrap (x11 + 1))})).getD ((x12).toNat) z36).text).length from n78] at q_; exact q_) S83.dj
    have S85 := S83.join
    refine lv (d := 1) rfl rfl (by kernel_rfl) (e_assign (v := .int .i64 t71.1) (by kernel_rfl)) ?_
    refine wpList_nil ?_
    refine inb_n ?_
    refine then_n ?_
    refine wp_region_lit ?_
    refine lv (d := 10) rfl rfl (by kernel_rfl) (e_move (v := .int .i64 x12) (by exact e18)) ?_
    refine lv (d := 11) rfl rfl (by kernel_rfl) (e_add (k := .i64) (a := x12) (b := 1) (by kernel_rfl) rfl) ?_
    refine lv (d := 5) rfl rfl (by kernel_rfl) (e_assign (v := .int .i64 (IntKind.i64.wrap (x12 + 1))) (by kernel_rfl)) ?_
    refine wpList_nil ?_
    refine then_n ?_
    exact ⟨k24, (by omega), _, H74, t71.1, (IntKind.i64.wrap (x12 + 1)), (or2 F77 G57), (((x14.set ((x12).toNat) ({(x14.getD ((x12).toNat) z36) with kind := x11})).set ((x12).toNat) ({((x14.set ((x12).toNat) ({(x14.getD ((x12).toNat) z36) with kind := x11})).getD ((x12).toNat) z36) with n := (IntKind.i64.wrap (x11 + 1))})).set ((x12).toNat) ({(((x14.set ((x12).toNat) ({(x14.getD ((x12).toNat) z36) with kind := x11})).set ((x12).toNat) ({((x14.set ((x12).toNat) ({(x14.getD ((x12).toNat) z36) with kind := x11})).getD ((x12).toNat) z36) with n := (IntKind.i64.wrap (x11 + 1))})).getD ((x12).toNat) z36) with text := t71.2})), rfl, (by exact e16), (by kernel_rfl), (by kernel_rfl), h84, (List.length_set.trans (List.length_set.trans (List.length_set.trans n15))), (Y10.trans E81), S85, M⟩
  replace M := ifn q25 M
  refine cond_f rfl (bf q25 (by kernel_rfl)) ?_
  refine wp_exit ?_
  refine then_e ?_
  refine then_e ?_
  refine inb_hit ?_
  refine then_n ?_
  refine wp_seq ?_
  refine wp_region_lit ?_
  refine lv (d := 33) rfl rfl (by kernel_rfl) (e_move (v := .int .i64 x11) (by exact e17)) ?_
  refine lv (d := 4) rfl rfl (by kernel_rfl) (e_assign (v := .int .i64 x11) (by kernel_rfl)) ?_
  refine wpList_nil ?_
  refine then_n ?_
  refine wp_ret ?_
  obtain rfl := Option.some.inj M
  exact ret1 rfl rfl  (show _ = .int .i64 x11 from (by kernel_rfl)) ⟨F13, H9, rfl, n15, h4, S19⟩

/-! laws_heldByteS -/
def laws_heldByteS.l0 : Nat → (List UInt8) → Int → Int → Option Int
  | 0, _, _, _ => none
  | k19 + 1, x1, x9, x10 => (if x10 < (x1.length : Int) then (if 0 ≤ x10 then (if ((x1.getD ((x10).toNat) (0 : UInt8)).toNat : Int) ≠ ((b8 (x9)).toNat : Int) then some (-1) else (laws_heldByteS.l0 k19 x1 (IntKind.i64.wrap (x9 + 1)) (IntKind.i64.wrap (x10 + 1)))) else none) else some x9)
def laws_heldByteS.f (k : Nat) (x1 : List UInt8) (x6 : Int) : Option Int := (laws_heldByteS.l0 k x1 x6 0)
theorem laws_heldByteS.calls (k : Nat) (w : World) (H : Hp) (x1 : List UInt8) (A2 : Option Addr) (c3 : Nat) (x6 : Int) (h4 : Rd tByte H A2 x1) (l5 : x1.length ≤ c3) (S : Own [] H w) (r : Int) (M : laws_heldByteS.f k x1 x6 = some r) :
    Calls Try.prog 24 #[.slice A2 x1.length c3, .int .i64 x6] w (fun e e_w => e = .returned (.int .i64 r) ∧ Chg no w e_w) := by
  rw [laws_heldByteS.f] at M
  refine enter (l := [.slice A2 x1.length c3, .int .i64 x6]) 22 Try.func24 rfl rfl rfl ?_
  have S0_ := S.st
  refine wp_seq ?_
  refine wp_region_lit ?_
  refine lv (d := 4) rfl rfl (by kernel_rfl) (e_assign (v := .int .i64 0) rfl) ?_
  refine wpList_nil ?_
  refine then_n ?_
  refine wp_seq ?_
  refine wp_seq ?_
  refine wp_region_lit ?_
  refine lv (d := 5) rfl rfl (by kernel_rfl) (e_assign (v := .int .i64 0) rfl) ?_
  refine wpList_nil ?_
  refine then_n ?_
  refine wp_block ?_
  refine wp_loop_g (fun k17 a18 w7 => ∃ (f8 : Nat → Value) (x9 : Int) (x10 : Int), a18 = mk 22 f8 ∧ f8 0 = .slice A2 x1.length c3 ∧ f8 1 = .int .i64 x9 ∧ f8 5 = .int .i64 x10 ∧ St (anyOf []) H w [] H w7 ∧ laws_heldByteS.l0 k17 x1 x9 x10 = some r) k ⟨_, x6, 0, rfl, (by kernel_rfl), (by kernel_rfl), (by kernel_rfl), S0_, M⟩ ?_
  clear M
  rintro k17 a18 w7 ⟨f8, x9, x10, rfl, e11, e12, e13, S14, M⟩
  rcases k17 with _ | k19
  · rw [laws_heldByteS.l0] at M
    cases M
  rw [laws_heldByteS.l0] at M
  refine wp_seq ?_
  refine wp_seq ?_
  refine wp_region_lit ?_
  refine lv (d := 6) rfl rfl (by kernel_rfl) (e_move (v := .int .i64 x10) (by exact e13)) ?_
  refine lv (d := 7) rfl rfl (by kernel_rfl) (e_move (v := .slice A2 x1.length c3) (by exact e11)) ?_
  refine lv (d := 8) rfl rfl (by kernel_rfl) (e_len (A := A2) (n := x1.length) (c := c3) Try.underlying32 (by kernel_rfl)) ?_
  refine lv (d := 9) rfl rfl (by kernel_rfl) (e_lss (k := .i64) (a := x10) (b := (x1.length : Int)) (by kernel_rfl) (by kernel_rfl)) ?_
  refine wpList_nil ?_
  refine then_n ?_
  by_cases q20 : x10 < (x1.length : Int)
  · replace M := ifp q20 M
    refine cond_t rfl (bt q20 (by kernel_rfl)) ?_
    refine wp_skip ?_
    refine then_n ?_
    refine wp_seq ?_
    refine wp_block ?_
    refine wp_seq ?_
    refine wp_seq ?_
    refine wp_region_lit ?_
    refine lv (d := 12) rfl rfl (by kernel_rfl) (e_move (v := .slice A2 x1.length c3) (by exact e11)) ?_
    refine lv (d := 13) rfl rfl (by kernel_rfl) (e_move (v := .int .i64 x10) (by exact e13)) ?_
    obtain ⟨q21, M⟩ := chk M
    obtain ⟨b22, o23, e24⟩ := Rd.addr h4 (show (x10).toNat < x1.length by omega)
    obtain ⟨y25, r26, k27⟩ := Rd.at h4 e24 (getD_some (0 : UInt8) (show (x10).toNat < x1.length by omega))
    obtain rfl := r26
    refine lv (d := 14) rfl rfl (by kernel_rfl) (e_indexAddr (b := b22) (off := o23) (n := x1.length) (c := c3) (sz := 1) (i := x10) (k := .i64) Try.underlying32 e24 (by kernel_rfl) (by kernel_rfl) (by kernel_rfl) q21 q20) ?_
    refine lv (d := 15) rfl rfl (by kernel_rfl) (e_load1 (ad := ⟨b22, o23 + (x10 : Int).toNat * 1, none⟩) (v := .int .u8 ((x1.getD ((x10).toNat) (0 : UInt8)).toNat : Int)) Try.underlying5 rfl (by kernel_rfl) (hpx (S14.inv.cell (k27 0 _ rfl)))) ?_
    refine lv (d := 16) rfl rfl (by kernel_rfl) (e_move (v := .int .i64 x9) (by exact e12)) ?_
    refine lv (d := 17) rfl rfl (by kernel_rfl) (e_conv_i8 (k := .i64) (a := x9) (by kernel_rfl) Try.underlying5 (by kernel_rfl)) ?_
    refine lv (d := 18) rfl rfl (by kernel_rfl) (e_neq (k := .u8) (a := ((x1.getD ((x10).toNat) (0 : UInt8)).toNat : Int)) (b := ((b8 (x9)).toNat : Int)) (by kernel_rfl) (by kernel_rfl)) ?_
    refine wpList_nil ?_
    refine then_n ?_
    by_cases q28 : ((x1.getD ((x10).toNat) (0 : UInt8)).toNat : Int) ≠ ((b8 (x9)).toNat : Int)
    · replace M := ifp q28 M
      refine cond_t rfl (bt q28 (by kernel_rfl)) ?_
      refine wp_seq ?_
      refine wp_region_lit ?_
      refine lv (d := 4) rfl rfl (by kernel_rfl) (e_assign (v := .int .i64 (-1)) rfl) ?_
      refine wpList_nil ?_
      refine then_n ?_
      refine wp_ret ?_
      refine then_r ?_
      refine inb_r ?_
      refine then_r ?_
      refine then_r ?_
      refine inb_r ?_
      refine then_r ?_
      obtain rfl := Option.some.inj M
      exact ret1 rfl rfl  (show _ = .int .i64 (-1) from (by kernel_rfl)) ⟨rfl, S14.chg⟩
    replace M := ifn q28 M
    refine cond_f rfl (bf q28 (by kernel_rfl)) ?_
    refine wp_skip ?_
    refine then_n ?_
    refine wp_region_lit ?_
    refine lv (d := 19) rfl rfl (by kernel_rfl) (e_move (v := .int .i64 x9) (by exact e12)) ?_
    refine lv (d := 20) rfl rfl (by kernel_rfl) (e_add (k := .i64) (a := x9) (b := 1) (by kernel_rfl) rfl) ?_
    refine lv (d := 1) rfl rfl (by kernel_rfl) (e_assign (v := .int .i64 (IntKind.i64.wrap (x9 + 1))) (by kernel_rfl)) ?_
    refine wpList_nil ?_
    refine inb_n ?_
    refine then_n ?_
    refine wp_region_lit ?_
    refine lv (d := 10) rfl rfl (by kernel_rfl) (e_move (v := .int .i64 x10) (by exact e13)) ?_
    refine lv (d := 11) rfl rfl (by kernel_rfl) (e_add (k := .i64) (a := x10) (b := 1) (by kernel_rfl) rfl) ?_
    refine lv (d := 5) rfl rfl (by kernel_rfl) (e_assign (v := .int .i64 (IntKind.i64.wrap (x10 + 1))) (by kernel_rfl)) ?_
    refine wpList_nil ?_
    refine then_n ?_
    exact ⟨k19, (by omega), _, (IntKind.i64.wrap (x9 + 1)), (IntKind.i64.wrap (x10 + 1)), rfl, (by exact e11), (by kernel_rfl), (by kernel_rfl), S14, M⟩
  replace M := ifn q20 M
  refine cond_f rfl (bf q20 (by kernel_rfl)) ?_
  refine wp_exit ?_
  refine then_e ?_
  refine then_e ?_
  refine inb_hit ?_
  refine then_n ?_
  refine wp_seq ?_
  refine wp_region_lit ?_
  refine lv (d := 21) rfl rfl (by kernel_rfl) (e_move (v := .int .i64 x9) (by exact e12)) ?_
  refine lv (d := 4) rfl rfl (by kernel_rfl) (e_assign (v := .int .i64 x9) (by kernel_rfl)) ?_
  refine wpList_nil ?_
  refine then_n ?_
  refine wp_ret ?_
  obtain rfl := Option.some.inj M
  exact ret1 rfl rfl  (show _ = .int .i64 x9 from (by kernel_rfl)) ⟨rfl, S14.chg⟩

/-! laws_heldCellS -/
def laws_heldCellS.l0 : Nat → (List Cell) → Int → Int → Option Int
  | 0, _, _, _ => none
  | k19 + 1, x1, x9, x10 => (if x10 < (x1.length : Int) then (if 0 ≤ x10 then (if ((x1.getD ((x10).toNat) z36).kind) ≠ x9 then some (-1) else (if ((x1.getD ((x10).toNat) z36).n) ≠ (IntKind.i64.wrap (x9 + 1)) then some (-1) else ((laws_heldByteS.f k19 ((x1.getD ((x10).toNat) z36).text) (IntKind.i64.wrap ((IntKind.i64.wrap (x9 + 1)) + 1))).bind fun t54 => (if t54 < 0 then some (-1) else (laws_heldCellS.l0 k19 x1 t54 (IntKind.i64.wrap (x10 + 1))))))) else none) else some x9)
def laws_heldCellS.f (k : Nat) (x1 : List Cell) (x6 : Int) : Option Int := (laws_heldCellS.l0 k x1 x6 0)
theorem laws_heldCellS.calls (k : Nat) (w : World) (H : Hp) (x1 : List Cell) (A2 : Option Addr) (c3 : Nat) (x6 : Int) (h4 : Rd st36 H A2 x1) (l5 : x1.length ≤ c3) (S : Own [] H w) (r : Int) (M : laws_heldCellS.f k x1 x6 = some r) :
    Calls Try.prog 11 #[.slice A2 x1.length c3, .int .i64 x6] w (fun e e_w => e = .returned (.int .i64 r) ∧ Chg no w e_w) := by
  rw [laws_heldCellS.f] at M
  refine enter (l := [.slice A2 x1.length c3, .int .i64 x6]) 40 Try.func11 rfl rfl rfl ?_
  have S0_ := S.st
  refine wp_seq ?_
  refine wp_region_lit ?_
  refine lv (d := 4) rfl rfl (by kernel_rfl) (e_assign (v := .int .i64 0) rfl) ?_
  refine wpList_nil ?_
  refine then_n ?_
  refine wp_seq ?_
  refine wp_seq ?_
  refine wp_region_lit ?_
  refine lv (d := 5) rfl rfl (by kernel_rfl) (e_assign (v := .int .i64 0) rfl) ?_
  refine wpList_nil ?_
  refine then_n ?_
  refine wp_block ?_
  refine wp_loop_g (fun k17 a18 w7 => ∃ (f8 : Nat → Value) (x9 : Int) (x10 : Int), a18 = mk 40 f8 ∧ f8 0 = .slice A2 x1.length c3 ∧ f8 1 = .int .i64 x9 ∧ f8 5 = .int .i64 x10 ∧ St (anyOf []) H w [] H w7 ∧ laws_heldCellS.l0 k17 x1 x9 x10 = some r) k ⟨_, x6, 0, rfl, (by kernel_rfl), (by kernel_rfl), (by kernel_rfl), S0_, M⟩ ?_
  clear M
  rintro k17 a18 w7 ⟨f8, x9, x10, rfl, e11, e12, e13, S14, M⟩
  rcases k17 with _ | k19
  · rw [laws_heldCellS.l0] at M
    cases M
  rw [laws_heldCellS.l0] at M
  refine wp_seq ?_
  refine wp_seq ?_
  refine wp_region_lit ?_
  refine lv (d := 6) rfl rfl (by kernel_rfl) (e_move (v := .int .i64 x10) (by exact e13)) ?_
  refine lv (d := 7) rfl rfl (by kernel_rfl) (e_move (v := .slice A2 x1.length c3) (by exact e11)) ?_
  refine lv (d := 8) rfl rfl (by kernel_rfl) (e_len (A := A2) (n := x1.length) (c := c3) Try.underlying24 (by kernel_rfl)) ?_
  refine lv (d := 9) rfl rfl (by kernel_rfl) (e_lss (k := .i64) (a := x10) (b := (x1.length : Int)) (by kernel_rfl) (by kernel_rfl)) ?_
  refine wpList_nil ?_
  refine then_n ?_
  by_cases q20 : x10 < (x1.length : Int)
  · replace M := ifp q20 M
    refine cond_t rfl (bt q20 (by kernel_rfl)) ?_
    refine wp_skip ?_
    refine then_n ?_
    refine wp_seq ?_
    refine wp_block ?_
    refine wp_seq ?_
    refine wp_seq ?_
    refine wp_region_lit ?_
    refine lv (d := 12) rfl rfl (by kernel_rfl) (e_move (v := .slice A2 x1.length c3) (by exact e11)) ?_
    refine lv (d := 13) rfl rfl (by kernel_rfl) (e_move (v := .int .i64 x10) (by exact e13)) ?_
    obtain ⟨q21, M⟩ := chk M
    obtain ⟨b22, o23, e24⟩ := Rd.addr h4 (show (x10).toNat < x1.length by omega)
    obtain ⟨y25, r26, k27⟩ := Rd.at h4 e24 (getD_some z36 (show (x10).toNat < x1.length by omega))
    obtain ⟨A28, c29, rfl, l30, h31⟩ := st36_open r26
    refine lv (d := 14) rfl rfl (by kernel_rfl) (e_indexAddr (b := b22) (off := o23) (n := x1.length) (c := c3) (sz := 3) (i := x10) (k := .i64) Try.underlying24 e24 (by kernel_rfl) (by kernel_rfl) (by kernel_rfl) q21 q20) ?_
    refine lv (d := 15) rfl rfl (by kernel_rfl) (e_fieldAddr (b := b22) (off := o23 + (x10 : Int).toNat * 3) (o := 0) Try.underlying36 rfl rfl (sz := 1) (by kernel_rfl) (by decide) (by kernel_rfl)) ?_
    refine lv (d := 16) rfl rfl (by kernel_rfl) (e_load1 (ad := ⟨b22, o23 + (x10 : Int).toNat * 3 + 0, none⟩) (v := .int .i64 ((x1.getD ((x10).toNat) z36).kind)) Try.underlying3 rfl (by kernel_rfl) (hpx (S14.inv.cell (k27 0 _ rfl)))) ?_
    refine lv (d := 17) rfl rfl (by kernel_rfl) (e_move (v := .int .i64 x9) (by exact e12)) ?_
    refine lv (d := 18) rfl rfl (by kernel_rfl) (e_neq (k := .i64) (a := (x1.getD ((x10).toNat) z36).kind) (b := x9) (by kernel_rfl) (by kernel_rfl)) ?_
    refine wpList_nil ?_
    refine then_n ?_
    by_cases q32 : ((x1.getD ((x10).toNat) z36).kind) ≠ x9
    · replace M := ifp q32 M
      refine cond_t rfl (bt q32 (by kernel_rfl)) ?_
      refine wp_seq ?_
      refine wp_region_lit ?_
      refine lv (d := 4) rfl rfl (by kernel_rfl) (e_assign (v := .int .i64 (-1)) rfl) ?_
      refine wpList_nil ?_
      refine then_n ?_
      refine wp_ret ?_
      refine then_r ?_
      refine inb_r ?_
      refine then_r ?_
      refine then_r ?_
      refine inb_r ?_
      refine then_r ?_
      obtain rfl := Option.some.inj M
      exact ret1 rfl rfl  (show _ = .int .i64 (-1) from (by kernel_rfl)) ⟨rfl, S14.chg⟩
    replace M := ifn q32 M
    refine cond_f rfl (bf q32 (by kernel_rfl)) ?_
    refine wp_skip ?_
    refine then_n ?_
    refine wp_seq ?_
    refine wp_region_lit ?_
    refine lv (d := 19) rfl rfl (by kernel_rfl) (e_move (v := .int .i64 x9) (by exact e12)) ?_
    refine lv (d := 20) rfl rfl (by kernel_rfl) (e_add (k := .i64) (a := x9) (b := 1) (by kernel_rfl) rfl) ?_
    refine lv (d := 1) rfl rfl (by kernel_rfl) (e_assign (v := .int .i64 (IntKind.i64.wrap (x9 + 1))) (by kernel_rfl)) ?_
    refine wpList_nil ?_
    refine then_n ?_
    refine wp_seq ?_
    refine wp_seq ?_
    refine wp_region_lit ?_
    refine lv (d := 21) rfl rfl (by kernel_rfl) (e_move (v := .slice A2 x1.length c3) (by exact e11)) ?_
    refine lv (d := 22) rfl rfl (by kernel_rfl) (e_move (v := .int .i64 x10) (by exact e13)) ?_
    obtain ⟨b33, o34, e35⟩ := Rd.addr h4 (show (x10).toNat < x1.length by omega)
    obtain ⟨y36, r37, k38⟩ := Rd.at h4 e35 (getD_some z36 (show (x10).toNat < x1.length by omega))
    obtain ⟨A39, c40, rfl, l41, h42⟩ := st36_open r37
    refine lv (d := 23) rfl rfl (by kernel_rfl) (e_indexAddr (b := b33) (off := o34) (n := x1.length) (c := c3) (sz := 3) (i := x10) (k := .i64) Try.underlying24 e35 (by kernel_rfl) (by kernel_rfl) (by kernel_rfl) q21 q20) ?_
    refine lv (d := 24) rfl rfl (by kernel_rfl) (e_fieldAddr (b := b33) (off := o34 + (x10 : Int).toNat * 3) (o := 1) Try.underlying36 rfl rfl (sz := 1) (by kernel_rfl) (by decide) (by kernel_rfl)) ?_
    refine lv (d := 25) rfl rfl (by kernel_rfl) (e_load1 (ad := ⟨b33, o34 + (x10 : Int).toNat * 3 + 1, none⟩) (v := .int .i64 ((x1.getD ((x10).toNat) z36).n)) Try.underlying3 rfl (by kernel_rfl) (hpx (S14.inv.cell (k38 1 _ rfl)))) ?_
    refine lv (d := 26) rfl rfl (by kernel_rfl) (e_move (v := .int .i64 (IntKind.i64.wrap (x9 + 1))) (by kernel_rfl)) ?_
    refine lv (d := 27) rfl rfl (by kernel_rfl) (e_neq (k := .i64) (a := (x1.getD ((x10).toNat) z36).n) (b := (IntKind.i64.wrap (x9 + 1))) (by kernel_rfl) (by kernel_rfl)) ?_
    refine wpList_nil ?_
    refine then_n ?_
    by_cases q43 : ((x1.getD ((x10).toNat) z36).n) ≠ (IntKind.i64.wrap (x9 + 1))
    · replace M := ifp q43 M
      refine cond_t rfl (bt q43 (by kernel_rfl)) ?_
      refine wp_seq ?_
      refine wp_region_lit ?_
      refine lv (d := 4) rfl rfl (by kernel_rfl) (e_assign (v := .int .i64 (-1)) rfl) ?_
      refine wpList_nil ?_
      refine then_n ?_
      refine wp_ret ?_
      refine then_r ?_
      refine inb_r ?_
      refine then_r ?_
      refine then_r ?_
      refine inb_r ?_
      refine then_r ?_
      obtain rfl := Option.some.inj M
      exact ret1 rfl rfl  (show _ = .int .i64 (-1) from (by kernel_rfl)) ⟨rfl, S14.chg⟩
    replace M := ifn q43 M
    refine cond_f rfl (bf q43 (by kernel_rfl)) ?_
    refine wp_skip ?_
    refine then_n ?_
    refine wp_seq ?_
    refine wp_region_lit ?_
    refine lv (d := 28) rfl rfl (by kernel_rfl) (e_move (v := .int .i64 (IntKind.i64.wrap (x9 + 1))) (by kernel_rfl)) ?_
    refine lv (d := 29) rfl rfl (by kernel_rfl) (e_add (k := .i64) (a := (IntKind.i64.wrap (x9 + 1))) (b := 1) (by kernel_rfl) rfl) ?_
    refine lv (d := 1) rfl rfl (by kernel_rfl) (e_assign (v := .int .i64 (IntKind.i64.wrap ((IntKind.i64.wrap (x9 + 1)) + 1))) (by kernel_rfl)) ?_
    refine wpList_nil ?_
    refine then_n ?_
    refine wp_seq ?_
    refine wp_region_lit ?_
    refine lv (d := 30) rfl rfl (by kernel_rfl) (e_move (v := .slice A2 x1.length c3) (by exact e11)) ?_
    refine lv (d := 31) rfl rfl (by kernel_rfl) (e_move (v := .int .i64 x10) (by exact e13)) ?_
    obtain ⟨b44, o45, e46⟩ := Rd.addr h4 (show (x10).toNat < x1.length by omega)
    obtain ⟨y47, r48, k49⟩ := Rd.at h4 e46 (getD_some z36 (show (x10).toNat < x1.length by omega))
    obtain ⟨A50, c51, rfl, l52, h53⟩ := st36_open r48
    refine lv (d := 32) rfl rfl (by kernel_rfl) (e_indexAddr (b := b44) (off := o45) (n := x1.length) (c := c3) (sz := 3) (i := x10) (k := .i64) Try.underlying24 e46 (by kernel_rfl) (by kernel_rfl) (by kernel_rfl) q21 q20) ?_
    refine lv (d := 33) rfl rfl (by kernel_rfl) (e_fieldAddr (b := b44) (off := o45 + (x10 : Int).toNat * 3) (o := 2) Try.underlying36 rfl rfl (sz := 1) (by kernel_rfl) (by decide) (by kernel_rfl)) ?_
    refine lv (d := 34) rfl rfl (by kernel_rfl) (e_load1 (ad := ⟨b44, o45 + (x10 : Int).toNat * 3 + 2, none⟩) (v := .slice A50 ((x1.getD ((x10).toNat) z36).text).length c51) Try.underlying32 rfl (by kernel_rfl) (hpx (S14.inv.cell (k49 2 _ rfl)))) ?_
    refine lv (d := 35) rfl rfl (by kernel_rfl) (e_move (v := .int .i64 (IntKind.i64.wrap ((IntKind.i64.wrap (x9 + 1)) + 1))) (by kernel_rfl)) ?_
    obtain ⟨t54, u55, M⟩ := bnd M
    refine lcall (d := 36) rfl rfl (by kernel_rfl) (e_call (l := [.tmp 34, .tmp 35]) (vs := [.slice A50 ((x1.getD ((x10).toNat) z36).text).length c51, .int .i64 (IntKind.i64.wrap ((IntKind.i64.wrap (x9 + 1)) + 1))]) Try.func24 (by kernel_rfl) rfl (by kernel_rfl) rfl) (laws_heldByteS.calls k19 w7 H ((x1.getD ((x10).toNat) z36).text) A50 c51 (IntKind.i64.wrap ((IntKind.i64.wrap (x9 + 1)) + 1)) h53 l52 S14.own0 t54 u55) ?_
    rintro _ w56 ⟨rfl, C57⟩
    refine ⟨_, rfl, ?_⟩
    obtain ⟨S58, K59⟩ := S14.still C57
    refine lv (d := 1) rfl rfl (by kernel_rfl) (e_assign (v := .int .i64 t54) (by kernel_rfl)) ?_
    refine wpList_nil ?_
    refine then_n ?_
    refine wp_seq ?_
    refine wp_region_lit ?_
    refine lv (d := 37) rfl rfl (by kernel_rfl) (e_move (v := .int .i64 t54) (by kernel_rfl)) ?_
    refine lv (d := 38) rfl rfl (by kernel_rfl) (e_lss (k := .i64) (a := t54) (b := 0) (by kernel_rfl) rfl) ?_
    refine wpList_nil ?_
    refine then_n ?_
    by_cases q60 : t54 < 0
    · replace M := ifp q60 M
      refine cond_t rfl (bt q60 (by kernel_rfl)) ?_
      refine wp_seq ?_
      refine wp_region_lit ?_
      refine lv (d := 4) rfl rfl (by kernel_rfl) (e_assign (v := .int .i64 (-1)) rfl) ?_
      refine wpList_nil ?_
      refine then_n ?_
      refine wp_ret ?_
      refine inb_r ?_
      refine then_r ?_
      refine then_r ?_
      refine inb_r ?_
      refine then_r ?_
      obtain rfl := Option.some.inj M
      exact ret1 rfl rfl  (show _ = .int .i64 (-1) from (by kernel_rfl)) ⟨rfl, S58.chg⟩
    replace M := ifn q60 M
    refine cond_f rfl (bf q60 (by kernel_rfl)) ?_
    refine wp_skip ?_
    refine inb_n ?_
    refine then_n ?_
    refine wp_region_lit ?_
    refine lv (d := 10) rfl rfl (by kernel_rfl) (e_move (v := .int .i64 x10) (by exact e13)) ?_
    refine lv (d := 11) rfl rfl (by kernel_rfl) (e_add (k := .i64) (a := x10) (b := 1) (by kernel_rfl) rfl) ?_
    refine lv (d := 5) rfl rfl (by kernel_rfl) (e_assign (v := .int .i64 (IntKind.i64.wrap (x10 + 1))) (by kernel_rfl)) ?_
    refine wpList_nil ?_
    refine then_n ?_
    exact ⟨k19, (by omega), _, t54, (IntKind.i64.wrap (x10 + 1)), rfl, (by exact e11), (by kernel_rfl), (by kernel_rfl), S58, M⟩
  replace M := ifn q20 M
  refine cond_f rfl (bf q20 (by kernel_rfl)) ?_
  refine wp_exit ?_
  refine then_e ?_
  refine then_e ?_
  refine inb_hit ?_
  refine then_n ?_
  refine wp_seq ?_
  refine wp_region_lit ?_
  refine lv (d := 39) rfl rfl (by kernel_rfl) (e_move (v := .int .i64 x9) (by exact e12)) ?_
  refine lv (d := 4) rfl rfl (by kernel_rfl) (e_assign (v := .int .i64 x9) (by kernel_rfl)) ?_
  refine wpList_nil ?_
  refine then_n ?_
  refine wp_ret ?_
  obtain rfl := Option.some.inj M
  exact ret1 rfl rfl  (show _ = .int .i64 x9 from (by kernel_rfl)) ⟨rfl, S14.chg⟩

/-! laws_FnExactNormalBody -/
def laws_FnExactNormalBody.f (k : Nat) (x1 : List Cell) : Option Bool := ((laws_szCellS.f k x1 1048576).bind fun t6 => (if t6 < 0 then some true else ((laws_toCellS.f k x1).bind fun t13 => ((spec_NormalBody.f k t13).bind fun t31 => ((laws_toCellS.f k x1).bind fun t43 => ((impl_NormalBody.f k t43).bind fun t62 => ((laws_eqCellS.f k t62.1 t31.1).bind fun t77 => (if ¬ (t77 = true) then some false else (if t62.2 ≠ t31.2 then some false else ((laws_toCellS.f k x1).bind fun t99 => ((laws_eqCellS.f k t43 t99).bind fun t111 => (if ¬ (t111 = true) then some false else ((laws_markCellS_2.f k t43 1).bind fun t132 => (if t132.1 < 0 then some false else ((laws_eqCellS.f k t62.1 t31.1).bind fun t144 => (if ¬ (t144 = true) then some false else ((laws_markCellS_2.f k t62.1 1).bind fun t166 => ((laws_heldCellS.f k t166.2 1).bind fun t177 => (if t177 < 0 then some false else (if t177 ≠ t166.1 then some false else ((laws_toCellS.f k x1).bind fun t191 => ((impl_NormalBody.f k t191).bind fun t209 => ((laws_eqCellS.f k t209.1 t31.1).bind fun t221 => (if ¬ (t221 = true) then some false else (if t209.2 ≠ t31.2 then some false else ((laws_heldCellS.f k t166.2 1).bind fun t242 => (if t242 < 0 then some false else (if t242 ≠ t166.1 then some false else some true))))))))))))))))))))))))))))
theorem laws_FnExactNormalBody.calls (k : Nat) (w : World) (H : Hp) (x1 : List Cell) (A2 : Option Addr) (c3 : Nat) (h4 : Rd st34 H A2 x1) (l5 : x1.length ≤ c3) (S : Own [] H w) (r : Bool) (M : laws_FnExactNormalBody.f k x1 = some r) :
    Calls Try.prog 3 #[.slice A2 x1.length c3] w (fun e e_w => e = .returned (.bool r) ∧ Chg no w e_w) := by
  rw [laws_FnExactNormalBody.f] at M
  refine enter (l := [.slice A2 x1.length c3]) 96 Try.func3 rfl rfl rfl ?_
  have S0_ := S.st
  refine wp_seq ?_
  refine wp_region_lit ?_
  refine lv (d := 2) rfl rfl (by kernel_rfl) (e_assign (v := .bool false) rfl) ?_
  refine wpList_nil ?_
  refine then_n ?_
  refine wp_seq ?_
  refine wp_region_lit ?_
  refine lv (d := 3) rfl rfl (by kernel_rfl) (e_assign (v := .int .i64 1048576) rfl) ?_
  refine wpList_nil ?_
  refine then_n ?_
  refine wp_seq ?_
  refine wp_region_lit ?_
  refine lv (d := 14) rfl rfl (by kernel_rfl) (e_move (v := .slice A2 x1.length c3) (by kernel_rfl)) ?_
  refine lv (d := 15) rfl rfl (by kernel_rfl) (e_move (v := .int .i64 1048576) (by kernel_rfl)) ?_
  obtain ⟨t6, u7, M⟩ := bnd M
  refine lcall (d := 16) rfl rfl (by kernel_rfl) (e_call (l := [.tmp 14, .tmp 15]) (vs := [.slice A2 x1.length c3, .int .i64 1048576]) Try.func5 (by kernel_rfl) rfl (by kernel_rfl) rfl) (laws_szCellS.calls k w H x1 A2 c3 1048576 h4 l5 S0_.own0 t6 u7) ?_
  rintro _ w8 ⟨rfl, C9⟩
  refine ⟨_, rfl, ?_⟩
  obtain ⟨S10, K11⟩ := S0_.still C9
  refine lv (d := 3) rfl rfl (by kernel_rfl) (e_assign (v := .int .i64 t6) (by kernel_rfl)) ?_
  refine wpList_nil ?_
  refine then_n ?_
  refine wp_seq ?_
  refine wp_seq ?_
  refine wp_region_lit ?_
  refine lv (d := 17) rfl rfl (by kernel_rfl) (e_move (v := .int .i64 t6) (by kernel_rfl)) ?_
  refine lv (d := 18) rfl rfl (by kernel_rfl) (e_lss (k := .i64) (a := t6) (b := 0) (by kernel_rfl) rfl) ?_
  refine wpList_nil ?_
  refine then_n ?_
  by_cases q12 : t6 < 0
  · replace M := ifp q12 M
    refine cond_t rfl (bt q12 (by kernel_rfl)) ?_
    refine wp_seq ?_
    refine wp_region_lit ?_
    refine lv (d := 2) rfl rfl (by kernel_rfl) (e_assign (v := .bool true) rfl) ?_
    refine wpList_nil ?_
    refine then_n ?_
    refine wp_ret ?_
    refine then_r ?_
    obtain rfl := Option.some.inj M
    exact ret1 rfl rfl  (show _ = .bool true from (by kernel_rfl)) ⟨rfl, S10.chg⟩
  replace M := ifn q12 M
  refine cond_f rfl (bf q12 (by kernel_rfl)) ?_
  refine wp_skip ?_
  refine then_n ?_
  refine wp_seq ?_
  refine wp_region_lit ?_
  refine lv (d := 20) rfl rfl (by kernel_rfl) (e_move (v := .slice A2 x1.length c3) (by kernel_rfl)) ?_
  obtain ⟨t13, u14, M⟩ := bnd M
  refine lcall (d := 21) rfl rfl (by kernel_rfl) (e_call (l := [.tmp 20]) (vs := [.slice A2 x1.length c3]) Try.func7 (by kernel_rfl) rfl (by kernel_rfl) rfl) (laws_toCellS.calls k w8 H x1 A2 c3 h4 l5 (St.own' (Fa := []) (Fr := []) S10) t13 u14) ?_
  rintro _ w15 ⟨A18, c19, F21, H16, rfl, h20, T17⟩
  refine ⟨_, rfl, ?_⟩
  obtain ⟨S22, K23⟩ := St.call (Fa := []) (Fr := []) S10 T17
  have E24 := T17.ext
  have l25 := h20.le
  obtain ⟨H26, S27, E28, h29, z30⟩ := S22.frzRow h20
  obtain ⟨t31, u32, M⟩ := bnd M
  refine lcall (d := 22) rfl rfl (by kernel_rfl) (e_call (l := [.tmp 21]) (vs := [.slice A18 t13.length c19]) Try.func6 (by kernel_rfl) rfl (by kernel_rfl) rfl) (spec_NormalBody.calls k w15 H26 t13 A18 c19 h29 l25 (St.own' (Fa := []) (Fr := []) S27) t31 u32) ?_
  rintro _ w33 ⟨A36, c37, F39, H34, rfl, h38, T35⟩
  refine ⟨_, rfl, ?_⟩
  obtain ⟨S40, K41⟩ := St.call (Fa := []) (Fr := []) S27 T35
  have E42 := T35.ext
  refine lv (d := 19) rfl rfl (by kernel_rfl) (e_move (v := .tuple #[.slice A36 t31.1.length c37, .int .i64 t31.2]) (by kernel_rfl)) ?_
  refine lv (d := 23) rfl rfl (by kernel_rfl) (e_extract (vs := #[.slice A36 t31.1.length c37, .int .i64 t31.2]) (v := .slice A36 t31.1.length c37) (by kernel_rfl) rfl) ?_
  refine lv (d := 24) rfl rfl (by kernel_rfl) (e_extract (vs := #[.slice A36 t31.1.length c37, .int .i64 t31.2]) (v := .int .i64 t31.2) (by kernel_rfl) rfl) ?_
  refine lv (d := 4) rfl rfl (by kernel_rfl) (e_assign (v := .slice A36 t31.1.length c37) (by kernel_rfl)) ?_
  refine lv (d := 5) rfl rfl (by kernel_rfl) (e_assign (v := .int .i64 t31.2) (by kernel_rfl)) ?_
  refine wpList_nil ?_
  refine then_n ?_
  refine wp_seq ?_
  refine wp_region_lit ?_
  refine lv (d := 25) rfl rfl (by kernel_rfl) (e_move (v := .slice A2 x1.length c3) (by kernel_rfl)) ?_
  obtain ⟨t43, u44, M⟩ := bnd M
  refine lcall (d := 26) rfl rfl (by kernel_rfl) (e_call (l := [.tmp 25]) (vs := [.slice A2 x1.length c3]) Try.func7 (by kernel_rfl) rfl (by kernel_rfl) rfl) (laws_toCellS.calls k w33 H34 x1 A2 c3 (h4.ext ((E24.trans E28).trans E42)) l5 (St.own' (Fa := []) (Fr := [F39]) S40) t43 u44) ?_
  rintro _ w45 ⟨A48, c49, F51, H46, rfl, h50, T47⟩
  refine ⟨_, rfl, ?_⟩
  obtain ⟨S52, K53⟩ := St.call (Fa := []) (Fr := [F39]) S40 T47
  replace h38 := h38.move (K53.at 0 rfl)
  have E54 := T47.ext
  replace h38 := h38.ext E54
  refine lv (d := 6) rfl rfl (by kernel_rfl) (e_assign (v := .slice A48 t43.length c49) (by kernel_rfl)) ?_
  refine wpList_nil ?_
  refine then_n ?_
  refine wp_seq ?_
  refine wp_region_lit ?_
  refine lv (d := 28) rfl rfl (by kernel_rfl) (e_move (v := .slice A48 t43.length c49) (by kernel_rfl)) ?_
  have l55 := h50.le
  obtain ⟨H56, S57, E58, h59, z60⟩ := S52.frzRow h50
  have h61 := h38.ext E58
  obtain ⟨t62, u63, M⟩ := bnd M
  refine lcall (d := 29) rfl rfl (by kernel_rfl) (e_call (l := [.tmp 28]) (vs := [.slice A48 t43.length c49]) Try.func8 (by kernel_rfl) rfl (by kernel_rfl) rfl) (impl_NormalBody.calls k w45 H56 t43 A48 c49 h59 l55 S57.own0 t62 u63) ?_
  rintro _ w64 ⟨A67, c68, F70, H65, rfl, h69, T66⟩
  refine ⟨_, rfl, ?_⟩
  obtain ⟨S71, K72⟩ := St.call (Fa := []) (Fr := [F39]) S57 T66
  replace h38 := h38.move (K72.at 0 rfl)
  obtain ⟨H73, S74, E75, v76⟩ := St.thaw S52 z60 S71 T66.ext E58 T66.size
  replace h50 := h50.move v76
  replace h50 := h50.ext E75
  replace h38 := h38.ext E75
  replace h69 := Row.free (H' := H73) (free_iso (free_pair (free_scal _ _) (free_pair (free_scal _ _) (free_slice (free_scal _ _))))) h69
  refine lv (d := 27) rfl rfl (by kernel_rfl) (e_move (v := .tuple #[.slice A67 t62.1.length c68, .int .i64 t62.2]) (by kernel_rfl)) ?_
  refine lv (d := 30) rfl rfl (by kernel_rfl) (e_extract (vs := #[.slice A67 t62.1.length c68, .int .i64 t62.2]) (v := .slice A67 t62.1.length c68) (by kernel_rfl) rfl) ?_
  refine lv (d := 31) rfl rfl (by kernel_rfl) (e_extract (vs := #[.slice A67 t62.1.length c68, .int .i64 t62.2]) (v := .int .i64 t62.2) (by kernel_rfl) rfl) ?_
  refine lv (d := 7) rfl rfl (by kernel_rfl) (e_assign (v := .slice A67 t62.1.length c68) (by kernel_rfl)) ?_
  refine lv (d := 8) rfl rfl (by kernel_rfl) (e_assign (v := .int .i64 t62.2) (by kernel_rfl)) ?_
  refine wpList_nil ?_
  refine then_n ?_
  refine wp_seq ?_
  refine wp_seq ?_
  refine wp_region_lit ?_
  refine lv (d := 32) rfl rfl (by kernel_rfl) (e_move (v := .slice A67 t62.1.length c68) (by kernel_rfl)) ?_
  refine lv (d := 33) rfl rfl (by kernel_rfl) (e_move (v := .slice A36 t31.1.length c37) (by kernel_rfl)) ?_
  obtain ⟨t77, u78, M⟩ := bnd M
  refine lcall (d := 34) rfl rfl (by kernel_rfl) (e_call (l := [.tmp 32, .tmp 33]) (vs := [.slice A67 t62.1.length c68, .slice A36 t31.1.length c37]) Try.func9 (by kernel_rfl) rfl (by kernel_rfl) rfl) (by have l79 := h69.le; have S80 := S74.pull (F := F70) (Fr := [F51, F39]) 1 rfl rfl; obtain ⟨H81, S82, E83, h84, z85⟩ := S80.frzRow h69; replace h50 := h50.ext E83; replace h38 := h38.ext E83; have l86 := h38.le; have S87 := S82.pull (F := F39) (Fr := [F51]) 1 rfl rfl; obtain ⟨H88, S89, E90, h91, z92⟩ := S87.frzRow h38; replace h50 := h50.ext E90; exact (laws_eqCellS.calls k w64 H88 t62.1 A67 c68 t31.1 A36 c37 (h84.ext E90) l79 h91 l86 S89.own0 t77 u78)) ?_
  rintro _ w93 ⟨rfl, C94⟩
  refine ⟨_, rfl, ?_⟩
  obtain ⟨S95, K96⟩ := S74.still C94
  replace h50 := h50.move (K96.at 0 rfl)
  replace h69 := h69.move (K96.at 1 rfl)
  replace h38 := h38.move (K96.at 2 rfl)
  refine lv (d := 35) rfl rfl (by kernel_rfl) (e_notv (c := t77) (by kernel_rfl)) ?_
  refine lv (d := 36) rfl rfl (by kernel_rfl) (e_move (v := .bool (decide (¬ (t77 = true)))) (by kernel_rfl)) ?_
  by_cases q97 : ¬ (t77 = true)
  · replace M := ifp q97 M
    refine lskip (t := 36) (c := true) rfl (by kernel_rfl) rfl (bt q97 (by kernel_rfl)) rfl rfl ?_
    refine lskip (t := 36) (c := true) rfl (by kernel_rfl) rfl (bt q97 (by kernel_rfl)) rfl rfl ?_
    refine lskip (t := 36) (c := true) rfl (by kernel_rfl) rfl (bt q97 (by kernel_rfl)) rfl rfl ?_
    refine lv (d := 40) rfl rfl (by kernel_rfl) (e_pick_t (v := .bool true) (bt q97 (by kernel_rfl)) rfl) ?_
    refine wpList_nil ?_
    refine then_n ?_
    refine cond_t rfl (by kernel_rfl) ?_
    refine wp_seq ?_
    refine wp_region_lit ?_
    refine lv (d := 2) rfl rfl (by kernel_rfl) (e_assign (v := .bool false) rfl) ?_
    refine wpList_nil ?_
    refine then_n ?_
    refine wp_ret ?_
    refine then_r ?_
    obtain rfl := Option.some.inj M
    exact ret1 rfl rfl  (show _ = .bool false from (by kernel_rfl)) ⟨rfl, S95.chg⟩
  replace M := ifn q97 M
  refine lvg (d := 37) (t := 36) rfl (by kernel_rfl) rfl (bf q97 (by kernel_rfl)) rfl (by kernel_rfl) (e_move (v := .int .i64 t62.2) (by kernel_rfl)) ?_
  refine lvg (d := 38) (t := 36) rfl (by kernel_rfl) rfl (bf q97 (by kernel_rfl)) rfl (by kernel_rfl) (e_move (v := .int .i64 t31.2) (by kernel_rfl)) ?_
  refine lvg (d := 39) (t := 36) rfl (by kernel_rfl) rfl (bf q97 (by kernel_rfl)) rfl (by kernel_rfl) (e_neq (k := .i64) (a := t62.2) (b := t31.2) (by kernel_rfl) (by kernel_rfl)) ?_
  refine lv (d := 40) rfl rfl (by kernel_rfl) (e_pick_f (v := .bool (decide (t62.2 ≠ t31.2))) (bf q97 (by kernel_rfl)) (by kernel_rfl)) ?_
  refine wpList_nil ?_
  refine then_n ?_
  by_cases q98 : t62.2 ≠ t31.2
  · replace M := ifp q98 M
    refine cond_t rfl (bt q98 (by kernel_rfl)) ?_
    refine wp_seq ?_
    refine wp_region_lit ?_
    refine lv (d := 2) rfl rfl (by kernel_rfl) (e_assign (v := .bool false) rfl) ?_
    refine wpList_nil ?_
    refine then_n ?_
    refine wp_ret ?_
    refine then_r ?_
    obtain rfl := Option.some.inj M
    exact ret1 rfl rfl  (show _ = .bool false from (by kernel_rfl)) ⟨rfl, S95.chg⟩
  replace M := ifn q98 M
  refine cond_f rfl (bf q98 (by kernel_rfl)) ?_
  refine wp_skip ?_
  refine then_n ?_
  refine wp_seq ?_
  refine wp_seq ?_
  refine wp_region_lit ?_
  refine lv (d := 41) rfl rfl (by kernel_rfl) (e_move (v := .slice A48 t43.length c49) (by kernel_rfl)) ?_
  refine lv (d := 42) rfl rfl (by kernel_rfl) (e_move (v := .slice A2 x1.length c3) (by kernel_rfl)) ?_
  obtain ⟨t99, u100, M⟩ := bnd M
  refine lcall (d := 43) rfl rfl (by kernel_rfl) (e_call (l := [.tmp 42]) (vs := [.slice A2 x1.length c3]) Try.func7 (by kernel_rfl) rfl (by kernel_rfl) rfl) (laws_toCellS.calls k w93 H73 x1 A2 c3 (h4.ext ((((E24.trans E28).trans E42).trans E54).trans E75)) l5 (St.own' (Fa := []) (Fr := [F51, F70, F39]) S95) t99 u100) ?_
  rintro _ w101 ⟨A104, c105, F107, H102, rfl, h106, T103⟩
  refine ⟨_, rfl, ?_⟩
  obtain ⟨S108, K109⟩ := St.call (Fa := []) (Fr := [F51, F70, F39]) S95 T103
  replace h50 := h50.move (K109.at 0 rfl)
  replace h69 := h69.move (K109.at 1 rfl)
  replace h38 := h38.move (K109.at 2 rfl)
  have E110 := T103.ext
  replace h50 := h50.ext E110
  replace h69 := h69.ext E110
  replace h38 := h38.ext E110
  obtain ⟨t111, u112, M⟩ := bnd M
  refine lcall (d := 44) rfl rfl (by kernel_rfl) (e_call (l := [.tmp 41, .tmp 43]) (vs := [.slice A48 t43.length c49, .slice A104 t99.length c105]) Try.func9 (by kernel_rfl) rfl (by kernel_rfl) rfl) (by have l113 := h50.le; have S114 := S108.pull (F := F51) (Fr := [F107, F70, F39]) 1 rfl rfl; obtain ⟨H115, S116, E117, h118, z119⟩ := S114.frzRow h50; replace h106 := h106.ext E117; replace h69 := h69.ext E117; replace h38 := h38.ext E117; have l120 := h106.le; obtain ⟨H121, S122, E123, h124, z125⟩ := S116.frzRow h106; replace h69 := h69.ext E123; replace h38 := h38.ext E123; exact (laws_eqCellS.calls k w101 H121 t43 A48 c49 t99 A104 c105 (h118.ext E123) l113 h124 l120 S122.own0 t111 u112)) ?_
  rintro _ w126 ⟨rfl, C127⟩
  refine ⟨_, rfl, ?_⟩
  obtain ⟨S128, K129⟩ := S108.still C127
  replace h106 := h106.move (K129.at 0 rfl)
  replace h50 := h50.move (K129.at 1 rfl)
  replace h69 := h69.move (K129.at 2 rfl)
  replace h38 := h38.move (K129.at 3 rfl)
  refine lv (d := 45) rfl rfl (by kernel_rfl) (e_notv (c := t111) (by kernel_rfl)) ?_
  refine wpList_nil ?_
  refine then_n ?_
  by_cases q130 : ¬ (t111 = true)
  · replace M := ifp q130 M
    refine cond_t rfl (bt q130 (by kernel_rfl)) ?_
    refine wp_seq ?_
    refine wp_region_lit ?_
    refine lv (d := 2) rfl rfl (by kernel_rfl) (e_assign (v := .bool false) rfl) ?_
    refine wpList_nil ?_
    refine then_n ?_
    refine wp_ret ?_
    refine then_r ?_
    obtain rfl := Option.some.inj M
    exact ret1 rfl rfl  (show _ = .bool false from (by kernel_rfl)) ⟨rfl, S128.chg⟩
  replace M := ifn q130 M
  refine cond_f rfl (bf q130 (by kernel_rfl)) ?_
  refine wp_skip ?_
  refine then_n ?_
  refine wp_seq ?_
  refine wp_region_lit ?_
  refine lv (d := 9) rfl rfl (by kernel_rfl) (e_assign (v := .int .i64 1) rfl) ?_
  refine wpList_nil ?_
  refine then_n ?_
  refine wp_seq ?_
  refine wp_region_lit ?_
  refine lv (d := 46) rfl rfl (by kernel_rfl) (e_move (v := .slice A48 t43.length c49) (by kernel_rfl)) ?_
  refine lv (d := 47) rfl rfl (by kernel_rfl) (e_move (v := .int .i64 1) (by kernel_rfl)) ?_
  have S131 := S128.pull (F := F51) (Fr := [F107, F70, F39]) 1 rfl rfl
  obtain ⟨t132, u133, M⟩ := bnd M
  refine lcall (d := 48) rfl rfl (by kernel_rfl) (e_call (l := [.tmp 46, .tmp 47]) (vs := [.slice A48 t43.length c49, .int .i64 1]) Try.func10 (by kernel_rfl) rfl (by kernel_rfl) rfl) (laws_markCellS_2.calls k w126 H102 t43 A48 c49 F51 1 h50 (St.own' (Fa := [F51]) (Fr := [F107, F70, F39]) S131) t132 u133) ?_
  rintro _ w134 ⟨F138, H135, rfl, n139, h137, T136⟩
  refine ⟨_, rfl, ?_⟩
  obtain ⟨S140, K141⟩ := St.call (Fa := [F51]) (Fr := [F107, F70, F39]) S131 T136
  replace h106 := h106.move (K141.at 0 rfl)
  replace h69 := h69.move (K141.at 1 rfl)
  replace h38 := h38.move (K141.at 2 rfl)
  have E142 := T136.ext
  replace h106 := h106.ext E142
  replace h69 := h69.ext E142
  replace h38 := h38.ext E142
  refine lv (d := 9) rfl rfl (by kernel_rfl) (e_assign (v := .int .i64 t132.1) (by kernel_rfl)) ?_
  refine wpList_nil ?_
  refine then_n ?_
  refine wp_seq ?_
  refine wp_seq ?_
  refine wp_region_lit ?_
  refine lv (d := 49) rfl rfl (by kernel_rfl) (e_move (v := .int .i64 t132.1) (by kernel_rfl)) ?_
  refine lv (d := 50) rfl rfl (by kernel_rfl) (e_lss (k := .i64) (a := t132.1) (b := 0) (by kernel_rfl) rfl) ?_
  refine lv (d := 51) rfl rfl (by kernel_rfl) (e_move (v := .bool (decide (t132.1 < 0))) (by kernel_rfl)) ?_
  by_cases q143 : t132.1 < 0
  · replace M := ifp q143 M
    refine lskip (t := 51) (c := true) rfl (by kernel_rfl) rfl (bt q143 (by kernel_rfl)) rfl rfl ?_
    refine lskip (t := 51) (c := true) rfl (by kernel_rfl) rfl (bt q143 (by kernel_rfl)) rfl rfl ?_
    refine lskip (t := 51) (c := true) rfl (by kernel_rfl) rfl (bt q143 (by kernel_rfl)) rfl rfl ?_
    refine lskip (t := 51) (c := true) rfl (by kernel_rfl) rfl (bt q143 (by kernel_rfl)) rfl rfl ?_
    refine lv (d := 56) rfl rfl (by kernel_rfl) (e_pick_t (v := .bool true) (bt q143 (by kernel_rfl)) rfl) ?_
    refine lv (d := 57) rfl rfl (by kernel_rfl) (e_move (v := .bool true) (by kernel_rfl)) ?_
    refine lskip (t := 57) (c := true) rfl (by kernel_rfl) rfl (by kernel_rfl) rfl rfl ?_
    refine lskip (t := 57) (c := true) rfl (by kernel_rfl) rfl (by kernel_rfl) rfl rfl ?_
    refine lskip (t := 57) (c := true) rfl (by kernel_rfl) rfl (by kernel_rfl) rfl rfl ?_
    refine lv (d := 61) rfl rfl (by kernel_rfl) (e_pick_t (v := .bool true) (by kernel_rfl) rfl) ?_
    refine wpList_nil ?_
    refine then_n ?_
    refine cond_t rfl (by kernel_rfl) ?_
    refine wp_seq ?_
    refine wp_region_lit ?_
    refine lv (d := 2) rfl rfl (by kernel_rfl) (e_assign (v := .bool false) rfl) ?_
    refine wpList_nil ?_
    refine then_n ?_
    refine wp_ret ?_
    refine then_r ?_
    obtain rfl := Option.some.inj M
    exact ret1 rfl rfl  (show _ = .bool false from (by kernel_rfl)) ⟨rfl, S140.chg⟩
  replace M := ifn q143 M
  refine lvg (d := 52) (t := 51) rfl (by kernel_rfl) rfl (bf q143 (by kernel_rfl)) rfl (by kernel_rfl) (e_move (v := .slice A67 t62.1.length c68) (by kernel_rfl)) ?_
  refine lvg (d := 53) (t := 51) rfl (by kernel_rfl) rfl (bf q143 (by kernel_rfl)) rfl (by kernel_rfl) (e_move (v := .slice A36 t31.1.length c37) (by kernel_rfl)) ?_
  obtain ⟨t144, u145, M⟩ := bnd M
  refine lcallg (d := 54) (t := 51) rfl (by kernel_rfl) rfl (bf q143 (by kernel_rfl)) rfl (by kernel_rfl) (e_call (l := [.tmp 52, .tmp 53]) (vs := [.slice A67 t62.1.length c68, .slice A36 t31.1.length c37]) Try.func9 (by kernel_rfl) rfl (by kernel_rfl) rfl) (by have l146 := h69.le; have S147 := S140.pull (F := F70) (Fr := [F138, F107, F39]) 2 rfl rfl; obtain ⟨H148, S149, E150, h151, z152⟩ := S147.frzRow h69; replace h137 := h137.ext E150; replace h106 := h106.ext E150; replace h38 := h38.ext E150; have l153 := h38.le; have S154 := S149.pull (F := F39) (Fr := [F138, F107]) 2 rfl rfl; obtain ⟨H155, S156, E157, h158, z159⟩ := S154.frzRow h38; replace h137 := h137.ext E157; replace h106 := h106.ext E157; exact (laws_eqCellS.calls k w134 H155 t62.1 A67 c68 t31.1 A36 c37 (h151.ext E157) l146 h158 l153 S156.own0 t144 u145)) ?_
  rintro _ w160 ⟨rfl, C161⟩
  refine ⟨_, rfl, ?_⟩
  obtain ⟨S162, K163⟩ := S140.still C161
  replace h137 := h137.move (K163.at 0 rfl)
  replace h106 := h106.move (K163.at 1 rfl)
  replace h69 := h69.move (K163.at 2 rfl)
  replace h38 := h38.move (K163.at 3 rfl)
  refine lvg (d := 55) (t := 51) rfl (by kernel_rfl) rfl (bf q143 (by kernel_rfl)) rfl (by kernel_rfl) (e_notv (c := t144) (by kernel_rfl)) ?_
  refine lv (d := 56) rfl rfl (by kernel_rfl) (e_pick_f (v := .bool (decide (¬ (t144 = true)))) (bf q143 (by kernel_rfl)) (by kernel_rfl)) ?_
  refine lv (d := 57) rfl rfl (by kernel_rfl) (e_move (v := .bool (decide (¬ (t144 = true)))) (by kernel_rfl)) ?_
  by_cases q164 : ¬ (t144 = true)
  · replace M := ifp q164 M
    refine lskip (t := 57) (c := true) rfl (by kernel_rfl) rfl (bt q164 (by kernel_rfl)) rfl rfl ?_
    refine lskip (t := 57) (c := true) rfl (by kernel_rfl) rfl (bt q164 (by kernel_rfl)) rfl rfl ?_
    refine lskip (t := 57) (c := true) rfl (by kernel_rfl) rfl (bt q164 (by kernel_rfl)) rfl rfl ?_
    refine lv (d := 61) rfl rfl (by kernel_rfl) (e_pick_t (v := .bool true) (bt q164 (by kernel_rfl)) rfl) ?_
    refine wpList_nil ?_
    refine then_n ?_
    refine cond_t rfl (by kernel_rfl) ?_
    refine wp_seq ?_
    refine wp_region_lit ?_
    refine lv (d := 2) rfl rfl (by kernel_rfl) (e_assign (v := .bool false) rfl) ?_
    refine wpList_nil ?_
    refine then_n ?_
    refine wp_ret ?_
    refine then_r ?_
    obtain rfl := Option.some.inj M
    exact ret1 rfl rfl  (show _ = .bool false from (by kernel_rfl)) ⟨rfl, S162.chg⟩
  replace M := ifn q164 M
  refine lvg (d := 58) (t := 57) rfl (by kernel_rfl) rfl (bf q164 (by kernel_rfl)) rfl (by kernel_rfl) (e_move (v := .int .i64 t62.2) (by kernel_rfl)) ?_
  refine lvg (d := 59) (t := 57) rfl (by kernel_rfl) rfl (bf q164 (by kernel_rfl)) rfl (by kernel_rfl) (e_move (v := .int .i64 t31.2) (by kernel_rfl)) ?_
  refine lvg (d := 60) (t := 57) rfl (by kernel_rfl) rfl (bf q164 (by kernel_rfl)) rfl (by kernel_rfl) (e_neq (k := .i64) (a := t62.2) (b := t31.2) (by kernel_rfl) (by kernel_rfl)) ?_
  refine lv (d := 61) rfl rfl (by kernel_rfl) (e_pick_f (v := .bool (decide (t62.2 ≠ t31.2))) (bf q164 (by kernel_rfl)) (by kernel_rfl)) ?_
  refine wpList_nil ?_
  refine then_n ?_
  refine cond_f rfl (bf q98 (by kernel_rfl)) ?_
  refine wp_skip ?_
  refine then_n ?_
  refine wp_seq ?_
  refine wp_region_lit ?_
  refine lv (d := 10) rfl rfl (by kernel_rfl) (e_assign (v := .int .i64 1) rfl) ?_
  refine wpList_nil ?_
  refine then_n ?_
  refine wp_seq ?_
  refine wp_region_lit ?_
  refine lv (d := 62) rfl rfl (by kernel_rfl) (e_move (v := .slice A67 t62.1.length c68) (by kernel_rfl)) ?_
  refine lv (d := 63) rfl rfl (by kernel_rfl) (e_move (v := .int .i64 1) (by kernel_rfl)) ?_
  have S165 := S162.pull (F := F70) (Fr := [F138, F107, F39]) 2 rfl rfl
  obtain ⟨t166, u167, M⟩ := bnd M
  refine lcall (d := 64) rfl rfl (by kernel_rfl) (e_call (l := [.tmp 62, .tmp 63]) (vs := [.slice A67 t62.1.length c68, .int .i64 1]) Try.func10 (by kernel_rfl) rfl (by kernel_rfl) rfl) (laws_markCellS_2.calls k w160 H135 t62.1 A67 c68 F70 1 h69 (St.own' (Fa := [F70]) (Fr := [F138, F107, F39]) S165) t166 u167) ?_
  rintro _ w168 ⟨F172, H169, rfl, n173, h171, T170⟩
  refine ⟨_, rfl, ?_⟩
  obtain ⟨S174, K175⟩ := St.call (Fa := [F70]) (Fr := [F138, F107, F39]) S165 T170
  replace h137 := h137.move (K175.at 0 rfl)
  replace h106 := h106.move (K175.at 1 rfl)
  replace h38 := h38.move (K175.at 2 rfl)
  have E176 := T170.ext
  replace h137 := h137.ext E176
  replace h106 := h106.ext E176
  replace h38 := h38.ext E176
  refine lv (d := 10) rfl rfl (by kernel_rfl) (e_assign (v := .int .i64 t166.1) (by kernel_rfl)) ?_
  refine wpList_nil ?_
  refine then_n ?_
  refine wp_seq ?_
  refine wp_region_lit ?_
  refine lv (d := 11) rfl rfl (by kernel_rfl) (e_assign (v := .int .i64 1) rfl) ?_
  refine wpList_nil ?_
  refine then_n ?_
  refine wp_seq ?_
  refine wp_region_lit ?_
  refine lv (d := 65) rfl rfl (by kernel_rfl) (e_move (v := .slice A67 t62.1.length c68) (by kernel_rfl)) ?_
  refine lv (d := 66) rfl rfl (by kernel_rfl) (e_move (v := .int .i64 1) (by kernel_rfl)) ?_
  obtain ⟨t177, u178, M⟩ := bnd M
  refine lcall (d := 67) rfl rfl (by kernel_rfl) (e_call (l := [.tmp 65, .tmp 66]) (vs := [.slice A67 t62.1.length c68, .int .i64 1]) Try.func11 (by kernel_rfl) rfl (by kernel_rfl) rfl) (by have l179 := h171.le; obtain ⟨H180, S181, E182, h183, z184⟩ := S174.frzRow h171; replace h137 := h137.ext E182; replace h106 := h106.ext E182; replace h38 := h38.ext E182; exact (by have q_ := (laws_heldCellS.calls k w168 H180 t166.2 A67 c68 1 h183 l179 S181.own0 t177 u178); rw [(show t166.2.length = t62.1.length from n173)] at q_; exact q_)) ?_
  rintro _ w185 ⟨rfl, C186⟩
  refine ⟨_, rfl, ?_⟩
  obtain ⟨S187, K188⟩ := S174.still C186
  replace h171 := h171.move (K188.at 0 rfl)
  replace h137 := h137.move (K188.at 1 rfl)
  replace h106 := h106.move (K188.at 2 rfl)
  replace h38 := h38.move (K188.at 3 rfl)
  refine lv (d := 11) rfl rfl (by kernel_rfl) (e_assign (v := .int .i64 t177) (by kernel_rfl)) ?_
  refine wpList_nil ?_
  refine then_n ?_
  refine wp_seq ?_
  refine wp_seq ?_
  refine wp_region_lit ?_
  refine lv (d := 68) rfl rfl (by kernel_rfl) (e_move (v := .int .i64 t177) (by kernel_rfl)) ?_
  refine lv (d := 69) rfl rfl (by kernel_rfl) (e_lss (k := .i64) (a := t177) (b := 0) (by kernel_rfl) rfl) ?_
  refine wpList_nil ?_
  refine then_n ?_
  by_cases q189 : t177 < 0
  · replace M := ifp q189 M
    refine cond_t rfl (bt q189 (by kernel_rfl)) ?_
    refine wp_seq ?_
    refine wp_region_lit ?_
    refine lv (d := 2) rfl rfl (by kernel_rfl) (e_assign (v := .bool false) rfl) ?_
    refine wpList_nil ?_
    refine then_n ?_
    refine wp_ret ?_
    refine then_r ?_
    obtain rfl := Option.some.inj M
    exact ret1 rfl rfl  (show _ = .bool false from (by kernel_rfl)) ⟨rfl, S187.chg⟩
  replace M := ifn q189 M
  refine cond_f rfl (bf q189 (by kernel_rfl)) ?_
  refine wp_skip ?_
  refine then_n ?_
  refine wp_seq ?_
  refine wp_seq ?_
  refine wp_region_lit ?_
  refine lv (d := 70) rfl rfl (by kernel_rfl) (e_move (v := .int .i64 t177) (by kernel_rfl)) ?_
  refine lv (d := 71) rfl rfl (by kernel_rfl) (e_move (v := .int .i64 t166.1) (by kernel_rfl)) ?_
  refine lv (d := 72) rfl rfl (by kernel_rfl) (e_neq (k := .i64) (a := t177) (b := t166.1) (by kernel_rfl) (by kernel_rfl)) ?_
  refine wpList_nil ?_
  refine then_n ?_
  by_cases q190 : t177 ≠ t166.1
  · replace M := ifp q190 M
    refine cond_t rfl (bt q190 (by kernel_rfl)) ?_
    refine wp_seq ?_
    refine wp_region_lit ?_
    refine lv (d := 2) rfl rfl (by kernel_rfl) (e_assign (v := .bool false) rfl) ?_
    refine wpList_nil ?_
    refine then_n ?_
    refine wp_ret ?_
    refine then_r ?_
    obtain rfl := Option.some.inj M
    exact ret1 rfl rfl  (show _ = .bool false from (by kernel_rfl)) ⟨rfl, S187.chg⟩
  replace M := ifn q190 M
  refine cond_f rfl (bf q190 (by kernel_rfl)) ?_
  refine wp_skip ?_
  refine then_n ?_
  refine wp_seq ?_
  refine wp_region_lit ?_
  refine lv (d := 74) rfl rfl (by kernel_rfl) (e_move (v := .slice A2 x1.length c3) (by kernel_rfl)) ?_
  obtain ⟨t191, u192, M⟩ := bnd M
  refine lcall (d := 75) rfl rfl (by kernel_rfl) (e_call (l := [.tmp 74]) (vs := [.slice A2 x1.length c3]) Try.func7 (by kernel_rfl) rfl (by kernel_rfl) rfl) (laws_toCellS.calls k w185 H169 x1 A2 c3 (h4.ext (((((((E24.trans E28).trans E42).trans E54).trans E75).trans E110).trans E142).trans E176)) l5 (St.own' (Fa := []) (Fr := [F172, F138, F107, F39]) S187) t191 u192) ?_
  rintro _ w193 ⟨A196, c197, F199, H194, rfl, h198, T195⟩
  refine ⟨_, rfl, ?_⟩
  obtain ⟨S200, K201⟩ := St.call (Fa := []) (Fr := [F172, F138, F107, F39]) S187 T195
  replace h171 := h171.move (K201.at 0 rfl)
  replace h137 := h137.move (K201.at 1 rfl)
  replace h106 := h106.move (K201.at 2 rfl)
  replace h38 := h38.move (K201.at 3 rfl)
  have E202 := T195.ext
  replace h171 := h171.ext E202
  replace h137 := h137.ext E202
  replace h106 := h106.ext E202
  replace h38 := h38.ext E202
  have l203 := h198.le
  obtain ⟨H204, S205, E206, h207, z208⟩ := S200.frzRow h198
  replace h171 := h171.ext E206
  replace h137 := h137.ext E206
  replace h106 := h106.ext E206
  replace h38 := h38.ext E206
  obtain ⟨t209, u210, M⟩ := bnd M
  refine lcall (d := 76) rfl rfl (by kernel_rfl) (e_call (l := [.tmp 75]) (vs := [.slice A196 t191.length c197]) Try.func8 (by kernel_rfl) rfl (by kernel_rfl) rfl) (impl_NormalBody.calls k w193 H204 t191 A196 c197 h207 l203 (St.own' (Fa := []) (Fr := [F172, F138, F107, F39]) S205) t209 u210) ?_
  rintro _ w211 ⟨A214, c215, F217, H212, rfl, h216, T213⟩
  refine ⟨_, rfl, ?_⟩
  obtain ⟨S218, K219⟩ := St.call (Fa := []) (Fr := [F172, F138, F107, F39]) S205 T213
  replace h171 := h171.move (K219.at 0 rfl)
  replace h137 := h137.move (K219.at 1 rfl)
  replace h106 := h106.move (K219.at 2 rfl)
  replace h38 := h38.move (K219.at 3 rfl)
  have E220 := T213.ext
  replace h171 := h171.ext E220
  replace h137 := h137.ext E220
  replace h106 := h106.ext E220
  replace h38 := h38.ext E220
  refine lv (d := 73) rfl rfl (by kernel_rfl) (e_move (v := .tuple #[.slice A214 t209.1.length c215, .int .i64 t209.2]) (by kernel_rfl)) ?_
  refine lv (d := 77) rfl rfl (by kernel_rfl) (e_extract (vs := #[.slice A214 t209.1.length c215, .int .i64 t209.2]) (v := .slice A214 t209.1.length c215) (by kernel_rfl) rfl) ?_
  refine lv (d := 78) rfl rfl (by kernel_rfl) (e_extract (vs := #[.slice A214 t209.1.length c215, .int .i64 t209.2]) (v := .int .i64 t209.2) (by kernel_rfl) rfl) ?_
  refine lv (d := 12) rfl rfl (by kernel_rfl) (e_assign (v := .slice A214 t209.1.length c215) (by kernel_rfl)) ?_
  refine lv (d := 13) rfl rfl (by kernel_rfl) (e_assign (v := .int .i64 t209.2) (by kernel_rfl)) ?_
  refine wpList_nil ?_
  refine then_n ?_
  refine wp_seq ?_
  refine wp_seq ?_
  refine wp_region_lit ?_
  refine lv (d := 79) rfl rfl (by kernel_rfl) (e_move (v := .slice A214 t209.1.length c215) (by kernel_rfl)) ?_
  refine lv (d := 80) rfl rfl (by kernel_rfl) (e_move (v := .slice A36 t31.1.length c37) (by kernel_rfl)) ?_
  obtain ⟨t221, u222, M⟩ := bnd M
  refine lcall (d := 81) rfl rfl (by kernel_rfl) (e_call (l := [.tmp 79, .tmp 80]) (vs := [.slice A214 t209.1.length c215, .slice A36 t31.1.length c37]) Try.func9 (by kernel_rfl) rfl (by kernel_rfl) rfl) (by have l223 := h216.le; obtain ⟨H224, S225, E226, h227, z228⟩ := S218.frzRow h216; replace h171 := h171.ext E226; replace h137 := h137.ext E226; replace h106 := h106.ext E226; replace h38 := h38.ext E226; have l229 := h38.le; have S230 := S225.pull (F := F39) (Fr := [F172, F138, F107]) 3 rfl rfl; obtain ⟨H231, S232, E233, h234, z235⟩ := S230.frzRow h38; replace h171 := h171.ext E233; replace h137 := h137.ext E233; replace h106 := h106.ext E233; exact (laws_eqCellS.calls k w211 H231 t209.1 A214 c215 t31.1 A36 c37 (h227.ext E233) l223 h234 l229 S232.own0 t221 u222)) ?_
  rintro _ w236 ⟨rfl, C237⟩
  refine ⟨_, rfl, ?_⟩
  obtain ⟨S238, K239⟩ := S218.still C237
  replace h216 := h216.move (K239.at 0 rfl)
  replace h171 := h171.move (K239.at 1 rfl)
  replace h137 := h137.move (K239.at 2 rfl)
  replace h106 := h106.move (K239.at 3 rfl)
  replace h38 := h38.move (K239.at 4 rfl)
  refine lv (d := 82) rfl rfl (by kernel_rfl) (e_notv (c := t221) (by kernel_rfl)) ?_
  refine lv (d := 83) rfl rfl (by kernel_rfl) (e_move (v := .bool (decide (¬ (t221 = true)))) (by kernel_rfl)) ?_
  by_cases q240 : ¬ (t221 = true)
  · replace M := ifp q240 M
    refine lskip (t := 83) (c := true) rfl (by kernel_rfl) rfl (bt q240 (by kernel_rfl)) rfl rfl ?_
    refine lskip (t := 83) (c := true) rfl (by kernel_rfl) rfl (bt q240 (by kernel_rfl)) rfl rfl ?_
    refine lskip (t := 83) (c := true) rfl (by kernel_rfl) rfl (bt q240 (by kernel_rfl)) rfl rfl ?_
    refine lv (d := 87) rfl rfl (by kernel_rfl) (e_pick_t (v := .bool true) (bt q240 (by kernel_rfl)) rfl) ?_
    refine wpList_nil ?_
    refine then_n ?_
    refine cond_t rfl (by kernel_rfl) ?_
    refine wp_seq ?_
    refine wp_region_lit ?_
    refine lv (d := 2) rfl rfl (by kernel_rfl) (e_assign (v := .bool false) rfl) ?_
    refine wpList_nil ?_
    refine then_n ?_
    refine wp_ret ?_
    refine then_r ?_
    obtain rfl := Option.some.inj M
    exact ret1 rfl rfl  (show _ = .bool false from (by kernel_rfl)) ⟨rfl, S238.chg⟩
  replace M := ifn q240 M
  refine lvg (d := 84) (t := 83) rfl (by kernel_rfl) rfl (bf q240 (by kernel_rfl)) rfl (by kernel_rfl) (e_move (v := .int .i64 t209.2) (by kernel_rfl)) ?_
  refine lvg (d := 85) (t := 83) rfl (by kernel_rfl) rfl (bf q240 (by kernel_rfl)) rfl (by kernel_rfl) (e_move (v := .int .i64 t31.2) (by kernel_rfl)) ?_
  refine lvg (d := 86) (t := 83) rfl (by kernel_rfl) rfl (bf q240 (by kernel_rfl)) rfl (by kernel_rfl) (e_neq (k := .i64) (a := t209.2) (b := t31.2) (by kernel_rfl) (by kernel_rfl)) ?_
  refine lv (d := 87) rfl rfl (by kernel_rfl) (e_pick_f (v := .bool (decide (t209.2 ≠ t31.2))) (bf q240 (by kernel_rfl)) (by kernel_rfl)) ?_
  refine wpList_nil ?_
  refine then_n ?_
  by_cases q241 : t209.2 ≠ t31.2
  · replace M := ifp q241 M
    refine cond_t rfl (bt q241 (by kernel_rfl)) ?_
    refine wp_seq ?_
    refine wp_region_lit ?_
    refine lv (d := 2) rfl rfl (by kernel_rfl) (e_assign (v := .bool false) rfl) ?_
    refine wpList_nil ?_
    refine then_n ?_
    refine wp_ret ?_
    refine then_r ?_
    obtain rfl := Option.some.inj M
    exact ret1 rfl rfl  (show _ = .bool false from (by kernel_rfl)) ⟨rfl, S238.chg⟩
  replace M := ifn q241 M
  refine cond_f rfl (bf q241 (by kernel_rfl)) ?_
  refine wp_skip ?_
  refine then_n ?_
  refine wp_seq ?_
  refine wp_region_lit ?_
  refine lv (d := 11) rfl rfl (by kernel_rfl) (e_assign (v := .int .i64 1) rfl) ?_
  refine wpList_nil ?_
  refine then_n ?_
  refine wp_seq ?_
  refine wp_region_lit ?_
  refine lv (d := 88) rfl rfl (by kernel_rfl) (e_move (v := .slice A67 t62.1.length c68) (by kernel_rfl)) ?_
  refine lv (d := 89) rfl rfl (by kernel_rfl) (e_move (v := .int .i64 1) (by kernel_rfl)) ?_
  obtain ⟨t242, u243, M⟩ := bnd M
  refine lcall (d := 90) rfl rfl (by kernel_rfl) (e_call (l := [.tmp 88, .tmp 89]) (vs := [.slice A67 t62.1.length c68, .int .i64 1]) Try.func11 (by kernel_rfl) rfl (by kernel_rfl) rfl) (by have l244 := h171.le; have S245 := S238.pull (F := F172) (Fr := [F217, F138, F107, F39]) 1 rfl rfl; obtain ⟨H246, S247, E248, h249, z250⟩ := S245.frzRow h171; replace h216 := h216.ext E248; replace h137 := h137.ext E248; replace h106 := h106.ext E248; replace h38 := h38.ext E248; exact (by have q_ := (laws_heldCellS.calls k w236 H246 t166.2 A67 c68 1 h249 l244 S247.own0 t242 u243); rw [(show t166.2.length = t62.1.length from n173)] at q_; exact q_)) ?_
  rintro _ w251 ⟨rfl, C252⟩
  refine ⟨_, rfl, ?_⟩
  obtain ⟨S253, K254⟩ := S238.still C252
  replace h216 := h216.move (K254.at 0 rfl)
  replace h171 := h171.move (K254.at 1 rfl)
  replace h137 := h137.move (K254.at 2 rfl)
  replace h106 := h106.move (K254.at 3 rfl)
  replace h38 := h38.move (K254.at 4 rfl)
  refine lv (d := 11) rfl rfl (by kernel_rfl) (e_assign (v := .int .i64 t242) (by kernel_rfl)) ?_
  refine wpList_nil ?_
  refine then_n ?_
  refine wp_seq ?_
  refine wp_seq ?_
  refine wp_region_lit ?_
  refine lv (d := 91) rfl rfl (by kernel_rfl) (e_move (v := .int .i64 t242) (by kernel_rfl)) ?_
  refine lv (d := 92) rfl rfl (by kernel_rfl) (e_lss (k := .i64) (a := t242) (b := 0) (by kernel_rfl) rfl) ?_
  refine wpList_nil ?_
  refine then_n ?_
  by_cases q255 : t242 < 0
  · replace M := ifp q255 M
    refine cond_t rfl (bt q255 (by kernel_rfl)) ?_
    refine wp_seq ?_
    refine wp_region_lit ?_
    refine lv (d := 2) rfl rfl (by kernel_rfl) (e_assign (v := .bool false) rfl) ?_
    refine wpList_nil ?_
    refine then_n ?_
    refine wp_ret ?_
    refine then_r ?_
    obtain rfl := Option.some.inj M
    exact ret1 rfl rfl  (show _ = .bool false from (by kernel_rfl)) ⟨rfl, S253.chg⟩
  replace M := ifn q255 M
  refine cond_f rfl (bf q255 (by kernel_rfl)) ?_
  refine wp_skip ?_
  refine then_n ?_
  refine wp_seq ?_
  refine wp_seq ?_
  refine wp_region_lit ?_
  refine lv (d := 93) rfl rfl (by kernel_rfl) (e_move (v := .int .i64 t242) (by kernel_rfl)) ?_
  refine lv (d := 94) rfl rfl (by kernel_rfl) (e_move (v := .int .i64 t166.1) (by kernel_rfl)) ?_
  refine lv (d := 95) rfl rfl (by kernel_rfl) (e_neq (k := .i64) (a := t242) (b := t166.1) (by kernel_rfl) (by kernel_rfl)) ?_
  refine wpList_nil ?_
  refine then_n ?_
  by_cases q256 : t242 ≠ t166.1
  · replace M := ifp q256 M
    refine cond_t rfl (bt q256 (by kernel_rfl)) ?_
    refine wp_seq ?_
    refine wp_region_lit ?_
    refine lv (d := 2) rfl rfl (by kernel_rfl) (e_assign (v := .bool false) rfl) ?_
    refine wpList_nil ?_
    refine then_n ?_
    refine wp_ret ?_
    refine then_r ?_
    obtain rfl := Option.some.inj M
    exact ret1 rfl rfl  (show _ = .bool false from (by kernel_rfl)) ⟨rfl, S253.chg⟩
  replace M := ifn q256 M
  refine cond_f rfl (bf q256 (by kernel_rfl)) ?_
  refine wp_skip ?_
  refine then_n ?_
  refine wp_seq ?_
  refine wp_region_lit ?_
  refine lv (d := 2) rfl rfl (by kernel_rfl) (e_assign (v := .bool true) rfl) ?_
  refine wpList_nil ?_
  refine then_n ?_
  refine wp_ret ?_
  obtain rfl := Option.some.inj M
  exact ret1 rfl rfl  (show _ = .bool true from (by kernel_rfl)) ⟨rfl, S253.chg⟩
end Go.Proofs.Ytmmjeppmglmefaa
