import Derived.Test.YtnigifmkjmbfiaaWkDe2
namespace Go.Proofs.Ytnigifmkjmbfiaa
open Go.Sx Go.Sy
attribute [local irreducible] Go.wpList Go.wpStill Go.wpQuiet Go.Code.wp
set_option maxRecDepth 100000
set_option maxHeartbeats 1000000
set_option linter.unusedVariables false
set_option linter.unusedSimpArgs false

/-! impl_copyCell -/
def impl_copyCell.f (x1 : Cell) : Option Cell := (if 0 + x1.text.length ≤ 140737488355328 then some (⟨x1.kind, x1.n, (([] : List UInt8) ++ x1.text)⟩ : Cell) else none)
theorem impl_copyCell.calls (w : World) (H : Hp) (x1 : Cell) (A2 : Option Addr) (c3 : Nat) (h4 : Rd tByte H A2 x1.text) (l5 : x1.text.length ≤ c3) (S : Own [] H w) (r : Cell) (M : impl_copyCell.f x1 = some r) :
    Calls Try.prog 49 #[.agg #[.int .i64 x1.kind, .int .i64 x1.n, .slice A2 x1.text.length c3]] w (fun e e_w => ∃ (A_1 : Option Addr) (c_1 : Nat) (F_1 : Foot) (H_ : Hp), e = .returned (.agg #[.int .i64 r.kind, .int .i64 r.n, .slice A_1 r.text.length c_1]) ∧ Row tByte 5 H_ (hp e_w) F_1 A_1 c_1 r.text ∧ St (anyOf []) H w [F_1] H_ e_w) := by
  rw [impl_copyCell.f] at M
  refine enter (l := [.agg #[.int .i64 x1.kind, .int .i64 x1.n, .slice A2 x1.text.length c3]]) 9 Try.func49 rfl rfl rfl ?_
  have S0_ := S.st
  refine wp_seq ?_
  refine wp_region_lit ?_
  refine lve (d := 1) rfl rfl (by kernel_rfl) (new_blk (v := fun g_ => .pointer (some ⟨g_, 0, none⟩)) (cs := #[.int .i64 x1.kind, .int .i64 x1.n, .slice A2 x1.text.length c3]) (t := 36) S0_ (by kernel_rfl)) ?_
  rintro _ w6 ⟨g7, rfl, b8, S9, K10⟩
  refine lve (d := 2) rfl rfl (by kernel_rfl) (new_blk (v := fun g_ => .pointer (some ⟨g_, 0, none⟩)) (cs := #[.int .i64 0, .int .i64 0, .slice none 0 0]) (t := 36) S9 (by kernel_rfl)) ?_
  rintro _ w11 ⟨g12, rfl, b13, S14, K15⟩
  replace b8 := K15.blk 0 rfl b8
  refine wpList_nil ?_
  refine then_n ?_
  refine wp_seq ?_
  refine wp_region_lit ?_
  refine lve (d := 3) rfl rfl (by kernel_rfl) (new_blk (v := fun g_ => .slice (some ⟨g_, 0, none⟩) 0 0) (cs := #[]) (t := 5) S14 (by kernel_rfl)) ?_
  rintro _ w16 ⟨g17, rfl, b18, S19, K20⟩
  replace b13 := K20.blk 0 rfl b13
  replace b8 := K20.blk 1 rfl b8
  have S21 := S19.unit
  have S22 := S21.pull (F := (is g17)) (Fr := [no, (is g12), (is g7)]) 1 rfl rfl
  obtain ⟨h23, S24⟩ := row_lit (d := tByte) (xs := ([] : List UInt8)) S22 b18 rfl (elsO_nil _ _ _ no) (Nat.le_of_ble_eq_true rfl)
  refine lv (d := 4) rfl rfl (by kernel_rfl) (e_fieldAddr (b := g7) (off := 0) (o := 2) Try.underlying36 rfl rfl (sz := 1) (by kernel_rfl) (by decide) (by kernel_rfl)) ?_
  refine lv (d := 5) rfl rfl (by kernel_rfl) (e_load1 (ad := ⟨g7, 0 + 2, none⟩) (v := .slice A2 x1.text.length c3) Try.underlying26 rfl (by kernel_rfl) (blk_cell b8 rfl)) ?_
  obtain ⟨y25, h26, h27⟩ := Rd.news (d := tByte) (ro_scal _ _) S24 h4
  obtain ⟨q28, M⟩ := chk M
  have S29 := S24.unit
  have S30 := S29.pull (F := (or2 (is g17) no)) (Fr := [no, (is g12), (is g7)]) 1 rfl rfl
  refine lve (d := 6) rfl rfl (by kernel_rfl) (e_append (d := tByte) (n := 0) (xs := ([] : List UInt8)) (cap := 0) (A := (some ⟨g17, 0, none⟩)) (ys := x1.text) (A2 := A2) (c2 := c3) (z := .int .u8 0) (bytes := 1) S30 Try.underlying26 (by kernel_rfl) rfl (by decide) (by kernel_rfl) rfl (by kernel_rfl) h23 h26 h27 (show (0 + x1.text.length) * 1 ≤ _ by first | omega | (simp only [List.length_cons, List.length_nil]; omega)) (by decide)) ?_
  rintro _ w31 ⟨A32, c33, F34, rfl, h35, S36, K37⟩
  replace b13 := K37.blk 0 rfl b13
  replace b8 := K37.blk 1 rfl b8
  refine lv (d := 7) rfl rfl (by kernel_rfl) (e_fieldAddr (b := g7) (off := 0) (o := 2) Try.underlying36 rfl rfl (sz := 1) (by kernel_rfl) (by decide) (by kernel_rfl)) ?_
  have S38 := S36.pull (F := (is g7)) (Fr := [F34, (is g12)]) 2 rfl rfl
  refine lse rfl rfl (by kernel_rfl) (e_store (g := g7) (o := 0 + 2) (v := .slice A32 ((([] : List UInt8) ++ x1.text).length) c33) (cur' := #[.int .i64 x1.kind, .int .i64 x1.n, .slice A32 ((([] : List UInt8) ++ x1.text).length) c33]) (vs := [.slice A32 ((([] : List UInt8) ++ x1.text).length) c33]) S38 (by kernel_rfl) (by kernel_rfl) rfl (by kernel_rfl) b8 (Nat.le_of_ble_eq_true rfl) (List.forall_mem_cons.2 ⟨rfl, (fun _ h_ => by cases h_)⟩) rfl) ?_
  rintro w39 ⟨b40, S41, K42⟩
  replace h35 := h35.move (K42.at 0 rfl)
  replace b13 := K42.blk 1 rfl b13
  clear b8
  refine wpList_nil ?_
  refine then_n ?_
  refine wp_seq ?_
  refine wp_region_lit ?_
  refine lv (d := 8) rfl rfl (by kernel_rfl) (e_loadS (b := g7) (off := 0) (cs := [.int .i64 x1.kind, .int .i64 x1.n, .slice A32 ((([] : List UInt8) ++ x1.text).length) c33]) Try.underlying36 rfl (by kernel_rfl) (by kernel_rfl) (blk_cells b40 rfl)) ?_
  have S43 := S41.pull (F := (is g12)) (Fr := [(is g7), F34]) 2 rfl rfl
  refine lse rfl rfl (by kernel_rfl) (e_store (g := g12) (o := 0) (v := .agg #[.int .i64 x1.kind, .int .i64 x1.n, .slice A32 ((([] : List UInt8) ++ x1.text).length) c33]) (cur' := #[.int .i64 x1.kind, .int .i64 x1.n, .slice A32 ((([] : List UInt8) ++ x1.text).length) c33]) (vs := [.int .i64 x1.kind, .int .i64 x1.n, .slice A32 ((([] : List UInt8) ++ x1.text).length) c33]) S43 (by kernel_rfl) (by kernel_rfl) rfl (by kernel_rfl) b13 (Nat.le_of_ble_eq_true rfl) (List.forall_mem_cons.2 ⟨rfl, (List.forall_mem_cons.2 ⟨rfl, (List.forall_mem_cons.2 ⟨rfl, (fun _ h_ => by cases h_)⟩)⟩)⟩) rfl) ?_
  rintro w44 ⟨b45, S46, K47⟩
  replace b40 := K47.blk 0 rfl b40
  replace h35 := h35.move (K47.at 1 rfl)
  clear b13
  refine wpList_nil ?_
  refine then_n ?_
  refine wp_ret ?_
  obtain rfl := Option.some.inj M
  have S48 := S46.pull (F := F34) (Fr := [(is g12), (is g7)]) 2 rfl rfl
  have S49 := St.first (Fa := [F34]) (Fr := [(is g12), (is g7)]) S48
  exact retS (ty := 36) (cur := #[.int .i64 x1.kind, .int .i64 x1.n, .slice A32 ((([] : List UInt8) ++ x1.text).length) c33]) rfl rfl (by kernel_rfl) b45 Try.underlying36 rfl (by kernel_rfl) ⟨A32, c33, F34, H, rfl, h35, S49⟩

/-! impl_Deref -/
def impl_Deref.f (k : Nat) (x1 : Store) (x10 : Cell) : Option (Cell × Int) := ((impl_ValidStore.f k x1 x10).bind fun t30 => (if ¬ (t30 = true) then some ((⟨0, 0, []⟩ : Cell), 1) else ((impl_Store_deref.f k x1 x10).bind fun t44 => ((impl_copyCell.f t44).bind fun t57 => some (t57, 0)))))
theorem impl_Deref.calls (k : Nat) (w : World) (H : Hp) (x1 : Store) (A2 : Option Addr) (c3 : Nat) (A6 : Option Addr) (c7 : Nat) (x10 : Cell) (A11 : Option Addr) (c12 : Nat) (h4 : Rd st36 H A2 x1.cells) (l5 : x1.cells.length ≤ c3) (h8 : Rd tInt H A6 x1.trail) (l9 : x1.trail.length ≤ c7) (h13 : Rd tByte H A11 x10.text) (l14 : x10.text.length ≤ c12) (S : Own [] H w) (r : Cell × Int) (M : impl_Deref.f k x1 x10 = some r) :
    Calls Try.prog 18 #[.agg #[.slice A2 x1.cells.length c3, .slice A6 x1.trail.length c7], .agg #[.int .i64 x10.kind, .int .i64 x10.n, .slice A11 x10.text.length c12]] w (fun e e_w => ∃ (A_1 : Option Addr) (c_1 : Nat) (F_1 : Foot) (H_ : Hp), e = .returned (.tuple #[.agg #[.int .i64 r.1.kind, .int .i64 r.1.n, .slice A_1 r.1.text.length c_1], .int .i64 r.2]) ∧ Row tByte 5 H_ (hp e_w) F_1 A_1 c_1 r.1.text ∧ St (anyOf []) H w [F_1] H_ e_w) := by
  rw [impl_Deref.f] at M
  refine enter (l := [.agg #[.slice A2 x1.cells.length c3, .slice A6 x1.trail.length c7], .agg #[.int .i64 x10.kind, .int .i64 x10.n, .slice A11 x10.text.length c12]]) 14 Try.func18 rfl rfl rfl ?_
  have S0_ := S.st
  refine wp_seq ?_
  refine wp_region_lit ?_
  refine lve (d := 2) rfl rfl (by kernel_rfl) (new_blk (v := fun g_ => .pointer (some ⟨g_, 0, none⟩)) (cs := #[.slice A2 x1.cells.length c3, .slice A6 x1.trail.length c7]) (t := 34) S0_ (by kernel_rfl)) ?_
  rintro _ w15 ⟨g16, rfl, b17, S18, K19⟩
  refine lve (d := 3) rfl rfl (by kernel_rfl) (new_blk (v := fun g_ => .pointer (some ⟨g_, 0, none⟩)) (cs := #[.int .i64 x10.kind, .int .i64 x10.n, .slice A11 x10.text.length c12]) (t := 36) S18 (by kernel_rfl)) ?_
  rintro _ w20 ⟨g21, rfl, b22, S23, K24⟩
  replace b17 := K24.blk 0 rfl b17
  refine lve (d := 4) rfl rfl (by kernel_rfl) (new_blk (v := fun g_ => .pointer (some ⟨g_, 0, none⟩)) (cs := #[.int .i64 0, .int .i64 0, .slice none 0 0]) (t := 36) S23 (by kernel_rfl)) ?_
  rintro _ w25 ⟨g26, rfl, b27, S28, K29⟩
  replace b22 := K29.blk 0 rfl b22
  replace b17 := K29.blk 1 rfl b17
  refine lv (d := 5) rfl rfl (by kernel_rfl) (e_assign (v := .int .i64 0) rfl) ?_
  refine wpList_nil ?_
  refine then_n ?_
  refine wp_seq ?_
  refine wp_seq ?_
  refine wp_region_lit ?_
  refine lv (d := 6) rfl rfl (by kernel_rfl) (e_loadS (b := g16) (off := 0) (cs := [.slice A2 x1.cells.length c3, .slice A6 x1.trail.length c7]) Try.underlying34 rfl (by kernel_rfl) (by kernel_rfl) (blk_cells b17 rfl)) ?_
  refine lv (d := 7) rfl rfl (by kernel_rfl) (e_loadS (b := g21) (off := 0) (cs := [.int .i64 x10.kind, .int .i64 x10.n, .slice A11 x10.text.length c12]) Try.underlying36 rfl (by kernel_rfl) (by kernel_rfl) (blk_cells b22 rfl)) ?_
  obtain ⟨t30, u31, M⟩ := bnd M
  refine lcall (d := 8) rfl rfl (by kernel_rfl) (e_call (l := [.tmp 6, .tmp 7]) (vs := [.agg #[.slice A2 x1.cells.length c3, .slice A6 x1.trail.length c7], .agg #[.int .i64 x10.kind, .int .i64 x10.n, .slice A11 x10.text.length c12]]) Try.func14 (by kernel_rfl) rfl (by kernel_rfl) rfl) (impl_ValidStore.calls k w25 H x1 A2 c3 A6 c7 x10 A11 c12 h4 l5 h8 l9 h13 l14 S28.own0 t30 u31) ?_
  rintro _ w32 ⟨rfl, C33⟩
  refine ⟨_, rfl, ?_⟩
  obtain ⟨S34, K35⟩ := S28.still C33
  replace b27 := K35.blk 0 rfl b27
  replace b22 := K35.blk 1 rfl b22
  replace b17 := K35.blk 2 rfl b17
  refine lv (d := 9) rfl rfl (by kernel_rfl) (e_notv (c := t30) (by kernel_rfl)) ?_
  refine wpList_nil ?_
  refine then_n ?_
  by_cases q36 : ¬ (t30 = true)
  · replace M := ifp q36 M
    refine cond_t rfl (bt q36 (by kernel_rfl)) ?_
    refine wp_seq ?_
    refine wp_region_lit ?_
    refine lv (d := 10) rfl rfl (by kernel_rfl) (show _ = Result.ok (Next.value (.agg #[.int .i64 0, .int .i64 0, .slice none 0 0])) w32 from by kernel_rfl) ?_
    refine lse rfl rfl (by kernel_rfl) (e_store (g := g26) (o := 0) (v := .agg #[.int .i64 0, .int .i64 0, .slice none 0 0]) (cur' := #[.int .i64 0, .int .i64 0, .slice none 0 0]) (vs := [.int .i64 0, .int .i64 0, .slice none 0 0]) S34 (by kernel_rfl) (by kernel_rfl) rfl (by kernel_rfl) b27 (Nat.le_of_ble_eq_true rfl) (List.forall_mem_cons.2 ⟨rfl, (List.forall_mem_cons.2 ⟨rfl, (List.forall_mem_cons.2 ⟨rfl, (fun _ h_ => by cases h_)⟩)⟩)⟩) rfl) ?_
    rintro w37 ⟨b38, S39, K40⟩
    replace b22 := K40.blk 0 rfl b22
    replace b17 := K40.blk 1 rfl b17
    clear b27
    refine lv (d := 5) rfl rfl (by kernel_rfl) (e_assign (v := .int .i64 1) rfl) ?_
    refine wpList_nil ?_
    refine then_n ?_
    refine wp_ret ?_
    refine then_r ?_
    obtain rfl := Option.some.inj M
    have S41 := S39.unit
    have S42 := St.first (Fa := [no]) (Fr := [(is g26), (is g21), (is g16)]) S41
    exact retST (ty := 36) (cur := #[.int .i64 0, .int .i64 0, .slice none 0 0]) rfl rfl rfl (by kernel_rfl) b38 Try.underlying36 rfl (by kernel_rfl) (show _ = .int .i64 1 from (by kernel_rfl)) ⟨none, 0, no, H, rfl, (Row.nil _ _ _ _ no), S42⟩
  replace M := ifn q36 M
  refine cond_f rfl (bf q36 (by kernel_rfl)) ?_
  refine wp_skip ?_
  refine then_n ?_
  refine wp_seq ?_
  refine wp_region_lit ?_
  refine lv (d := 11) rfl rfl (by kernel_rfl) (e_loadS (b := g21) (off := 0) (cs := [.int .i64 x10.kind, .int .i64 x10.n, .slice A11 x10.text.length c12]) Try.underlying36 rfl (by kernel_rfl) (by kernel_rfl) (blk_cells b22 rfl)) ?_
  have S43 := S34.pull (F := (is g16)) (Fr := [(is g26), (is g21)]) 2 rfl rfl
  obtain ⟨t44, u45, M⟩ := bnd M
  refine lcall (d := 12) rfl rfl (by kernel_rfl) (e_call (l := [.tmp 2, .tmp 11]) (vs := [.pointer (some ⟨g16, 0, none⟩), .agg #[.int .i64 x10.kind, .int .i64 x10.n, .slice A11 x10.text.length c12]]) Try.func50 (by kernel_rfl) rfl (by kernel_rfl) rfl) (impl_Store_deref.calls k w32 H x1 g16 A2 c3 A6 c7 x10 A11 c12 h4 l5 h8 l9 b17 h13 l14 (St.own' (Fa := [(is g16)]) (Fr := [(is g26), (is g21)]) S43) t44 u45) ?_
  rintro _ w46 ⟨A50, c51, H47, rfl, b49, h52, l53, T48⟩
  refine ⟨_, rfl, ?_⟩
  obtain ⟨S54, K55⟩ := St.call (Fa := [(is g16)]) (Fr := [(is g26), (is g21)]) S43 T48
  replace b27 := K55.blk 0 rfl b27
  replace b22 := K55.blk 1 rfl b22
  have E56 := T48.ext
  obtain ⟨t57, u58, M⟩ := bnd M
  refine lcall (d := 13) rfl rfl (by kernel_rfl) (e_call (l := [.tmp 12]) (vs := [.agg #[.int .i64 t44.kind, .int .i64 t44.n, .slice A50 t44.text.length c51]]) Try.func49 (by kernel_rfl) rfl (by kernel_rfl) rfl) (impl_copyCell.calls w46 H47 t44 A50 c51 h52 l53 (St.own' (Fa := []) (Fr := [(is g16), (is g26), (is g21)]) S54) t57 u58) ?_
  rintro _ w59 ⟨A62, c63, F65, H60, rfl, h64, T61⟩
  refine ⟨_, rfl, ?_⟩
  obtain ⟨S66, K67⟩ := St.call (Fa := []) (Fr := [(is g16), (is g26), (is g21)]) S54 T61
  replace b49 := K67.blk 0 rfl b49
  replace b27 := K67.blk 1 rfl b27
  replace b22 := K67.blk 2 rfl b22
  have E68 := T61.ext
  have S69 := S66.pull (F := (is g26)) (Fr := [F65, (is g16), (is g21)]) 2 rfl rfl
  refine lse rfl rfl (by kernel_rfl) (e_store (g := g26) (o := 0) (v := .agg #[.int .i64 t57.kind, .int .i64 t57.n, .slice A62 t57.text.length c63]) (cur' := #[.int .i64 t57.kind, .int .i64 t57.n, .slice A62 t57.text.length c63]) (vs := [.int .i64 t57.kind, .int .i64 t57.n, .slice A62 t57.text.length c63]) S69 (by kernel_rfl) (by kernel_rfl) rfl (by kernel_rfl) b27 (Nat.le_of_ble_eq_true rfl) (List.forall_mem_cons.2 ⟨rfl, (List.forall_mem_cons.2 ⟨rfl, (List.forall_mem_cons.2 ⟨rfl, (fun _ h_ => by cases h_)⟩)⟩)⟩) rfl) ?_
  rintro w70 ⟨b71, S72, K73⟩
  replace h64 := h64.move (K73.at 0 rfl)
  replace b49 := K73.blk 1 rfl b49
  replace b22 := K73.blk 2 rfl b22
  clear b27
  refine lv (d := 5) rfl rfl (by kernel_rfl) (e_assign (v := .int .i64 0) rfl) ?_
  refine wpList_nil ?_
  refine then_n ?_
  refine wp_ret ?_
  obtain rfl := Option.some.inj M
  have S74 := S72.pull (F := F65) (Fr := [(is g26), (is g16), (is g21)]) 1 rfl rfl
  have S75 := St.first (Fa := [F65]) (Fr := [(is g26), (is g16), (is g21)]) S74
  exact retST (ty := 36) (cur := #[.int .i64 t57.kind, .int .i64 t57.n, .slice A62 t57.text.length c63]) rfl rfl rfl (by kernel_rfl) b71 Try.underlying36 rfl (by kernel_rfl) (show _ = .int .i64 0 from (by kernel_rfl)) ⟨A62, c63, F65, H60, rfl, h64, S75⟩

/-! laws_eqByteS -/
def laws_eqByteS.l0 : Nat → (List UInt8) → (List UInt8) → Int → Option Bool
  | 0, _, _, _ => none
  | k23 + 1, x1, x6, x14 => (if x14 < (x1.length : Int) then (if 0 ≤ x14 then (if x14 < (x6.length : Int) then (if ((x1.getD ((x14).toNat) (0 : UInt8)).toNat : Int) ≠ ((x6.getD ((x14).toNat) (0 : UInt8)).toNat : Int) then some false else (laws_eqByteS.l0 k23 x1 x6 (IntKind.i64.wrap (x14 + 1)))) else none) else none) else some true)
def laws_eqByteS.f (k : Nat) (x1 : List UInt8) (x6 : List UInt8) : Option Bool := (if (x1.length : Int) ≠ (x6.length : Int) then some false else (laws_eqByteS.l0 k x1 x6 0))
theorem laws_eqByteS.calls (k : Nat) (w : World) (H : Hp) (x1 : List UInt8) (A2 : Option Addr) (c3 : Nat) (x6 : List UInt8) (A7 : Option Addr) (c8 : Nat) (h4 : Rd tByte H A2 x1) (l5 : x1.length ≤ c3) (h9 : Rd tByte H A7 x6) (l10 : x6.length ≤ c8) (S : Own [] H w) (r : Bool) (M : laws_eqByteS.f k x1 x6 = some r) :
    Calls Try.prog 45 #[.slice A2 x1.length c3, .slice A7 x6.length c8] w (fun e e_w => e = .returned (.bool r) ∧ Chg no w e_w) := by
  rw [laws_eqByteS.f] at M
  refine enter (l := [.slice A2 x1.length c3, .slice A7 x6.length c8]) 26 Try.func45 rfl rfl rfl ?_
  have S0_ := S.st
  refine wp_seq ?_
  refine wp_region_lit ?_
  refine lv (d := 4) rfl rfl (by kernel_rfl) (e_assign (v := .bool false) rfl) ?_
  refine wpList_nil ?_
  refine then_n ?_
  refine wp_seq ?_
  refine wp_seq ?_
  refine wp_region_lit ?_
  refine lv (d := 6) rfl rfl (by kernel_rfl) (e_move (v := .slice A2 x1.length c3) (by kernel_rfl)) ?_
  refine lv (d := 7) rfl rfl (by kernel_rfl) (e_len (A := A2) (n := x1.length) (c := c3) Try.underlying26 (by kernel_rfl)) ?_
  refine lv (d := 8) rfl rfl (by kernel_rfl) (e_move (v := .slice A7 x6.length c8) (by kernel_rfl)) ?_
  refine lv (d := 9) rfl rfl (by kernel_rfl) (e_len (A := A7) (n := x6.length) (c := c8) Try.underlying26 (by kernel_rfl)) ?_
  refine lv (d := 10) rfl rfl (by kernel_rfl) (e_neq (k := .i64) (a := (x1.length : Int)) (b := (x6.length : Int)) (by kernel_rfl) (by kernel_rfl)) ?_
  refine wpList_nil ?_
  refine then_n ?_
  by_cases q11 : (x1.length : Int) ≠ (x6.length : Int)
  · replace M := ifp q11 M
    refine cond_t rfl (bt q11 (by kernel_rfl)) ?_
    refine wp_seq ?_
    refine wp_region_lit ?_
    refine lv (d := 4) rfl rfl (by kernel_rfl) (e_assign (v := .bool false) rfl) ?_
    refine wpList_nil ?_
    refine then_n ?_
    refine wp_ret ?_
    refine then_r ?_
    obtain rfl := Option.some.inj M
    exact ret1 rfl rfl  (show _ = .bool false from (by kernel_rfl)) ⟨rfl, S0_.chg⟩
  replace M := ifn q11 M
  refine cond_f rfl (bf q11 (by kernel_rfl)) ?_
  refine wp_skip ?_
  refine then_n ?_
  refine wp_seq ?_
  refine wp_seq ?_
  refine wp_region_lit ?_
  refine lv (d := 5) rfl rfl (by kernel_rfl) (e_assign (v := .int .i64 0) rfl) ?_
  refine wpList_nil ?_
  refine then_n ?_
  refine wp_block ?_
  refine wp_loop_g (fun k21 a22 w12 => ∃ (f13 : Nat → Value) (x14 : Int), a22 = mk 26 f13 ∧ f13 0 = .slice A2 x1.length c3 ∧ f13 1 = .slice A7 x6.length c8 ∧ f13 5 = .int .i64 x14 ∧ St (anyOf []) H w [] H w12 ∧ laws_eqByteS.l0 k21 x1 x6 x14 = some r) k ⟨_, 0, rfl, (by kernel_rfl), (by kernel_rfl), (by kernel_rfl), S0_, M⟩ ?_
  clear M
  rintro k21 a22 w12 ⟨f13, x14, rfl, e15, e16, e17, S18, M⟩
  rcases k21 with _ | k23
  · rw [laws_eqByteS.l0] at M
    cases M
  rw [laws_eqByteS.l0] at M
  refine wp_seq ?_
  refine wp_seq ?_
  refine wp_region_lit ?_
  refine lv (d := 11) rfl rfl (by kernel_rfl) (e_move (v := .int .i64 x14) (by exact e17)) ?_
  refine lv (d := 12) rfl rfl (by kernel_rfl) (e_move (v := .slice A2 x1.length c3) (by exact e15)) ?_
  refine lv (d := 13) rfl rfl (by kernel_rfl) (e_len (A := A2) (n := x1.length) (c := c3) Try.underlying26 (by kernel_rfl)) ?_
  refine lv (d := 14) rfl rfl (by kernel_rfl) (e_lss (k := .i64) (a := x14) (b := (x1.length : Int)) (by kernel_rfl) (by kernel_rfl)) ?_
  refine wpList_nil ?_
  refine then_n ?_
  by_cases q24 : x14 < (x1.length : Int)
  · replace M := ifp q24 M
    refine cond_t rfl (bt q24 (by kernel_rfl)) ?_
    refine wp_skip ?_
    refine then_n ?_
    refine wp_seq ?_
    refine wp_block ?_
    refine wp_seq ?_
    refine region_still (by kernel_rfl) (by kernel_rfl) S18 ?_
    intro w25 S26 K27
    refine sv (d := 17) rfl rfl (by kernel_rfl) (e_move (v := .slice A2 x1.length c3) (by exact e15)) ?_
    refine sv (d := 18) rfl rfl (by kernel_rfl) (e_move (v := .int .i64 x14) (by exact e17)) ?_
    obtain ⟨q28, M⟩ := chk M
    obtain ⟨b29, o30, e31⟩ := Rd.addr h4 (show (x14).toNat < x1.length by omega)
    obtain ⟨y32, r33, k34⟩ := Rd.at h4 e31 (getD_some (0 : UInt8) (show (x14).toNat < x1.length by omega))
    obtain rfl := r33
    refine sv (d := 19) rfl rfl (by kernel_rfl) (e_indexAddr (b := b29) (off := o30) (n := x1.length) (c := c3) (sz := 1) (i := x14) (k := .i64) Try.underlying26 e31 (by kernel_rfl) (by kernel_rfl) (by kernel_rfl) q28 q24) ?_
    refine sv (d := 20) rfl rfl (by kernel_rfl) (e_load1 (ad := ⟨b29, o30 + (x14 : Int).toNat * 1, none⟩) (v := .int .u8 ((x1.getD ((x14).toNat) (0 : UInt8)).toNat : Int)) Try.underlying5 rfl (by kernel_rfl) (hpx (S26.inv.cell (k34 0 _ rfl)))) ?_
    refine sv (d := 21) rfl rfl (by kernel_rfl) (e_move (v := .slice A7 x6.length c8) (by exact e16)) ?_
    refine sv (d := 22) rfl rfl (by kernel_rfl) (e_move (v := .int .i64 x14) (by exact e17)) ?_
    obtain ⟨q35, M⟩ := chk M
    obtain ⟨b36, o37, e38⟩ := Rd.addr h9 (show (x14).toNat < x6.length by omega)
    obtain ⟨y39, r40, k41⟩ := Rd.at h9 e38 (getD_some (0 : UInt8) (show (x14).toNat < x6.length by omega))
    obtain rfl := r40
    refine sv (d := 23) rfl rfl (by kernel_rfl) (e_indexAddr (b := b36) (off := o37) (n := x6.length) (c := c8) (sz := 1) (i := x14) (k := .i64) Try.underlying26 e38 (by kernel_rfl) (by kernel_rfl) (by kernel_rfl) q28 q35) ?_
    refine sv (d := 24) rfl rfl (by kernel_rfl) (e_load1 (ad := ⟨b36, o37 + (x14 : Int).toNat * 1, none⟩) (v := .int .u8 ((x6.getD ((x14).toNat) (0 : UInt8)).toNat : Int)) Try.underlying5 rfl (by kernel_rfl) (hpx (S26.inv.cell (k41 0 _ rfl)))) ?_
    refine sv (d := 25) rfl rfl (by kernel_rfl) (e_neq (k := .u8) (a := ((x1.getD ((x14).toNat) (0 : UInt8)).toNat : Int)) (b := ((x6.getD ((x14).toNat) (0 : UInt8)).toNat : Int)) (by kernel_rfl) (by kernel_rfl)) ?_
    refine wpStill_nil ?_
    refine then_n ?_
    by_cases q42 : ((x1.getD ((x14).toNat) (0 : UInt8)).toNat : Int) ≠ ((x6.getD ((x14).toNat) (0 : UInt8)).toNat : Int)
    · replace M := ifp q42 M
      refine cond_t rfl (bt q42 (by kernel_rfl)) ?_
      refine wp_seq ?_
      refine wp_region_lit ?_
      refine lv (d := 4) rfl rfl (by kernel_rfl) (e_assign (v := .bool false) rfl) ?_
      refine wpList_nil ?_
      refine then_n ?_
      refine wp_ret ?_
      refine inb_r ?_
      refine then_r ?_
      refine then_r ?_
      refine inb_r ?_
      refine then_r ?_
      obtain rfl := Option.some.inj M
      exact ret1 rfl rfl  (show _ = .bool false from (by kernel_rfl)) ⟨rfl, S26.chg⟩
    replace M := ifn q42 M
    refine cond_f rfl (bf q42 (by kernel_rfl)) ?_
    refine wp_skip ?_
    refine inb_n ?_
    refine then_n ?_
    refine wp_region_lit ?_
    refine lv (d := 15) rfl rfl (by kernel_rfl) (e_move (v := .int .i64 x14) (by exact e17)) ?_
    refine lv (d := 16) rfl rfl (by kernel_rfl) (e_add (k := .i64) (a := x14) (b := 1) (by kernel_rfl) rfl) ?_
    refine lv (d := 5) rfl rfl (by kernel_rfl) (e_assign (v := .int .i64 (IntKind.i64.wrap (x14 + 1))) (by kernel_rfl)) ?_
    refine wpList_nil ?_
    refine then_n ?_
    exact ⟨k23, (by omega), _, (IntKind.i64.wrap (x14 + 1)), rfl, (by exact e15), (by exact e16), (by kernel_rfl), S26, M⟩
  replace M := ifn q24 M
  refine cond_f rfl (bf q24 (by kernel_rfl)) ?_
  refine wp_exit ?_
  refine then_e ?_
  refine then_e ?_
  refine inb_hit ?_
  refine then_n ?_
  refine wp_seq ?_
  refine wp_region_lit ?_
  refine lv (d := 4) rfl rfl (by kernel_rfl) (e_assign (v := .bool true) rfl) ?_
  refine wpList_nil ?_
  refine then_n ?_
  refine wp_ret ?_
  obtain rfl := Option.some.inj M
  exact ret1 rfl rfl  (show _ = .bool true from (by kernel_rfl)) ⟨rfl, S18.chg⟩

/-! laws_eqCell -/
def laws_eqCell.f (k : Nat) (x1 : Cell) (x6 : Cell) : Option Bool := (if x1.kind ≠ x6.kind then some false else (if x1.n ≠ x6.n then some false else ((laws_eqByteS.f k x1.text x6.text).bind fun t23 => (if ¬ (t23 = true) then some false else some true))))
theorem laws_eqCell.calls (k : Nat) (w : World) (H : Hp) (x1 : Cell) (A2 : Option Addr) (c3 : Nat) (x6 : Cell) (A7 : Option Addr) (c8 : Nat) (h4 : Rd tByte H A2 x1.text) (l5 : x1.text.length ≤ c3) (h9 : Rd tByte H A7 x6.text) (l10 : x6.text.length ≤ c8) (S : Own [] H w) (r : Bool) (M : laws_eqCell.f k x1 x6 = some r) :
    Calls Try.prog 16 #[.agg #[.int .i64 x1.kind, .int .i64 x1.n, .slice A2 x1.text.length c3], .agg #[.int .i64 x6.kind, .int .i64 x6.n, .slice A7 x6.text.length c8]] w (fun e e_w => e = .returned (.bool r) ∧ Chg no w e_w) := by
  rw [laws_eqCell.f] at M
  refine enter (l := [.agg #[.int .i64 x1.kind, .int .i64 x1.n, .slice A2 x1.text.length c3], .agg #[.int .i64 x6.kind, .int .i64 x6.n, .slice A7 x6.text.length c8]]) 21 Try.func16 rfl rfl rfl ?_
  have S0_ := S.st
  refine wp_seq ?_
  refine wp_region_lit ?_
  refine lve (d := 2) rfl rfl (by kernel_rfl) (new_blk (v := fun g_ => .pointer (some ⟨g_, 0, none⟩)) (cs := #[.int .i64 x1.kind, .int .i64 x1.n, .slice A2 x1.text.length c3]) (t := 36) S0_ (by kernel_rfl)) ?_
  rintro _ w11 ⟨g12, rfl, b13, S14, K15⟩
  refine lve (d := 3) rfl rfl (by kernel_rfl) (new_blk (v := fun g_ => .pointer (some ⟨g_, 0, none⟩)) (cs := #[.int .i64 x6.kind, .int .i64 x6.n, .slice A7 x6.text.length c8]) (t := 36) S14 (by kernel_rfl)) ?_
  rintro _ w16 ⟨g17, rfl, b18, S19, K20⟩
  replace b13 := K20.blk 0 rfl b13
  refine lv (d := 4) rfl rfl (by kernel_rfl) (e_assign (v := .bool false) rfl) ?_
  refine wpList_nil ?_
  refine then_n ?_
  refine wp_seq ?_
  refine wp_seq ?_
  refine wp_region_lit ?_
  refine lv (d := 5) rfl rfl (by kernel_rfl) (e_fieldAddr (b := g12) (off := 0) (o := 0) Try.underlying36 rfl rfl (sz := 1) (by kernel_rfl) (by decide) (by kernel_rfl)) ?_
  refine lv (d := 6) rfl rfl (by kernel_rfl) (e_load1 (ad := ⟨g12, 0 + 0, none⟩) (v := .int .i64 x1.kind) Try.underlying3 rfl (by kernel_rfl) (blk_cell b13 rfl)) ?_
  refine lv (d := 7) rfl rfl (by kernel_rfl) (e_fieldAddr (b := g17) (off := 0) (o := 0) Try.underlying36 rfl rfl (sz := 1) (by kernel_rfl) (by decide) (by kernel_rfl)) ?_
  refine lv (d := 8) rfl rfl (by kernel_rfl) (e_load1 (ad := ⟨g17, 0 + 0, none⟩) (v := .int .i64 x6.kind) Try.underlying3 rfl (by kernel_rfl) (blk_cell b18 rfl)) ?_
  refine lv (d := 9) rfl rfl (by kernel_rfl) (e_neq (k := .i64) (a := x1.kind) (b := x6.kind) (by kernel_rfl) (by kernel_rfl)) ?_
  refine wpList_nil ?_
  refine then_n ?_
  by_cases q21 : x1.kind ≠ x6.kind
  · replace M := ifp q21 M
    refine cond_t rfl (bt q21 (by kernel_rfl)) ?_
    refine wp_seq ?_
    refine wp_region_lit ?_
    refine lv (d := 4) rfl rfl (by kernel_rfl) (e_assign (v := .bool false) rfl) ?_
    refine wpList_nil ?_
    refine then_n ?_
    refine wp_ret ?_
    refine then_r ?_
    obtain rfl := Option.some.inj M
    exact ret1 rfl rfl  (show _ = .bool false from (by kernel_rfl)) ⟨rfl, S19.chg⟩
  replace M := ifn q21 M
  refine cond_f rfl (bf q21 (by kernel_rfl)) ?_
  refine wp_skip ?_
  refine then_n ?_
  refine wp_seq ?_
  refine wp_seq ?_
  refine wp_region_lit ?_
  refine lv (d := 10) rfl rfl (by kernel_rfl) (e_fieldAddr (b := g12) (off := 0) (o := 1) Try.underlying36 rfl rfl (sz := 1) (by kernel_rfl) (by decide) (by kernel_rfl)) ?_
  refine lv (d := 11) rfl rfl (by kernel_rfl) (e_load1 (ad := ⟨g12, 0 + 1, none⟩) (v := .int .i64 x1.n) Try.underlying3 rfl (by kernel_rfl) (blk_cell b13 rfl)) ?_
  refine lv (d := 12) rfl rfl (by kernel_rfl) (e_fieldAddr (b := g17) (off := 0) (o := 1) Try.underlying36 rfl rfl (sz := 1) (by kernel_rfl) (by decide) (by kernel_rfl)) ?_
  refine lv (d := 13) rfl rfl (by kernel_rfl) (e_load1 (ad := ⟨g17, 0 + 1, none⟩) (v := .int .i64 x6.n) Try.underlying3 rfl (by kernel_rfl) (blk_cell b18 rfl)) ?_
  refine lv (d := 14) rfl rfl (by kernel_rfl) (e_neq (k := .i64) (a := x1.n) (b := x6.n) (by kernel_rfl) (by kernel_rfl)) ?_
  refine wpList_nil ?_
  refine then_n ?_
  by_cases q22 : x1.n ≠ x6.n
  · replace M := ifp q22 M
    refine cond_t rfl (bt q22 (by kernel_rfl)) ?_
    refine wp_seq ?_
    refine wp_region_lit ?_
    refine lv (d := 4) rfl rfl (by kernel_rfl) (e_assign (v := .bool false) rfl) ?_
    refine wpList_nil ?_
    refine then_n ?_
    refine wp_ret ?_
    refine then_r ?_
    obtain rfl := Option.some.inj M
    exact ret1 rfl rfl  (show _ = .bool false from (by kernel_rfl)) ⟨rfl, S19.chg⟩
  replace M := ifn q22 M
  refine cond_f rfl (bf q22 (by kernel_rfl)) ?_
  refine wp_skip ?_
  refine then_n ?_
  refine wp_seq ?_
  refine wp_seq ?_
  refine wp_region_lit ?_
  refine lv (d := 15) rfl rfl (by kernel_rfl) (e_fieldAddr (b := g12) (off := 0) (o := 2) Try.underlying36 rfl rfl (sz := 1) (by kernel_rfl) (by decide) (by kernel_rfl)) ?_
  refine lv (d := 16) rfl rfl (by kernel_rfl) (e_load1 (ad := ⟨g12, 0 + 2, none⟩) (v := .slice A2 x1.text.length c3) Try.underlying26 rfl (by kernel_rfl) (blk_cell b13 rfl)) ?_
  refine lv (d := 17) rfl rfl (by kernel_rfl) (e_fieldAddr (b := g17) (off := 0) (o := 2) Try.underlying36 rfl rfl (sz := 1) (by kernel_rfl) (by decide) (by kernel_rfl)) ?_
  refine lv (d := 18) rfl rfl (by kernel_rfl) (e_load1 (ad := ⟨g17, 0 + 2, none⟩) (v := .slice A7 x6.text.length c8) Try.underlying26 rfl (by kernel_rfl) (blk_cell b18 rfl)) ?_
  obtain ⟨t23, u24, M⟩ := bnd M
  refine lcall (d := 19) rfl rfl (by kernel_rfl) (e_call (l := [.tmp 16, .tmp 18]) (vs := [.slice A2 x1.text.length c3, .slice A7 x6.text.length c8]) Try.func45 (by kernel_rfl) rfl (by kernel_rfl) rfl) (laws_eqByteS.calls k w16 H x1.text A2 c3 x6.text A7 c8 h4 l5 h9 l10 S19.own0 t23 u24) ?_
  rintro _ w25 ⟨rfl, C26⟩
  refine ⟨_, rfl, ?_⟩
  obtain ⟨S27, K28⟩ := S19.still C26
  replace b18 := K28.blk 0 rfl b18
  replace b13 := K28.blk 1 rfl b13
  refine lv (d := 20) rfl rfl (by kernel_rfl) (e_notv (c := t23) (by kernel_rfl)) ?_
  refine wpList_nil ?_
  refine then_n ?_
  by_cases q29 : ¬ (t23 = true)
  · replace M := ifp q29 M
    refine cond_t rfl (bt q29 (by kernel_rfl)) ?_
    refine wp_seq ?_
    refine wp_region_lit ?_
    refine lv (d := 4) rfl rfl (by kernel_rfl) (e_assign (v := .bool false) rfl) ?_
    refine wpList_nil ?_
    refine then_n ?_
    refine wp_ret ?_
    refine then_r ?_
    obtain rfl := Option.some.inj M
    exact ret1 rfl rfl  (show _ = .bool false from (by kernel_rfl)) ⟨rfl, S27.chg⟩
  replace M := ifn q29 M
  refine cond_f rfl (bf q29 (by kernel_rfl)) ?_
  refine wp_skip ?_
  refine then_n ?_
  refine wp_seq ?_
  refine wp_region_lit ?_
  refine lv (d := 4) rfl rfl (by kernel_rfl) (e_assign (v := .bool true) rfl) ?_
  refine wpList_nil ?_
  refine then_n ?_
  refine wp_ret ?_
  obtain rfl := Option.some.inj M
  exact ret1 rfl rfl  (show _ = .bool true from (by kernel_rfl)) ⟨rfl, S27.chg⟩

/-! laws_eqCellS -/
def laws_eqCellS.l0 : Nat → (List Cell) → (List Cell) → Int → Option Bool
  | 0, _, _, _ => none
  | k23 + 1, x1, x6, x14 => (if x14 < (x1.length : Int) then (if 0 ≤ x14 then (if x14 < (x6.length : Int) then ((laws_eqCell.f k23 (x1.getD ((x14).toNat) z36) (x6.getD ((x14).toNat) z36)).bind fun t47 => (if ¬ (t47 = true) then some false else (laws_eqCellS.l0 k23 x1 x6 (IntKind.i64.wrap (x14 + 1))))) else none) else none) else some true)
def laws_eqCellS.f (k : Nat) (x1 : List Cell) (x6 : List Cell) : Option Bool := (if (x1.length : Int) ≠ (x6.length : Int) then some false else (laws_eqCellS.l0 k x1 x6 0))
theorem laws_eqCellS.calls (k : Nat) (w : World) (H : Hp) (x1 : List Cell) (A2 : Option Addr) (c3 : Nat) (x6 : List Cell) (A7 : Option Addr) (c8 : Nat) (h4 : Rd st36 H A2 x1) (l5 : x1.length ≤ c3) (h9 : Rd st36 H A7 x6) (l10 : x6.length ≤ c8) (S : Own [] H w) (r : Bool) (M : laws_eqCellS.f k x1 x6 = some r) :
    Calls Try.prog 24 #[.slice A2 x1.length c3, .slice A7 x6.length c8] w (fun e e_w => e = .returned (.bool r) ∧ Chg no w e_w) := by
  rw [laws_eqCellS.f] at M
  refine enter (l := [.slice A2 x1.length c3, .slice A7 x6.length c8]) 27 Try.func24 rfl rfl rfl ?_
  have S0_ := S.st
  refine wp_seq ?_
  refine wp_region_lit ?_
  refine lv (d := 4) rfl rfl (by kernel_rfl) (e_assign (v := .bool false) rfl) ?_
  refine wpList_nil ?_
  refine then_n ?_
  refine wp_seq ?_
  refine wp_seq ?_
  refine wp_region_lit ?_
  refine lv (d := 6) rfl rfl (by kernel_rfl) (e_move (v := .slice A2 x1.length c3) (by kernel_rfl)) ?_
  refine lv (d := 7) rfl rfl (by kernel_rfl) (e_len (A := A2) (n := x1.length) (c := c3) Try.underlying32 (by kernel_rfl)) ?_
  refine lv (d := 8) rfl rfl (by kernel_rfl) (e_move (v := .slice A7 x6.length c8) (by kernel_rfl)) ?_
  refine lv (d := 9) rfl rfl (by kernel_rfl) (e_len (A := A7) (n := x6.length) (c := c8) Try.underlying32 (by kernel_rfl)) ?_
  refine lv (d := 10) rfl rfl (by kernel_rfl) (e_neq (k := .i64) (a := (x1.length : Int)) (b := (x6.length : Int)) (by kernel_rfl) (by kernel_rfl)) ?_
  refine wpList_nil ?_
  refine then_n ?_
  by_cases q11 : (x1.length : Int) ≠ (x6.length : Int)
  · replace M := ifp q11 M
    refine cond_t rfl (bt q11 (by kernel_rfl)) ?_
    refine wp_seq ?_
    refine wp_region_lit ?_
    refine lv (d := 4) rfl rfl (by kernel_rfl) (e_assign (v := .bool false) rfl) ?_
    refine wpList_nil ?_
    refine then_n ?_
    refine wp_ret ?_
    refine then_r ?_
    obtain rfl := Option.some.inj M
    exact ret1 rfl rfl  (show _ = .bool false from (by kernel_rfl)) ⟨rfl, S0_.chg⟩
  replace M := ifn q11 M
  refine cond_f rfl (bf q11 (by kernel_rfl)) ?_
  refine wp_skip ?_
  refine then_n ?_
  refine wp_seq ?_
  refine wp_seq ?_
  refine wp_region_lit ?_
  refine lv (d := 5) rfl rfl (by kernel_rfl) (e_assign (v := .int .i64 0) rfl) ?_
  refine wpList_nil ?_
  refine then_n ?_
  refine wp_block ?_
  refine wp_loop_g (fun k21 a22 w12 => ∃ (f13 : Nat → Value) (x14 : Int), a22 = mk 27 f13 ∧ f13 0 = .slice A2 x1.length c3 ∧ f13 1 = .slice A7 x6.length c8 ∧ f13 5 = .int .i64 x14 ∧ St (anyOf []) H w [] H w12 ∧ laws_eqCellS.l0 k21 x1 x6 x14 = some r) k ⟨_, 0, rfl, (by kernel_rfl), (by kernel_rfl), (by kernel_rfl), S0_, M⟩ ?_
  clear M
  rintro k21 a22 w12 ⟨f13, x14, rfl, e15, e16, e17, S18, M⟩
  rcases k21 with _ | k23
  · rw [laws_eqCellS.l0] at M
    cases M
  rw [laws_eqCellS.l0] at M
  refine wp_seq ?_
  refine wp_seq ?_
  refine wp_region_lit ?_
  refine lv (d := 11) rfl rfl (by kernel_rfl) (e_move (v := .int .i64 x14) (by exact e17)) ?_
  refine lv (d := 12) rfl rfl (by kernel_rfl) (e_move (v := .slice A2 x1.length c3) (by exact e15)) ?_
  refine lv (d := 13) rfl rfl (by kernel_rfl) (e_len (A := A2) (n := x1.length) (c := c3) Try.underlying32 (by kernel_rfl)) ?_
  refine lv (d := 14) rfl rfl (by kernel_rfl) (e_lss (k := .i64) (a := x14) (b := (x1.length : Int)) (by kernel_rfl) (by kernel_rfl)) ?_
  refine wpList_nil ?_
  refine then_n ?_
  by_cases q24 : x14 < (x1.length : Int)
  · replace M := ifp q24 M
    refine cond_t rfl (bt q24 (by kernel_rfl)) ?_
    refine wp_skip ?_
    refine then_n ?_
    refine wp_seq ?_
    refine wp_block ?_
    refine wp_seq ?_
    refine region_quiet (by kernel_rfl) (by kernel_rfl) ?_
    refine qv (d := 17) rfl rfl (by kernel_rfl) (fun wq_ hq_ => e_move (v := .slice A2 x1.length c3) (by exact e15)) ?_
    refine qv (d := 18) rfl rfl (by kernel_rfl) (fun wq_ hq_ => e_move (v := .int .i64 x14) (by exact e17)) ?_
    obtain ⟨q25, M⟩ := chk M
    obtain ⟨b26, o27, e28⟩ := Rd.addr h4 (show (x14).toNat < x1.length by omega)
    obtain ⟨y29, r30, k31⟩ := Rd.at h4 e28 (getD_some z36 (show (x14).toNat < x1.length by omega))
    obtain ⟨A32, c33, rfl, l34, h35⟩ := st36_open r30
    refine qv (d := 19) rfl rfl (by kernel_rfl) (fun wq_ hq_ => e_indexAddr (b := b26) (off := o27) (n := x1.length) (c := c3) (sz := 3) (i := x14) (k := .i64) Try.underlying32 e28 (by kernel_rfl) (by kernel_rfl) (by kernel_rfl) q25 q24) ?_
    refine qv (d := 20) rfl rfl (by kernel_rfl) (fun wq_ hq_ => e_loadS (b := b26) (off := o27 + (x14 : Int).toNat * 3) (cs := [.int .i64 ((x1.getD ((x14).toNat) z36).kind), .int .i64 ((x1.getD ((x14).toNat) z36).n), .slice A32 ((x1.getD ((x14).toNat) z36).text).length c33]) Try.underlying36 rfl (by kernel_rfl) (by kernel_rfl) (fun j_ u_ e_ => (hpx ((S18.still hq_).1.inv.cell (k31 j_ u_ e_))))) ?_
    refine qv (d := 21) rfl rfl (by kernel_rfl) (fun wq_ hq_ => e_move (v := .slice A7 x6.length c8) (by exact e16)) ?_
    refine qv (d := 22) rfl rfl (by kernel_rfl) (fun wq_ hq_ => e_move (v := .int .i64 x14) (by exact e17)) ?_
    obtain ⟨q36, M⟩ := chk M
    obtain ⟨b37, o38, e39⟩ := Rd.addr h9 (show (x14).toNat < x6.length by omega)
    obtain ⟨y40, r41, k42⟩ := Rd.at h9 e39 (getD_some z36 (show (x14).toNat < x6.length by omega))
    obtain ⟨A43, c44, rfl, l45, h46⟩ := st36_open r41
    refine qv (d := 23) rfl rfl (by kernel_rfl) (fun wq_ hq_ => e_indexAddr (b := b37) (off := o38) (n := x6.length) (c := c8) (sz := 3) (i := x14) (k := .i64) Try.underlying32 e39 (by kernel_rfl) (by kernel_rfl) (by kernel_rfl) q25 q36) ?_
    refine qv (d := 24) rfl rfl (by kernel_rfl) (fun wq_ hq_ => e_loadS (b := b37) (off := o38 + (x14 : Int).toNat * 3) (cs := [.int .i64 ((x6.getD ((x14).toNat) z36).kind), .int .i64 ((x6.getD ((x14).toNat) z36).n), .slice A43 ((x6.getD ((x14).toNat) z36).text).length c44]) Try.underlying36 rfl (by kernel_rfl) (by kernel_rfl) (fun j_ u_ e_ => (hpx ((S18.still hq_).1.inv.cell (k42 j_ u_ e_))))) ?_
    obtain ⟨t47, u48, M⟩ := bnd M
    refine qcall (v := .bool t47) (d := 25) rfl rfl (by kernel_rfl) (fun w_ => e_call (l := [.tmp 20, .tmp 24]) (vs := [.agg #[.int .i64 ((x1.getD ((x14).toNat) z36).kind), .int .i64 ((x1.getD ((x14).toNat) z36).n), .slice A32 ((x1.getD ((x14).toNat) z36).text).length c33], .agg #[.int .i64 ((x6.getD ((x14).toNat) z36).kind), .int .i64 ((x6.getD ((x14).toNat) z36).n), .slice A43 ((x6.getD ((x14).toNat) z36).text).length c44]]) Try.func16 (by kernel_rfl) rfl (by kernel_rfl) rfl) (fun wq_ hq_ => (by obtain ⟨S_, K_⟩ := S18.still hq_; exact (laws_eqCell.calls k23 wq_ H (x1.getD ((x14).toNat) z36) A32 c33 (x6.getD ((x14).toNat) z36) A43 c44 h35 l34 h46 l45 S_.own0 t47 u48))) ?_
    refine qv (d := 26) rfl rfl (by kernel_rfl) (fun wq_ hq_ => e_notv (c := t47) (by kernel_rfl)) ?_
    refine wpQuiet_nil ?_
    intro w49 C52
    obtain ⟨S50, K51⟩ := S18.still C52
    refine then_n ?_
    by_cases q53 : ¬ (t47 = true)
    · replace M := ifp q53 M
      refine cond_t rfl (bt q53 (by kernel_rfl)) ?_
      refine wp_seq ?_
      refine wp_region_lit ?_
      refine lv (d := 4) rfl rfl (by kernel_rfl) (e_assign (v := .bool false) rfl) ?_
      refine wpList_nil ?_
      refine then_n ?_
      refine wp_ret ?_
      refine inb_r ?_
      refine then_r ?_
      refine then_r ?_
      refine inb_r ?_
      refine then_r ?_
      obtain rfl := Option.some.inj M
      exact ret1 rfl rfl  (show _ = .bool false from (by kernel_rfl)) ⟨rfl, S50.chg⟩
    replace M := ifn q53 M
    refine cond_f rfl (bf q53 (by kernel_rfl)) ?_
    refine wp_skip ?_
    refine inb_n ?_
    refine then_n ?_
    refine wp_region_lit ?_
    refine lv (d := 15) rfl rfl (by kernel_rfl) (e_move (v := .int .i64 x14) (by exact e17)) ?_
    refine lv (d := 16) rfl rfl (by kernel_rfl) (e_add (k := .i64) (a := x14) (b := 1) (by kernel_rfl) rfl) ?_
    refine lv (d := 5) rfl rfl (by kernel_rfl) (e_assign (v := .int .i64 (IntKind.i64.wrap (x14 + 1))) (by kernel_rfl)) ?_
    refine wpList_nil ?_
    refine then_n ?_
    exact ⟨k23, (by omega), _, (IntKind.i64.wrap (x14 + 1)), rfl, (by exact e15), (by exact e16), (by kernel_rfl), S50, M⟩
  replace M := ifn q24 M
  refine cond_f rfl (bf q24 (by kernel_rfl)) ?_
  refine wp_exit ?_
  refine then_e ?_
  refine then_e ?_
  refine inb_hit ?_
  refine then_n ?_
  refine wp_seq ?_
  refine wp_region_lit ?_
  refine lv (d := 4) rfl rfl (by kernel_rfl) (e_assign (v := .bool true) rfl) ?_
  refine wpList_nil ?_
  refine then_n ?_
  refine wp_ret ?_
  obtain rfl := Option.some.inj M
  exact ret1 rfl rfl  (show _ = .bool true from (by kernel_rfl)) ⟨rfl, S18.chg⟩

/-! laws_eqIntS -/
def laws_eqIntS.l0 : Nat → (List Int) → (List Int) → Int → Option Bool
  | 0, _, _, _ => none
  | k23 + 1, x1, x6, x14 => (if x14 < (x1.length : Int) then (if 0 ≤ x14 then (if x14 < (x6.length : Int) then (if (x1.getD ((x14).toNat) (0 : Int)) ≠ (x6.getD ((x14).toNat) (0 : Int)) then some false else (laws_eqIntS.l0 k23 x1 x6 (IntKind.i64.wrap (x14 + 1)))) else none) else none) else some true)
def laws_eqIntS.f (k : Nat) (x1 : List Int) (x6 : List Int) : Option Bool := (if (x1.length : Int) ≠ (x6.length : Int) then some false else (laws_eqIntS.l0 k x1 x6 0))
theorem laws_eqIntS.calls (k : Nat) (w : World) (H : Hp) (x1 : List Int) (A2 : Option Addr) (c3 : Nat) (x6 : List Int) (A7 : Option Addr) (c8 : Nat) (h4 : Rd tInt H A2 x1) (l5 : x1.length ≤ c3) (h9 : Rd tInt H A7 x6) (l10 : x6.length ≤ c8) (S : Own [] H w) (r : Bool) (M : laws_eqIntS.f k x1 x6 = some r) :
    Calls Try.prog 44 #[.slice A2 x1.length c3, .slice A7 x6.length c8] w (fun e e_w => e = .returned (.bool r) ∧ Chg no w e_w) := by
  rw [laws_eqIntS.f] at M
  refine enter (l := [.slice A2 x1.length c3, .slice A7 x6.length c8]) 26 Try.func44 rfl rfl rfl ?_
  have S0_ := S.st
  refine wp_seq ?_
  refine wp_region_lit ?_
  refine lv (d := 4) rfl rfl (by kernel_rfl) (e_assign (v := .bool false) rfl) ?_
  refine wpList_nil ?_
  refine then_n ?_
  refine wp_seq ?_
  refine wp_seq ?_
  refine wp_region_lit ?_
  refine lv (d := 6) rfl rfl (by kernel_rfl) (e_move (v := .slice A2 x1.length c3) (by kernel_rfl)) ?_
  refine lv (d := 7) rfl rfl (by kernel_rfl) (e_len (A := A2) (n := x1.length) (c := c3) Try.underlying23 (by kernel_rfl)) ?_
  refine lv (d := 8) rfl rfl (by kernel_rfl) (e_move (v := .slice A7 x6.length c8) (by kernel_rfl)) ?_
  refine lv (d := 9) rfl rfl (by kernel_rfl) (e_len (A := A7) (n := x6.length) (c := c8) Try.underlying23 (by kernel_rfl)) ?_
  refine lv (d := 10) rfl rfl (by kernel_rfl) (e_neq (k := .i64) (a := (x1.length : Int)) (b := (x6.length : Int)) (by kernel_rfl) (by kernel_rfl)) ?_
  refine wpList_nil ?_
  refine then_n ?_
  by_cases q11 : (x1.length : Int) ≠ (x6.length : Int)
  · replace M := ifp q11 M
    refine cond_t rfl (bt q11 (by kernel_rfl)) ?_
    refine wp_seq ?_
    refine wp_region_lit ?_
    refine lv (d := 4) rfl rfl (by kernel_rfl) (e_assign (v := .bool false) rfl) ?_
    refine wpList_nil ?_
    refine then_n ?_
    refine wp_ret ?_
    refine then_r ?_
    obtain rfl := Option.some.inj M
    exact ret1 rfl rfl  (show _ = .bool false from (by kernel_rfl)) ⟨rfl, S0_.chg⟩
  replace M := ifn q11 M
  refine cond_f rfl (bf q11 (by kernel_rfl)) ?_
  refine wp_skip ?_
  refine then_n ?_
  refine wp_seq ?_
  refine wp_seq ?_
  refine wp_region_lit ?_
  refine lv (d := 5) rfl rfl (by kernel_rfl) (e_assign (v := .int .i64 0) rfl) ?_
  refine wpList_nil ?_
  refine then_n ?_
  refine wp_block ?_
  refine wp_loop_g (fun k21 a22 w12 => ∃ (f13 : Nat → Value) (x14 : Int), a22 = mk 26 f13 ∧ f13 0 = .slice A2 x1.length c3 ∧ f13 1 = .slice A7 x6.length c8 ∧ f13 5 = .int .i64 x14 ∧ St (anyOf []) H w [] H w12 ∧ laws_eqIntS.l0 k21 x1 x6 x14 = some r) k ⟨_, 0, rfl, (by kernel_rfl), (by kernel_rfl), (by kernel_rfl), S0_, M⟩ ?_
  clear M
  rintro k21 a22 w12 ⟨f13, x14, rfl, e15, e16, e17, S18, M⟩
  rcases k21 with _ | k23
  · rw [laws_eqIntS.l0] at M
    cases M
  rw [laws_eqIntS.l0] at M
  refine wp_seq ?_
  refine wp_seq ?_
  refine wp_region_lit ?_
  refine lv (d := 11) rfl rfl (by kernel_rfl) (e_move (v := .int .i64 x14) (by exact e17)) ?_
  refine lv (d := 12) rfl rfl (by kernel_rfl) (e_move (v := .slice A2 x1.length c3) (by exact e15)) ?_
  refine lv (d := 13) rfl rfl (by kernel_rfl) (e_len (A := A2) (n := x1.length) (c := c3) Try.underlying23 (by kernel_rfl)) ?_
  refine lv (d := 14) rfl rfl (by kernel_rfl) (e_lss (k := .i64) (a := x14) (b := (x1.length : Int)) (by kernel_rfl) (by kernel_rfl)) ?_
  refine wpList_nil ?_
  refine then_n ?_
  by_cases q24 : x14 < (x1.length : Int)
  · replace M := ifp q24 M
    refine cond_t rfl (bt q24 (by kernel_rfl)) ?_
    refine wp_skip ?_
    refine then_n ?_
    refine wp_seq ?_
    refine wp_block ?_
    refine wp_seq ?_
    refine region_still (by kernel_rfl) (by kernel_rfl) S18 ?_
    intro w25 S26 K27
    refine sv (d := 17) rfl rfl (by kernel_rfl) (e_move (v := .slice A2 x1.length c3) (by exact e15)) ?_
    refine sv (d := 18) rfl rfl (by kernel_rfl) (e_move (v := .int .i64 x14) (by exact e17)) ?_
    obtain ⟨q28, M⟩ := chk M
    obtain ⟨b29, o30, e31⟩ := Rd.addr h4 (show (x14).toNat < x1.length by omega)
    obtain ⟨y32, r33, k34⟩ := Rd.at h4 e31 (getD_some (0 : Int) (show (x14).toNat < x1.length by omega))
    obtain rfl := r33
    refine sv (d := 19) rfl rfl (by kernel_rfl) (e_indexAddr (b := b29) (off := o30) (n := x1.length) (c := c3) (sz := 1) (i := x14) (k := .i64) Try.underlying23 e31 (by kernel_rfl) (by kernel_rfl) (by kernel_rfl) q28 q24) ?_
    refine sv (d := 20) rfl rfl (by kernel_rfl) (e_load1 (ad := ⟨b29, o30 + (x14 : Int).toNat * 1, none⟩) (v := .int .i64 (x1.getD ((x14).toNat) (0 : Int))) Try.underlying3 rfl (by kernel_rfl) (hpx (S26.inv.cell (k34 0 _ rfl)))) ?_
    refine sv (d := 21) rfl rfl (by kernel_rfl) (e_move (v := .slice A7 x6.length c8) (by exact e16)) ?_
    refine sv (d := 22) rfl rfl (by kernel_rfl) (e_move (v := .int .i64 x14) (by exact e17)) ?_
    obtain ⟨q35, M⟩ := chk M
    obtain ⟨b36, o37, e38⟩ := Rd.addr h9 (show (x14).toNat < x6.length by omega)
    obtain ⟨y39, r40, k41⟩ := Rd.at h9 e38 (getD_some (0 : Int) (show (x14).toNat < x6.length by omega))
    obtain rfl := r40
    refine sv (d := 23) rfl rfl (by kernel_rfl) (e_indexAddr (b := b36) (off := o37) (n := x6.length) (c := c8) (sz := 1) (i := x14) (k := .i64) Try.underlying23 e38 (by kernel_rfl) (by kernel_rfl) (by kernel_rfl) q28 q35) ?_
    refine sv (d := 24) rfl rfl (by kernel_rfl) (e_load1 (ad := ⟨b36, o37 + (x14 : Int).toNat * 1, none⟩) (v := .int .i64 (x6.getD ((x14).toNat) (0 : Int))) Try.underlying3 rfl (by kernel_rfl) (hpx (S26.inv.cell (k41 0 _ rfl)))) ?_
    refine sv (d := 25) rfl rfl (by kernel_rfl) (e_neq (k := .i64) (a := (x1.getD ((x14).toNat) (0 : Int))) (b := (x6.getD ((x14).toNat) (0 : Int))) (by kernel_rfl) (by kernel_rfl)) ?_
    refine wpStill_nil ?_
    refine then_n ?_
    by_cases q42 : (x1.getD ((x14).toNat) (0 : Int)) ≠ (x6.getD ((x14).toNat) (0 : Int))
    · replace M := ifp q42 M
      refine cond_t rfl (bt q42 (by kernel_rfl)) ?_
      refine wp_seq ?_
      refine wp_region_lit ?_
      refine lv (d := 4) rfl rfl (by kernel_rfl) (e_assign (v := .bool false) rfl) ?_
      refine wpList_nil ?_
      refine then_n ?_
      refine wp_ret ?_
      refine inb_r ?_
      refine then_r ?_
      refine then_r ?_
      refine inb_r ?_
      refine then_r ?_
      obtain rfl := Option.some.inj M
      exact ret1 rfl rfl  (show _ = .bool false from (by kernel_rfl)) ⟨rfl, S26.chg⟩
    replace M := ifn q42 M
    refine cond_f rfl (bf q42 (by kernel_rfl)) ?_
    refine wp_skip ?_
    refine inb_n ?_
    refine then_n ?_
    refine wp_region_lit ?_
    refine lv (d := 15) rfl rfl (by kernel_rfl) (e_move (v := .int .i64 x14) (by exact e17)) ?_
    refine lv (d := 16) rfl rfl (by kernel_rfl) (e_add (k := .i64) (a := x14) (b := 1) (by kernel_rfl) rfl) ?_
    refine lv (d := 5) rfl rfl (by kernel_rfl) (e_assign (v := .int .i64 (IntKind.i64.wrap (x14 + 1))) (by kernel_rfl)) ?_
    refine wpList_nil ?_
    refine then_n ?_
    exact ⟨k23, (by omega), _, (IntKind.i64.wrap (x14 + 1)), rfl, (by exact e15), (by exact e16), (by kernel_rfl), S26, M⟩
  replace M := ifn q24 M
  refine cond_f rfl (bf q24 (by kernel_rfl)) ?_
  refine wp_exit ?_
  refine then_e ?_
  refine then_e ?_
  refine inb_hit ?_
  refine then_n ?_
  refine wp_seq ?_
  refine wp_region_lit ?_
  refine lv (d := 4) rfl rfl (by kernel_rfl) (e_assign (v := .bool true) rfl) ?_
  refine wpList_nil ?_
  refine then_n ?_
  refine wp_ret ?_
  obtain rfl := Option.some.inj M
  exact ret1 rfl rfl  (show _ = .bool true from (by kernel_rfl)) ⟨rfl, S18.chg⟩

/-! laws_eqStore -/
def laws_eqStore.f (k : Nat) (x1 : Store) (x10 : Store) : Option Bool := ((laws_eqCellS.f k x1.cells x10.cells).bind fun t29 => (if ¬ (t29 = true) then some false else ((laws_eqIntS.f k x1.trail x10.trail).bind fun t36 => (if ¬ (t36 = true) then some false else some true))))
theorem laws_eqStore.calls (k : Nat) (w : World) (H : Hp) (x1 : Store) (A2 : Option Addr) (c3 : Nat) (A6 : Option Addr) (c7 : Nat) (x10 : Store) (A11 : Option Addr) (c12 : Nat) (A15 : Option Addr) (c16 : Nat) (h4 : Rd st36 H A2 x1.cells) (l5 : x1.cells.length ≤ c3) (h8 : Rd tInt H A6 x1.trail) (l9 : x1.trail.length ≤ c7) (h13 : Rd st36 H A11 x10.cells) (l14 : x10.cells.length ≤ c12) (h17 : Rd tInt H A15 x10.trail) (l18 : x10.trail.length ≤ c16) (S : Own [] H w) (r : Bool) (M : laws_eqStore.f k x1 x10 = some r) :
    Calls Try.prog 15 #[.agg #[.slice A2 x1.cells.length c3, .slice A6 x1.trail.length c7], .agg #[.slice A11 x10.cells.length c12, .slice A15 x10.trail.length c16]] w (fun e e_w => e = .returned (.bool r) ∧ Chg no w e_w) := by
  rw [laws_eqStore.f] at M
  refine enter (l := [.agg #[.slice A2 x1.cells.length c3, .slice A6 x1.trail.length c7], .agg #[.slice A11 x10.cells.length c12, .slice A15 x10.trail.length c16]]) 17 Try.func15 rfl rfl rfl ?_
  have S0_ := S.st
  refine wp_seq ?_
  refine wp_region_lit ?_
  refine lve (d := 2) rfl rfl (by kernel_rfl) (new_blk (v := fun g_ => .pointer (some ⟨g_, 0, none⟩)) (cs := #[.slice A2 x1.cells.length c3, .slice A6 x1.trail.length c7]) (t := 34) S0_ (by kernel_rfl)) ?_
  rintro _ w19 ⟨g20, rfl, b21, S22, K23⟩
  refine lve (d := 3) rfl rfl (by kernel_rfl) (new_blk (v := fun g_ => .pointer (some ⟨g_, 0, none⟩)) (cs := #[.slice A11 x10.cells.length c12, .slice A15 x10.trail.length c16]) (t := 34) S22 (by kernel_rfl)) ?_
  rintro _ w24 ⟨g25, rfl, b26, S27, K28⟩
  replace b21 := K28.blk 0 rfl b21
  refine lv (d := 4) rfl rfl (by kernel_rfl) (e_assign (v := .bool false) rfl) ?_
  refine wpList_nil ?_
  refine then_n ?_
  refine wp_seq ?_
  refine wp_seq ?_
  refine wp_region_lit ?_
  refine lv (d := 5) rfl rfl (by kernel_rfl) (e_fieldAddr (b := g20) (off := 0) (o := 0) Try.underlying34 rfl rfl (sz := 1) (by kernel_rfl) (by decide) (by kernel_rfl)) ?_
  refine lv (d := 6) rfl rfl (by kernel_rfl) (e_load1 (ad := ⟨g20, 0 + 0, none⟩) (v := .slice A2 x1.cells.length c3) Try.underlying32 rfl (by kernel_rfl) (blk_cell b21 rfl)) ?_
  refine lv (d := 7) rfl rfl (by kernel_rfl) (e_fieldAddr (b := g25) (off := 0) (o := 0) Try.underlying34 rfl rfl (sz := 1) (by kernel_rfl) (by decide) (by kernel_rfl)) ?_
  refine lv (d := 8) rfl rfl (by kernel_rfl) (e_load1 (ad := ⟨g25, 0 + 0, none⟩) (v := .slice A11 x10.cells.length c12) Try.underlying32 rfl (by kernel_rfl) (blk_cell b26 rfl)) ?_
  obtain ⟨t29, u30, M⟩ := bnd M
  refine lcall (d := 9) rfl rfl (by kernel_rfl) (e_call (l := [.tmp 6, .tmp 8]) (vs := [.slice A2 x1.cells.length c3, .slice A11 x10.cells.length c12]) Try.func24 (by kernel_rfl) rfl (by kernel_rfl) rfl) (laws_eqCellS.calls k w24 H x1.cells A2 c3 x10.cells A11 c12 h4 l5 h13 l14 S27.own0 t29 u30) ?_
  rintro _ w31 ⟨rfl, C32⟩
  refine ⟨_, rfl, ?_⟩
  obtain ⟨S33, K34⟩ := S27.still C32
  replace b26 := K34.blk 0 rfl b26
  replace b21 := K34.blk 1 rfl b21
  refine lv (d := 10) rfl rfl (by kernel_rfl) (e_notv (c := t29) (by kernel_rfl)) ?_
  refine wpList_nil ?_
  refine then_n ?_
  by_cases q35 : ¬ (t29 = true)
  · replace M := ifp q35 M
    refine cond_t rfl (bt q35 (by kernel_rfl)) ?_
    refine wp_seq ?_
    refine wp_region_lit ?_
    refine lv (d := 4) rfl rfl (by kernel_rfl) (e_assign (v := .bool false) rfl) ?_
    refine wpList_nil ?_
    refine then_n ?_
    refine wp_ret ?_
    refine then_r ?_
    obtain rfl := Option.some.inj M
    exact ret1 rfl rfl  (show _ = .bool false from (by kernel_rfl)) ⟨rfl, S33.chg⟩
  replace M := ifn q35 M
  refine cond_f rfl (bf q35 (by kernel_rfl)) ?_
  refine wp_skip ?_
  refine then_n ?_
  refine wp_seq ?_
  refine wp_seq ?_
  refine wp_region_lit ?_
  refine lv (d := 11) rfl rfl (by kernel_rfl) (e_fieldAddr (b := g20) (off := 0) (o := 1) Try.underlying34 rfl rfl (sz := 1) (by kernel_rfl) (by decide) (by kernel_rfl)) ?_
  refine lv (d := 12) rfl rfl (by kernel_rfl) (e_load1 (ad := ⟨g20, 0 + 1, none⟩) (v := .slice A6 x1.trail.length c7) Try.underlying23 rfl (by kernel_rfl) (blk_cell b21 rfl)) ?_
  refine lv (d := 13) rfl rfl (by kernel_rfl) (e_fieldAddr (b := g25) (off := 0) (o := 1) Try.underlying34 rfl rfl (sz := 1) (by kernel_rfl) (by decide) (by kernel_rfl)) ?_
  refine lv (d := 14) rfl rfl (by kernel_rfl) (e_load1 (ad := ⟨g25, 0 + 1, none⟩) (v := .slice A15 x10.trail.length c16) Try.underlying23 rfl (by kernel_rfl) (blk_cell b26 rfl)) ?_
  obtain ⟨t36, u37, M⟩ := bnd M
  refine lcall (d := 15) rfl rfl (by kernel_rfl) (e_call (l := [.tmp 12, .tmp 14]) (vs := [.slice A6 x1.trail.length c7, .slice A15 x10.trail.length c16]) Try.func44 (by kernel_rfl) rfl (by kernel_rfl) rfl) (laws_eqIntS.calls k w31 H x1.trail A6 c7 x10.trail A15 c16 h8 l9 h17 l18 S33.own0 t36 u37) ?_
  rintro _ w38 ⟨rfl, C39⟩
  refine ⟨_, rfl, ?_⟩
  obtain ⟨S40, K41⟩ := S33.still C39
  replace b26 := K41.blk 0 rfl b26
  replace b21 := K41.blk 1 rfl b21
  refine lv (d := 16) rfl rfl (by kernel_rfl) (e_notv (c := t36) (by kernel_rfl)) ?_
  refine wpList_nil ?_
  refine then_n ?_
  by_cases q42 : ¬ (t36 = true)
  · replace M := ifp q42 M
    refine cond_t rfl (bt q42 (by kernel_rfl)) ?_
    refine wp_seq ?_
    refine wp_region_lit ?_
    refine lv (d := 4) rfl rfl (by kernel_rfl) (e_assign (v := .bool false) rfl) ?_
    refine wpList_nil ?_
    refine then_n ?_
    refine wp_ret ?_
    refine then_r ?_
    obtain rfl := Option.some.inj M
    exact ret1 rfl rfl  (show _ = .bool false from (by kernel_rfl)) ⟨rfl, S40.chg⟩
  replace M := ifn q42 M
  refine cond_f rfl (bf q42 (by kernel_rfl)) ?_
  refine wp_skip ?_
  refine then_n ?_
  refine wp_seq ?_
  refine wp_region_lit ?_
  refine lv (d := 4) rfl rfl (by kernel_rfl) (e_assign (v := .bool true) rfl) ?_
  refine wpList_nil ?_
  refine then_n ?_
  refine wp_ret ?_
  obtain rfl := Option.some.inj M
  exact ret1 rfl rfl  (show _ = .bool true from (by kernel_rfl)) ⟨rfl, S40.chg⟩

/-! laws_markByteS -/
def laws_markByteS_2.l0 : Nat → (List UInt8) → Int → Int → (List UInt8) → Option (Int × (List UInt8))
  | 0, _, _, _, _ => none
  | k22 + 1, x1, x9, x10, x12 => (if x10 < (x1.length : Int) then (if 0 ≤ x10 then (laws_markByteS_2.l0 k22 x1 (IntKind.i64.wrap (x9 + 1)) (IntKind.i64.wrap (x10 + 1)) (x12.set ((x10).toNat) (b8 (x9)))) else none) else some (x9, x12))
def laws_markByteS_2.f (k : Nat) (x1 : List UInt8) (x6 : Int) : Option (Int × (List UInt8)) := (laws_markByteS_2.l0 k x1 x6 0 x1)
theorem laws_markByteS_2.calls (k : Nat) (w : World) (H : Hp) (x1 : List UInt8) (A2 : Option Addr) (c3 : Nat) (F5 : Foot) (x6 : Int) (h4 : Row tByte 5 H (hp w) F5 A2 c3 x1) (S : Own [F5] H w) (r : Int × (List UInt8)) (M : laws_markByteS_2.f k x1 x6 = some r) :
    Calls Try.prog 52 #[.slice A2 x1.length c3, .int .i64 x6] w (fun e e_w => ∃ (F_1 : Foot) (H_ : Hp), e = .returned (.int .i64 r.1) ∧ r.2.length = x1.length ∧ Row tByte 5 H_ (hp e_w) F_1 A2 c3 r.2 ∧ St (anyOf [F5]) H w [F_1] H_ e_w) := by
  rw [laws_markByteS_2.f] at M
  refine enter (l := [.slice A2 x1.length c3, .int .i64 x6]) 20 Try.func52 rfl rfl rfl ?_
  have S0_ := S.st
  refine wp_seq ?_
  refine wp_region_lit ?_
  refine lv (d := 4) rfl rfl (by kernel_rfl) (e_assign (v := .int .i64 0) rfl) ?_
  refine wpList_nil ?_
  refine then_n ?_
  refine wp_seq ?_
  refine wp_seq ?_
  refine wp_region_lit ?_
  refine lv (d := 5) rfl rfl (by kernel_rfl) (e_assign (v := .int .i64 0) rfl) ?_
  refine wpList_nil ?_
  refine then_n ?_
  refine wp_block ?_
  refine wp_loop_g (fun k20 a21 w7 => ∃ (f8 : Nat → Value) (x9 : Int) (x10 : Int) (F11 : Foot) (x12 : List UInt8), a21 = mk 20 f8 ∧ f8 0 = .slice A2 x1.length c3 ∧ f8 1 = .int .i64 x9 ∧ f8 5 = .int .i64 x10 ∧ Row tByte 5 H (hp w7) F11 A2 c3 x12 ∧ x12.length = x1.length ∧ St (anyOf [F5]) H w [F11] H w7 ∧ laws_markByteS_2.l0 k20 x1 x9 x10 x12 = some r) k ⟨_, x6, 0, F5, x1, rfl, (by kernel_rfl), (by kernel_rfl), (by kernel_rfl), h4, rfl, S0_, M⟩ ?_
  clear M
  rintro k20 a21 w7 ⟨f8, x9, x10, F11, x12, rfl, e14, e15, e16, h4, n13, S17, M⟩
  rcases k20 with _ | k22
  · rw [laws_markByteS_2.l0] at M
    cases M
  rw [laws_markByteS_2.l0] at M
  refine wp_seq ?_
  refine wp_seq ?_
  refine wp_region_lit ?_
  refine lv (d := 6) rfl rfl (by kernel_rfl) (e_move (v := .int .i64 x10) (by exact e16)) ?_
  refine lv (d := 7) rfl rfl (by kernel_rfl) (e_move (v := .slice A2 x1.length c3) (by exact e14)) ?_
  refine lv (d := 8) rfl rfl (by kernel_rfl) (e_len (A := A2) (n := x1.length) (c := c3) Try.underlying26 (by kernel_rfl)) ?_
  refine lv (d := 9) rfl rfl (by kernel_rfl) (e_lss (k := .i64) (a := x10) (b := (x1.length : Int)) (by kernel_rfl) (by kernel_rfl)) ?_
  refine wpList_nil ?_
  refine then_n ?_
  by_cases q23 : x10 < (x1.length : Int)
  · replace M := ifp q23 M
    refine cond_t rfl (bt q23 (by kernel_rfl)) ?_
    refine wp_skip ?_
    refine then_n ?_
    refine wp_seq ?_
    refine wp_block ?_
    refine wp_seq ?_
    refine wp_region_lit ?_
    refine lv (d := 12) rfl rfl (by kernel_rfl) (e_move (v := .slice A2 x1.length c3) (by exact e14)) ?_
    refine lv (d := 13) rfl rfl (by kernel_rfl) (e_move (v := .int .i64 x10) (by exact e16)) ?_
    refine lv (d := 14) rfl rfl (by kernel_rfl) (e_move (v := .int .i64 x9) (by exact e15)) ?_
    refine lv (d := 15) rfl rfl (by kernel_rfl) (e_conv_i8 (k := .i64) (a := x9) (by kernel_rfl) Try.underlying5 (by kernel_rfl)) ?_
    obtain ⟨q24, M⟩ := chk M
    obtain ⟨b25, e27⟩ := Row.addr h4 (show (x10).toNat < x12.length by have : x12.length = x1.length := n13; omega)
    refine lv (d := 16) rfl rfl (by kernel_rfl) (e_indexAddr (b := b25) (off := 0) (n := x1.length) (c := c3) (sz := 1) (i := x10) (k := .i64) Try.underlying26 e27 (by kernel_rfl) (by kernel_rfl) (by kernel_rfl) q24 q23) ?_
    have S28 := S17.unit
    have S29 := S28.pull (F := F11) (Fr := [no]) 1 rfl rfl
    refine lse rfl rfl (by kernel_rfl) (e_setel (d := tByte) (b := b25) (i := (x10).toNat) (v := .int .u8 ((b8 (x9)).toNat : Int)) (vs := [.int .u8 ((b8 (x9)).toNat : Int)]) (yv := (b8 (x9))) S29 (by kernel_rfl) e27 (by kernel_rfl) rfl (by kernel_rfl) h4 (show (x10).toNat < x12.length by have : x12.length = x1.length := n13; omega) rfl) ?_
    rintro w30 ⟨F32, h31, S33, K34⟩
    clear h4
    refine wpList_nil ?_
    refine then_n ?_
    refine wp_region_lit ?_
    refine lv (d := 17) rfl rfl (by kernel_rfl) (e_move (v := .int .i64 x9) (by exact e15)) ?_
    refine lv (d := 18) rfl rfl (by kernel_rfl) (e_add (k := .i64) (a := x9) (b := 1) (by kernel_rfl) rfl) ?_
    refine lv (d := 1) rfl rfl (by kernel_rfl) (e_assign (v := .int .i64 (IntKind.i64.wrap (x9 + 1))) (by kernel_rfl)) ?_
    refine wpList_nil ?_
    refine inb_n ?_
    refine then_n ?_
    refine wp_region_lit ?_
    refine lv (d := 10) rfl rfl (by kernel_rfl) (e_move (v := .int .i64 x10) (by exact e16)) ?_
    refine lv (d := 11) rfl rfl (by kernel_rfl) (e_add (k := .i64) (a := x10) (b := 1) (by kernel_rfl) rfl) ?_
    refine lv (d := 5) rfl rfl (by kernel_rfl) (e_assign (v := .int .i64 (IntKind.i64.wrap (x10 + 1))) (by kernel_rfl)) ?_
    refine wpList_nil ?_
    refine then_n ?_
    exact ⟨k22, (by omega), _, (IntKind.i64.wrap (x9 + 1)), (IntKind.i64.wrap (x10 + 1)), F32, (x12.set ((x10).toNat) (b8 (x9))), rfl, (by exact e14), (by kernel_rfl), (by kernel_rfl), h31, (List.length_set.trans n13), S33, M⟩
  replace M := ifn q23 M
  refine cond_f rfl (bf q23 (by kernel_rfl)) ?_
  refine wp_exit ?_
  refine then_e ?_
  refine then_e ?_
  refine inb_hit ?_
  refine then_n ?_
  refine wp_seq ?_
  refine wp_region_lit ?_
  refine lv (d := 19) rfl rfl (by kernel_rfl) (e_move (v := .int .i64 x9) (by exact e15)) ?_
  refine lv (d := 4) rfl rfl (by kernel_rfl) (e_assign (v := .int .i64 x9) (by kernel_rfl)) ?_
  refine wpList_nil ?_
  refine then_n ?_
  refine wp_ret ?_
  obtain rfl := Option.some.inj M
  exact ret1 rfl rfl  (show _ = .int .i64 x9 from (by kernel_rfl)) ⟨F11, H, rfl, n13, h4, S17⟩

/-! laws_markCellS -/
def laws_markCellS_2.l0 : Nat → (List Cell) → Int → Int → (List Cell) → Option (Int × (List Cell))
  | 0, _, _, _, _ => none
  | k24 + 1, x1, x11, x12, x14 => (if x12 < (x1.length : Int) then (if 0 ≤ x12 then ((laws_markByteS_2.f k24 ((((x14.set ((x12).toNat) ({(x14.getD ((x12).toNat) z36) with kind := x11})).set ((x12).toNat) ({((x14.set ((x12).toNat) ({(x14.getD ((x12).toNat) z36) with kind := x11})).getD ((x12).toNat) z36) with n := (IntKind.i64.wrap (x11 + 1))})).getD ((x12).toNat) z36).text) (IntKind.i64.wrap ((IntKind.i64.wrap (x11 + 1)) + 1))).bind fun t71 => (laws_markCellS_2.l0 k24 x1 t71.1 (IntKind.i64.wrap (x12 + 1)) (((x14.set ((x12).toNat) ({(x14.getD ((x12).toNat) z36) with kind := x11})).set ((x12).toNat) ({((x14.set ((x12).toNat) ({(x14.getD ((x12).toNat) z36) with kind := x11})).getD ((x12).toNat) z36) with n := (IntKind.i64.wrap (x11 + 1))})).set ((x12).toNat) ({(((x14.set ((x12).toNat) ({(x14.getD ((x12).toNat) z36) with kind := x11})).set ((x12).toNat) ({((x14.set ((x12).toNat) ({(x14.getD ((x12).toNat) z36) with kind := x11})).getD ((x12).toNat) z36) with n := (IntKind.i64.wrap (x11 + 1))})).getD ((x12).toNat) z36) with text := t71.2})))) else none) else some (x11, x14))
def laws_markCellS_2.f (k : Nat) (x1 : List Cell) (x6 : Int) : Option (Int × (List Cell)) := (laws_markCellS_2.l0 k x1 x6 0 x1)
theorem laws_markCellS_2.calls (k : Nat) (w : World) (H : Hp) (x1 : List Cell) (A2 : Option Addr) (c3 : Nat) (F5 : Foot) (x6 : Int) (h4 : Row st36 36 H (hp w) F5 A2 c3 x1) (S : Own [F5] H w) (r : Int × (List Cell)) (M : laws_markCellS_2.f k x1 x6 = some r) :
    Calls Try.prog 25 #[.slice A2 x1.length c3, .int .i64 x6] w (fun e e_w => ∃ (F_1 : Foot) (H_ : Hp), e = .returned (.int .i64 r.1) ∧ r.2.length = x1.length ∧ Row st36 36 H_ (hp e_w) F_1 A2 c3 r.2 ∧ St (anyOf [F5]) H w [F_1] H_ e_w) := by
  rw [laws_markCellS_2.f] at M
  refine enter (l := [.slice A2 x1.length c3, .int .i64 x6]) 34 Try.func25 rfl rfl rfl ?_
  have S0_ := S.st
  refine wp_seq ?_
  refine wp_region_lit ?_
  refine lv (d := 4) rfl rfl (by kernel_rfl) (e_assign (v := .int .i64 0) rfl) ?_
  refine wpList_nil ?_
  refine then_n ?_
  refine wp_seq ?_
  refine wp_seq ?_
  refine wp_region_lit ?_
  refine lv (d := 5) rfl rfl (by kernel_rfl) (e_assign (v := .int .i64 0) rfl) ?_
  refine wpList_nil ?_
  refine then_n ?_
  refine wp_block ?_
  refine wp_loop_g (fun k22 a23 w7 => ∃ (f8 : Nat → Value) (H9 : Hp) (x11 : Int) (x12 : Int) (F13 : Foot) (x14 : List Cell), a23 = mk 34 f8 ∧ f8 0 = .slice A2 x1.length c3 ∧ f8 1 = .int .i64 x11 ∧ f8 5 = .int .i64 x12 ∧ Row st36 36 H9 (hp w7) F13 A2 c3 x14 ∧ x14.length = x1.length ∧ Ext H H9 ∧ St (anyOf [F5]) H w [F13] H9 w7 ∧ laws_markCellS_2.l0 k22 x1 x11 x12 x14 = some r) k ⟨_, H, x6, 0, F5, x1, rfl, (by kernel_rfl), (by kernel_rfl), (by kernel_rfl), h4, rfl, (Ext.refl _), S0_, M⟩ ?_
  clear M
  rintro k22 a23 w7 ⟨f8, H9, x11, x12, F13, x14, rfl, e16, e17, e18, h4, n15, Y10, S19, M⟩
  rcases k22 with _ | k24
  · rw [laws_markCellS_2.l0] at M
    cases M
  rw [laws_markCellS_2.l0] at M
  refine wp_seq ?_
  refine wp_seq ?_
  refine wp_region_lit ?_
  refine lv (d := 6) rfl rfl (by kernel_rfl) (e_move (v := .int .i64 x12) (by exact e18)) ?_
  refine lv (d := 7) rfl rfl (by kernel_rfl) (e_move (v := .slice A2 x1.length c3) (by exact e16)) ?_
  refine lv (d := 8) rfl rfl (by kernel_rfl) (e_len (A := A2) (n := x1.length) (c := c3) Try.underlying32 (by kernel_rfl)) ?_
  refine lv (d := 9) rfl rfl (by kernel_rfl) (e_lss (k := .i64) (a := x12) (b := (x1.length : Int)) (by kernel_rfl) (by kernel_rfl)) ?_
  refine wpList_nil ?_
  refine then_n ?_
  by_cases q25 : x12 < (x1.length : Int)
  · replace M := ifp q25 M
    refine cond_t rfl (bt q25 (by kernel_rfl)) ?_
    refine wp_skip ?_
    refine then_n ?_
    refine wp_seq ?_
    refine wp_block ?_
    refine wp_seq ?_
    refine wp_region_lit ?_
    refine lv (d := 12) rfl rfl (by kernel_rfl) (e_move (v := .slice A2 x1.length c3) (by exact e16)) ?_
    refine lv (d := 13) rfl rfl (by kernel_rfl) (e_move (v := .int .i64 x12) (by exact e18)) ?_
    refine lv (d := 14) rfl rfl (by kernel_rfl) (e_move (v := .int .i64 x11) (by exact e17)) ?_
    obtain ⟨q26, M⟩ := chk M
    obtain ⟨b27, e29⟩ := Row.addr h4 (show (x12).toNat < x14.length by have : x14.length = x1.length := n15; omega)
    refine lv (d := 15) rfl rfl (by kernel_rfl) (e_indexAddr (b := b27) (off := 0) (n := x1.length) (c := c3) (sz := 3) (i := x12) (k := .i64) Try.underlying32 e29 (by kernel_rfl) (by kernel_rfl) (by kernel_rfl) q26 q25) ?_
    refine lv (d := 16) rfl rfl (by kernel_rfl) (e_fieldAddr (b := b27) (off := 0 + (x12 : Int).toNat * 3) (o := 0) Try.underlying36 rfl rfl (sz := 1) (by kernel_rfl) (by decide) (by kernel_rfl)) ?_
    have S30 := S19.unit
    have S31 := S30.pull (F := F13) (Fr := [no]) 1 rfl rfl
    refine lse rfl rfl (by kernel_rfl) (e_setpart (d := st36) (b := b27) (i := (x12).toNat) (j := 0) (v := .int .i64 x11) (vs := [.int .i64 x11]) (yv := {(x14.getD ((x12).toNat) z36) with kind := x11}) S31 (by kernel_rfl) e29 (by kernel_rfl) rfl (by kernel_rfl) h4 (getD_some z36 (show (x12).toNat < x14.length by have : x14.length = x1.length := n15; omega)) (Nat.le_of_ble_eq_true rfl) (List.forall_mem_cons.2 ⟨rfl, (fun _ h_ => by cases h_)⟩) (fun _ _ _ o_ => st36_u0 x11 o_)) ?_
    rintro w32 ⟨F34, h33, S35, K36⟩
    clear h4
    refine wpList_nil ?_
    refine then_n ?_
    refine wp_seq ?_
    refine wp_region_lit ?_
    refine lv (d := 17) rfl rfl (by kernel_rfl) (e_move (v := .int .i64 x11) (by exact e17)) ?_
    refine lv (d := 18) rfl rfl (by kernel_rfl) (e_add (k := .i64) (a := x11) (b := 1) (by kernel_rfl) rfl) ?_
    refine lv (d := 1) rfl rfl (by kernel_rfl) (e_assign (v := .int .i64 (IntKind.i64.wrap (x11 + 1))) (by kernel_rfl)) ?_
    refine wpList_nil ?_
    refine then_n ?_
    refine wp_seq ?_
    refine wp_region_lit ?_
    refine lv (d := 19) rfl rfl (by kernel_rfl) (e_move (v := .slice A2 x1.length c3) (by exact e16)) ?_
    refine lv (d := 20) rfl rfl (by kernel_rfl) (e_move (v := .int .i64 x12) (by exact e18)) ?_
    refine lv (d := 21) rfl rfl (by kernel_rfl) (e_move (v := .int .i64 (IntKind.i64.wrap (x11 + 1))) (by kernel_rfl)) ?_
    obtain ⟨b37, e39⟩ := Row.addr h33 (show (x12).toNat < (x14.set ((x12).toNat) ({(x14.getD ((x12).toNat) z36) with kind := x11})).length by have : (x14.set ((x12).toNat) ({(x14.getD ((x12).toNat) z36) with kind := x11})).length = x1.length := (List.length_set.trans n15); omega)
    refine lv (d := 22) rfl rfl (by kernel_rfl) (e_indexAddr (b := b37) (off := 0) (n := x1.length) (c := c3) (sz := 3) (i := x12) (k := .i64) Try.underlying32 e39 (by kernel_rfl) (by kernel_rfl) (by kernel_rfl) q26 q25) ?_
    refine lv (d := 23) rfl rfl (by kernel_rfl) (e_fieldAddr (b := b37) (off := 0 + (x12 : Int).toNat * 3) (o := 1) Try.underlying36 rfl rfl (sz := 1) (by kernel_rfl) (by decide) (by kernel_rfl)) ?_
    have S40 := S35.unit
    have S41 := S40.pull (F := F34) (Fr := [no]) 1 rfl rfl
    refine lse rfl rfl (by kernel_rfl) (e_setpart (d := st36) (b := b37) (i := (x12).toNat) (j := 1) (v := .int .i64 (IntKind.i64.wrap (x11 + 1))) (vs := [.int .i64 (IntKind.i64.wrap (x11 + 1))]) (yv := {((x14.set ((x12).toNat) ({(x14.getD ((x12).toNat) z36) with kind := x11})).getD ((x12).toNat) z36) with n := (IntKind.i64.wrap (x11 + 1))}) S41 (by kernel_rfl) e39 (by kernel_rfl) rfl (by kernel_rfl) h33 (getD_some z36 (show (x12).toNat < (x14.set ((x12).toNat) ({(x14.getD ((x12).toNat) z36) with kind := x11})).length by have : (x14.set ((x12).toNat) ({(x14.getD ((x12).toNat) z36) with kind := x11})).length = x1.length := (List.length_set.trans n15); omega)) (Nat.le_of_ble_eq_true rfl) (List.forall_mem_cons.2 ⟨rfl, (fun _ h_ => by cases h_)⟩) (fun _ _ _ o_ => st36_u1 (IntKind.i64.wrap (x11 + 1)) o_)) ?_
    rintro w42 ⟨F44, h43, S45, K46⟩
    clear h33
    refine wpList_nil ?_
    refine then_n ?_
    refine wp_seq ?_
    refine wp_region_lit ?_
    refine lv (d := 24) rfl rfl (by kernel_rfl) (e_move (v := .int .i64 (IntKind.i64.wrap (x11 + 1))) (by kernel_rfl)) ?_
    refine lv (d := 25) rfl rfl (by kernel_rfl) (e_add (k := .i64) (a := (IntKind.i64.wrap (x11 + 1))) (b := 1) (by kernel_rfl) rfl) ?_
    refine lv (d := 1) rfl rfl (by kernel_rfl) (e_assign (v := .int .i64 (IntKind.i64.wrap ((IntKind.i64.wrap (x11 + 1)) + 1))) (by kernel_rfl)) ?_
    refine wpList_nil ?_
    refine then_n ?_
    refine wp_region_lit ?_
    refine lv (d := 26) rfl rfl (by kernel_rfl) (e_move (v := .slice A2 x1.length c3) (by exact e16)) ?_
    refine lv (d := 27) rfl rfl (by kernel_rfl) (e_move (v := .int .i64 x12) (by exact e18)) ?_
    obtain ⟨b47, e49⟩ := Row.addr h43 (show (x12).toNat < ((x14.set ((x12).toNat) ({(x14.getD ((x12).toNat) z36) with kind := x11})).set ((x12).toNat) ({((x14.set ((x12).toNat) ({(x14.getD ((x12).toNat) z36) with kind := x11})).getD ((x12).toNat) z36) with n := (IntKind.i64.wrap (x11 + 1))})).length by have : ((x14.set ((x12).toNat) ({(x14.getD ((x12).toNat) z36) with kind := x11})).set ((x12).toNat) ({((x14.set ((x12).toNat) ({(x14.getD ((x12).toNat) z36) with kind := x11})).getD ((x12).toNat) z36) with n := (IntKind.i64.wrap (x11 + 1))})).length = x1.length := (List.length_set.trans (List.length_set.trans n15)); omega)
    refine lv (d := 28) rfl rfl (by kernel_rfl) (e_indexAddr (b := b47) (off := 0) (n := x1.length) (c := c3) (sz := 3) (i := x12) (k := .i64) Try.underlying32 e49 (by kernel_rfl) (by kernel_rfl) (by kernel_rfl) q26 q25) ?_
    refine lv (d := 29) rfl rfl (by kernel_rfl) (e_fieldAddr (b := b47) (off := 0 + (x12 : Int).toNat * 3) (o := 2) Try.underlying36 rfl rfl (sz := 1) (by kernel_rfl) (by decide) (by kernel_rfl)) ?_
    obtain ⟨y55, F56, G57, r58, d59, s60, k61, t62⟩ := Row.lend h43 e49 (getD_some z36 (show (x12).toNat < ((x14.set ((x12).toNat) ({(x14.getD ((x12).toNat) z36) with kind := x11})).set ((x12).toNat) ({((x14.set ((x12).toNat) ({(x14.getD ((x12).toNat) z36) with kind := x11})).getD ((x12).toNat) z36) with n := (IntKind.i64.wrap (x11 + 1))})).length by have : ((x14.set ((x12).toNat) ({(x14.getD ((x12).toNat) z36) with kind := x11})).set ((x12).toNat) ({((x14.set ((x12).toNat) ({(x14.getD ((x12).toNat) z36) with kind := x11})).getD ((x12).toNat) z36) with n := (IntKind.i64.wrap (x11 + 1))})).length = x1.length := (List.length_set.trans (List.length_set.trans n15)); omega))
    obtain ⟨A63, c64, F67, rfl, h65, s66⟩ := st36_openO r58
    refine lv (d := 30) rfl rfl (by kernel_rfl) (e_load1 (ad := ⟨b47, 0 + (x12 : Int).toNat * 3 + 2, none⟩) (v := .slice A63 ((((x14.set ((x12).toNat) ({(x14.getD ((x12).toNat) z36) with kind := x11})).set ((x12).toNat) ({((x14.set ((x12).toNat) ({(x14.getD ((x12).toNat) z36) with kind := x11})).getD ((x12).toNat) z36) with n := (IntKind.i64.wrap (x11 + 1))})).getD ((x12).toNat) z36).text).length c64) Try.underlying26 rfl (by kernel_rfl) (hpx (k61 2 _ rfl))) ?_
    refine lv (d := 31) rfl rfl (by kernel_rfl) (e_move (v := .int .i64 (IntKind.i64.wrap ((IntKind.i64.wrap (x11 + 1)) + 1))) (by kernel_rfl)) ?_
    have S68 := S45.part d59 s60
    have S69 := S68.sub s66
    have q70 : ∀ b_, G57 b_ → hp w42 b_ = hp w42 b_ := fun _ _ => rfl
    obtain ⟨t71, u72, M⟩ := bnd M
    refine lcall (d := 32) rfl rfl (by kernel_rfl) (e_call (l := [.tmp 30, .tmp 31]) (vs := [.slice A63 ((((x14.set ((x12).toNat) ({(x14.getD ((x12).toNat) z36) with kind := x11})).set ((x12).toNat) ({((x14.set ((x12).toNat) ({(x14.getD ((x12).toNat) z36) with kind := x11})).getD ((x12).toNat) z36) with n := (IntKind.i64.wrap (x11 + 1))})).getD ((x12).toNat) z36).text).length c64, .int .i64 (IntKind.i64.wrap ((IntKind.i64.wrap (x11 + 1)) + 1))]) Try.func52 (by kernel_rfl) rfl (by kernel_rfl) rfl) (laws_markByteS_2.calls k24 w42 H9 ((((x14.set ((x12).toNat) ({(x14.getD ((x12).toNat) z36) with kind := x11})).set ((x12).toNat) ({((x14.set ((x12).toNat) ({(x14.getD ((x12).toNat) z36) with kind := x11})).getD ((x12).toNat) z36) with n := (IntKind.i64.wrap (x11 + 1))})).getD ((x12).toNat) z36).text) A63 c64 F67 (IntKind.i64.wrap ((IntKind.i64.wrap (x11 + 1)) + 1)) h65 (St.own' (Fa := [F67]) (Fr := [G57]) S69) t71 u72) ?_
    rintro _ w73 ⟨F77, H74, rfl, n78, h76, T75⟩
    refine ⟨_, rfl, ?_⟩
    obtain ⟨S79, K80⟩ := St.call (Fa := [F67]) (Fr := [G57]) S69 T75
    replace q70 := fun b_ h_ => (K80.at 0 rfl b_ h_).trans (q70 b_ h_)
    have E81 := T75.ext
    have S82 := S79.pull (F := G57) (Fr := [F77]) 1 rfl rfl
    have S83 := S82.pull (F := F77) (Fr := [G57]) 1 rfl rfl
    have h84 := t62 H74 (hp w73) F77 ({(((x14.set ((x12).toNat) ({(x14.getD ((x12).toNat) z36) with kind := x11})).set ((x12).toNat) ({((x14.set ((x12).toNat) ({(x14.getD ((x12).toNat) z36) with kind := x11})).getD ((x12).toNat) z36) with n := (IntKind.i64.wrap (x11 + 1))})).getD ((x12).toNat) z36) with text := t71.2} : Cell) E81 q70 (by have q_ := st36_mkO (x := {(((x14.set ((x12).toNat) ({(x14.getD ((x12).toNat) z36) with kind := x11})).set ((x12).toNat) ({((x14.set ((x12).toNat) ({(x14.getD ((x12).toNat) z36) with kind := x11})).getD ((x12).toNat) z36) with n := (IntKind.i64.wrap (x11 + 1))})).getD ((x12).toNat) z36) with text := t71.2}) h76; rw [show t71.2.length = ((((x14.set ((x12).toNat) ({(x14.getD ((x12).toNat) z36) with kind := x11})).set ((x12).toNat) ({((x14.set ((x12).toNat) ({(x14.getD ((x12).toNat) z36) with kind := x11})).getD ((x12).toNat) z36) with n := (IntKind.i64.wrap (x11 + 1))})).getD ((x12).toNat) z36).text).length from n78] at q_; exact q_) S83.dj
    have S85 := S83.join
    refine lv (d := 1) rfl rfl (by kernel_rfl) (e_assign (v := .int .i64 t71.1) (by kernel_rfl)) ?_
    refine wpList_nil ?_
    refine inb_n ?_
    refine then_n ?_
    refine wp_region_lit ?_
    refine lv (d := 10) rfl rfl (by kernel_rfl) (e_move (v := .int .i64 x12) (by exact e18)) ?_
    refine lv (d := 11) rfl rfl (by kernel_rfl) (e_add (k := .i64) (a := x12) (b := 1) (by kernel_rfl) rfl) ?_
    refine lv (d := 5) rfl rfl (by kernel_rfl) (e_assign (v := .int .i64 (IntKind.i64.wrap (x12 + 1))) (by kernel_rfl)) ?_
    refine wpList_nil ?_
    refine then_n ?_
    exact ⟨k24, (by omega), _, H74, t71.1, (IntKind.i64.wrap (x12 + 1)), (or2 F77 G57), (((x14.set ((x12).toNat) ({(x14.getD ((x12).toNat) z36) with kind := x11})).set ((x12).toNat) ({((x14.set ((x12).toNat) ({(x14.getD ((x12).toNat) z36) with kind := x11})).getD ((x12).toNat) z36) with n := (IntKind.i64.wrap (x11 + 1))})).set ((x12).toNat) ({(((x14.set ((x12).toNat) ({(x14.getD ((x12).toNat) z36) with kind := x11})).set ((x12).toNat) ({((x14.set ((x12).toNat) ({(x14.getD ((x12).toNat) z36) with kind := x11})).getD ((x12).toNat) z36) with n := (IntKind.i64.wrap (x11 + 1))})).getD ((x12).toNat) z36) with text := t71.2})), rfl, (by exact e16), (by kernel_rfl), (by kernel_rfl), h84, (List.length_set.trans (List.length_set.trans (List.length_set.trans n15))), (Y10.trans E81), S85, M⟩
  replace M := ifn q25 M
  refine cond_f rfl (bf q25 (by kernel_rfl)) ?_
  refine wp_exit ?_
  refine then_e ?_
  refine then_e ?_
  refine inb_hit ?_
  refine then_n ?_
  refine wp_seq ?_
  refine wp_region_lit ?_
  refine lv (d := 33) rfl rfl (by kernel_rfl) (e_move (v := .int .i64 x11) (by exact e17)) ?_
  refine lv (d := 4) rfl rfl (by kernel_rfl) (e_assign (v := .int .i64 x11) (by kernel_rfl)) ?_
  refine wpList_nil ?_
  refine then_n ?_
  refine wp_ret ?_
  obtain rfl := Option.some.inj M
  exact ret1 rfl rfl  (show _ = .int .i64 x11 from (by kernel_rfl)) ⟨F13, H9, rfl, n15, h4, S19⟩

/-! laws_markIntS -/
def laws_markIntS_2.l0 : Nat → (List Int) → Int → Int → (List Int) → Option (Int × (List Int))
  | 0, _, _, _, _ => none
  | k22 + 1, x1, x9, x10, x12 => (if x10 < (x1.length : Int) then (if 0 ≤ x10 then (laws_markIntS_2.l0 k22 x1 (IntKind.i64.wrap (x9 + 1)) (IntKind.i64.wrap (x10 + 1)) (x12.set ((x10).toNat) x9)) else none) else some (x9, x12))
def laws_markIntS_2.f (k : Nat) (x1 : List Int) (x6 : Int) : Option (Int × (List Int)) := (laws_markIntS_2.l0 k x1 x6 0 x1)
theorem laws_markIntS_2.calls (k : Nat) (w : World) (H : Hp) (x1 : List Int) (A2 : Option Addr) (c3 : Nat) (F5 : Foot) (x6 : Int) (h4 : Row tInt 3 H (hp w) F5 A2 c3 x1) (S : Own [F5] H w) (r : Int × (List Int)) (M : laws_markIntS_2.f k x1 x6 = some r) :
    Calls Try.prog 51 #[.slice A2 x1.length c3, .int .i64 x6] w (fun e e_w => ∃ (F_1 : Foot) (H_ : Hp), e = .returned (.int .i64 r.1) ∧ r.2.length = x1.length ∧ Row tInt 3 H_ (hp e_w) F_1 A2 c3 r.2 ∧ St (anyOf [F5]) H w [F_1] H_ e_w) := by
  rw [laws_markIntS_2.f] at M
  refine enter (l := [.slice A2 x1.length c3, .int .i64 x6]) 19 Try.func51 rfl rfl rfl ?_
  have S0_ := S.st
  refine wp_seq ?_
  refine wp_region_lit ?_
  refine lv (d := 4) rfl rfl (by kernel_rfl) (e_assign (v := .int .i64 0) rfl) ?_
  refine wpList_nil ?_
  refine then_n ?_
  refine wp_seq ?_
  refine wp_seq ?_
  refine wp_region_lit ?_
  refine lv (d := 5) rfl rfl (by kernel_rfl) (e_assign (v := .int .i64 0) rfl) ?_
  refine wpList_nil ?_
  refine then_n ?_
  refine wp_block ?_
  refine wp_loop_g (fun k20 a21 w7 => ∃ (f8 : Nat → Value) (x9 : Int) (x10 : Int) (F11 : Foot) (x12 : List Int), a21 = mk 19 f8 ∧ f8 0 = .slice A2 x1.length c3 ∧ f8 1 = .int .i64 x9 ∧ f8 5 = .int .i64 x10 ∧ Row tInt 3 H (hp w7) F11 A2 c3 x12 ∧ x12.length = x1.length ∧ St (anyOf [F5]) H w [F11] H w7 ∧ laws_markIntS_2.l0 k20 x1 x9 x10 x12 = some r) k ⟨_, x6, 0, F5, x1, rfl, (by kernel_rfl), (by kernel_rfl), (by kernel_rfl), h4, rfl, S0_, M⟩ ?_
  clear M
  rintro k20 a21 w7 ⟨f8, x9, x10, F11, x12, rfl, e14, e15, e16, h4, n13, S17, M⟩
  rcases k20 with _ | k22
  · rw [laws_markIntS_2.l0] at M
    cases M
  rw [laws_markIntS_2.l0] at M
  refine wp_seq ?_
  refine wp_seq ?_
  refine wp_region_lit ?_
  refine lv (d := 6) rfl rfl (by kernel_rfl) (e_move (v := .int .i64 x10) (by exact e16)) ?_
  refine lv (d := 7) rfl rfl (by kernel_rfl) (e_move (v := .slice A2 x1.length c3) (by exact e14)) ?_
  refine lv (d := 8) rfl rfl (by kernel_rfl) (e_len (A := A2) (n := x1.length) (c := c3) Try.underlying23 (by kernel_rfl)) ?_
  refine lv (d := 9) rfl rfl (by kernel_rfl) (e_lss (k := .i64) (a := x10) (b := (x1.length : Int)) (by kernel_rfl) (by kernel_rfl)) ?_
  refine wpList_nil ?_
  refine then_n ?_
  by_cases q23 : x10 < (x1.length : Int)
  · replace M := ifp q23 M
    refine cond_t rfl (bt q23 (by kernel_rfl)) ?_
    refine wp_skip ?_
    refine then_n ?_
    refine wp_seq ?_
    refine wp_block ?_
    refine wp_seq ?_
    refine wp_region_lit ?_
    refine lv (d := 12) rfl rfl (by kernel_rfl) (e_move (v := .slice A2 x1.length c3) (by exact e14)) ?_
    refine lv (d := 13) rfl rfl (by kernel_rfl) (e_move (v := .int .i64 x10) (by exact e16)) ?_
    refine lv (d := 14) rfl rfl (by kernel_rfl) (e_move (v := .int .i64 x9) (by exact e15)) ?_
    obtain ⟨q24, M⟩ := chk M
    obtain ⟨b25, e27⟩ := Row.addr h4 (show (x10).toNat < x12.length by have : x12.length = x1.length := n13; omega)
    refine lv (d := 15) rfl rfl (by kernel_rfl) (e_indexAddr (b := b25) (off := 0) (n := x1.length) (c := c3) (sz := 1) (i := x10) (k := .i64) Try.underlying23 e27 (by kernel_rfl) (by kernel_rfl) (by kernel_rfl) q24 q23) ?_
    have S28 := S17.unit
    have S29 := S28.pull (F := F11) (Fr := [no]) 1 rfl rfl
    refine lse rfl rfl (by kernel_rfl) (e_setel (d := tInt) (b := b25) (i := (x10).toNat) (v := .int .i64 x9) (vs := [.int .i64 x9]) (yv := x9) S29 (by kernel_rfl) e27 (by kernel_rfl) rfl (by kernel_rfl) h4 (show (x10).toNat < x12.length by have : x12.length = x1.length := n13; omega) rfl) ?_
    rintro w30 ⟨F32, h31, S33, K34⟩
    clear h4
    refine wpList_nil ?_
    refine then_n ?_
    refine wp_region_lit ?_
    refine lv (d := 16) rfl rfl (by kernel_rfl) (e_move (v := .int .i64 x9) (by exact e15)) ?_
    refine lv (d := 17) rfl rfl (by kernel_rfl) (e_add (k := .i64) (a := x9) (b := 1) (by kernel_rfl) rfl) ?_
    refine lv (d := 1) rfl rfl (by kernel_rfl) (e_assign (v := .int .i64 (IntKind.i64.wrap (x9 + 1))) (by kernel_rfl)) ?_
    refine wpList_nil ?_
    refine inb_n ?_
    refine then_n ?_
    refine wp_region_lit ?_
    refine lv (d := 10) rfl rfl (by kernel_rfl) (e_move (v := .int .i64 x10) (by exact e16)) ?_
    refine lv (d := 11) rfl rfl (by kernel_rfl) (e_add (k := .i64) (a := x10) (b := 1) (by kernel_rfl) rfl) ?_
    refine lv (d := 5) rfl rfl (by kernel_rfl) (e_assign (v := .int .i64 (IntKind.i64.wrap (x10 + 1))) (by kernel_rfl)) ?_
    refine wpList_nil ?_
    refine then_n ?_
    exact ⟨k22, (by omega), _, (IntKind.i64.wrap (x9 + 1)), (IntKind.i64.wrap (x10 + 1)), F32, (x12.set ((x10).toNat) x9), rfl, (by exact e14), (by kernel_rfl), (by kernel_rfl), h31, (List.length_set.trans n13), S33, M⟩
  replace M := ifn q23 M
  refine cond_f rfl (bf q23 (by kernel_rfl)) ?_
  refine wp_exit ?_
  refine then_e ?_
  refine then_e ?_
  refine inb_hit ?_
  refine then_n ?_
  refine wp_seq ?_
  refine wp_region_lit ?_
  refine lv (d := 18) rfl rfl (by kernel_rfl) (e_move (v := .int .i64 x9) (by exact e15)) ?_
  refine lv (d := 4) rfl rfl (by kernel_rfl) (e_assign (v := .int .i64 x9) (by kernel_rfl)) ?_
  refine wpList_nil ?_
  refine then_n ?_
  refine wp_ret ?_
  obtain rfl := Option.some.inj M
  exact ret1 rfl rfl  (show _ = .int .i64 x9 from (by kernel_rfl)) ⟨F11, H, rfl, n13, h4, S17⟩

/-! laws_markStore -/
def laws_markStore_2.f (k : Nat) (x1 : Store) (x10 : Int) : Option (Int × (List Cell) × (List Int)) := ((laws_markCellS_2.f k x1.cells x10).bind fun t17 => ((laws_markIntS_2.f k x1.trail t17.1).bind fun t29 => some (t29.1, t17.2, t29.2)))
theorem laws_markStore_2.calls (k : Nat) (w : World) (H : Hp) (x1 : Store) (A2 : Option Addr) (c3 : Nat) (F5 : Foot) (A6 : Option Addr) (c7 : Nat) (F9 : Foot) (x10 : Int) (h4 : Row st36 36 H (hp w) F5 A2 c3 x1.cells) (h8 : Row tInt 3 H (hp w) F9 A6 c7 x1.trail) (S : Own [F5, F9] H w) (r : Int × (List Cell) × (List Int)) (M : laws_markStore_2.f k x1 x10 = some r) :
    Calls Try.prog 19 #[.agg #[.slice A2 x1.cells.length c3, .slice A6 x1.trail.length c7], .int .i64 x10] w (fun e e_w => ∃ (F_1 : Foot) (F_2 : Foot) (H_ : Hp), e = .returned (.int .i64 r.1) ∧ r.2.1.length = x1.cells.length ∧ Row st36 36 H_ (hp e_w) F_1 A2 c3 r.2.1 ∧ r.2.2.length = x1.trail.length ∧ Row tInt 3 H_ (hp e_w) F_2 A6 c7 r.2.2 ∧ St (anyOf [F5, F9]) H w [F_1, F_2] H_ e_w) := by
  rw [laws_markStore_2.f] at M
  refine enter (l := [.agg #[.slice A2 x1.cells.length c3, .slice A6 x1.trail.length c7], .int .i64 x10]) 14 Try.func19 rfl rfl rfl ?_
  have S0_ := S.st
  refine wp_seq ?_
  refine wp_region_lit ?_
  refine lve (d := 2) rfl rfl (by kernel_rfl) (new_blk (v := fun g_ => .pointer (some ⟨g_, 0, none⟩)) (cs := #[.slice A2 x1.cells.length c3, .slice A6 x1.trail.length c7]) (t := 34) S0_ (by kernel_rfl)) ?_
  rintro _ w11 ⟨g12, rfl, b13, S14, K15⟩
  replace h4 := h4.move (K15.at 0 rfl)
  replace h8 := h8.move (K15.at 1 rfl)
  refine lv (d := 4) rfl rfl (by kernel_rfl) (e_assign (v := .int .i64 0) rfl) ?_
  refine wpList_nil ?_
  refine then_n ?_
  refine wp_seq ?_
  refine wp_region_lit ?_
  refine lv (d := 5) rfl rfl (by kernel_rfl) (e_fieldAddr (b := g12) (off := 0) (o := 0) Try.underlying34 rfl rfl (sz := 1) (by kernel_rfl) (by decide) (by kernel_rfl)) ?_
  refine lv (d := 6) rfl rfl (by kernel_rfl) (e_load1 (ad := ⟨g12, 0 + 0, none⟩) (v := .slice A2 x1.cells.length c3) Try.underlying32 rfl (by kernel_rfl) (blk_cell b13 rfl)) ?_
  refine lv (d := 7) rfl rfl (by kernel_rfl) (e_move (v := .int .i64 x10) (by kernel_rfl)) ?_
  have S16 := S14.pull (F := F5) (Fr := [(is g12), F9]) 1 rfl rfl
  obtain ⟨t17, u18, M⟩ := bnd M
  refine lcall (d := 8) rfl rfl (by kernel_rfl) (e_call (l := [.tmp 6, .tmp 7]) (vs := [.slice A2 x1.cells.length c3, .int .i64 x10]) Try.func25 (by kernel_rfl) rfl (by kernel_rfl) rfl) (laws_markCellS_2.calls k w11 H x1.cells A2 c3 F5 x10 h4 (St.own' (Fa := [F5]) (Fr := [(is g12), F9]) S16) t17 u18) ?_
  rintro _ w19 ⟨F23, H20, rfl, n24, h22, T21⟩
  refine ⟨_, rfl, ?_⟩
  obtain ⟨S25, K26⟩ := St.call (Fa := [F5]) (Fr := [(is g12), F9]) S16 T21
  replace b13 := K26.blk 0 rfl b13
  replace h8 := h8.move (K26.at 1 rfl)
  have E27 := T21.ext
  replace h8 := h8.ext E27
  refine lv (d := 1) rfl rfl (by kernel_rfl) (e_assign (v := .int .i64 t17.1) (by kernel_rfl)) ?_
  refine wpList_nil ?_
  refine then_n ?_
  refine wp_seq ?_
  refine wp_region_lit ?_
  refine lv (d := 9) rfl rfl (by kernel_rfl) (e_fieldAddr (b := g12) (off := 0) (o := 1) Try.underlying34 rfl rfl (sz := 1) (by kernel_rfl) (by decide) (by kernel_rfl)) ?_
  refine lv (d := 10) rfl rfl (by kernel_rfl) (e_load1 (ad := ⟨g12, 0 + 1, none⟩) (v := .slice A6 x1.trail.length c7) Try.underlying23 rfl (by kernel_rfl) (blk_cell b13 rfl)) ?_
  refine lv (d := 11) rfl rfl (by kernel_rfl) (e_move (v := .int .i64 t17.1) (by kernel_rfl)) ?_
  have S28 := S25.pull (F := F9) (Fr := [F23, (is g12)]) 2 rfl rfl
  obtain ⟨t29, u30, M⟩ := bnd M
  refine lcall (d := 12) rfl rfl (by kernel_rfl) (e_call (l := [.tmp 10, .tmp 11]) (vs := [.slice A6 x1.trail.length c7, .int .i64 t17.1]) Try.func51 (by kernel_rfl) rfl (by kernel_rfl) rfl) (laws_markIntS_2.calls k w19 H20 x1.trail A6 c7 F9 t17.1 h8 (St.own' (Fa := [F9]) (Fr := [F23, (is g12)]) S28) t29 u30) ?_
  rintro _ w31 ⟨F35, H32, rfl, n36, h34, T33⟩
  refine ⟨_, rfl, ?_⟩
  obtain ⟨S37, K38⟩ := St.call (Fa := [F9]) (Fr := [F23, (is g12)]) S28 T33
  replace h22 := h22.move (K38.at 0 rfl)
  replace b13 := K38.blk 1 rfl b13
  have E39 := T33.ext
  replace h22 := h22.ext E39
  refine lv (d := 1) rfl rfl (by kernel_rfl) (e_assign (v := .int .i64 t29.1) (by kernel_rfl)) ?_
  refine wpList_nil ?_
  refine then_n ?_
  refine wp_seq ?_
  refine wp_region_lit ?_
  refine lv (d := 13) rfl rfl (by kernel_rfl) (e_move (v := .int .i64 t29.1) (by kernel_rfl)) ?_
  refine lv (d := 4) rfl rfl (by kernel_rfl) (e_assign (v := .int .i64 t29.1) (by kernel_rfl)) ?_
  refine wpList_nil ?_
  refine then_n ?_
  refine wp_ret ?_
  obtain rfl := Option.some.inj M
  have S40 := S37.pull (F := F23) (Fr := [F35, (is g12)]) 1 rfl rfl
  have S41 := St.first (Fa := [F23, F35]) (Fr := [(is g12)]) S40
  exact ret1 rfl rfl  (show _ = .int .i64 t29.1 from (by kernel_rfl)) ⟨F23, F35, H32, rfl, n24, h22, n36, h34, S41⟩

/-! laws_markCell -/
def laws_markCell_2.f (k : Nat) (x1 : Cell) (x6 : Int) : Option (Int × (List UInt8)) := ((laws_markByteS_2.f k x1.text x6).bind fun t13 => some (t13.1, t13.2))
theorem laws_markCell_2.calls (k : Nat) (w : World) (H : Hp) (x1 : Cell) (A2 : Option Addr) (c3 : Nat) (F5 : Foot) (x6 : Int) (h4 : Row tByte 5 H (hp w) F5 A2 c3 x1.text) (S : Own [F5] H w) (r : Int × (List UInt8)) (M : laws_markCell_2.f k x1 x6 = some r) :
    Calls Try.prog 20 #[.agg #[.int .i64 x1.kind, .int .i64 x1.n, .slice A2 x1.text.length c3], .int .i64 x6] w (fun e e_w => ∃ (F_1 : Foot) (H_ : Hp), e = .returned (.int .i64 r.1) ∧ r.2.length = x1.text.length ∧ Row tByte 5 H_ (hp e_w) F_1 A2 c3 r.2 ∧ St (anyOf [F5]) H w [F_1] H_ e_w) := by
  rw [laws_markCell_2.f] at M
  refine enter (l := [.agg #[.int .i64 x1.kind, .int .i64 x1.n, .slice A2 x1.text.length c3], .int .i64 x6]) 10 Try.func20 rfl rfl rfl ?_
  have S0_ := S.st
  refine wp_seq ?_
  refine wp_region_lit ?_
  refine lve (d := 2) rfl rfl (by kernel_rfl) (new_blk (v := fun g_ => .pointer (some ⟨g_, 0, none⟩)) (cs := #[.int .i64 x1.kind, .int .i64 x1.n, .slice A2 x1.text.length c3]) (t := 36) S0_ (by kernel_rfl)) ?_
  rintro _ w7 ⟨g8, rfl, b9, S10, K11⟩
  replace h4 := h4.move (K11.at 0 rfl)
  refine lv (d := 4) rfl rfl (by kernel_rfl) (e_assign (v := .int .i64 0) rfl) ?_
  refine wpList_nil ?_
  refine then_n ?_
  refine wp_seq ?_
  refine wp_region_lit ?_
  refine lv (d := 5) rfl rfl (by kernel_rfl) (e_fieldAddr (b := g8) (off := 0) (o := 2) Try.underlying36 rfl rfl (sz := 1) (by kernel_rfl) (by decide) (by kernel_rfl)) ?_
  refine lv (d := 6) rfl rfl (by kernel_rfl) (e_load1 (ad := ⟨g8, 0 + 2, none⟩) (v := .slice A2 x1.text.length c3) Try.underlying26 rfl (by kernel_rfl) (blk_cell b9 rfl)) ?_
  refine lv (d := 7) rfl rfl (by kernel_rfl) (e_move (v := .int .i64 x6) (by kernel_rfl)) ?_
  have S12 := S10.pull (F := F5) (Fr := [(is g8)]) 1 rfl rfl
  obtain ⟨t13, u14, M⟩ := bnd M
  refine lcall (d := 8) rfl rfl (by kernel_rfl) (e_call (l := [.tmp 6, .tmp 7]) (vs := [.slice A2 x1.text.length c3, .int .i64 x6]) Try.func52 (by kernel_rfl) rfl (by kernel_rfl) rfl) (laws_markByteS_2.calls k w7 H x1.text A2 c3 F5 x6 h4 (St.own' (Fa := [F5]) (Fr := [(is g8)]) S12) t13 u14) ?_
  rintro _ w15 ⟨F19, H16, rfl, n20, h18, T17⟩
  refine ⟨_, rfl, ?_⟩
  obtain ⟨S21, K22⟩ := St.call (Fa := [F5]) (Fr := [(is g8)]) S12 T17
  replace b9 := K22.blk 0 rfl b9
  have E23 := T17.ext
  refine lv (d := 1) rfl rfl (by kernel_rfl) (e_assign (v := .int .i64 t13.1) (by kernel_rfl)) ?_
  refine wpList_nil ?_
  refine then_n ?_
  refine wp_seq ?_
  refine wp_region_lit ?_
  refine lv (d := 9) rfl rfl (by kernel_rfl) (e_move (v := .int .i64 t13.1) (by kernel_rfl)) ?_
  refine lv (d := 4) rfl rfl (by kernel_rfl) (e_assign (v := .int .i64 t13.1) (by kernel_rfl)) ?_
  refine wpList_nil ?_
  refine then_n ?_
  refine wp_ret ?_
  obtain rfl := Option.some.inj M
  have S24 := St.first (Fa := [F19]) (Fr := [(is g8)]) S21
  exact ret1 rfl rfl  (show _ = .int .i64 t13.1 from (by kernel_rfl)) ⟨F19, H16, rfl, n20, h18, S24⟩

/-! laws_heldByteS -/
def laws_heldByteS.l0 : Nat → (List UInt8) → Int → Int → Option Int
  | 0, _, _, _ => none
  | k19 + 1, x1, x9, x10 => (if x10 < (x1.length : Int) then (if 0 ≤ x10 then (if ((x1.getD ((x10).toNat) (0 : UInt8)).toNat : Int) ≠ ((b8 (x9)).toNat : Int) then some (-1) else (laws_heldByteS.l0 k19 x1 (IntKind.i64.wrap (x9 + 1)) (IntKind.i64.wrap (x10 + 1)))) else none) else some x9)
def laws_heldByteS.f (k : Nat) (x1 : List UInt8) (x6 : Int) : Option Int := (laws_heldByteS.l0 k x1 x6 0)
theorem laws_heldByteS.calls (k : Nat) (w : World) (H : Hp) (x1 : List UInt8) (A2 : Option Addr) (c3 : Nat) (x6 : Int) (h4 : Rd tByte H A2 x1) (l5 : x1.length ≤ c3) (S : Own [] H w) (r : Int) (M : laws_heldByteS.f k x1 x6 = some r) :
    Calls Try.prog 53 #[.slice A2 x1.length c3, .int .i64 x6] w (fun e e_w => e = .returned (.int .i64 r) ∧ Chg no w e_w) := by
  rw [laws_heldByteS.f] at M
  refine enter (l := [.slice A2 x1.length c3, .int .i64 x6]) 22 Try.func53 rfl rfl rfl ?_
  have S0_ := S.st
  refine wp_seq ?_
  refine wp_region_lit ?_
  refine lv (d := 4) rfl rfl (by kernel_rfl) (e_assign (v := .int .i64 0) rfl) ?_
  refine wpList_nil ?_
  refine then_n ?_
  refine wp_seq ?_
  refine wp_seq ?_
  refine wp_region_lit ?_
  refine lv (d := 5) rfl rfl (by kernel_rfl) (e_assign (v := .int .i64 0) rfl) ?_
  refine wpList_nil ?_
  refine then_n ?_
  refine wp_block ?_
  refine wp_loop_g (fun k17 a18 w7 => ∃ (f8 : Nat → Value) (x9 : Int) (x10 : Int), a18 = mk 22 f8 ∧ f8 0 = .slice A2 x1.length c3 ∧ f8 1 = .int .i64 x9 ∧ f8 5 = .int .i64 x10 ∧ St (anyOf []) H w [] H w7 ∧ laws_heldByteS.l0 k17 x1 x9 x10 = some r) k ⟨_, x6, 0, rfl, (by kernel_rfl), (by kernel_rfl), (by kernel_rfl), S0_, M⟩ ?_
  clear M
  rintro k17 a18 w7 ⟨f8, x9, x10, rfl, e11, e12, e13, S14, M⟩
  rcases k17 with _ | k19
  · rw [laws_heldByteS.l0] at M
    cases M
  rw [laws_heldByteS.l0] at M
  refine wp_seq ?_
  refine wp_seq ?_
  refine wp_region_lit ?_
  refine lv (d := 6) rfl rfl (by kernel_rfl) (e_move (v := .int .i64 x10) (by exact e13)) ?_
  refine lv (d := 7) rfl rfl (by kernel_rfl) (e_move (v := .slice A2 x1.length c3) (by exact e11)) ?_
  refine lv (d := 8) rfl rfl (by kernel_rfl) (e_len (A := A2) (n := x1.length) (c := c3) Try.underlying26 (by kernel_rfl)) ?_
  refine lv (d := 9) rfl rfl (by kernel_rfl) (e_lss (k := .i64) (a := x10) (b := (x1.length : Int)) (by kernel_rfl) (by kernel_rfl)) ?_
  refine wpList_nil ?_
  refine then_n ?_
  by_cases q20 : x10 < (x1.length : Int)
  · replace M := ifp q20 M
    refine cond_t rfl (bt q20 (by kernel_rfl)) ?_
    refine wp_skip ?_
    refine then_n ?_
    refine wp_seq ?_
    refine wp_block ?_
    refine wp_seq ?_
    refine wp_seq ?_
    refine wp_region_lit ?_
    refine lv (d := 12) rfl rfl (by kernel_rfl) (e_move (v := .slice A2 x1.length c3) (by exact e11)) ?_
    refine lv (d := 13) rfl rfl (by kernel_rfl) (e_move (v := .int .i64 x10) (by exact e13)) ?_
    obtain ⟨q21, M⟩ := chk M
    obtain ⟨b22, o23, e24⟩ := Rd.addr h4 (show (x10).toNat < x1.length by omega)
    obtain ⟨y25, r26, k27⟩ := Rd.at h4 e24 (getD_some (0 : UInt8) (show (x10).toNat < x1.length by omega))
    obtain rfl := r26
    refine lv (d := 14) rfl rfl (by kernel_rfl) (e_indexAddr (b := b22) (off := o23) (n := x1.length) (c := c3) (sz := 1) (i := x10) (k := .i64) Try.underlying26 e24 (by kernel_rfl) (by kernel_rfl) (by kernel_rfl) q21 q20) ?_
    refine lv (d := 15) rfl rfl (by kernel_rfl) (e_load1 (ad := ⟨b22, o23 + (x10 : Int).toNat * 1, none⟩) (v := .int .u8 ((x1.getD ((x10).toNat) (0 : UInt8)).toNat : Int)) Try.underlying5 rfl (by kernel_rfl) (hpx (S14.inv.cell (k27 0 _ rfl)))) ?_
    refine lv (d := 16) rfl rfl (by kernel_rfl) (e_move (v := .int .i64 x9) (by exact e12)) ?_
    refine lv (d := 17) rfl rfl (by kernel_rfl) (e_conv_i8 (k := .i64) (a := x9) (by kernel_rfl) Try.underlying5 (by kernel_rfl)) ?_
    refine lv (d := 18) rfl rfl (by kernel_rfl) (e_neq (k := .u8) (a := ((x1.getD ((x10).toNat) (0 : UInt8)).toNat : Int)) (b := ((b8 (x9)).toNat : Int)) (by kernel_rfl) (by kernel_rfl)) ?_
    refine wpList_nil ?_
    refine then_n ?_
    by_cases q28 : ((x1.getD ((x10).toNat) (0 : UInt8)).toNat : Int) ≠ ((b8 (x9)).toNat : Int)
    · replace M := ifp q28 M
      refine cond_t rfl (bt q28 (by kernel_rfl)) ?_
      refine wp_seq ?_
      refine wp_region_lit ?_
      refine lv (d := 4) rfl rfl (by kernel_rfl) (e_assign (v := .int .i64 (-1)) rfl) ?_
      refine wpList_nil ?_
      refine then_n ?_
      refine wp_ret ?_
      refine then_r ?_
      refine inb_r ?_
      refine then_r ?_
      refine then_r ?_
      refine inb_r ?_
      refine then_r ?_
      obtain rfl := Option.some.inj M
      exact ret1 rfl rfl  (show _ = .int .i64 (-1) from (by kernel_rfl)) ⟨rfl, S14.chg⟩
    replace M := ifn q28 M
    refine cond_f rfl (bf q28 (by kernel_rfl)) ?_
    refine wp_skip ?_
    refine then_n ?_
    refine wp_region_lit ?_
    refine lv (d := 19) rfl rfl (by kernel_rfl) (e_move (v := .int .i64 x9) (by exact e12)) ?_
    refine lv (d := 20) rfl rfl (by kernel_rfl) (e_add (k := .i64) (a := x9) (b := 1) (by kernel_rfl) rfl) ?_
    refine lv (d := 1) rfl rfl (by kernel_rfl) (e_assign (v := .int .i64 (IntKind.i64.wrap (x9 + 1))) (by kernel_rfl)) ?_
    refine wpList_nil ?_
    refine inb_n ?_
    refine then_n ?_
    refine wp_region_lit ?_
    refine lv (d := 10) rfl rfl (by kernel_rfl) (e_move (v := .int .i64 x10) (by exact e13)) ?_
    refine lv (d := 11) rfl rfl (by kernel_rfl) (e_add (k := .i64) (a := x10) (b := 1) (by kernel_rfl) rfl) ?_
    refine lv (d := 5) rfl rfl (by kernel_rfl) (e_assign (v := .int .i64 (IntKind.i64.wrap (x10 + 1))) (by kernel_rfl)) ?_
    refine wpList_nil ?_
    refine then_n ?_
    exact ⟨k19, (by omega), _, (IntKind.i64.wrap (x9 + 1)), (IntKind.i64.wrap (x10 + 1)), rfl, (by exact e11), (by kernel_rfl), (by kernel_rfl), S14, M⟩
  replace M := ifn q20 M
  refine cond_f rfl (bf q20 (by kernel_rfl)) ?_
  refine wp_exit ?_
  refine then_e ?_
  refine then_e ?_
  refine inb_hit ?_
  refine then_n ?_
  refine wp_seq ?_
  refine wp_region_lit ?_
  refine lv (d := 21) rfl rfl (by kernel_rfl) (e_move (v := .int .i64 x9) (by exact e12)) ?_
  refine lv (d := 4) rfl rfl (by kernel_rfl) (e_assign (v := .int .i64 x9) (by kernel_rfl)) ?_
  refine wpList_nil ?_
  refine then_n ?_
  refine wp_ret ?_
  obtain rfl := Option.some.inj M
  exact ret1 rfl rfl  (show _ = .int .i64 x9 from (by kernel_rfl)) ⟨rfl, S14.chg⟩

/-! laws_heldCell -/
def laws_heldCell.f (k : Nat) (x1 : Cell) (x6 : Int) : Option Int := ((laws_heldByteS.f k x1.text x6).bind fun t12 => (if t12 < 0 then some (-1) else some t12))
theorem laws_heldCell.calls (k : Nat) (w : World) (H : Hp) (x1 : Cell) (A2 : Option Addr) (c3 : Nat) (x6 : Int) (h4 : Rd tByte H A2 x1.text) (l5 : x1.text.length ≤ c3) (S : Own [] H w) (r : Int) (M : laws_heldCell.f k x1 x6 = some r) :
    Calls Try.prog 21 #[.agg #[.int .i64 x1.kind, .int .i64 x1.n, .slice A2 x1.text.length c3], .int .i64 x6] w (fun e e_w => e = .returned (.int .i64 r) ∧ Chg no w e_w) := by
  rw [laws_heldCell.f] at M
  refine enter (l := [.agg #[.int .i64 x1.kind, .int .i64 x1.n, .slice A2 x1.text.length c3], .int .i64 x6]) 12 Try.func21 rfl rfl rfl ?_
  have S0_ := S.st
  refine wp_seq ?_
  refine wp_region_lit ?_
  refine lve (d := 2) rfl rfl (by kernel_rfl) (new_blk (v := fun g_ => .pointer (some ⟨g_, 0, none⟩)) (cs := #[.int .i64 x1.kind, .int .i64 x1.n, .slice A2 x1.text.length c3]) (t := 36) S0_ (by kernel_rfl)) ?_
  rintro _ w7 ⟨g8, rfl, b9, S10, K11⟩
  refine lv (d := 4) rfl rfl (by kernel_rfl) (e_assign (v := .int .i64 0) rfl) ?_
  refine wpList_nil ?_
  refine then_n ?_
  refine wp_seq ?_
  refine wp_region_lit ?_
  refine lv (d := 5) rfl rfl (by kernel_rfl) (e_fieldAddr (b := g8) (off := 0) (o := 2) Try.underlying36 rfl rfl (sz := 1) (by kernel_rfl) (by decide) (by kernel_rfl)) ?_
  refine lv (d := 6) rfl rfl (by kernel_rfl) (e_load1 (ad := ⟨g8, 0 + 2, none⟩) (v := .slice A2 x1.text.length c3) Try.underlying26 rfl (by kernel_rfl) (blk_cell b9 rfl)) ?_
  refine lv (d := 7) rfl rfl (by kernel_rfl) (e_move (v := .int .i64 x6) (by kernel_rfl)) ?_
  obtain ⟨t12, u13, M⟩ := bnd M
  refine lcall (d := 8) rfl rfl (by kernel_rfl) (e_call (l := [.tmp 6, .tmp 7]) (vs := [.slice A2 x1.text.length c3, .int .i64 x6]) Try.func53 (by kernel_rfl) rfl (by kernel_rfl) rfl) (laws_heldByteS.calls k w7 H x1.text A2 c3 x6 h4 l5 S10.own0 t12 u13) ?_
  rintro _ w14 ⟨rfl, C15⟩
  refine ⟨_, rfl, ?_⟩
  obtain ⟨S16, K17⟩ := S10.still C15
  replace b9 := K17.blk 0 rfl b9
  refine lv (d := 1) rfl rfl (by kernel_rfl) (e_assign (v := .int .i64 t12) (by kernel_rfl)) ?_
  refine wpList_nil ?_
  refine then_n ?_
  refine wp_seq ?_
  refine wp_seq ?_
  refine wp_region_lit ?_
  refine lv (d := 9) rfl rfl (by kernel_rfl) (e_move (v := .int .i64 t12) (by kernel_rfl)) ?_
  refine lv (d := 10) rfl rfl (by kernel_rfl) (e_lss (k := .i64) (a := t12) (b := 0) (by kernel_rfl) rfl) ?_
  refine wpList_nil ?_
  refine then_n ?_
  by_cases q18 : t12 < 0
  · replace M := ifp q18 M
    refine cond_t rfl (bt q18 (by kernel_rfl)) ?_
    refine wp_seq ?_
    refine wp_region_lit ?_
    refine lv (d := 4) rfl rfl (by kernel_rfl) (e_assign (v := .int .i64 (-1)) rfl) ?_
    refine wpList_nil ?_
    refine then_n ?_
    refine wp_ret ?_
    refine then_r ?_
    obtain rfl := Option.some.inj M
    exact ret1 rfl rfl  (show _ = .int .i64 (-1) from (by kernel_rfl)) ⟨rfl, S16.chg⟩
  replace M := ifn q18 M
  refine cond_f rfl (bf q18 (by kernel_rfl)) ?_
  refine wp_skip ?_
  refine then_n ?_
  refine wp_seq ?_
  refine wp_region_lit ?_
  refine lv (d := 11) rfl rfl (by kernel_rfl) (e_move (v := .int .i64 t12) (by kernel_rfl)) ?_
  refine lv (d := 4) rfl rfl (by kernel_rfl) (e_assign (v := .int .i64 t12) (by kernel_rfl)) ?_
  refine wpList_nil ?_
  refine then_n ?_
  refine wp_ret ?_
  obtain rfl := Option.some.inj M
  exact ret1 rfl rfl  (show _ = .int .i64 t12 from (by kernel_rfl)) ⟨rfl, S16.chg⟩

/-! laws_FnExactDeref -/
def laws_FnExactDeref.l1 (k : Nat) (x45 : Int) (x46 : Int) (x47 : List UInt8) (x52 : Int) (t459 : Cell × Int) (t677 : Int × (List UInt8)) (x708 : Int) (x709 : Int) (x710 : List UInt8) (x715 : Int) : Option Bool := ((laws_eqCell.f k (⟨x708, x709, x710⟩ : Cell) (⟨x45, x46, x47⟩ : Cell)).bind fun t1063 => (if ¬ (t1063 = true) then some false else (if x715 ≠ x52 then some false else ((laws_heldCell.f k (⟨t459.1.kind, t459.1.n, t677.2⟩ : Cell) 1).bind fun t1085 => (if t1085 < 0 then some false else (if t1085 ≠ t677.1 then some false else some true))))))
def laws_FnExactDeref.l0 (k : Nat) (x1 : Store) (x10 : Cell) (x45 : Int) (x46 : Int) (x47 : List UInt8) (x52 : Int) : Option Bool := ((laws_toStore.f k x1).bind fun t386 => ((laws_toCell.f k x10).bind fun t411 => ((impl_Deref.f k t386 t411).bind fun t459 => ((laws_eqCell.f k t459.1 (⟨x45, x46, x47⟩ : Cell)).bind fun t491 => (if ¬ (t491 = true) then some false else (if t459.2 ≠ x52 then some false else ((laws_toStore.f k x1).bind fun t523 => ((laws_eqStore.f k t386 t523).bind fun t541 => (if ¬ (t541 = true) then some false else ((laws_toCell.f k x10).bind fun t588 => ((laws_eqCell.f k t411 t588).bind fun t602 => (if ¬ (t602 = true) then some false else ((laws_markStore_2.f k t386 1).bind fun t628 => ((laws_markCell_2.f k t411 t628.1).bind fun t643 => (if t643.1 < 0 then some false else ((laws_eqCell.f k t459.1 (⟨x45, x46, x47⟩ : Cell)).bind fun t655 => (if ¬ (t655 = true) then some false else ((laws_markCell_2.f k t459.1 1).bind fun t677 => ((laws_heldCell.f k (⟨t459.1.kind, t459.1.n, t677.2⟩ : Cell) 1).bind fun t688 => (if t688 < 0 then some false else (if t688 ≠ t677.1 then some false else ((laws_toStore.f k x1).bind fun t737 => ((laws_toCell.f k x10).bind fun t755 => ((impl_Deref.f k t737 t755).bind fun t789 => (laws_FnExactDeref.l1 k x45 x46 x47 x52 t459 t677 t789.1.kind t789.1.n t789.1.text t789.2)))))))))))))))))))))))))
def laws_FnExactDeref.f (k : Nat) (x1 : Store) (x10 : Cell) : Option Bool := ((laws_szStore.f k x1 1048576).bind fun t25 => (if t25 < 0 then some true else ((laws_szCell.f x10 t25).bind fun t32 => (if t32 < 0 then some true else ((laws_toStore.f k x1).bind fun t72 => ((laws_toCell.f k x10).bind fun t90 => ((spec_Deref.f k t72 t90).bind fun t124 => (laws_FnExactDeref.l0 k x1 x10 t124.1.kind t124.1.n t124.1.text t124.2))))))))
theorem laws_FnExactDeref.calls (k : Nat) (w : World) (H : Hp) (x1 : Store) (A2 : Option Addr) (c3 : Nat) (A6 : Option Addr) (c7 : Nat) (x10 : Cell) (A11 : Option Addr) (c12 : Nat) (h4 : Rd st28 H A2 x1.cells) (l5 : x1.cells.length ≤ c3) (h8 : Rd tInt H A6 x1.trail) (l9 : x1.trail.length ≤ c7) (h13 : Rd tByte H A11 x10.text) (l14 : x10.text.length ≤ c12) (S : Own [] H w) (r : Bool) (M : laws_FnExactDeref.f k x1 x10 = some r) :
    Calls Try.prog 4 #[.agg #[.slice A2 x1.cells.length c3, .slice A6 x1.trail.length c7], .agg #[.int .i64 x10.kind, .int .i64 x10.n, .slice A11 x10.text.length c12]] w (fun e e_w => e = .returned (.bool r) ∧ Chg no w e_w) := by
  rw [laws_FnExactDeref.f] at M
  refine enter (l := [.agg #[.slice A2 x1.cells.length c3, .slice A6 x1.trail.length c7], .agg #[.int .i64 x10.kind, .int .i64 x10.n, .slice A11 x10.text.length c12]]) 119 Try.func4 rfl rfl rfl ?_
  have S0_ := S.st
  refine wp_seq ?_
  refine wp_region_lit ?_
  refine lve (d := 2) rfl rfl (by kernel_rfl) (new_blk (v := fun g_ => .pointer (some ⟨g_, 0, none⟩)) (cs := #[.slice A2 x1.cells.length c3, .slice A6 x1.trail.length c7]) (t := 25) S0_ (by kernel_rfl)) ?_
  rintro _ w15 ⟨g16, rfl, b17, S18, K19⟩
  refine lve (d := 3) rfl rfl (by kernel_rfl) (new_blk (v := fun g_ => .pointer (some ⟨g_, 0, none⟩)) (cs := #[.int .i64 x10.kind, .int .i64 x10.n, .slice A11 x10.text.length c12]) (t := 28) S18 (by kernel_rfl)) ?_
  rintro _ w20 ⟨g21, rfl, b22, S23, K24⟩
  replace b17 := K24.blk 0 rfl b17
  refine lv (d := 4) rfl rfl (by kernel_rfl) (e_assign (v := .bool false) rfl) ?_
  refine wpList_nil ?_
  refine then_n ?_
  refine wp_seq ?_
  refine wp_region_lit ?_
  refine lv (d := 5) rfl rfl (by kernel_rfl) (e_assign (v := .int .i64 1048576) rfl) ?_
  refine wpList_nil ?_
  refine then_n ?_
  refine wp_seq ?_
  refine wp_region_lit ?_
  refine lv (d := 17) rfl rfl (by kernel_rfl) (e_loadS (b := g16) (off := 0) (cs := [.slice A2 x1.cells.length c3, .slice A6 x1.trail.length c7]) Try.underlying25 rfl (by kernel_rfl) (by kernel_rfl) (blk_cells b17 rfl)) ?_
  refine lv (d := 18) rfl rfl (by kernel_rfl) (e_move (v := .int .i64 1048576) (by kernel_rfl)) ?_
  obtain ⟨t25, u26, M⟩ := bnd M
  refine lcall (d := 19) rfl rfl (by kernel_rfl) (e_call (l := [.tmp 17, .tmp 18]) (vs := [.agg #[.slice A2 x1.cells.length c3, .slice A6 x1.trail.length c7], .int .i64 1048576]) Try.func9 (by kernel_rfl) rfl (by kernel_rfl) rfl) (laws_szStore.calls k w20 H x1 A2 c3 A6 c7 1048576 h4 l5 h8 l9 S23.own0 t25 u26) ?_
  rintro _ w27 ⟨rfl, C28⟩
  refine ⟨_, rfl, ?_⟩
  obtain ⟨S29, K30⟩ := S23.still C28
  replace b22 := K30.blk 0 rfl b22
  replace b17 := K30.blk 1 rfl b17
  refine lv (d := 5) rfl rfl (by kernel_rfl) (e_assign (v := .int .i64 t25) (by kernel_rfl)) ?_
  refine wpList_nil ?_
  refine then_n ?_
  refine wp_seq ?_
  refine wp_seq ?_
  refine wp_region_lit ?_
  refine lv (d := 20) rfl rfl (by kernel_rfl) (e_move (v := .int .i64 t25) (by kernel_rfl)) ?_
  refine lv (d := 21) rfl rfl (by kernel_rfl) (e_lss (k := .i64) (a := t25) (b := 0) (by kernel_rfl) rfl) ?_
  refine wpList_nil ?_
  refine then_n ?_
  by_cases q31 : t25 < 0
  · replace M := ifp q31 M
    refine cond_t rfl (bt q31 (by kernel_rfl)) ?_
    refine wp_seq ?_
    refine wp_region_lit ?_
    refine lv (d := 4) rfl rfl (by kernel_rfl) (e_assign (v := .bool true) rfl) ?_
    refine wpList_nil ?_
    refine then_n ?_
    refine wp_ret ?_
    refine then_r ?_
    obtain rfl := Option.some.inj M
    exact ret1 rfl rfl  (show _ = .bool true from (by kernel_rfl)) ⟨rfl, S29.chg⟩
  replace M := ifn q31 M
  refine cond_f rfl (bf q31 (by kernel_rfl)) ?_
  refine wp_skip ?_
  refine then_n ?_
  refine wp_seq ?_
  refine wp_region_lit ?_
  refine lv (d := 22) rfl rfl (by kernel_rfl) (e_loadS (b := g21) (off := 0) (cs := [.int .i64 x10.kind, .int .i64 x10.n, .slice A11 x10.text.length c12]) Try.underlying28 rfl (by kernel_rfl) (by kernel_rfl) (blk_cells b22 rfl)) ?_
  refine lv (d := 23) rfl rfl (by kernel_rfl) (e_move (v := .int .i64 t25) (by kernel_rfl)) ?_
  obtain ⟨t32, u33, M⟩ := bnd M
  refine lcall (d := 24) rfl rfl (by kernel_rfl) (e_call (l := [.tmp 22, .tmp 23]) (vs := [.agg #[.int .i64 x10.kind, .int .i64 x10.n, .slice A11 x10.text.length c12], .int .i64 t25]) Try.func10 (by kernel_rfl) rfl (by kernel_rfl) rfl) (laws_szCell.calls w27 H x10 A11 c12 t25 h13 l14 S29.own0 t32 u33) ?_
  rintro _ w34 ⟨rfl, C35⟩
  refine ⟨_, rfl, ?_⟩
  obtain ⟨S36, K37⟩ := S29.still C35
  replace b22 := K37.blk 0 rfl b22
  replace b17 := K37.blk 1 rfl b17
  refine lv (d := 5) rfl rfl (by kernel_rfl) (e_assign (v := .int .i64 t32) (by kernel_rfl)) ?_
  refine wpList_nil ?_
  refine then_n ?_
  refine wp_seq ?_
  refine wp_seq ?_
  refine wp_region_lit ?_
  refine lv (d := 25) rfl rfl (by kernel_rfl) (e_move (v := .int .i64 t32) (by kernel_rfl)) ?_
  refine lv (d := 26) rfl rfl (by kernel_rfl) (e_lss (k := .i64) (a := t32) (b := 0) (by kernel_rfl) rfl) ?_
  refine wpList_nil ?_
  refine then_n ?_
  by_cases q38 : t32 < 0
  · replace M := ifp q38 M
    refine cond_t rfl (bt q38 (by kernel_rfl)) ?_
    refine wp_seq ?_
    refine wp_region_lit ?_
    refine lv (d := 4) rfl rfl (by kernel_rfl) (e_assign (v := .bool true) rfl) ?_
    refine wpList_nil ?_
    refine then_n ?_
    refine wp_ret ?_
    refine then_r ?_
    obtain rfl := Option.some.inj M
    exact ret1 rfl rfl  (show _ = .bool true from (by kernel_rfl)) ⟨rfl, S36.chg⟩
  replace M := ifn q38 M
  refine cond_f rfl (bf q38 (by kernel_rfl)) ?_
  refine wp_skip ?_
  refine then_n ?_
  refine wp_seq ?_
  refine wp_cut (fun a60 w39 => ∃ (f40 : Nat → Value) (H41 : Hp) (g43 : Nat) (x45 : Int) (x46 : Int) (x47 : List UInt8) (A48 : Option Addr) (c49 : Nat) (F50 : Foot) (x52 : Int), a60 = mk 119 f40 ∧ f40 2 = .pointer (some ⟨g16, 0, none⟩) ∧ f40 3 = .pointer (some ⟨g21, 0, none⟩) ∧ f40 6 = .pointer (some ⟨g43, 0, none⟩) ∧ f40 7 = .int .i64 x52 ∧ w39.heap[g21]? = some (.cells #[.int .i64 x10.kind, .int .i64 x10.n, .slice A11 x10.text.length c12] 28 (0, 0)) ∧ w39.heap[g16]? = some (.cells #[.slice A2 x1.cells.length c3, .slice A6 x1.trail.length c7] 25 (0, 0)) ∧ Row tByte 5 H41 (hp w39) F50 A48 c49 x47 ∧ w39.heap[g43]? = some (.cells #[.int .i64 x45, .int .i64 x46, .slice A48 x47.length c49] 36 (0, 0)) ∧ Ext H H41 ∧ St (anyOf []) H w [(is g21), (is g16), F50, (is g43)] H41 w39 ∧ laws_FnExactDeref.l0 k x1 x10 x45 x46 x47 x52 = some r) ?_ ?_
  · refine region_mix (S := (fun (L_ : Array Bool) (w_ : World) => Ext H (hp w_) ∧ (∀ b_, (is g21) b_ → hp w_ b_ = hp w34 b_) ∧ (∀ b_, (is g16) b_ → hp w_ b_ = hp w34 b_))) (by kernel_rfl) S36 ?_
    intro w61 S62 K63 hc64
    have o65 := b22
    have o66 := b17
    have hs67 : (fun (L_ : Array Bool) (w_ : World) => Ext H (hp w_) ∧ (∀ b_, (is g21) b_ → hp w_ b_ = hp w34 b_) ∧ (∀ b_, (is g16) b_ → hp w_ b_ = hp w34 b_)) (Array.replicate 11 false) w61 := ⟨S62.inv, (fun b_ h_ => K63.at 0 rfl b_ h_), (fun b_ h_ => K63.at 1 rfl b_ h_)⟩
    replace b22 := K63.blk 0 rfl b22
    replace b17 := K63.blk 1 rfl b17
    refine xv (i := 0) (d := 28) rfl rfl rfl (by kernel_rfl) (by kernel_rfl) (fun _ _ => Iff.rfl) hc64 hs67 (fun L_ w_ hc_ hu_ hs_ => e_loadS (b := g16) (off := 0) (cs := [.slice A2 x1.cells.length c3, .slice A6 x1.trail.length c7]) Try.underlying25 rfl (by kernel_rfl) (by kernel_rfl) (blk_cells ((hs_.2.2 _ rfl).trans o66) rfl)) ?_; intro hc68 hs69
    refine xv (i := 2) (d := 30) rfl rfl rfl (by kernel_rfl) (by kernel_rfl) (fun _ _ => Iff.rfl) hc68 hs69 (fun L_ w_ hc_ hu_ hs_ => e_loadS (b := g21) (off := 0) (cs := [.int .i64 x10.kind, .int .i64 x10.n, .slice A11 x10.text.length c12]) Try.underlying28 rfl (by kernel_rfl) (by kernel_rfl) (blk_cells ((hs_.2.1 _ rfl).trans o65) rfl)) ?_; intro hc70 hs71
    refine xall [1, 8] (by kernel_rfl) (by decide) hc70 (List.forall_mem_cons.2 ⟨?_, List.forall_mem_cons.2 ⟨?_, fun _ h_ => by cases h_⟩⟩)
    · obtain ⟨t72, u73, M⟩ := bnd M
      refine yc (i := 1) rfl (wanted_none rfl _) (by kernel_rfl) (by kernel_rfl) (e_call (l := [.tmp 28]) (vs := [.agg #[.slice A2 x1.cells.length c3, .slice A6 x1.trail.length c7]]) Try.func12 (by kernel_rfl) rfl (by kernel_rfl) rfl) (laws_toStore.calls k w61 H x1 A2 c3 A6 c7 h4 l5 h8 l9 (St.own' (Fa := []) (Fr := [(is g21), (is g16)]) S62) t72 u73) ?_
      rintro hc85 _ w74 ⟨A77, c78, F80, A81, c82, F84, H75, rfl, h79, h83, T76⟩
      refine ⟨_, rfl, ?_⟩
      obtain ⟨S86, K87⟩ := St.call (Fa := []) (Fr := [(is g21), (is g16)]) S62 T76
      replace b22 := K87.blk 0 rfl b22
      replace b17 := K87.blk 1 rfl b17
      have E88 := T76.ext
      refine ⟨⟨(Ext.trans E88 S86.inv), (fun b_ h_ => (K87.at 0 rfl b_ h_).trans (hs71.2.1 b_ h_)), (fun b_ h_ => (K87.at 1 rfl b_ h_).trans (hs71.2.2 b_ h_))⟩, fun hs89 => ?_⟩
      refine xall [3, 8] (by kernel_rfl) (by decide) hc85 (List.forall_mem_cons.2 ⟨?_, List.forall_mem_cons.2 ⟨?_, fun _ h_ => by cases h_⟩⟩)
      · obtain ⟨t90, u91, M⟩ := bnd M
        refine yc (i := 3) rfl (wanted_none rfl _) (by kernel_rfl) (by kernel_rfl) (e_call (l := [.tmp 30]) (vs := [.agg #[.int .i64 x10.kind, .int .i64 x10.n, .slice A11 x10.text.length c12]]) Try.func13 (by kernel_rfl) rfl (by kernel_rfl) rfl) (laws_toCell.calls k w74 H75 x10 A11 c12 (h13.ext E88) l14 (St.own' (Fa := []) (Fr := [F80, F84, (is g21), (is g16)]) S86) t90 u91) ?_
        rintro hc99 _ w92 ⟨A95, c96, F98, H93, rfl, h97, T94⟩
        refine ⟨_, rfl, ?_⟩
        obtain ⟨S100, K101⟩ := St.call (Fa := []) (Fr := [F80, F84, (is g21), (is g16)]) S86 T94
        replace h79 := h79.move (K101.at 0 rfl)
        replace h83 := h83.move (K101.at 1 rfl)
        replace b22 := K101.blk 2 rfl b22
        replace b17 := K101.blk 3 rfl b17
        have E102 := T94.ext
        replace h79 := h79.ext E102
        replace h83 := h83.ext E102
        refine ⟨⟨(Ext.trans (E88.trans E102) S100.inv), (fun b_ h_ => (K101.at 2 rfl b_ h_).trans (hs89.2.1 b_ h_)), (fun b_ h_ => (K101.at 3 rfl b_ h_).trans (hs89.2.2 b_ h_))⟩, fun hs103 => ?_⟩
        refine xall [4, 8] (by kernel_rfl) (by decide) hc99 (List.forall_mem_cons.2 ⟨?_, List.forall_mem_cons.2 ⟨?_, fun _ h_ => by cases h_⟩⟩)
        · have l104 := h79.le
          have S105 := S100.pull (F := F80) (Fr := [F98, F84, (is g21), (is g16)]) 1 rfl rfl
          obtain ⟨H106, S107, E108, h109, z110⟩ := S105.frzRow h79
          replace h97 := h97.ext E108
          replace h83 := h83.ext E108
          have l111 := h83.le
          have S112 := S107.pull (F := F84) (Fr := [F98, (is g21), (is g16)]) 1 rfl rfl
          obtain ⟨H113, S114, E115, h116, z117⟩ := S112.frzRow h83
          replace h97 := h97.ext E115
          have l118 := h97.le
          obtain ⟨H119, S120, E121, h122, z123⟩ := S114.frzRow h97
          obtain ⟨t124, u125, M⟩ := bnd M
          refine yc (i := 4) rfl (wanted_none rfl _) (by kernel_rfl) (by kernel_rfl) (e_call (l := [.tmp 29, .tmp 31]) (vs := [.agg #[.slice A77 t72.cells.length c78, .slice A81 t72.trail.length c82], .agg #[.int .i64 t90.kind, .int .i64 t90.n, .slice A95 t90.text.length c96]]) Try.func17 (by kernel_rfl) rfl (by kernel_rfl) rfl) (spec_Deref.calls k w92 H119 t72 A77 c78 A81 c82 t90 A95 c96 (h109.ext (E115.trans E121)) l104 (h116.ext E121) l111 h122 l118 (St.own' (Fa := []) (Fr := [(is g21), (is g16)]) S120) t124 u125) ?_
          rintro hc133 _ w126 ⟨A129, c130, F132, H127, rfl, h131, T128⟩
          refine ⟨_, rfl, ?_⟩
          obtain ⟨S134, K135⟩ := St.call (Fa := []) (Fr := [(is g21), (is g16)]) S120 T128
          replace b22 := K135.blk 0 rfl b22
          replace b17 := K135.blk 1 rfl b17
          have E136 := T128.ext
          refine ⟨⟨(Ext.trans (((((E88.trans E102).trans E108).trans E115).trans E121).trans E136) S134.inv), (fun b_ h_ => (K135.at 0 rfl b_ h_).trans (hs103.2.1 b_ h_)), (fun b_ h_ => (K135.at 1 rfl b_ h_).trans (hs103.2.2 b_ h_))⟩, fun hs137 => ?_⟩
          refine xv (i := 5) (d := 27) rfl rfl rfl (by kernel_rfl) (by kernel_rfl) (fun _ _ => Iff.rfl) hc133 hs137 (fun L_ w_ hc_ hu_ hs_ => e_move (v := .tuple #[.agg #[.int .i64 t124.1.kind, .int .i64 t124.1.n, .slice A129 t124.1.text.length c130], .int .i64 t124.2]) (by kernel_rfl)) ?_; intro hc138 hs139
          refine xv (i := 6) (d := 33) rfl rfl rfl (by kernel_rfl) (by kernel_rfl) (fun _ _ => Iff.rfl) hc138 hs139 (fun L_ w_ hc_ hu_ hs_ => e_extract (vs := #[.agg #[.int .i64 t124.1.kind, .int .i64 t124.1.n, .slice A129 t124.1.text.length c130], .int .i64 t124.2]) (v := .agg #[.int .i64 t124.1.kind, .int .i64 t124.1.n, .slice A129 t124.1.text.length c130]) (by kernel_rfl) rfl) ?_; intro hc140 hs141
          refine xv (i := 7) (d := 34) rfl rfl rfl (by kernel_rfl) (by kernel_rfl) (fun _ _ => Iff.rfl) hc140 hs141 (fun L_ w_ hc_ hu_ hs_ => e_extract (vs := #[.agg #[.int .i64 t124.1.kind, .int .i64 t124.1.n, .slice A129 t124.1.text.length c130], .int .i64 t124.2]) (v := .int .i64 t124.2) (by kernel_rfl) rfl) ?_; intro hc142 hs143
          refine xone (i := 8) (by kernel_rfl) hc142 ?_
          refine ye (i := 8) (d := 6) rfl rfl (wanted_none rfl _) (by kernel_rfl) (by kernel_rfl) (new_blk (v := fun g_ => .pointer (some ⟨g_, 0, none⟩)) (cs := #[.int .i64 0, .int .i64 0, .slice none 0 0]) (t := 36) S134 (by kernel_rfl)) ?_
          rintro hc149 _ w144 ⟨g145, rfl, b146, S147, K148⟩
          replace h131 := h131.move (K148.at 0 rfl)
          replace b22 := K148.blk 1 rfl b22
          replace b17 := K148.blk 2 rfl b17
          refine ⟨⟨(Ext.trans (((((E88.trans E102).trans E108).trans E115).trans E121).trans E136) S147.inv), (fun b_ h_ => (K148.at 1 rfl b_ h_).trans (hs143.2.1 b_ h_)), (fun b_ h_ => (K148.at 2 rfl b_ h_).trans (hs143.2.2 b_ h_))⟩, fun hs150 => ?_⟩
          refine xone (i := 9) (by kernel_rfl) hc149 ?_
          refine ys (i := 9) rfl rfl (wanted_none rfl _) (by kernel_rfl) (by kernel_rfl) (e_store (g := g145) (o := 0) (v := .agg #[.int .i64 t124.1.kind, .int .i64 t124.1.n, .slice A129 t124.1.text.length c130]) (cur' := #[.int .i64 t124.1.kind, .int .i64 t124.1.n, .slice A129 t124.1.text.length c130]) (vs := [.int .i64 t124.1.kind, .int .i64 t124.1.n, .slice A129 t124.1.text.length c130]) S147 (by kernel_rfl) (by kernel_rfl) rfl (by kernel_rfl) b146 (Nat.le_of_ble_eq_true rfl) (List.forall_mem_cons.2 ⟨rfl, (List.forall_mem_cons.2 ⟨rfl, (List.forall_mem_cons.2 ⟨rfl, (fun _ h_ => by cases h_)⟩)⟩)⟩) rfl) ?_
          rintro hc155 w151 ⟨b152, S153, K154⟩
          replace h131 := h131.move (K154.at 0 rfl)
          replace b22 := K154.blk 1 rfl b22
          replace b17 := K154.blk 2 rfl b17
          refine ⟨⟨(Ext.trans (((((E88.trans E102).trans E108).trans E115).trans E121).trans E136) S153.inv), (fun b_ h_ => (K154.at 1 rfl b_ h_).trans (hs150.2.1 b_ h_)), (fun b_ h_ => (K154.at 2 rfl b_ h_).trans (hs150.2.2 b_ h_))⟩, fun hs156 => ?_⟩
          clear b146
          refine xone (i := 10) (by kernel_rfl) hc155 ?_
          refine yo (i := 10) (d := 7) rfl rfl (wanted_none rfl _) (by kernel_rfl) (by kernel_rfl) (fun _ _ => Iff.rfl) hs156 (e_assign (v := .int .i64 t124.2) (by kernel_rfl)) ?_; intro hc157 hs158
          refine xn (by kernel_rfl) ?_ _
          have S159 := S153.pull (F := F132) (Fr := [(is g145), (is g21), (is g16)]) 1 rfl rfl
          have S160 := S159.pull (F := (is g16)) (Fr := [F132, (is g145), (is g21)]) 3 rfl rfl
          have S161 := S160.pull (F := (is g21)) (Fr := [(is g16), F132, (is g145)]) 3 rfl rfl
          exact ⟨rfl, _, H127, g145, t124.1.kind, t124.1.n, t124.1.text, A129, c130, F132, t124.2, rfl, (by kernel_rfl), (by kernel_rfl), (by kernel_rfl), (by kernel_rfl), b22, b17, h131, b152, (((((E88.trans E102).trans E108).trans E115).trans E121).trans E136), S161, M⟩
        refine ye (i := 8) (d := 6) rfl rfl (wanted_none rfl _) (by kernel_rfl) (by kernel_rfl) (new_blk (v := fun g_ => .pointer (some ⟨g_, 0, none⟩)) (cs := #[.int .i64 0, .int .i64 0, .slice none 0 0]) (t := 36) S100 (by kernel_rfl)) ?_
        rintro hc167 _ w162 ⟨g163, rfl, b164, S165, K166⟩
        replace h97 := h97.move (K166.at 0 rfl)
        replace h79 := h79.move (K166.at 1 rfl)
        replace h83 := h83.move (K166.at 2 rfl)
        replace b22 := K166.blk 3 rfl b22
        replace b17 := K166.blk 4 rfl b17
        refine ⟨⟨(Ext.trans (E88.trans E102) S165.inv), (fun b_ h_ => (K166.at 3 rfl b_ h_).trans (hs103.2.1 b_ h_)), (fun b_ h_ => (K166.at 4 rfl b_ h_).trans (hs103.2.2 b_ h_))⟩, fun hs168 => ?_⟩
        have l169 := h79.le
        have S170 := S165.pull (F := F80) (Fr := [(is g163), F98, F84, (is g21), (is g16)]) 2 rfl rfl
        obtain ⟨H171, S172, E173, h174, z175⟩ := S170.frzRow h79
        replace h97 := h97.ext E173
        replace h83 := h83.ext E173
        have l176 := h83.le
        have S177 := S172.pull (F := F84) (Fr := [(is g163), F98, (is g21), (is g16)]) 2 rfl rfl
        obtain ⟨H178, S179, E180, h181, z182⟩ := S177.frzRow h83
        replace h97 := h97.ext E180
        have l183 := h97.le
        have S184 := S179.pull (F := F98) (Fr := [(is g163), (is g21), (is g16)]) 1 rfl rfl
        obtain ⟨H185, S186, E187, h188, z189⟩ := S184.frzRow h97
        obtain ⟨t190, u191, M⟩ := bnd M
        refine xone (i := 4) (by kernel_rfl) hc167 ?_
        refine yc (i := 4) rfl (wanted_none rfl _) (by kernel_rfl) (by kernel_rfl) (e_call (l := [.tmp 29, .tmp 31]) (vs := [.agg #[.slice A77 t72.cells.length c78, .slice A81 t72.trail.length c82], .agg #[.int .i64 t90.kind, .int .i64 t90.n, .slice A95 t90.text.length c96]]) Try.func17 (by kernel_rfl) rfl (by kernel_rfl) rfl) (spec_Deref.calls k w162 H185 t72 A77 c78 A81 c82 t90 A95 c96 (h174.ext (E180.trans E187)) l169 (h181.ext E187) l176 h188 l183 (St.own' (Fa := []) (Fr := [(is g163), (is g21), (is g16)]) S186) t190 u191) ?_
        rintro hc199 _ w192 ⟨A195, c196, F198, H193, rfl, h197, T194⟩
        refine ⟨_, rfl, ?_⟩
        obtain ⟨S200, K201⟩ := St.call (Fa := []) (Fr := [(is g163), (is g21), (is g16)]) S186 T194
        replace b164 := K201.blk 0 rfl b164
        replace b22 := K201.blk 1 rfl b22
        replace b17 := K201.blk 2 rfl b17
        have E202 := T194.ext
        refine ⟨⟨(Ext.trans (((((E88.trans E102).trans E173).trans E180).trans E187).trans E202) S200.inv), (fun b_ h_ => (K201.at 1 rfl b_ h_).trans (hs168.2.1 b_ h_)), (fun b_ h_ => (K201.at 2 rfl b_ h_).trans (hs168.2.2 b_ h_))⟩, fun hs203 => ?_⟩
        refine xone (i := 5) (by kernel_rfl) hc199 ?_
        refine yo (i := 5) (d := 27) rfl rfl (wanted_none rfl _) (by kernel_rfl) (by kernel_rfl) (fun _ _ => Iff.rfl) hs203 (e_move (v := .tuple #[.agg #[.int .i64 t190.1.kind, .int .i64 t190.1.n, .slice A195 t190.1.text.length c196], .int .i64 t190.2]) (by kernel_rfl)) ?_; intro hc204 hs205
        refine xv (i := 6) (d := 33) rfl rfl rfl (by kernel_rfl) (by kernel_rfl) (fun _ _ => Iff.rfl) hc204 hs205 (fun L_ w_ hc_ hu_ hs_ => e_extract (vs := #[.agg #[.int .i64 t190.1.kind, .int .i64 t190.1.n, .slice A195 t190.1.text.length c196], .int .i64 t190.2]) (v := .agg #[.int .i64 t190.1.kind, .int .i64 t190.1.n, .slice A195 t190.1.text.length c196]) (by kernel_rfl) rfl) ?_; intro hc206 hs207
        refine xv (i := 7) (d := 34) rfl rfl rfl (by kernel_rfl) (by kernel_rfl) (fun _ _ => Iff.rfl) hc206 hs207 (fun L_ w_ hc_ hu_ hs_ => e_extract (vs := #[.agg #[.int .i64 t190.1.kind, .int .i64 t190.1.n, .slice A195 t190.1.text.length c196], .int .i64 t190.2]) (v := .int .i64 t190.2) (by kernel_rfl) rfl) ?_; intro hc208 hs209
        have S210 := S200.pull (F := (is g163)) (Fr := [F198, (is g21), (is g16)]) 1 rfl rfl
        refine xone (i := 9) (by kernel_rfl) hc208 ?_
        refine ys (i := 9) rfl rfl (wanted_none rfl _) (by kernel_rfl) (by kernel_rfl) (e_store (g := g163) (o := 0) (v := .agg #[.int .i64 t190.1.kind, .int .i64 t190.1.n, .slice A195 t190.1.text.length c196]) (cur' := #[.int .i64 t190.1.kind, .int .i64 t190.1.n, .slice A195 t190.1.text.length c196]) (vs := [.int .i64 t190.1.kind, .int .i64 t190.1.n, .slice A195 t190.1.text.length c196]) S210 (by kernel_rfl) (by kernel_rfl) rfl (by kernel_rfl) b164 (Nat.le_of_ble_eq_true rfl) (List.forall_mem_cons.2 ⟨rfl, (List.forall_mem_cons.2 ⟨rfl, (List.forall_mem_cons.2 ⟨rfl, (fun _ h_ => by cases h_)⟩)⟩)⟩) rfl) ?_
        rintro hc215 w211 ⟨b212, S213, K214⟩
        replace h197 := h197.move (K214.at 0 rfl)
        replace b22 := K214.blk 1 rfl b22
        replace b17 := K214.blk 2 rfl b17
        refine ⟨⟨(Ext.trans (((((E88.trans E102).trans E173).trans E180).trans E187).trans E202) S213.inv), (fun b_ h_ => (K214.at 1 rfl b_ h_).trans (hs209.2.1 b_ h_)), (fun b_ h_ => (K214.at 2 rfl b_ h_).trans (hs209.2.2 b_ h_))⟩, fun hs216 => ?_⟩
        clear b164
        refine xone (i := 10) (by kernel_rfl) hc215 ?_
        refine yo (i := 10) (d := 7) rfl rfl (wanted_none rfl _) (by kernel_rfl) (by kernel_rfl) (fun _ _ => Iff.rfl) hs216 (e_assign (v := .int .i64 t190.2) (by kernel_rfl)) ?_; intro hc217 hs218
        refine xn (by kernel_rfl) ?_ _
        have S219 := S213.pull (F := F198) (Fr := [(is g163), (is g21), (is g16)]) 1 rfl rfl
        have S220 := S219.pull (F := (is g16)) (Fr := [F198, (is g163), (is g21)]) 3 rfl rfl
        have S221 := S220.pull (F := (is g21)) (Fr := [(is g16), F198, (is g163)]) 3 rfl rfl
        exact ⟨rfl, _, H193, g163, t190.1.kind, t190.1.n, t190.1.text, A195, c196, F198, t190.2, rfl, (by kernel_rfl), (by kernel_rfl), (by kernel_rfl), (by kernel_rfl), b22, b17, h197, b212, (((((E88.trans E102).trans E173).trans E180).trans E187).trans E202), S221, M⟩
      refine ye (i := 8) (d := 6) rfl rfl (wanted_none rfl _) (by kernel_rfl) (by kernel_rfl) (new_blk (v := fun g_ => .pointer (some ⟨g_, 0, none⟩)) (cs := #[.int .i64 0, .int .i64 0, .slice none 0 0]) (t := 36) S86 (by kernel_rfl)) ?_
      rintro hc227 _ w222 ⟨g223, rfl, b224, S225, K226⟩
      replace h79 := h79.move (K226.at 0 rfl)
      replace h83 := h83.move (K226.at 1 rfl)
      replace b22 := K226.blk 2 rfl b22
      replace b17 := K226.blk 3 rfl b17
      refine ⟨⟨(Ext.trans E88 S225.inv), (fun b_ h_ => (K226.at 2 rfl b_ h_).trans (hs89.2.1 b_ h_)), (fun b_ h_ => (K226.at 3 rfl b_ h_).trans (hs89.2.2 b_ h_))⟩, fun hs228 => ?_⟩
      obtain ⟨t229, u230, M⟩ := bnd M
      refine xone (i := 3) (by kernel_rfl) hc227 ?_
      refine yc (i := 3) rfl (wanted_none rfl _) (by kernel_rfl) (by kernel_rfl) (e_call (l := [.tmp 30]) (vs := [.agg #[.int .i64 x10.kind, .int .i64 x10.n, .slice A11 x10.text.length c12]]) Try.func13 (by kernel_rfl) rfl (by kernel_rfl) rfl) (laws_toCell.calls k w222 H75 x10 A11 c12 (h13.ext E88) l14 (St.own' (Fa := []) (Fr := [(is g223), F80, F84, (is g21), (is g16)]) S225) t229 u230) ?_
      rintro hc238 _ w231 ⟨A234, c235, F237, H232, rfl, h236, T233⟩
      refine ⟨_, rfl, ?_⟩
      obtain ⟨S239, K240⟩ := St.call (Fa := []) (Fr := [(is g223), F80, F84, (is g21), (is g16)]) S225 T233
      replace b224 := K240.blk 0 rfl b224
      replace h79 := h79.move (K240.at 1 rfl)
      replace h83 := h83.move (K240.at 2 rfl)
      replace b22 := K240.blk 3 rfl b22
      replace b17 := K240.blk 4 rfl b17
      have E241 := T233.ext
      replace h79 := h79.ext E241
      replace h83 := h83.ext E241
      refine ⟨⟨(Ext.trans (E88.trans E241) S239.inv), (fun b_ h_ => (K240.at 3 rfl b_ h_).trans (hs228.2.1 b_ h_)), (fun b_ h_ => (K240.at 4 rfl b_ h_).trans (hs228.2.2 b_ h_))⟩, fun hs242 => ?_⟩
      have l243 := h79.le
      have S244 := S239.pull (F := F80) (Fr := [F237, (is g223), F84, (is g21), (is g16)]) 2 rfl rfl
      obtain ⟨H245, S246, E247, h248, z249⟩ := S244.frzRow h79
      replace h236 := h236.ext E247
      replace h83 := h83.ext E247
      have l250 := h83.le
      have S251 := S246.pull (F := F84) (Fr := [F237, (is g223), (is g21), (is g16)]) 2 rfl rfl
      obtain ⟨H252, S253, E254, h255, z256⟩ := S251.frzRow h83
      replace h236 := h236.ext E254
      have l257 := h236.le
      obtain ⟨H258, S259, E260, h261, z262⟩ := S253.frzRow h236
      obtain ⟨t263, u264, M⟩ := bnd M
      refine xone (i := 4) (by kernel_rfl) hc238 ?_
      refine yc (i := 4) rfl (wanted_none rfl _) (by kernel_rfl) (by kernel_rfl) (e_call (l := [.tmp 29, .tmp 31]) (vs := [.agg #[.slice A77 t72.cells.length c78, .slice A81 t72.trail.length c82], .agg #[.int .i64 t229.kind, .int .i64 t229.n, .slice A234 t229.text.length c235]]) Try.func17 (by kernel_rfl) rfl (by kernel_rfl) rfl) (spec_Deref.calls k w231 H258 t72 A77 c78 A81 c82 t229 A234 c235 (h248.ext (E254.trans E260)) l243 (h255.ext E260) l250 h261 l257 (St.own' (Fa := []) (Fr := [(is g223), (is g21), (is g16)]) S259) t263 u264) ?_
      rintro hc272 _ w265 ⟨A268, c269, F271, H266, rfl, h270, T267⟩
      refine ⟨_, rfl, ?_⟩
      obtain ⟨S273, K274⟩ := St.call (Fa := []) (Fr := [(is g223), (is g21), (is g16)]) S259 T267
      replace b224 := K274.blk 0 rfl b224
      replace b22 := K274.blk 1 rfl b22
      replace b17 := K274.blk 2 rfl b17
      have E275 := T267.ext
      refine ⟨⟨(Ext.trans (((((E88.trans E241).trans E247).trans E254).trans E260).trans E275) S273.inv), (fun b_ h_ => (K274.at 1 rfl b_ h_).trans (hs242.2.1 b_ h_)), (fun b_ h_ => (K274.at 2 rfl b_ h_).trans (hs242.2.2 b_ h_))⟩, fun hs276 => ?_⟩
      refine xone (i := 5) (by kernel_rfl) hc272 ?_
      refine yo (i := 5) (d := 27) rfl rfl (wanted_none rfl _) (by kernel_rfl) (by kernel_rfl) (fun _ _ => Iff.rfl) hs276 (e_move (v := .tuple #[.agg #[.int .i64 t263.1.kind, .int .i64 t263.1.n, .slice A268 t263.1.text.length c269], .int .i64 t263.2]) (by kernel_rfl)) ?_; intro hc277 hs278
      refine xv (i := 6) (d := 33) rfl rfl rfl (by kernel_rfl) (by kernel_rfl) (fun _ _ => Iff.rfl) hc277 hs278 (fun L_ w_ hc_ hu_ hs_ => e_extract (vs := #[.agg #[.int .i64 t263.1.kind, .int .i64 t263.1.n, .slice A268 t263.1.text.length c269], .int .i64 t263.2]) (v := .agg #[.int .i64 t263.1.kind, .int .i64 t263.1.n, .slice A268 t263.1.text.length c269]) (by kernel_rfl) rfl) ?_; intro hc279 hs280
      refine xv (i := 7) (d := 34) rfl rfl rfl (by kernel_rfl) (by kernel_rfl) (fun _ _ => Iff.rfl) hc279 hs280 (fun L_ w_ hc_ hu_ hs_ => e_extract (vs := #[.agg #[.int .i64 t263.1.kind, .int .i64 t263.1.n, .slice A268 t263.1.text.length c269], .int .i64 t263.2]) (v := .int .i64 t263.2) (by kernel_rfl) rfl) ?_; intro hc281 hs282
      have S283 := S273.pull (F := (is g223)) (Fr := [F271, (is g21), (is g16)]) 1 rfl rfl
      refine xone (i := 9) (by kernel_rfl) hc281 ?_
      refine ys (i := 9) rfl rfl (wanted_none rfl _) (by kernel_rfl) (by kernel_rfl) (e_store (g := g223) (o := 0) (v := .agg #[.int .i64 t263.1.kind, .int .i64 t263.1.n, .slice A268 t263.1.text.length c269]) (cur' := #[.int .i64 t263.1.kind, .int .i64 t263.1.n, .slice A268 t263.1.text.length c269]) (vs := [.int .i64 t263.1.kind, .int .i64 t263.1.n, .slice A268 t263.1.text.length c269]) S283 (by kernel_rfl) (by kernel_rfl) rfl (by kernel_rfl) b224 (Nat.le_of_ble_eq_true rfl) (List.forall_mem_cons.2 ⟨rfl, (List.forall_mem_cons.2 ⟨rfl, (List.forall_mem_cons.2 ⟨rfl, (fun _ h_ => by cases h_)⟩)⟩)⟩) rfl) ?_
      rintro hc288 w284 ⟨b285, S286, K287⟩
      replace h270 := h270.move (K287.at 0 rfl)
      replace b22 := K287.blk 1 rfl b22
      replace b17 := K287.blk 2 rfl b17
      refine ⟨⟨(Ext.trans (((((E88.trans E241).trans E247).trans E254).trans E260).trans E275) S286.inv), (fun b_ h_ => (K287.at 1 rfl b_ h_).trans (hs282.2.1 b_ h_)), (fun b_ h_ => (K287.at 2 rfl b_ h_).trans (hs282.2.2 b_ h_))⟩, fun hs289 => ?_⟩
      clear b224
      refine xone (i := 10) (by kernel_rfl) hc288 ?_
      refine yo (i := 10) (d := 7) rfl rfl (wanted_none rfl _) (by kernel_rfl) (by kernel_rfl) (fun _ _ => Iff.rfl) hs289 (e_assign (v := .int .i64 t263.2) (by kernel_rfl)) ?_; intro hc290 hs291
      refine xn (by kernel_rfl) ?_ _
      have S292 := S286.pull (F := F271) (Fr := [(is g223), (is g21), (is g16)]) 1 rfl rfl
      have S293 := S292.pull (F := (is g16)) (Fr := [F271, (is g223), (is g21)]) 3 rfl rfl
      have S294 := S293.pull (F := (is g21)) (Fr := [(is g16), F271, (is g223)]) 3 rfl rfl
      exact ⟨rfl, _, H266, g223, t263.1.kind, t263.1.n, t263.1.text, A268, c269, F271, t263.2, rfl, (by kernel_rfl), (by kernel_rfl), (by kernel_rfl), (by kernel_rfl), b22, b17, h270, b285, (((((E88.trans E241).trans E247).trans E254).trans E260).trans E275), S294, M⟩
    refine ye (i := 8) (d := 6) rfl rfl (wanted_none rfl _) (by kernel_rfl) (by kernel_rfl) (new_blk (v := fun g_ => .pointer (some ⟨g_, 0, none⟩)) (cs := #[.int .i64 0, .int .i64 0, .slice none 0 0]) (t := 36) S62 (by kernel_rfl)) ?_
    rintro hc300 _ w295 ⟨g296, rfl, b297, S298, K299⟩
    replace b22 := K299.blk 0 rfl b22
    replace b17 := K299.blk 1 rfl b17
    refine ⟨⟨S298.inv, (fun b_ h_ => (K299.at 0 rfl b_ h_).trans (hs71.2.1 b_ h_)), (fun b_ h_ => (K299.at 1 rfl b_ h_).trans (hs71.2.2 b_ h_))⟩, fun hs301 => ?_⟩
    obtain ⟨t302, u303, M⟩ := bnd M
    refine xone (i := 1) (by kernel_rfl) hc300 ?_
    refine yc (i := 1) rfl (wanted_none rfl _) (by kernel_rfl) (by kernel_rfl) (e_call (l := [.tmp 28]) (vs := [.agg #[.slice A2 x1.cells.length c3, .slice A6 x1.trail.length c7]]) Try.func12 (by kernel_rfl) rfl (by kernel_rfl) rfl) (laws_toStore.calls k w295 H x1 A2 c3 A6 c7 h4 l5 h8 l9 (St.own' (Fa := []) (Fr := [(is g296), (is g21), (is g16)]) S298) t302 u303) ?_
    rintro hc315 _ w304 ⟨A307, c308, F310, A311, c312, F314, H305, rfl, h309, h313, T306⟩
    refine ⟨_, rfl, ?_⟩
    obtain ⟨S316, K317⟩ := St.call (Fa := []) (Fr := [(is g296), (is g21), (is g16)]) S298 T306
    replace b297 := K317.blk 0 rfl b297
    replace b22 := K317.blk 1 rfl b22
    replace b17 := K317.blk 2 rfl b17
    have E318 := T306.ext
    refine ⟨⟨(Ext.trans E318 S316.inv), (fun b_ h_ => (K317.at 1 rfl b_ h_).trans (hs301.2.1 b_ h_)), (fun b_ h_ => (K317.at 2 rfl b_ h_).trans (hs301.2.2 b_ h_))⟩, fun hs319 => ?_⟩
    obtain ⟨t320, u321, M⟩ := bnd M
    refine xone (i := 3) (by kernel_rfl) hc315 ?_
    refine yc (i := 3) rfl (wanted_none rfl _) (by kernel_rfl) (by kernel_rfl) (e_call (l := [.tmp 30]) (vs := [.agg #[.int .i64 x10.kind, .int .i64 x10.n, .slice A11 x10.text.length c12]]) Try.func13 (by kernel_rfl) rfl (by kernel_rfl) rfl) (laws_toCell.calls k w304 H305 x10 A11 c12 (h13.ext E318) l14 (St.own' (Fa := []) (Fr := [F310, F314, (is g296), (is g21), (is g16)]) S316) t320 u321) ?_
    rintro hc329 _ w322 ⟨A325, c326, F328, H323, rfl, h327, T324⟩
    refine ⟨_, rfl, ?_⟩
    obtain ⟨S330, K331⟩ := St.call (Fa := []) (Fr := [F310, F314, (is g296), (is g21), (is g16)]) S316 T324
    replace h309 := h309.move (K331.at 0 rfl)
    replace h313 := h313.move (K331.at 1 rfl)
    replace b297 := K331.blk 2 rfl b297
    replace b22 := K331.blk 3 rfl b22
    replace b17 := K331.blk 4 rfl b17
    have E332 := T324.ext
    replace h309 := h309.ext E332
    replace h313 := h313.ext E332
    refine ⟨⟨(Ext.trans (E318.trans E332) S330.inv), (fun b_ h_ => (K331.at 3 rfl b_ h_).trans (hs319.2.1 b_ h_)), (fun b_ h_ => (K331.at 4 rfl b_ h_).trans (hs319.2.2 b_ h_))⟩, fun hs333 => ?_⟩
    have l334 := h309.le
    have S335 := S330.pull (F := F310) (Fr := [F328, F314, (is g296), (is g21), (is g16)]) 1 rfl rfl
    obtain ⟨H336, S337, E338, h339, z340⟩ := S335.frzRow h309
    replace h327 := h327.ext E338
    replace h313 := h313.ext E338
    have l341 := h313.le
    have S342 := S337.pull (F := F314) (Fr := [F328, (is g296), (is g21), (is g16)]) 1 rfl rfl
    obtain ⟨H343, S344, E345, h346, z347⟩ := S342.frzRow h313
    replace h327 := h327.ext E345
    have l348 := h327.le
    obtain ⟨H349, S350, E351, h352, z353⟩ := S344.frzRow h327
    obtain ⟨t354, u355, M⟩ := bnd M
    refine xone (i := 4) (by kernel_rfl) hc329 ?_
    refine yc (i := 4) rfl (wanted_none rfl _) (by kernel_rfl) (by kernel_rfl) (e_call (l := [.tmp 29, .tmp 31]) (vs := [.agg #[.slice A307 t302.cells.length c308, .slice A311 t302.trail.length c312], .agg #[.int .i64 t320.kind, .int .i64 t320.n, .slice A325 t320.text.length c326]]) Try.func17 (by kernel_rfl) rfl (by kernel_rfl) rfl) (spec_Deref.calls k w322 H349 t302 A307 c308 A311 c312 t320 A325 c326 (h339.ext (E345.trans E351)) l334 (h346.ext E351) l341 h352 l348 (St.own' (Fa := []) (Fr := [(is g296), (is g21), (is g16)]) S350) t354 u355) ?_
    rintro hc363 _ w356 ⟨A359, c360, F362, H357, rfl, h361, T358⟩
    refine ⟨_, rfl, ?_⟩
    obtain ⟨S364, K365⟩ := St.call (Fa := []) (Fr := [(is g296), (is g21), (is g16)]) S350 T358
    replace b297 := K365.blk 0 rfl b297
    replace b22 := K365.blk 1 rfl b22
    replace b17 := K365.blk 2 rfl b17
    have E366 := T358.ext
    refine ⟨⟨(Ext.trans (((((E318.trans E332).trans E338).trans E345).trans E351).trans E366) S364.inv), (fun b_ h_ => (K365.at 1 rfl b_ h_).trans (hs333.2.1 b_ h_)), (fun b_ h_ => (K365.at 2 rfl b_ h_).trans (hs333.2.2 b_ h_))⟩, fun hs367 => ?_⟩
    refine xone (i := 5) (by kernel_rfl) hc363 ?_
    refine yo (i := 5) (d := 27) rfl rfl (wanted_none rfl _) (by kernel_rfl) (by kernel_rfl) (fun _ _ => Iff.rfl) hs367 (e_move (v := .tuple #[.agg #[.int .i64 t354.1.kind, .int .i64 t354.1.n, .slice A359 t354.1.text.length c360], .int .i64 t354.2]) (by kernel_rfl)) ?_; intro hc368 hs369
    refine xv (i := 6) (d := 33) rfl rfl rfl (by kernel_rfl) (by kernel_rfl) (fun _ _ => Iff.rfl) hc368 hs369 (fun L_ w_ hc_ hu_ hs_ => e_extract (vs := #[.agg #[.int .i64 t354.1.kind, .int .i64 t354.1.n, .slice A359 t354.1.text.length c360], .int .i64 t354.2]) (v := .agg #[.int .i64 t354.1.kind, .int .i64 t354.1.n, .slice A359 t354.1.text.length c360]) (by kernel_rfl) rfl) ?_; intro hc370 hs371
    refine xv (i := 7) (d := 34) rfl rfl rfl (by kernel_rfl) (by kernel_rfl) (fun _ _ => Iff.rfl) hc370 hs371 (fun L_ w_ hc_ hu_ hs_ => e_extract (vs := #[.agg #[.int .i64 t354.1.kind, .int .i64 t354.1.n, .slice A359 t354.1.text.length c360], .int .i64 t354.2]) (v := .int .i64 t354.2) (by kernel_rfl) rfl) ?_; intro hc372 hs373
    have S374 := S364.pull (F := (is g296)) (Fr := [F362, (is g21), (is g16)]) 1 rfl rfl
    refine xone (i := 9) (by kernel_rfl) hc372 ?_
    refine ys (i := 9) rfl rfl (wanted_none rfl _) (by kernel_rfl) (by kernel_rfl) (e_store (g := g296) (o := 0) (v := .agg #[.int .i64 t354.1.kind, .int .i64 t354.1.n, .slice A359 t354.1.text.length c360]) (cur' := #[.int .i64 t354.1.kind, .int .i64 t354.1.n, .slice A359 t354.1.text.length c360]) (vs := [.int .i64 t354.1.kind, .int .i64 t354.1.n, .slice A359 t354.1.text.length c360]) S374 (by kernel_rfl) (by kernel_rfl) rfl (by kernel_rfl) b297 (Nat.le_of_ble_eq_true rfl) (List.forall_mem_cons.2 ⟨rfl, (List.forall_mem_cons.2 ⟨rfl, (List.forall_mem_cons.2 ⟨rfl, (fun _ h_ => by cases h_)⟩)⟩)⟩) rfl) ?_
    rintro hc379 w375 ⟨b376, S377, K378⟩
    replace h361 := h361.move (K378.at 0 rfl)
    replace b22 := K378.blk 1 rfl b22
    replace b17 := K378.blk 2 rfl b17
    refine ⟨⟨(Ext.trans (((((E318.trans E332).trans E338).trans E345).trans E351).trans E366) S377.inv), (fun b_ h_ => (K378.at 1 rfl b_ h_).trans (hs373.2.1 b_ h_)), (fun b_ h_ => (K378.at 2 rfl b_ h_).trans (hs373.2.2 b_ h_))⟩, fun hs380 => ?_⟩
    clear b297
    refine xone (i := 10) (by kernel_rfl) hc379 ?_
    refine yo (i := 10) (d := 7) rfl rfl (wanted_none rfl _) (by kernel_rfl) (by kernel_rfl) (fun _ _ => Iff.rfl) hs380 (e_assign (v := .int .i64 t354.2) (by kernel_rfl)) ?_; intro hc381 hs382
    refine xn (by kernel_rfl) ?_ _
    have S383 := S377.pull (F := F362) (Fr := [(is g296), (is g21), (is g16)]) 1 rfl rfl
    have S384 := S383.pull (F := (is g16)) (Fr := [F362, (is g296), (is g21)]) 3 rfl rfl
    have S385 := S384.pull (F := (is g21)) (Fr := [(is g16), F362, (is g296)]) 3 rfl rfl
    exact ⟨rfl, _, H357, g296, t354.1.kind, t354.1.n, t354.1.text, A359, c360, F362, t354.2, rfl, (by kernel_rfl), (by kernel_rfl), (by kernel_rfl), (by kernel_rfl), b22, b17, h361, b376, (((((E318.trans E332).trans E338).trans E345).trans E351).trans E366), S385, M⟩
  clear M
  rintro a60 w39 ⟨f40, H41, g43, x45, x46, x47, A48, c49, F50, x52, rfl, e53, e54, e55, e56, b22, b17, h51, b44, Y42, S57, M⟩
  rw [laws_FnExactDeref.l0] at M
  refine then_n ?_
  refine wp_seq ?_
  refine wp_region_lit ?_
  refine lv (d := 35) rfl rfl (by kernel_rfl) (e_loadS (b := g16) (off := 0) (cs := [.slice A2 x1.cells.length c3, .slice A6 x1.trail.length c7]) Try.underlying25 rfl (by kernel_rfl) (by exact e53) (blk_cells b17 rfl)) ?_
  obtain ⟨t386, u387, M⟩ := bnd M
  refine lcall (d := 36) rfl rfl (by kernel_rfl) (e_call (l := [.tmp 35]) (vs := [.agg #[.slice A2 x1.cells.length c3, .slice A6 x1.trail.length c7]]) Try.func12 (by kernel_rfl) rfl (by kernel_rfl) rfl) (laws_toStore.calls k w39 H41 x1 A2 c3 A6 c7 (h4.ext Y42) l5 (h8.ext Y42) l9 (St.own' (Fa := []) (Fr := [(is g21), (is g16), F50, (is g43)]) S57) t386 u387) ?_
  rintro _ w388 ⟨A391, c392, F394, A395, c396, F398, H389, rfl, h393, h397, T390⟩
  refine ⟨_, rfl, ?_⟩
  obtain ⟨S399, K400⟩ := St.call (Fa := []) (Fr := [(is g21), (is g16), F50, (is g43)]) S57 T390
  replace b22 := K400.blk 0 rfl b22
  replace b17 := K400.blk 1 rfl b17
  replace h51 := h51.move (K400.at 2 rfl)
  replace b44 := K400.blk 3 rfl b44
  have E401 := T390.ext
  replace h51 := h51.ext E401
  refine lve (d := 8) rfl rfl (by kernel_rfl) (new_blk (v := fun g_ => .pointer (some ⟨g_, 0, none⟩)) (cs := #[.slice none 0 0, .slice none 0 0]) (t := 34) S399 (by kernel_rfl)) ?_
  rintro _ w402 ⟨g403, rfl, b404, S405, K406⟩
  replace h393 := h393.move (K406.at 0 rfl)
  replace h397 := h397.move (K406.at 1 rfl)
  replace b22 := K406.blk 2 rfl b22
  replace b17 := K406.blk 3 rfl b17
  replace h51 := h51.move (K406.at 4 rfl)
  replace b44 := K406.blk 5 rfl b44
  refine lse rfl rfl (by kernel_rfl) (e_store (g := g403) (o := 0) (v := .agg #[.slice A391 t386.cells.length c392, .slice A395 t386.trail.length c396]) (cur' := #[.slice A391 t386.cells.length c392, .slice A395 t386.trail.length c396]) (vs := [.slice A391 t386.cells.length c392, .slice A395 t386.trail.length c396]) S405 (by kernel_rfl) (by kernel_rfl) rfl (by kernel_rfl) b404 (Nat.le_of_ble_eq_true rfl) (List.forall_mem_cons.2 ⟨rfl, (List.forall_mem_cons.2 ⟨rfl, (fun _ h_ => by cases h_)⟩)⟩) rfl) ?_
  rintro w407 ⟨b408, S409, K410⟩
  replace h393 := h393.move (K410.at 0 rfl)
  replace h397 := h397.move (K410.at 1 rfl)
  replace b22 := K410.blk 2 rfl b22
  replace b17 := K410.blk 3 rfl b17
  replace h51 := h51.move (K410.at 4 rfl)
  replace b44 := K410.blk 5 rfl b44
  clear b404
  refine wpList_nil ?_
  refine then_n ?_
  refine wp_seq ?_
  refine wp_region_lit ?_
  refine lv (d := 37) rfl rfl (by kernel_rfl) (e_loadS (b := g21) (off := 0) (cs := [.int .i64 x10.kind, .int .i64 x10.n, .slice A11 x10.text.length c12]) Try.underlying28 rfl (by kernel_rfl) (by exact e54) (blk_cells b22 rfl)) ?_
  obtain ⟨t411, u412, M⟩ := bnd M
  refine lcall (d := 38) rfl rfl (by kernel_rfl) (e_call (l := [.tmp 37]) (vs := [.agg #[.int .i64 x10.kind, .int .i64 x10.n, .slice A11 x10.text.length c12]]) Try.func13 (by kernel_rfl) rfl (by kernel_rfl) rfl) (laws_toCell.calls k w407 H389 x10 A11 c12 (h13.ext (Y42.trans E401)) l14 (St.own' (Fa := []) (Fr := [(is g403), F394, F398, (is g21), (is g16), F50, (is g43)]) S409) t411 u412) ?_
  rintro _ w413 ⟨A416, c417, F419, H414, rfl, h418, T415⟩
  refine ⟨_, rfl, ?_⟩
  obtain ⟨S420, K421⟩ := St.call (Fa := []) (Fr := [(is g403), F394, F398, (is g21), (is g16), F50, (is g43)]) S409 T415
  replace b408 := K421.blk 0 rfl b408
  replace h393 := h393.move (K421.at 1 rfl)
  replace h397 := h397.move (K421.at 2 rfl)
  replace b22 := K421.blk 3 rfl b22
  replace b17 := K421.blk 4 rfl b17
  replace h51 := h51.move (K421.at 5 rfl)
  replace b44 := K421.blk 6 rfl b44
  have E422 := T415.ext
  replace h393 := h393.ext E422
  replace h397 := h397.ext E422
  replace h51 := h51.ext E422
  refine lve (d := 9) rfl rfl (by kernel_rfl) (new_blk (v := fun g_ => .pointer (some ⟨g_, 0, none⟩)) (cs := #[.int .i64 0, .int .i64 0, .slice none 0 0]) (t := 36) S420 (by kernel_rfl)) ?_
  rintro _ w423 ⟨g424, rfl, b425, S426, K427⟩
  replace h418 := h418.move (K427.at 0 rfl)
  replace b408 := K427.blk 1 rfl b408
  replace h393 := h393.move (K427.at 2 rfl)
  replace h397 := h397.move (K427.at 3 rfl)
  replace b22 := K427.blk 4 rfl b22
  replace b17 := K427.blk 5 rfl b17
  replace h51 := h51.move (K427.at 6 rfl)
  replace b44 := K427.blk 7 rfl b44
  refine lse rfl rfl (by kernel_rfl) (e_store (g := g424) (o := 0) (v := .agg #[.int .i64 t411.kind, .int .i64 t411.n, .slice A416 t411.text.length c417]) (cur' := #[.int .i64 t411.kind, .int .i64 t411.n, .slice A416 t411.text.length c417]) (vs := [.int .i64 t411.kind, .int .i64 t411.n, .slice A416 t411.text.length c417]) S426 (by kernel_rfl) (by kernel_rfl) rfl (by kernel_rfl) b425 (Nat.le_of_ble_eq_true rfl) (List.forall_mem_cons.2 ⟨rfl, (List.forall_mem_cons.2 ⟨rfl, (List.forall_mem_cons.2 ⟨rfl, (fun _ h_ => by cases h_)⟩)⟩)⟩) rfl) ?_
  rintro w428 ⟨b429, S430, K431⟩
  replace h418 := h418.move (K431.at 0 rfl)
  replace b408 := K431.blk 1 rfl b408
  replace h393 := h393.move (K431.at 2 rfl)
  replace h397 := h397.move (K431.at 3 rfl)
  replace b22 := K431.blk 4 rfl b22
  replace b17 := K431.blk 5 rfl b17
  replace h51 := h51.move (K431.at 6 rfl)
  replace b44 := K431.blk 7 rfl b44
  clear b425
  refine wpList_nil ?_
  refine then_n ?_
  refine wp_seq ?_
  refine wp_region_lit ?_
  refine lv (d := 40) rfl rfl (by kernel_rfl) (e_loadS (b := g403) (off := 0) (cs := [.slice A391 t386.cells.length c392, .slice A395 t386.trail.length c396]) Try.underlying34 rfl (by kernel_rfl) (by kernel_rfl) (blk_cells b408 rfl)) ?_
  refine lv (d := 41) rfl rfl (by kernel_rfl) (e_loadS (b := g424) (off := 0) (cs := [.int .i64 t411.kind, .int .i64 t411.n, .slice A416 t411.text.length c417]) Try.underlying36 rfl (by kernel_rfl) (by kernel_rfl) (blk_cells b429 rfl)) ?_
  have S432 := S430.pull (F := F394) (Fr := [(is g424), F419, (is g403), F398, (is g21), (is g16), F50, (is g43)]) 3 rfl rfl
  have l433 := h393.le
  obtain ⟨H434, S435, E436, h437, z438⟩ := S432.frzRow h393
  have h439 := h418.ext E436
  have h440 := h397.ext E436
  have h441 := h51.ext E436
  have S442 := S435.pull (F := F398) (Fr := [(is g424), F419, (is g403), (is g21), (is g16), F50, (is g43)]) 3 rfl rfl
  have l443 := h440.le
  obtain ⟨H444, S445, E446, h447, z448⟩ := S442.frzRow h440
  have h449 := h439.ext E446
  have h450 := h441.ext E446
  have S451 := S445.pull (F := F419) (Fr := [(is g424), (is g403), (is g21), (is g16), F50, (is g43)]) 1 rfl rfl
  have l452 := h449.le
  obtain ⟨H453, S454, E455, h456, z457⟩ := S451.frzRow h449
  have h458 := h450.ext E455
  obtain ⟨t459, u460, M⟩ := bnd M
  refine lcall (d := 42) rfl rfl (by kernel_rfl) (e_call (l := [.tmp 40, .tmp 41]) (vs := [.agg #[.slice A391 t386.cells.length c392, .slice A395 t386.trail.length c396], .agg #[.int .i64 t411.kind, .int .i64 t411.n, .slice A416 t411.text.length c417]]) Try.func18 (by kernel_rfl) rfl (by kernel_rfl) rfl) (impl_Deref.calls k w428 H453 t386 A391 c392 A395 c396 t411 A416 c417 (h437.ext (E446.trans E455)) l433 (h447.ext E455) l443 h456 l452 S454.own0 t459 u460) ?_
  rintro _ w461 ⟨A464, c465, F467, H462, rfl, h466, T463⟩
  refine ⟨_, rfl, ?_⟩
  obtain ⟨S468, K469⟩ := St.call (Fa := []) (Fr := [(is g424), (is g403), (is g21), (is g16), F50, (is g43)]) S454 T463
  replace b429 := K469.blk 0 rfl b429
  replace b408 := K469.blk 1 rfl b408
  replace b22 := K469.blk 2 rfl b22
  replace b17 := K469.blk 3 rfl b17
  replace h51 := h51.move (K469.at 4 rfl)
  replace b44 := K469.blk 5 rfl b44
  obtain ⟨H470, S471, E472, v473⟩ := St.thaw S451 z457 S468 T463.ext E455 T463.size
  replace h418 := h418.move v473
  obtain ⟨H474, S475, E476, v477⟩ := St.thaw S442 z448 S471 E472 E446 T463.size
  replace h397 := h397.move v477
  obtain ⟨H478, S479, E480, v481⟩ := St.thaw S432 z438 S475 E476 E436 T463.size
  replace h393 := h393.move v481
  replace h393 := h393.ext E480
  replace h397 := h397.ext E480
  replace h418 := h418.ext E480
  replace h51 := h51.ext E480
  replace h466 := Row.free (H' := H478) (free_scal _ _) h466
  refine lv (d := 39) rfl rfl (by kernel_rfl) (e_move (v := .tuple #[.agg #[.int .i64 t459.1.kind, .int .i64 t459.1.n, .slice A464 t459.1.text.length c465], .int .i64 t459.2]) (by kernel_rfl)) ?_
  refine lv (d := 43) rfl rfl (by kernel_rfl) (e_extract (vs := #[.agg #[.int .i64 t459.1.kind, .int .i64 t459.1.n, .slice A464 t459.1.text.length c465], .int .i64 t459.2]) (v := .agg #[.int .i64 t459.1.kind, .int .i64 t459.1.n, .slice A464 t459.1.text.length c465]) (by kernel_rfl) rfl) ?_
  refine lv (d := 44) rfl rfl (by kernel_rfl) (e_extract (vs := #[.agg #[.int .i64 t459.1.kind, .int .i64 t459.1.n, .slice A464 t459.1.text.length c465], .int .i64 t459.2]) (v := .int .i64 t459.2) (by kernel_rfl) rfl) ?_
  refine lve (d := 10) rfl rfl (by kernel_rfl) (new_blk (v := fun g_ => .pointer (some ⟨g_, 0, none⟩)) (cs := #[.int .i64 0, .int .i64 0, .slice none 0 0]) (t := 36) S479 (by kernel_rfl)) ?_
  rintro _ w482 ⟨g483, rfl, b484, S485, K486⟩
  replace h393 := h393.move (K486.at 0 rfl)
  replace h397 := h397.move (K486.at 1 rfl)
  replace h418 := h418.move (K486.at 2 rfl)
  replace h466 := h466.move (K486.at 3 rfl)
  replace b429 := K486.blk 4 rfl b429
  replace b408 := K486.blk 5 rfl b408
  replace b22 := K486.blk 6 rfl b22
  replace b17 := K486.blk 7 rfl b17
  replace h51 := h51.move (K486.at 8 rfl)
  replace b44 := K486.blk 9 rfl b44
  refine lse rfl rfl (by kernel_rfl) (e_store (g := g483) (o := 0) (v := .agg #[.int .i64 t459.1.kind, .int .i64 t459.1.n, .slice A464 t459.1.text.length c465]) (cur' := #[.int .i64 t459.1.kind, .int .i64 t459.1.n, .slice A464 t459.1.text.length c465]) (vs := [.int .i64 t459.1.kind, .int .i64 t459.1.n, .slice A464 t459.1.text.length c465]) S485 (by kernel_rfl) (by kernel_rfl) rfl (by kernel_rfl) b484 (Nat.le_of_ble_eq_true rfl) (List.forall_mem_cons.2 ⟨rfl, (List.forall_mem_cons.2 ⟨rfl, (List.forall_mem_cons.2 ⟨rfl, (fun _ h_ => by cases h_)⟩)⟩)⟩) rfl) ?_
  rintro w487 ⟨b488, S489, K490⟩
  replace h393 := h393.move (K490.at 0 rfl)
  replace h397 := h397.move (K490.at 1 rfl)
  replace h418 := h418.move (K490.at 2 rfl)
  replace h466 := h466.move (K490.at 3 rfl)
  replace b429 := K490.blk 4 rfl b429
  replace b408 := K490.blk 5 rfl b408
  replace b22 := K490.blk 6 rfl b22
  replace b17 := K490.blk 7 rfl b17
  replace h51 := h51.move (K490.at 8 rfl)
  replace b44 := K490.blk 9 rfl b44
  clear b484
  refine lv (d := 11) rfl rfl (by kernel_rfl) (e_assign (v := .int .i64 t459.2) (by kernel_rfl)) ?_
  refine wpList_nil ?_
  refine then_n ?_
  refine wp_seq ?_
  refine wp_seq ?_
  refine wp_region_lit ?_
  refine lv (d := 45) rfl rfl (by kernel_rfl) (e_loadS (b := g483) (off := 0) (cs := [.int .i64 t459.1.kind, .int .i64 t459.1.n, .slice A464 t459.1.text.length c465]) Try.underlying36 rfl (by kernel_rfl) (by kernel_rfl) (blk_cells b488 rfl)) ?_
  refine lv (d := 46) rfl rfl (by kernel_rfl) (e_loadS (b := g43) (off := 0) (cs := [.int .i64 x45, .int .i64 x46, .slice A48 x47.length c49]) Try.underlying36 rfl (by kernel_rfl) (by exact e55) (blk_cells b44 rfl)) ?_
  obtain ⟨t491, u492, M⟩ := bnd M
  refine lcall (d := 47) rfl rfl (by kernel_rfl) (e_call (l := [.tmp 45, .tmp 46]) (vs := [.agg #[.int .i64 t459.1.kind, .int .i64 t459.1.n, .slice A464 t459.1.text.length c465], .agg #[.int .i64 x45, .int .i64 x46, .slice A48 x47.length c49]]) Try.func16 (by kernel_rfl) rfl (by kernel_rfl) rfl) (by have l493 := h466.le; have S494 := S489.pull (F := F467) (Fr := [(is g483), F394, F398, F419, (is g424), (is g403), (is g21), (is g16), F50, (is g43)]) 4 rfl rfl; obtain ⟨H495, S496, E497, h498, z499⟩ := S494.frzRow h466; replace h393 := h393.ext E497; replace h397 := h397.ext E497; replace h418 := h418.ext E497; replace h51 := h51.ext E497; have l500 := h51.le; have S501 := S496.pull (F := F50) (Fr := [(is g483), F394, F398, F419, (is g424), (is g403), (is g21), (is g16), (is g43)]) 8 rfl rfl; obtain ⟨H502, S503, E504, h505, z506⟩ := S501.frzRow h51; replace h393 := h393.ext E504; replace h397 := h397.ext E504; replace h418 := h418.ext E504; exact (laws_eqCell.calls k w487 H502 t459.1 A464 c465 (⟨x45, x46, x47⟩ : Cell) A48 c49 (h498.ext E504) l493 h505 l500 S503.own0 t491 u492)) ?_
  rintro _ w507 ⟨rfl, C508⟩
  refine ⟨_, rfl, ?_⟩
  obtain ⟨S509, K510⟩ := S489.still C508
  replace b488 := K510.blk 0 rfl b488
  replace h393 := h393.move (K510.at 1 rfl)
  replace h397 := h397.move (K510.at 2 rfl)
  replace h418 := h418.move (K510.at 3 rfl)
  replace h466 := h466.move (K510.at 4 rfl)
  replace b429 := K510.blk 5 rfl b429
  replace b408 := K510.blk 6 rfl b408
  replace b22 := K510.blk 7 rfl b22
  replace b17 := K510.blk 8 rfl b17
  replace h51 := h51.move (K510.at 9 rfl)
  replace b44 := K510.blk 10 rfl b44
  refine lv (d := 48) rfl rfl (by kernel_rfl) (e_notv (c := t491) (by kernel_rfl)) ?_
  refine lv (d := 49) rfl rfl (by kernel_rfl) (e_move (v := .bool (decide (¬ (t491 = true)))) (by kernel_rfl)) ?_
  by_cases q511 : ¬ (t491 = true)
  · replace M := ifp q511 M
    refine lskip (t := 49) (c := true) rfl (by kernel_rfl) rfl (bt q511 (by kernel_rfl)) rfl rfl ?_
    refine lskip (t := 49) (c := true) rfl (by kernel_rfl) rfl (bt q511 (by kernel_rfl)) rfl rfl ?_
    refine lskip (t := 49) (c := true) rfl (by kernel_rfl) rfl (bt q511 (by kernel_rfl)) rfl rfl ?_
    refine lv (d := 53) rfl rfl (by kernel_rfl) (e_pick_t (v := .bool true) (bt q511 (by kernel_rfl)) rfl) ?_
    refine wpList_nil ?_
    refine then_n ?_
    refine cond_t rfl (by kernel_rfl) ?_
    refine wp_seq ?_
    refine wp_region_lit ?_
    refine lv (d := 4) rfl rfl (by kernel_rfl) (e_assign (v := .bool false) rfl) ?_
    refine wpList_nil ?_
    refine then_n ?_
    refine wp_ret ?_
    refine then_r ?_
    obtain rfl := Option.some.inj M
    exact ret1 rfl rfl  (show _ = .bool false from (by kernel_rfl)) ⟨rfl, S509.chg⟩
  replace M := ifn q511 M
  refine lvg (d := 50) (t := 49) rfl (by kernel_rfl) rfl (bf q511 (by kernel_rfl)) rfl (by kernel_rfl) (e_move (v := .int .i64 t459.2) (by kernel_rfl)) ?_
  refine lvg (d := 51) (t := 49) rfl (by kernel_rfl) rfl (bf q511 (by kernel_rfl)) rfl (by kernel_rfl) (e_move (v := .int .i64 x52) (by exact e56)) ?_
  refine lvg (d := 52) (t := 49) rfl (by kernel_rfl) rfl (bf q511 (by kernel_rfl)) rfl (by kernel_rfl) (e_neq (k := .i64) (a := t459.2) (b := x52) (by kernel_rfl) (by kernel_rfl)) ?_
  refine lv (d := 53) rfl rfl (by kernel_rfl) (e_pick_f (v := .bool (decide (t459.2 ≠ x52))) (bf q511 (by kernel_rfl)) (by kernel_rfl)) ?_
  refine wpList_nil ?_
  refine then_n ?_
  by_cases q512 : t459.2 ≠ x52
  · replace M := ifp q512 M
    refine cond_t rfl (bt q512 (by kernel_rfl)) ?_
    refine wp_seq ?_
    refine wp_region_lit ?_
    refine lv (d := 4) rfl rfl (by kernel_rfl) (e_assign (v := .bool false) rfl) ?_
    refine wpList_nil ?_
    refine then_n ?_
    refine wp_ret ?_
    refine then_r ?_
    obtain rfl := Option.some.inj M
    exact ret1 rfl rfl  (show _ = .bool false from (by kernel_rfl)) ⟨rfl, S509.chg⟩
  replace M := ifn q512 M
  refine cond_f rfl (bf q512 (by kernel_rfl)) ?_
  refine wp_skip ?_
  refine then_n ?_
  refine wp_seq ?_
  refine wp_seq ?_
  refine region_mix (S := (fun (L_ : Array Bool) (w_ : World) => Ext H478 (hp w_) ∧ (∀ b_, (is g403) b_ → hp w_ b_ = hp w507 b_))) (by kernel_rfl) S509 ?_
  intro w513 S514 K515 hc516
  have o517 := b408
  have hs518 : (fun (L_ : Array Bool) (w_ : World) => Ext H478 (hp w_) ∧ (∀ b_, (is g403) b_ → hp w_ b_ = hp w507 b_)) (Array.replicate 5 false) w513 := ⟨S514.inv, (fun b_ h_ => K515.at 6 rfl b_ h_)⟩
  replace b488 := K515.blk 0 rfl b488
  replace h393 := h393.move (K515.at 1 rfl)
  replace h397 := h397.move (K515.at 2 rfl)
  replace h418 := h418.move (K515.at 3 rfl)
  replace h466 := h466.move (K515.at 4 rfl)
  replace b429 := K515.blk 5 rfl b429
  replace b408 := K515.blk 6 rfl b408
  replace b22 := K515.blk 7 rfl b22
  replace b17 := K515.blk 8 rfl b17
  replace h51 := h51.move (K515.at 9 rfl)
  replace b44 := K515.blk 10 rfl b44
  refine xv (i := 0) (d := 54) rfl rfl rfl (by kernel_rfl) (by kernel_rfl) (fun _ _ => Iff.rfl) hc516 hs518 (fun L_ w_ hc_ hu_ hs_ => e_loadS (b := g403) (off := 0) (cs := [.slice A391 t386.cells.length c392, .slice A395 t386.trail.length c396]) Try.underlying34 rfl (by kernel_rfl) (by kernel_rfl) (blk_cells ((hs_.2 _ rfl).trans o517) rfl)) ?_; intro hc519 hs520
  refine xone (i := 1) (by kernel_rfl) hc519 ?_
  refine yo (i := 1) (d := 55) rfl rfl (wanted_none rfl _) (by kernel_rfl) (by kernel_rfl) (fun _ _ => Iff.rfl) hs520 (e_loadS (b := g16) (off := 0) (cs := [.slice A2 x1.cells.length c3, .slice A6 x1.trail.length c7]) Try.underlying25 rfl (by kernel_rfl) (by exact e53) (blk_cells b17 rfl)) ?_; intro hc521 hs522
  obtain ⟨t523, u524, M⟩ := bnd M
  refine xone (i := 2) (by kernel_rfl) hc521 ?_
  refine yc (i := 2) rfl (wanted_none rfl _) (by kernel_rfl) (by kernel_rfl) (e_call (l := [.tmp 55]) (vs := [.agg #[.slice A2 x1.cells.length c3, .slice A6 x1.trail.length c7]]) Try.func12 (by kernel_rfl) rfl (by kernel_rfl) rfl) (laws_toStore.calls k w513 H478 x1 A2 c3 A6 c7 (h4.ext (((Y42.trans E401).trans E422).trans E480)) l5 (h8.ext (((Y42.trans E401).trans E422).trans E480)) l9 (St.own' (Fa := []) (Fr := [(is g483), F394, F398, F419, F467, (is g424), (is g403), (is g21), (is g16), F50, (is g43)]) S514) t523 u524) ?_
  rintro hc536 _ w525 ⟨A528, c529, F531, A532, c533, F535, H526, rfl, h530, h534, T527⟩
  refine ⟨_, rfl, ?_⟩
  obtain ⟨S537, K538⟩ := St.call (Fa := []) (Fr := [(is g483), F394, F398, F419, F467, (is g424), (is g403), (is g21), (is g16), F50, (is g43)]) S514 T527
  replace b488 := K538.blk 0 rfl b488
  replace h393 := h393.move (K538.at 1 rfl)
  replace h397 := h397.move (K538.at 2 rfl)
  replace h418 := h418.move (K538.at 3 rfl)
  replace h466 := h466.move (K538.at 4 rfl)
  replace b429 := K538.blk 5 rfl b429
  replace b408 := K538.blk 6 rfl b408
  replace b22 := K538.blk 7 rfl b22
  replace b17 := K538.blk 8 rfl b17
  replace h51 := h51.move (K538.at 9 rfl)
  replace b44 := K538.blk 10 rfl b44
  have E539 := T527.ext
  replace h393 := h393.ext E539
  replace h397 := h397.ext E539
  replace h418 := h418.ext E539
  replace h466 := h466.ext E539
  replace h51 := h51.ext E539
  refine ⟨⟨(Ext.trans E539 S537.inv), (fun b_ h_ => (K538.at 6 rfl b_ h_).trans (hs522.2 b_ h_))⟩, fun hs540 => ?_⟩
  obtain ⟨t541, u542, M⟩ := bnd M
  refine xone (i := 3) (by kernel_rfl) hc536 ?_
  refine yc (i := 3) rfl (wanted_none rfl _) (by kernel_rfl) (by kernel_rfl) (e_call (l := [.tmp 54, .tmp 56]) (vs := [.agg #[.slice A391 t386.cells.length c392, .slice A395 t386.trail.length c396], .agg #[.slice A528 t523.cells.length c529, .slice A532 t523.trail.length c533]]) Try.func15 (by kernel_rfl) rfl (by kernel_rfl) rfl) (by have l543 := h393.le; have S544 := S537.pull (F := F394) (Fr := [F531, F535, (is g483), F398, F419, F467, (is g424), (is g403), (is g21), (is g16), F50, (is g43)]) 3 rfl rfl; obtain ⟨H545, S546, E547, h548, z549⟩ := S544.frzRow h393; replace h530 := h530.ext E547; replace h534 := h534.ext E547; replace h397 := h397.ext E547; replace h418 := h418.ext E547; replace h466 := h466.ext E547; replace h51 := h51.ext E547; have l550 := h397.le; have S551 := S546.pull (F := F398) (Fr := [F531, F535, (is g483), F419, F467, (is g424), (is g403), (is g21), (is g16), F50, (is g43)]) 3 rfl rfl; obtain ⟨H552, S553, E554, h555, z556⟩ := S551.frzRow h397; replace h530 := h530.ext E554; replace h534 := h534.ext E554; replace h418 := h418.ext E554; replace h466 := h466.ext E554; replace h51 := h51.ext E554; have l557 := h530.le; obtain ⟨H558, S559, E560, h561, z562⟩ := S553.frzRow h530; replace h534 := h534.ext E560; replace h418 := h418.ext E560; replace h466 := h466.ext E560; replace h51 := h51.ext E560; have l563 := h534.le; obtain ⟨H564, S565, E566, h567, z568⟩ := S559.frzRow h534; replace h418 := h418.ext E566; replace h466 := h466.ext E566; replace h51 := h51.ext E566; exact (laws_eqStore.calls k w525 H564 t386 A391 c392 A395 c396 t523 A528 c529 A532 c533 (h548.ext ((E554.trans E560).trans E566)) l543 (h555.ext (E560.trans E566)) l550 (h561.ext E566) l557 h567 l563 S565.own0 t541 u542)) ?_
  rintro hc571 _ w569 ⟨rfl, C570⟩
  refine ⟨_, rfl, ?_⟩
  obtain ⟨S572, K573⟩ := S537.still C570
  replace h530 := h530.move (K573.at 0 rfl)
  replace h534 := h534.move (K573.at 1 rfl)
  replace b488 := K573.blk 2 rfl b488
  replace h393 := h393.move (K573.at 3 rfl)
  replace h397 := h397.move (K573.at 4 rfl)
  replace h418 := h418.move (K573.at 5 rfl)
  replace h466 := h466.move (K573.at 6 rfl)
  replace b429 := K573.blk 7 rfl b429
  replace b408 := K573.blk 8 rfl b408
  replace b22 := K573.blk 9 rfl b22
  replace b17 := K573.blk 10 rfl b17
  replace h51 := h51.move (K573.at 11 rfl)
  replace b44 := K573.blk 12 rfl b44
  refine ⟨⟨(Ext.trans E539 S572.inv), (fun b_ h_ => (K573.at 8 rfl b_ h_).trans (hs540.2 b_ h_))⟩, fun hs574 => ?_⟩
  refine xone (i := 4) (by kernel_rfl) hc571 ?_
  refine yo (i := 4) (d := 58) rfl rfl (wanted_none rfl _) (by kernel_rfl) (by kernel_rfl) (fun _ _ => Iff.rfl) hs574 (e_notv (c := t541) (by kernel_rfl)) ?_; intro hc575 hs576
  refine xn (by kernel_rfl) ?_ _
  refine then_n ?_
  by_cases q577 : ¬ (t541 = true)
  · replace M := ifp q577 M
    refine cond_t rfl (bt q577 (by kernel_rfl)) ?_
    refine wp_seq ?_
    refine wp_region_lit ?_
    refine lv (d := 4) rfl rfl (by kernel_rfl) (e_assign (v := .bool false) rfl) ?_
    refine wpList_nil ?_
    refine then_n ?_
    refine wp_ret ?_
    refine then_r ?_
    obtain rfl := Option.some.inj M
    exact ret1 rfl rfl  (show _ = .bool false from (by kernel_rfl)) ⟨rfl, S572.chg⟩
  replace M := ifn q577 M
  refine cond_f rfl (bf q577 (by kernel_rfl)) ?_
  refine wp_skip ?_
  refine then_n ?_
  refine wp_seq ?_
  refine wp_seq ?_
  refine region_mix (S := (fun (L_ : Array Bool) (w_ : World) => Ext H526 (hp w_) ∧ (∀ b_, (is g424) b_ → hp w_ b_ = hp w569 b_))) (by kernel_rfl) S572 ?_
  intro w578 S579 K580 hc581
  have o582 := b429
  have hs583 : (fun (L_ : Array Bool) (w_ : World) => Ext H526 (hp w_) ∧ (∀ b_, (is g424) b_ → hp w_ b_ = hp w569 b_)) (Array.replicate 5 false) w578 := ⟨S579.inv, (fun b_ h_ => K580.at 7 rfl b_ h_)⟩
  replace h530 := h530.move (K580.at 0 rfl)
  replace h534 := h534.move (K580.at 1 rfl)
  replace b488 := K580.blk 2 rfl b488
  replace h393 := h393.move (K580.at 3 rfl)
  replace h397 := h397.move (K580.at 4 rfl)
  replace h418 := h418.move (K580.at 5 rfl)
  replace h466 := h466.move (K580.at 6 rfl)
  replace b429 := K580.blk 7 rfl b429
  replace b408 := K580.blk 8 rfl b408
  replace b22 := K580.blk 9 rfl b22
  replace b17 := K580.blk 10 rfl b17
  replace h51 := h51.move (K580.at 11 rfl)
  replace b44 := K580.blk 12 rfl b44
  refine xv (i := 0) (d := 59) rfl rfl rfl (by kernel_rfl) (by kernel_rfl) (fun _ _ => Iff.rfl) hc581 hs583 (fun L_ w_ hc_ hu_ hs_ => e_loadS (b := g424) (off := 0) (cs := [.int .i64 t411.kind, .int .i64 t411.n, .slice A416 t411.text.length c417]) Try.underlying36 rfl (by kernel_rfl) (by kernel_rfl) (blk_cells ((hs_.2 _ rfl).trans o582) rfl)) ?_; intro hc584 hs585
  refine xone (i := 1) (by kernel_rfl) hc584 ?_
  refine yo (i := 1) (d := 60) rfl rfl (wanted_none rfl _) (by kernel_rfl) (by kernel_rfl) (fun _ _ => Iff.rfl) hs585 (e_loadS (b := g21) (off := 0) (cs := [.int .i64 x10.kind, .int .i64 x10.n, .slice A11 x10.text.length c12]) Try.underlying28 rfl (by kernel_rfl) (by exact e54) (blk_cells b22 rfl)) ?_; intro hc586 hs587
  obtain ⟨t588, u589, M⟩ := bnd M
  refine xone (i := 2) (by kernel_rfl) hc586 ?_
  refine yc (i := 2) rfl (wanted_none rfl _) (by kernel_rfl) (by kernel_rfl) (e_call (l := [.tmp 60]) (vs := [.agg #[.int .i64 x10.kind, .int .i64 x10.n, .slice A11 x10.text.length c12]]) Try.func13 (by kernel_rfl) rfl (by kernel_rfl) rfl) (laws_toCell.calls k w578 H526 x10 A11 c12 (h13.ext ((((Y42.trans E401).trans E422).trans E480).trans E539)) l14 (St.own' (Fa := []) (Fr := [F531, F535, (is g483), F394, F398, F419, F467, (is g424), (is g403), (is g21), (is g16), F50, (is g43)]) S579) t588 u589) ?_
  rintro hc597 _ w590 ⟨A593, c594, F596, H591, rfl, h595, T592⟩
  refine ⟨_, rfl, ?_⟩
  obtain ⟨S598, K599⟩ := St.call (Fa := []) (Fr := [F531, F535, (is g483), F394, F398, F419, F467, (is g424), (is g403), (is g21), (is g16), F50, (is g43)]) S579 T592
  replace h530 := h530.move (K599.at 0 rfl)
  replace h534 := h534.move (K599.at 1 rfl)
  replace b488 := K599.blk 2 rfl b488
  replace h393 := h393.move (K599.at 3 rfl)
  replace h397 := h397.move (K599.at 4 rfl)
  replace h418 := h418.move (K599.at 5 rfl)
  replace h466 := h466.move (K599.at 6 rfl)
  replace b429 := K599.blk 7 rfl b429
  replace b408 := K599.blk 8 rfl b408
  replace b22 := K599.blk 9 rfl b22
  replace b17 := K599.blk 10 rfl b17
  replace h51 := h51.move (K599.at 11 rfl)
  replace b44 := K599.blk 12 rfl b44
  have E600 := T592.ext
  replace h530 := h530.ext E600
  replace h534 := h534.ext E600
  replace h393 := h393.ext E600
  replace h397 := h397.ext E600
  replace h418 := h418.ext E600
  replace h466 := h466.ext E600
  replace h51 := h51.ext E600
  refine ⟨⟨(Ext.trans E600 S598.inv), (fun b_ h_ => (K599.at 7 rfl b_ h_).trans (hs587.2 b_ h_))⟩, fun hs601 => ?_⟩
  obtain ⟨t602, u603, M⟩ := bnd M
  refine xone (i := 3) (by kernel_rfl) hc597 ?_
  refine yc (i := 3) rfl (wanted_none rfl _) (by kernel_rfl) (by kernel_rfl) (e_call (l := [.tmp 59, .tmp 61]) (vs := [.agg #[.int .i64 t411.kind, .int .i64 t411.n, .slice A416 t411.text.length c417], .agg #[.int .i64 t588.kind, .int .i64 t588.n, .slice A593 t588.text.length c594]]) Try.func16 (by kernel_rfl) rfl (by kernel_rfl) rfl) (by have l604 := h418.le; have S605 := S598.pull (F := F419) (Fr := [F596, F531, F535, (is g483), F394, F398, F467, (is g424), (is g403), (is g21), (is g16), F50, (is g43)]) 6 rfl rfl; obtain ⟨H606, S607, E608, h609, z610⟩ := S605.frzRow h418; replace h595 := h595.ext E608; replace h530 := h530.ext E608; replace h534 := h534.ext E608; replace h393 := h393.ext E608; replace h397 := h397.ext E608; replace h466 := h466.ext E608; replace h51 := h51.ext E608; have l611 := h595.le; obtain ⟨H612, S613, E614, h615, z616⟩ := S607.frzRow h595; replace h530 := h530.ext E614; replace h534 := h534.ext E614; replace h393 := h393.ext E614; replace h397 := h397.ext E614; replace h466 := h466.ext E614; replace h51 := h51.ext E614; exact (laws_eqCell.calls k w590 H612 t411 A416 c417 t588 A593 c594 (h609.ext E614) l604 h615 l611 S613.own0 t602 u603)) ?_
  rintro hc619 _ w617 ⟨rfl, C618⟩
  refine ⟨_, rfl, ?_⟩
  obtain ⟨S620, K621⟩ := S598.still C618
  replace h595 := h595.move (K621.at 0 rfl)
  replace h530 := h530.move (K621.at 1 rfl)
  replace h534 := h534.move (K621.at 2 rfl)
  replace b488 := K621.blk 3 rfl b488
  replace h393 := h393.move (K621.at 4 rfl)
  replace h397 := h397.move (K621.at 5 rfl)
  replace h418 := h418.move (K621.at 6 rfl)
  replace h466 := h466.move (K621.at 7 rfl)
  replace b429 := K621.blk 8 rfl b429
  replace b408 := K621.blk 9 rfl b408
  replace b22 := K621.blk 10 rfl b22
  replace b17 := K621.blk 11 rfl b17
  replace h51 := h51.move (K621.at 12 rfl)
  replace b44 := K621.blk 13 rfl b44
  refine ⟨⟨(Ext.trans E600 S620.inv), (fun b_ h_ => (K621.at 8 rfl b_ h_).trans (hs601.2 b_ h_))⟩, fun hs622 => ?_⟩
  refine xone (i := 4) (by kernel_rfl) hc619 ?_
  refine yo (i := 4) (d := 63) rfl rfl (wanted_none rfl _) (by kernel_rfl) (by kernel_rfl) (fun _ _ => Iff.rfl) hs622 (e_notv (c := t602) (by kernel_rfl)) ?_; intro hc623 hs624
  refine xn (by kernel_rfl) ?_ _
  refine then_n ?_
  by_cases q625 : ¬ (t602 = true)
  · replace M := ifp q625 M
    refine cond_t rfl (bt q625 (by kernel_rfl)) ?_
    refine wp_seq ?_
    refine wp_region_lit ?_
    refine lv (d := 4) rfl rfl (by kernel_rfl) (e_assign (v := .bool false) rfl) ?_
    refine wpList_nil ?_
    refine then_n ?_
    refine wp_ret ?_
    refine then_r ?_
    obtain rfl := Option.some.inj M
    exact ret1 rfl rfl  (show _ = .bool false from (by kernel_rfl)) ⟨rfl, S620.chg⟩
  replace M := ifn q625 M
  refine cond_f rfl (bf q625 (by kernel_rfl)) ?_
  refine wp_skip ?_
  refine then_n ?_
  refine wp_seq ?_
  refine wp_region_lit ?_
  refine lv (d := 12) rfl rfl (by kernel_rfl) (e_assign (v := .int .i64 1) rfl) ?_
  refine wpList_nil ?_
  refine then_n ?_
  refine wp_seq ?_
  refine wp_region_lit ?_
  refine lv (d := 64) rfl rfl (by kernel_rfl) (e_loadS (b := g403) (off := 0) (cs := [.slice A391 t386.cells.length c392, .slice A395 t386.trail.length c396]) Try.underlying34 rfl (by kernel_rfl) (by kernel_rfl) (blk_cells b408 rfl)) ?_
  refine lv (d := 65) rfl rfl (by kernel_rfl) (e_move (v := .int .i64 1) (by kernel_rfl)) ?_
  have S626 := S620.pull (F := F398) (Fr := [F596, F531, F535, (is g483), F394, F419, F467, (is g424), (is g403), (is g21), (is g16), F50, (is g43)]) 5 rfl rfl
  have S627 := S626.pull (F := F394) (Fr := [F398, F596, F531, F535, (is g483), F419, F467, (is g424), (is g403), (is g21), (is g16), F50, (is g43)]) 5 rfl rfl
  obtain ⟨t628, u629, M⟩ := bnd M
  refine lcall (d := 66) rfl rfl (by kernel_rfl) (e_call (l := [.tmp 64, .tmp 65]) (vs := [.agg #[.slice A391 t386.cells.length c392, .slice A395 t386.trail.length c396], .int .i64 1]) Try.func19 (by kernel_rfl) rfl (by kernel_rfl) rfl) (laws_markStore_2.calls k w617 H591 t386 A391 c392 F394 A395 c396 F398 1 h393 h397 (St.own' (Fa := [F394, F398]) (Fr := [F596, F531, F535, (is g483), F419, F467, (is g424), (is g403), (is g21), (is g16), F50, (is g43)]) S627) t628 u629) ?_
  rintro _ w630 ⟨F634, F637, H631, rfl, n635, h633, n638, h636, T632⟩
  refine ⟨_, rfl, ?_⟩
  obtain ⟨S639, K640⟩ := St.call (Fa := [F394, F398]) (Fr := [F596, F531, F535, (is g483), F419, F467, (is g424), (is g403), (is g21), (is g16), F50, (is g43)]) S627 T632
  replace h595 := h595.move (K640.at 0 rfl)
  replace h530 := h530.move (K640.at 1 rfl)
  replace h534 := h534.move (K640.at 2 rfl)
  replace b488 := K640.blk 3 rfl b488
  replace h418 := h418.move (K640.at 4 rfl)
  replace h466 := h466.move (K640.at 5 rfl)
  replace b429 := K640.blk 6 rfl b429
  replace b408 := K640.blk 7 rfl b408
  replace b22 := K640.blk 8 rfl b22
  replace b17 := K640.blk 9 rfl b17
  replace h51 := h51.move (K640.at 10 rfl)
  replace b44 := K640.blk 11 rfl b44
  have E641 := T632.ext
  replace h595 := h595.ext E641
  replace h530 := h530.ext E641
  replace h534 := h534.ext E641
  replace h418 := h418.ext E641
  replace h466 := h466.ext E641
  replace h51 := h51.ext E641
  refine lv (d := 12) rfl rfl (by kernel_rfl) (e_assign (v := .int .i64 t628.1) (by kernel_rfl)) ?_
  refine wpList_nil ?_
  refine then_n ?_
  refine wp_seq ?_
  refine wp_region_lit ?_
  refine lv (d := 67) rfl rfl (by kernel_rfl) (e_loadS (b := g424) (off := 0) (cs := [.int .i64 t411.kind, .int .i64 t411.n, .slice A416 t411.text.length c417]) Try.underlying36 rfl (by kernel_rfl) (by kernel_rfl) (blk_cells b429 rfl)) ?_
  refine lv (d := 68) rfl rfl (by kernel_rfl) (e_move (v := .int .i64 t628.1) (by kernel_rfl)) ?_
  have S642 := S639.pull (F := F419) (Fr := [F634, F637, F596, F531, F535, (is g483), F467, (is g424), (is g403), (is g21), (is g16), F50, (is g43)]) 6 rfl rfl
  obtain ⟨t643, u644, M⟩ := bnd M
  refine lcall (d := 69) rfl rfl (by kernel_rfl) (e_call (l := [.tmp 67, .tmp 68]) (vs := [.agg #[.int .i64 t411.kind, .int .i64 t411.n, .slice A416 t411.text.length c417], .int .i64 t628.1]) Try.func20 (by kernel_rfl) rfl (by kernel_rfl) rfl) (laws_markCell_2.calls k w630 H631 t411 A416 c417 F419 t628.1 h418 (St.own' (Fa := [F419]) (Fr := [F634, F637, F596, F531, F535, (is g483), F467, (is g424), (is g403), (is g21), (is g16), F50, (is g43)]) S642) t643 u644) ?_
  rintro _ w645 ⟨F649, H646, rfl, n650, h648, T647⟩
  refine ⟨_, rfl, ?_⟩
  obtain ⟨S651, K652⟩ := St.call (Fa := [F419]) (Fr := [F634, F637, F596, F531, F535, (is g483), F467, (is g424), (is g403), (is g21), (is g16), F50, (is g43)]) S642 T647
  replace h633 := h633.move (K652.at 0 rfl)
  replace h636 := h636.move (K652.at 1 rfl)
  replace h595 := h595.move (K652.at 2 rfl)
  replace h530 := h530.move (K652.at 3 rfl)
  replace h534 := h534.move (K652.at 4 rfl)
  replace b488 := K652.blk 5 rfl b488
  replace h466 := h466.move (K652.at 6 rfl)
  replace b429 := K652.blk 7 rfl b429
  replace b408 := K652.blk 8 rfl b408
  replace b22 := K652.blk 9 rfl b22
  replace b17 := K652.blk 10 rfl b17
  replace h51 := h51.move (K652.at 11 rfl)
  replace b44 := K652.blk 12 rfl b44
  have E653 := T647.ext
  replace h633 := h633.ext E653
  replace h636 := h636.ext E653
  replace h595 := h595.ext E653
  replace h530 := h530.ext E653
  replace h534 := h534.ext E653
  replace h466 := h466.ext E653
  replace h51 := h51.ext E653
  refine lv (d := 12) rfl rfl (by kernel_rfl) (e_assign (v := .int .i64 t643.1) (by kernel_rfl)) ?_
  refine wpList_nil ?_
  refine then_n ?_
  refine wp_seq ?_
  refine wp_seq ?_
  refine wp_region_lit ?_
  refine lv (d := 70) rfl rfl (by kernel_rfl) (e_move (v := .int .i64 t643.1) (by kernel_rfl)) ?_
  refine lv (d := 71) rfl rfl (by kernel_rfl) (e_lss (k := .i64) (a := t643.1) (b := 0) (by kernel_rfl) rfl) ?_
  refine lv (d := 72) rfl rfl (by kernel_rfl) (e_move (v := .bool (decide (t643.1 < 0))) (by kernel_rfl)) ?_
  by_cases q654 : t643.1 < 0
  · replace M := ifp q654 M
    refine lskip (t := 72) (c := true) rfl (by kernel_rfl) rfl (bt q654 (by kernel_rfl)) rfl rfl ?_
    refine lskip (t := 72) (c := true) rfl (by kernel_rfl) rfl (bt q654 (by kernel_rfl)) rfl rfl ?_
    refine lskip (t := 72) (c := true) rfl (by kernel_rfl) rfl (bt q654 (by kernel_rfl)) rfl rfl ?_
    refine lskip (t := 72) (c := true) rfl (by kernel_rfl) rfl (bt q654 (by kernel_rfl)) rfl rfl ?_
    refine lv (d := 77) rfl rfl (by kernel_rfl) (e_pick_t (v := .bool true) (bt q654 (by kernel_rfl)) rfl) ?_
    refine lv (d := 78) rfl rfl (by kernel_rfl) (e_move (v := .bool true) (by kernel_rfl)) ?_
    refine lskip (t := 78) (c := true) rfl (by kernel_rfl) rfl (by kernel_rfl) rfl rfl ?_
    refine lskip (t := 78) (c := true) rfl (by kernel_rfl) rfl (by kernel_rfl) rfl rfl ?_
    refine lskip (t := 78) (c := true) rfl (by kernel_rfl) rfl (by kernel_rfl) rfl rfl ?_
    refine lv (d := 82) rfl rfl (by kernel_rfl) (e_pick_t (v := .bool true) (by kernel_rfl) rfl) ?_
    refine wpList_nil ?_
    refine then_n ?_
    refine cond_t rfl (by kernel_rfl) ?_
    refine wp_seq ?_
    refine wp_region_lit ?_
    refine lv (d := 4) rfl rfl (by kernel_rfl) (e_assign (v := .bool false) rfl) ?_
    refine wpList_nil ?_
    refine then_n ?_
    refine wp_ret ?_
    refine then_r ?_
    obtain rfl := Option.some.inj M
    exact ret1 rfl rfl  (show _ = .bool false from (by kernel_rfl)) ⟨rfl, S651.chg⟩
  replace M := ifn q654 M
  refine lvg (d := 73) (t := 72) rfl (by kernel_rfl) rfl (bf q654 (by kernel_rfl)) rfl (by kernel_rfl) (e_loadS (b := g483) (off := 0) (cs := [.int .i64 t459.1.kind, .int .i64 t459.1.n, .slice A464 t459.1.text.length c465]) Try.underlying36 rfl (by kernel_rfl) (by kernel_rfl) (blk_cells b488 rfl)) ?_
  refine lvg (d := 74) (t := 72) rfl (by kernel_rfl) rfl (bf q654 (by kernel_rfl)) rfl (by kernel_rfl) (e_loadS (b := g43) (off := 0) (cs := [.int .i64 x45, .int .i64 x46, .slice A48 x47.length c49]) Try.underlying36 rfl (by kernel_rfl) (by exact e55) (blk_cells b44 rfl)) ?_
  obtain ⟨t655, u656, M⟩ := bnd M
  refine lcallg (d := 75) (t := 72) rfl (by kernel_rfl) rfl (bf q654 (by kernel_rfl)) rfl (by kernel_rfl) (e_call (l := [.tmp 73, .tmp 74]) (vs := [.agg #[.int .i64 t459.1.kind, .int .i64 t459.1.n, .slice A464 t459.1.text.length c465], .agg #[.int .i64 x45, .int .i64 x46, .slice A48 x47.length c49]]) Try.func16 (by kernel_rfl) rfl (by kernel_rfl) rfl) (by have l657 := h466.le; have S658 := S651.pull (F := F467) (Fr := [F649, F634, F637, F596, F531, F535, (is g483), (is g424), (is g403), (is g21), (is g16), F50, (is g43)]) 7 rfl rfl; obtain ⟨H659, S660, E661, h662, z663⟩ := S658.frzRow h466; replace h648 := h648.ext E661; replace h633 := h633.ext E661; replace h636 := h636.ext E661; replace h595 := h595.ext E661; replace h530 := h530.ext E661; replace h534 := h534.ext E661; replace h51 := h51.ext E661; have l664 := h51.le; have S665 := S660.pull (F := F50) (Fr := [F649, F634, F637, F596, F531, F535, (is g483), (is g424), (is g403), (is g21), (is g16), (is g43)]) 11 rfl rfl; obtain ⟨H666, S667, E668, h669, z670⟩ := S665.frzRow h51; replace h648 := h648.ext E668; replace h633 := h633.ext E668; replace h636 := h636.ext E668; replace h595 := h595.ext E668; replace h530 := h530.ext E668; replace h534 := h534.ext E668; exact (laws_eqCell.calls k w645 H666 t459.1 A464 c465 (⟨x45, x46, x47⟩ : Cell) A48 c49 (h662.ext E668) l657 h669 l664 S667.own0 t655 u656)) ?_
  rintro _ w671 ⟨rfl, C672⟩
  refine ⟨_, rfl, ?_⟩
  obtain ⟨S673, K674⟩ := S651.still C672
  replace h648 := h648.move (K674.at 0 rfl)
  replace h633 := h633.move (K674.at 1 rfl)
  replace h636 := h636.move (K674.at 2 rfl)
  replace h595 := h595.move (K674.at 3 rfl)
  replace h530 := h530.move (K674.at 4 rfl)
  replace h534 := h534.move (K674.at 5 rfl)
  replace b488 := K674.blk 6 rfl b488
  replace h466 := h466.move (K674.at 7 rfl)
  replace b429 := K674.blk 8 rfl b429
  replace b408 := K674.blk 9 rfl b408
  replace b22 := K674.blk 10 rfl b22
  replace b17 := K674.blk 11 rfl b17
  replace h51 := h51.move (K674.at 12 rfl)
  replace b44 := K674.blk 13 rfl b44
  refine lvg (d := 76) (t := 72) rfl (by kernel_rfl) rfl (bf q654 (by kernel_rfl)) rfl (by kernel_rfl) (e_notv (c := t655) (by kernel_rfl)) ?_
  refine lv (d := 77) rfl rfl (by kernel_rfl) (e_pick_f (v := .bool (decide (¬ (t655 = true)))) (bf q654 (by kernel_rfl)) (by kernel_rfl)) ?_
  refine lv (d := 78) rfl rfl (by kernel_rfl) (e_move (v := .bool (decide (¬ (t655 = true)))) (by kernel_rfl)) ?_
  by_cases q675 : ¬ (t655 = true)
  · replace M := ifp q675 M
    refine lskip (t := 78) (c := true) rfl (by kernel_rfl) rfl (bt q675 (by kernel_rfl)) rfl rfl ?_
    refine lskip (t := 78) (c := true) rfl (by kernel_rfl) rfl (bt q675 (by kernel_rfl)) rfl rfl ?_
    refine lskip (t := 78) (c := true) rfl (by kernel_rfl) rfl (bt q675 (by kernel_rfl)) rfl rfl ?_
    refine lv (d := 82) rfl rfl (by kernel_rfl) (e_pick_t (v := .bool true) (bt q675 (by kernel_rfl)) rfl) ?_
    refine wpList_nil ?_
    refine then_n ?_
    refine cond_t rfl (by kernel_rfl) ?_
    refine wp_seq ?_
    refine wp_region_lit ?_
    refine lv (d := 4) rfl rfl (by kernel_rfl) (e_assign (v := .bool false) rfl) ?_
    refine wpList_nil ?_
    refine then_n ?_
    refine wp_ret ?_
    refine then_r ?_
    obtain rfl := Option.some.inj M
    exact ret1 rfl rfl  (show _ = .bool false from (by kernel_rfl)) ⟨rfl, S673.chg⟩
  replace M := ifn q675 M
  refine lvg (d := 79) (t := 78) rfl (by kernel_rfl) rfl (bf q675 (by kernel_rfl)) rfl (by kernel_rfl) (e_move (v := .int .i64 t459.2) (by kernel_rfl)) ?_
  refine lvg (d := 80) (t := 78) rfl (by kernel_rfl) rfl (bf q675 (by kernel_rfl)) rfl (by kernel_rfl) (e_move (v := .int .i64 x52) (by exact e56)) ?_
  refine lvg (d := 81) (t := 78) rfl (by kernel_rfl) rfl (bf q675 (by kernel_rfl)) rfl (by kernel_rfl) (e_neq (k := .i64) (a := t459.2) (b := x52) (by kernel_rfl) (by kernel_rfl)) ?_
  refine lv (d := 82) rfl rfl (by kernel_rfl) (e_pick_f (v := .bool (decide (t459.2 ≠ x52))) (bf q675 (by kernel_rfl)) (by kernel_rfl)) ?_
  refine wpList_nil ?_
  refine then_n ?_
  refine cond_f rfl (bf q512 (by kernel_rfl)) ?_
  refine wp_skip ?_
  refine then_n ?_
  refine wp_seq ?_
  refine wp_region_lit ?_
  refine lv (d := 13) rfl rfl (by kernel_rfl) (e_assign (v := .int .i64 1) rfl) ?_
  refine wpList_nil ?_
  refine then_n ?_
  refine wp_seq ?_
  refine wp_region_lit ?_
  refine lv (d := 83) rfl rfl (by kernel_rfl) (e_loadS (b := g483) (off := 0) (cs := [.int .i64 t459.1.kind, .int .i64 t459.1.n, .slice A464 t459.1.text.length c465]) Try.underlying36 rfl (by kernel_rfl) (by kernel_rfl) (blk_cells b488 rfl)) ?_
  refine lv (d := 84) rfl rfl (by kernel_rfl) (e_move (v := .int .i64 1) (by kernel_rfl)) ?_
  have S676 := S673.pull (F := F467) (Fr := [F649, F634, F637, F596, F531, F535, (is g483), (is g424), (is g403), (is g21), (is g16), F50, (is g43)]) 7 rfl rfl
  obtain ⟨t677, u678, M⟩ := bnd M
  refine lcall (d := 85) rfl rfl (by kernel_rfl) (e_call (l := [.tmp 83, .tmp 84]) (vs := [.agg #[.int .i64 t459.1.kind, .int .i64 t459.1.n, .slice A464 t459.1.text.length c465], .int .i64 1]) Try.func20 (by kernel_rfl) rfl (by kernel_rfl) rfl) (laws_markCell_2.calls k w671 H646 t459.1 A464 c465 F467 1 h466 (St.own' (Fa := [F467]) (Fr := [F649, F634, F637, F596, F531, F535, (is g483), (is g424), (is g403), (is g21), (is g16), F50, (is g43)]) S676) t677 u678) ?_
  rintro _ w679 ⟨F683, H680, rfl, n684, h682, T681⟩
  refine ⟨_, rfl, ?_⟩
  obtain ⟨S685, K686⟩ := St.call (Fa := [F467]) (Fr := [F649, F634, F637, F596, F531, F535, (is g483), (is g424), (is g403), (is g21), (is g16), F50, (is g43)]) S676 T681
  replace h648 := h648.move (K686.at 0 rfl)
  replace h633 := h633.move (K686.at 1 rfl)
  replace h636 := h636.move (K686.at 2 rfl)
  replace h595 := h595.move (K686.at 3 rfl)
  replace h530 := h530.move (K686.at 4 rfl)
  replace h534 := h534.move (K686.at 5 rfl)
  replace b488 := K686.blk 6 rfl b488
  replace b429 := K686.blk 7 rfl b429
  replace b408 := K686.blk 8 rfl b408
  replace b22 := K686.blk 9 rfl b22
  replace b17 := K686.blk 10 rfl b17
  replace h51 := h51.move (K686.at 11 rfl)
  replace b44 := K686.blk 12 rfl b44
  have E687 := T681.ext
  replace h648 := h648.ext E687
  replace h633 := h633.ext E687
  replace h636 := h636.ext E687
  replace h595 := h595.ext E687
  replace h530 := h530.ext E687
  replace h534 := h534.ext E687
  replace h51 := h51.ext E687
  refine lv (d := 13) rfl rfl (by kernel_rfl) (e_assign (v := .int .i64 t677.1) (by kernel_rfl)) ?_
  refine wpList_nil ?_
  refine then_n ?_
  refine wp_seq ?_
  refine wp_region_lit ?_
  refine lv (d := 14) rfl rfl (by kernel_rfl) (e_assign (v := .int .i64 1) rfl) ?_
  refine wpList_nil ?_
  refine then_n ?_
  refine wp_seq ?_
  refine wp_region_lit ?_
  refine lv (d := 86) rfl rfl (by kernel_rfl) (e_loadS (b := g483) (off := 0) (cs := [.int .i64 t459.1.kind, .int .i64 t459.1.n, .slice A464 t459.1.text.length c465]) Try.underlying36 rfl (by kernel_rfl) (by kernel_rfl) (blk_cells b488 rfl)) ?_
  refine lv (d := 87) rfl rfl (by kernel_rfl) (e_move (v := .int .i64 1) (by kernel_rfl)) ?_
  obtain ⟨t688, u689, M⟩ := bnd M
  refine lcall (d := 88) rfl rfl (by kernel_rfl) (e_call (l := [.tmp 86, .tmp 87]) (vs := [.agg #[.int .i64 t459.1.kind, .int .i64 t459.1.n, .slice A464 t459.1.text.length c465], .int .i64 1]) Try.func21 (by kernel_rfl) rfl (by kernel_rfl) rfl) (by have l690 := h682.le; obtain ⟨H691, S692, E693, h694, z695⟩ := S685.frzRow h682; replace h648 := h648.ext E693; replace h633 := h633.ext E693; replace h636 := h636.ext E693; replace h595 := h595.ext E693; replace h530 := h530.ext E693; replace h534 := h534.ext E693; replace h51 := h51.ext E693; exact (by have q_ := (laws_heldCell.calls k w679 H691 (⟨t459.1.kind, t459.1.n, t677.2⟩ : Cell) A464 c465 1 h694 l690 S692.own0 t688 u689); rw [(show t677.2.length = t459.1.text.length from n684)] at q_; exact q_)) ?_
  rintro _ w696 ⟨rfl, C697⟩
  refine ⟨_, rfl, ?_⟩
  obtain ⟨S698, K699⟩ := S685.still C697
  replace h682 := h682.move (K699.at 0 rfl)
  replace h648 := h648.move (K699.at 1 rfl)
  replace h633 := h633.move (K699.at 2 rfl)
  replace h636 := h636.move (K699.at 3 rfl)
  replace h595 := h595.move (K699.at 4 rfl)
  replace h530 := h530.move (K699.at 5 rfl)
  replace h534 := h534.move (K699.at 6 rfl)
  replace b488 := K699.blk 7 rfl b488
  replace b429 := K699.blk 8 rfl b429
  replace b408 := K699.blk 9 rfl b408
  replace b22 := K699.blk 10 rfl b22
  replace b17 := K699.blk 11 rfl b17
  replace h51 := h51.move (K699.at 12 rfl)
  replace b44 := K699.blk 13 rfl b44
  refine lv (d := 14) rfl rfl (by kernel_rfl) (e_assign (v := .int .i64 t688) (by kernel_rfl)) ?_
  refine wpList_nil ?_
  refine then_n ?_
  refine wp_seq ?_
  refine wp_seq ?_
  refine wp_region_lit ?_
  refine lv (d := 89) rfl rfl (by kernel_rfl) (e_move (v := .int .i64 t688) (by kernel_rfl)) ?_
  refine lv (d := 90) rfl rfl (by kernel_rfl) (e_lss (k := .i64) (a := t688) (b := 0) (by kernel_rfl) rfl) ?_
  refine wpList_nil ?_
  refine then_n ?_
  by_cases q700 : t688 < 0
  · replace M := ifp q700 M
    refine cond_t rfl (bt q700 (by kernel_rfl)) ?_
    refine wp_seq ?_
    refine wp_region_lit ?_
    refine lv (d := 4) rfl rfl (by kernel_rfl) (e_assign (v := .bool false) rfl) ?_
    refine wpList_nil ?_
    refine then_n ?_
    refine wp_ret ?_
    refine then_r ?_
    obtain rfl := Option.some.inj M
    exact ret1 rfl rfl  (show _ = .bool false from (by kernel_rfl)) ⟨rfl, S698.chg⟩
  replace M := ifn q700 M
  refine cond_f rfl (bf q700 (by kernel_rfl)) ?_
  refine wp_skip ?_
  refine then_n ?_
  refine wp_seq ?_
  refine wp_seq ?_
  refine wp_region_lit ?_
  refine lv (d := 91) rfl rfl (by kernel_rfl) (e_move (v := .int .i64 t688) (by kernel_rfl)) ?_
  refine lv (d := 92) rfl rfl (by kernel_rfl) (e_move (v := .int .i64 t677.1) (by kernel_rfl)) ?_
  refine lv (d := 93) rfl rfl (by kernel_rfl) (e_neq (k := .i64) (a := t688) (b := t677.1) (by kernel_rfl) (by kernel_rfl)) ?_
  refine wpList_nil ?_
  refine then_n ?_
  by_cases q701 : t688 ≠ t677.1
  · replace M := ifp q701 M
    refine cond_t rfl (bt q701 (by kernel_rfl)) ?_
    refine wp_seq ?_
    refine wp_region_lit ?_
    refine lv (d := 4) rfl rfl (by kernel_rfl) (e_assign (v := .bool false) rfl) ?_
    refine wpList_nil ?_
    refine then_n ?_
    refine wp_ret ?_
    refine then_r ?_
    obtain rfl := Option.some.inj M
    exact ret1 rfl rfl  (show _ = .bool false from (by kernel_rfl)) ⟨rfl, S698.chg⟩
  replace M := ifn q701 M
  refine cond_f rfl (bf q701 (by kernel_rfl)) ?_
  refine wp_skip ?_
  refine then_n ?_
  refine wp_seq ?_
  refine wp_cut (fun a725 w702 => ∃ (f703 : Nat → Value) (H704 : Hp) (g706 : Nat) (x708 : Int) (x709 : Int) (x710 : List UInt8) (A711 : Option Addr) (c712 : Nat) (F713 : Foot) (x715 : Int), a725 = mk 119 f703 ∧ f703 6 = .pointer (some ⟨g43, 0, none⟩) ∧ f703 7 = .int .i64 x52 ∧ f703 10 = .pointer (some ⟨g483, 0, none⟩) ∧ f703 13 = .int .i64 t677.1 ∧ f703 15 = .pointer (some ⟨g706, 0, none⟩) ∧ f703 16 = .int .i64 x715 ∧ Row tByte 5 H704 (hp w702) F683 A464 c465 t677.2 ∧ w702.heap[g483]? = some (.cells #[.int .i64 t459.1.kind, .int .i64 t459.1.n, .slice A464 t459.1.text.length c465] 36 (0, 0)) ∧ Row tByte 5 H704 (hp w702) F50 A48 c49 x47 ∧ w702.heap[g43]? = some (.cells #[.int .i64 x45, .int .i64 x46, .slice A48 x47.length c49] 36 (0, 0)) ∧ Row tByte 5 H704 (hp w702) F713 A711 c712 x710 ∧ w702.heap[g706]? = some (.cells #[.int .i64 x708, .int .i64 x709, .slice A711 x710.length c712] 36 (0, 0)) ∧ Ext H680 H704 ∧ St (anyOf []) H w [F683, (is g483), F50, (is g43), F713, (is g706)] H704 w702 ∧ laws_FnExactDeref.l1 k x45 x46 x47 x52 t459 t677 x708 x709 x710 x715 = some r) ?_ ?_
  · refine region_mix (S := (fun (L_ : Array Bool) (w_ : World) => Ext H680 (hp w_) ∧ (∀ b_, (is g21) b_ → hp w_ b_ = hp w696 b_) ∧ (∀ b_, (is g16) b_ → hp w_ b_ = hp w696 b_))) (by kernel_rfl) S698 ?_
    intro w726 S727 K728 hc729
    have o730 := b22
    have o731 := b17
    have hs732 : (fun (L_ : Array Bool) (w_ : World) => Ext H680 (hp w_) ∧ (∀ b_, (is g21) b_ → hp w_ b_ = hp w696 b_) ∧ (∀ b_, (is g16) b_ → hp w_ b_ = hp w696 b_)) (Array.replicate 11 false) w726 := ⟨S727.inv, (fun b_ h_ => K728.at 10 rfl b_ h_), (fun b_ h_ => K728.at 11 rfl b_ h_)⟩
    replace h682 := h682.move (K728.at 0 rfl)
    replace h648 := h648.move (K728.at 1 rfl)
    replace h633 := h633.move (K728.at 2 rfl)
    replace h636 := h636.move (K728.at 3 rfl)
    replace h595 := h595.move (K728.at 4 rfl)
    replace h530 := h530.move (K728.at 5 rfl)
    replace h534 := h534.move (K728.at 6 rfl)
    replace b488 := K728.blk 7 rfl b488
    replace b429 := K728.blk 8 rfl b429
    replace b408 := K728.blk 9 rfl b408
    replace b22 := K728.blk 10 rfl b22
    replace b17 := K728.blk 11 rfl b17
    replace h51 := h51.move (K728.at 12 rfl)
    replace b44 := K728.blk 13 rfl b44
    refine xv (i := 0) (d := 95) rfl rfl rfl (by kernel_rfl) (by kernel_rfl) (fun _ _ => Iff.rfl) hc729 hs732 (fun L_ w_ hc_ hu_ hs_ => e_loadS (b := g16) (off := 0) (cs := [.slice A2 x1.cells.length c3, .slice A6 x1.trail.length c7]) Try.underlying25 rfl (by kernel_rfl) (by exact e53) (blk_cells ((hs_.2.2 _ rfl).trans o731) rfl)) ?_; intro hc733 hs734
    refine xv (i := 2) (d := 97) rfl rfl rfl (by kernel_rfl) (by kernel_rfl) (fun _ _ => Iff.rfl) hc733 hs734 (fun L_ w_ hc_ hu_ hs_ => e_loadS (b := g21) (off := 0) (cs := [.int .i64 x10.kind, .int .i64 x10.n, .slice A11 x10.text.length c12]) Try.underlying28 rfl (by kernel_rfl) (by exact e54) (blk_cells ((hs_.2.1 _ rfl).trans o730) rfl)) ?_; intro hc735 hs736
    refine xall [1, 8] (by kernel_rfl) (by decide) hc735 (List.forall_mem_cons.2 ⟨?_, List.forall_mem_cons.2 ⟨?_, fun _ h_ => by cases h_⟩⟩)
    · obtain ⟨t737, u738, M⟩ := bnd M
      refine yc (i := 1) rfl (wanted_none rfl _) (by kernel_rfl) (by kernel_rfl) (e_call (l := [.tmp 95]) (vs := [.agg #[.slice A2 x1.cells.length c3, .slice A6 x1.trail.length c7]]) Try.func12 (by kernel_rfl) rfl (by kernel_rfl) rfl) (laws_toStore.calls k w726 H680 x1 A2 c3 A6 c7 (h4.ext ((((((((Y42.trans E401).trans E422).trans E480).trans E539).trans E600).trans E641).trans E653).trans E687)) l5 (h8.ext ((((((((Y42.trans E401).trans E422).trans E480).trans E539).trans E600).trans E641).trans E653).trans E687)) l9 (St.own' (Fa := []) (Fr := [F683, F649, F634, F637, F596, F531, F535, (is g483), (is g424), (is g403), (is g21), (is g16), F50, (is g43)]) S727) t737 u738) ?_
      rintro hc750 _ w739 ⟨A742, c743, F745, A746, c747, F749, H740, rfl, h744, h748, T741⟩
      refine ⟨_, rfl, ?_⟩
      obtain ⟨S751, K752⟩ := St.call (Fa := []) (Fr := [F683, F649, F634, F637, F596, F531, F535, (is g483), (is g424), (is g403), (is g21), (is g16), F50, (is g43)]) S727 T741
      replace h682 := h682.move (K752.at 0 rfl)
      replace h648 := h648.move (K752.at 1 rfl)
      replace h633 := h633.move (K752.at 2 rfl)
      replace h636 := h636.move (K752.at 3 rfl)
      replace h595 := h595.move (K752.at 4 rfl)
      replace h530 := h530.move (K752.at 5 rfl)
      replace h534 := h534.move (K752.at 6 rfl)
      replace b488 := K752.blk 7 rfl b488
      replace b429 := K752.blk 8 rfl b429
      replace b408 := K752.blk 9 rfl b408
      replace b22 := K752.blk 10 rfl b22
      replace b17 := K752.blk 11 rfl b17
      replace h51 := h51.move (K752.at 12 rfl)
      replace b44 := K752.blk 13 rfl b44
      have E753 := T741.ext
      replace h682 := h682.ext E753
      replace h648 := h648.ext E753
      replace h633 := h633.ext E753
      replace h636 := h636.ext E753
      replace h595 := h595.ext E753
      replace h530 := h530.ext E753
      replace h534 := h534.ext E753
      replace h51 := h51.ext E753
      refine ⟨⟨(Ext.trans E753 S751.inv), (fun b_ h_ => (K752.at 10 rfl b_ h_).trans (hs736.2.1 b_ h_)), (fun b_ h_ => (K752.at 11 rfl b_ h_).trans (hs736.2.2 b_ h_))⟩, fun hs754 => ?_⟩
      refine xall [3, 8] (by kernel_rfl) (by decide) hc750 (List.forall_mem_cons.2 ⟨?_, List.forall_mem_cons.2 ⟨?_, fun _ h_ => by cases h_⟩⟩)
      · obtain ⟨t755, u756, M⟩ := bnd M
        refine yc (i := 3) rfl (wanted_none rfl _) (by kernel_rfl) (by kernel_rfl) (e_call (l := [.tmp 97]) (vs := [.agg #[.int .i64 x10.kind, .int .i64 x10.n, .slice A11 x10.text.length c12]]) Try.func13 (by kernel_rfl) rfl (by kernel_rfl) rfl) (laws_toCell.calls k w739 H740 x10 A11 c12 (h13.ext (((((((((Y42.trans E401).trans E422).trans E480).trans E539).trans E600).trans E641).trans E653).trans E687).trans E753)) l14 (St.own' (Fa := []) (Fr := [F745, F749, F683, F649, F634, F637, F596, F531, F535, (is g483), (is g424), (is g403), (is g21), (is g16), F50, (is g43)]) S751) t755 u756) ?_
        rintro hc764 _ w757 ⟨A760, c761, F763, H758, rfl, h762, T759⟩
        refine ⟨_, rfl, ?_⟩
        obtain ⟨S765, K766⟩ := St.call (Fa := []) (Fr := [F745, F749, F683, F649, F634, F637, F596, F531, F535, (is g483), (is g424), (is g403), (is g21), (is g16), F50, (is g43)]) S751 T759
        replace h744 := h744.move (K766.at 0 rfl)
        replace h748 := h748.move (K766.at 1 rfl)
        replace h682 := h682.move (K766.at 2 rfl)
        replace h648 := h648.move (K766.at 3 rfl)
        replace h633 := h633.move (K766.at 4 rfl)
        replace h636 := h636.move (K766.at 5 rfl)
        replace h595 := h595.move (K766.at 6 rfl)
        replace h530 := h530.move (K766.at 7 rfl)
        replace h534 := h534.move (K766.at 8 rfl)
        replace b488 := K766.blk 9 rfl b488
        replace b429 := K766.blk 10 rfl b429
        replace b408 := K766.blk 11 rfl b408
        replace b22 := K766.blk 12 rfl b22
        replace b17 := K766.blk 13 rfl b17
        replace h51 := h51.move (K766.at 14 rfl)
        replace b44 := K766.blk 15 rfl b44
        have E767 := T759.ext
        replace h744 := h744.ext E767
        replace h748 := h748.ext E767
        replace h682 := h682.ext E767
        replace h648 := h648.ext E767
        replace h633 := h633.ext E767
        replace h636 := h636.ext E767
        replace h595 := h595.ext E767
        replace h530 := h530.ext E767
        replace h534 := h534.ext E767
        replace h51 := h51.ext E767
        refine ⟨⟨(Ext.trans (E753.trans E767) S765.inv), (fun b_ h_ => (K766.at 12 rfl b_ h_).trans (hs754.2.1 b_ h_)), (fun b_ h_ => (K766.at 13 rfl b_ h_).trans (hs754.2.2 b_ h_))⟩, fun hs768 => ?_⟩
        refine xall [4, 8] (by kernel_rfl) (by decide) hc764 (List.forall_mem_cons.2 ⟨?_, List.forall_mem_cons.2 ⟨?_, fun _ h_ => by cases h_⟩⟩)
        · have l769 := h744.le
          have S770 := S765.pull (F := F745) (Fr := [F763, F749, F683, F649, F634, F637, F596, F531, F535, (is g483), (is g424), (is g403), (is g21), (is g16), F50, (is g43)]) 1 rfl rfl
          obtain ⟨H771, S772, E773, h774, z775⟩ := S770.frzRow h744
          replace h762 := h762.ext E773
          replace h748 := h748.ext E773
          replace h682 := h682.ext E773
          replace h648 := h648.ext E773
          replace h633 := h633.ext E773
          replace h636 := h636.ext E773
          replace h595 := h595.ext E773
          replace h530 := h530.ext E773
          replace h534 := h534.ext E773
          replace h51 := h51.ext E773
          have l776 := h748.le
          have S777 := S772.pull (F := F749) (Fr := [F763, F683, F649, F634, F637, F596, F531, F535, (is g483), (is g424), (is g403), (is g21), (is g16), F50, (is g43)]) 1 rfl rfl
          obtain ⟨H778, S779, E780, h781, z782⟩ := S777.frzRow h748
          replace h762 := h762.ext E780
          replace h682 := h682.ext E780
          replace h648 := h648.ext E780
          replace h633 := h633.ext E780
          replace h636 := h636.ext E780
          replace h595 := h595.ext E780
          replace h530 := h530.ext E780
          replace h534 := h534.ext E780
          replace h51 := h51.ext E780
          have l783 := h762.le
          obtain ⟨H784, S785, E786, h787, z788⟩ := S779.frzRow h762
          replace h682 := h682.ext E786
          replace h648 := h648.ext E786
          replace h633 := h633.ext E786
          replace h636 := h636.ext E786
          replace h595 := h595.ext E786
          replace h530 := h530.ext E786
          replace h534 := h534.ext E786
          replace h51 := h51.ext E786
          obtain ⟨t789, u790, M⟩ := bnd M
          refine yc (i := 4) rfl (wanted_none rfl _) (by kernel_rfl) (by kernel_rfl) (e_call (l := [.tmp 96, .tmp 98]) (vs := [.agg #[.slice A742 t737.cells.length c743, .slice A746 t737.trail.length c747], .agg #[.int .i64 t755.kind, .int .i64 t755.n, .slice A760 t755.text.length c761]]) Try.func18 (by kernel_rfl) rfl (by kernel_rfl) rfl) (impl_Deref.calls k w757 H784 t737 A742 c743 A746 c747 t755 A760 c761 (h774.ext (E780.trans E786)) l769 (h781.ext E786) l776 h787 l783 (St.own' (Fa := []) (Fr := [F683, F649, F634, F637, F596, F531, F535, (is g483), (is g424), (is g403), (is g21), (is g16), F50, (is g43)]) S785) t789 u790) ?_
          rintro hc798 _ w791 ⟨A794, c795, F797, H792, rfl, h796, T793⟩
          refine ⟨_, rfl, ?_⟩
          obtain ⟨S799, K800⟩ := St.call (Fa := []) (Fr := [F683, F649, F634, F637, F596, F531, F535, (is g483), (is g424), (is g403), (is g21), (is g16), F50, (is g43)]) S785 T793
          replace h682 := h682.move (K800.at 0 rfl)
          replace h648 := h648.move (K800.at 1 rfl)
          replace h633 := h633.move (K800.at 2 rfl)
          replace h636 := h636.move (K800.at 3 rfl)
          replace h595 := h595.move (K800.at 4 rfl)
          replace h530 := h530.move (K800.at 5 rfl)
          replace h534 := h534.move (K800.at 6 rfl)
          replace b488 := K800.blk 7 rfl b488
          replace b429 := K800.blk 8 rfl b429
          replace b408 := K800.blk 9 rfl b408
          replace b22 := K800.blk 10 rfl b22
          replace b17 := K800.blk 11 rfl b17
          replace h51 := h51.move (K800.at 12 rfl)
          replace b44 := K800.blk 13 rfl b44
          have E801 := T793.ext
          replace h682 := h682.ext E801
          replace h648 := h648.ext E801
          replace h633 := h633.ext E801
          replace h636 := h636.ext E801
          replace h595 := h595.ext E801
          replace h530 := h530.ext E801
          replace h534 := h534.ext E801
          replace h51 := h51.ext E801
          refine ⟨⟨(Ext.trans (((((E753.trans E767).trans E773).trans E780).trans E786).trans E801) S799.inv), (fun b_ h_ => (K800.at 10 rfl b_ h_).trans (hs768.2.1 b_ h_)), (fun b_ h_ => (K800.at 11 rfl b_ h_).trans (hs768.2.2 b_ h_))⟩, fun hs802 => ?_⟩
          refine xv (i := 5) (d := 94) rfl rfl rfl (by kernel_rfl) (by kernel_rfl) (fun _ _ => Iff.rfl) hc798 hs802 (fun L_ w_ hc_ hu_ hs_ => e_move (v := .tuple #[.agg #[.int .i64 t789.1.kind, .int .i64 t789.1.n, .slice A794 t789.1.text.length c795], .int .i64 t789.2]) (by kernel_rfl)) ?_; intro hc803 hs804
          refine xv (i := 6) (d := 100) rfl rfl rfl (by kernel_rfl) (by kernel_rfl) (fun _ _ => Iff.rfl) hc803 hs804 (fun L_ w_ hc_ hu_ hs_ => e_extract (vs := #[.agg #[.int .i64 t789.1.kind, .int .i64 t789.1.n, .slice A794 t789.1.text.length c795], .int .i64 t789.2]) (v := .agg #[.int .i64 t789.1.kind, .int .i64 t789.1.n, .slice A794 t789.1.text.length c795]) (by kernel_rfl) rfl) ?_; intro hc805 hs806
          refine xv (i := 7) (d := 101) rfl rfl rfl (by kernel_rfl) (by kernel_rfl) (fun _ _ => Iff.rfl) hc805 hs806 (fun L_ w_ hc_ hu_ hs_ => e_extract (vs := #[.agg #[.int .i64 t789.1.kind, .int .i64 t789.1.n, .slice A794 t789.1.text.length c795], .int .i64 t789.2]) (v := .int .i64 t789.2) (by kernel_rfl) rfl) ?_; intro hc807 hs808
          refine xone (i := 8) (by kernel_rfl) hc807 ?_
          refine ye (i := 8) (d := 15) rfl rfl (wanted_none rfl _) (by kernel_rfl) (by kernel_rfl) (new_blk (v := fun g_ => .pointer (some ⟨g_, 0, none⟩)) (cs := #[.int .i64 0, .int .i64 0, .slice none 0 0]) (t := 36) S799 (by kernel_rfl)) ?_
          rintro hc814 _ w809 ⟨g810, rfl, b811, S812, K813⟩
          replace h796 := h796.move (K813.at 0 rfl)
          replace h682 := h682.move (K813.at 1 rfl)
          replace h648 := h648.move (K813.at 2 rfl)
          replace h633 := h633.move (K813.at 3 rfl)
          replace h636 := h636.move (K813.at 4 rfl)
          replace h595 := h595.move (K813.at 5 rfl)
          replace h530 := h530.move (K813.at 6 rfl)
          replace h534 := h534.move (K813.at 7 rfl)
          replace b488 := K813.blk 8 rfl b488
          replace b429 := K813.blk 9 rfl b429
          replace b408 := K813.blk 10 rfl b408
          replace b22 := K813.blk 11 rfl b22
          replace b17 := K813.blk 12 rfl b17
          replace h51 := h51.move (K813.at 13 rfl)
          replace b44 := K813.blk 14 rfl b44
          refine ⟨⟨(Ext.trans (((((E753.trans E767).trans E773).trans E780).trans E786).trans E801) S812.inv), (fun b_ h_ => (K813.at 11 rfl b_ h_).trans (hs808.2.1 b_ h_)), (fun b_ h_ => (K813.at 12 rfl b_ h_).trans (hs808.2.2 b_ h_))⟩, fun hs815 => ?_⟩
          refine xone (i := 9) (by kernel_rfl) hc814 ?_
          refine ys (i := 9) rfl rfl (wanted_none rfl _) (by kernel_rfl) (by kernel_rfl) (e_store (g := g810) (o := 0) (v := .agg #[.int .i64 t789.1.kind, .int .i64 t789.1.n, .slice A794 t789.1.text.length c795]) (cur' := #[.int .i64 t789.1.kind, .int .i64 t789.1.n, .slice A794 t789.1.text.length c795]) (vs := [.int .i64 t789.1.kind, .int .i64 t789.1.n, .slice A794 t789.1.text.length c795]) S812 (by kernel_rfl) (by kernel_rfl) rfl (by kernel_rfl) b811 (Nat.le_of_ble_eq_true rfl) (List.forall_mem_cons.2 ⟨rfl, (List.forall_mem_cons.2 ⟨rfl, (List.forall_mem_cons.2 ⟨rfl, (fun _ h_ => by cases h_)⟩)⟩)⟩) rfl) ?_
          rintro hc820 w816 ⟨b817, S818, K819⟩
          replace h796 := h796.move (K819.at 0 rfl)
          replace h682 := h682.move (K819.at 1 rfl)
          replace h648 := h648.move (K819.at 2 rfl)
          replace h633 := h633.move (K819.at 3 rfl)
          replace h636 := h636.move (K819.at 4 rfl)
          replace h595 := h595.move (K819.at 5 rfl)
          replace h530 := h530.move (K819.at 6 rfl)
          replace h534 := h534.move (K819.at 7 rfl)
          replace b488 := K819.blk 8 rfl b488
          replace b429 := K819.blk 9 rfl b429
          replace b408 := K819.blk 10 rfl b408
          replace b22 := K819.blk 11 rfl b22
          replace b17 := K819.blk 12 rfl b17
          replace h51 := h51.move (K819.at 13 rfl)
          replace b44 := K819.blk 14 rfl b44
          refine ⟨⟨(Ext.trans (((((E753.trans E767).trans E773).trans E780).trans E786).trans E801) S818.inv), (fun b_ h_ => (K819.at 11 rfl b_ h_).trans (hs815.2.1 b_ h_)), (fun b_ h_ => (K819.at 12 rfl b_ h_).trans (hs815.2.2 b_ h_))⟩, fun hs821 => ?_⟩
          clear b811
          refine xone (i := 10) (by kernel_rfl) hc820 ?_
          refine yo (i := 10) (d := 16) rfl rfl (wanted_none rfl _) (by kernel_rfl) (by kernel_rfl) (fun _ _ => Iff.rfl) hs821 (e_assign (v := .int .i64 t789.2) (by kernel_rfl)) ?_; intro hc822 hs823
          refine xn (by kernel_rfl) ?_ _
          have S824 := S818.pull (F := F797) (Fr := [(is g810), F683, F649, F634, F637, F596, F531, F535, (is g483), (is g424), (is g403), (is g21), (is g16), F50, (is g43)]) 1 rfl rfl
          have S825 := S824.pull (F := (is g43)) (Fr := [F797, (is g810), F683, F649, F634, F637, F596, F531, F535, (is g483), (is g424), (is g403), (is g21), (is g16), F50]) 15 rfl rfl
          have S826 := S825.pull (F := F50) (Fr := [(is g43), F797, (is g810), F683, F649, F634, F637, F596, F531, F535, (is g483), (is g424), (is g403), (is g21), (is g16)]) 15 rfl rfl
          have S827 := S826.pull (F := (is g483)) (Fr := [F50, (is g43), F797, (is g810), F683, F649, F634, F637, F596, F531, F535, (is g424), (is g403), (is g21), (is g16)]) 11 rfl rfl
          have S828 := S827.pull (F := F683) (Fr := [(is g483), F50, (is g43), F797, (is g810), F649, F634, F637, F596, F531, F535, (is g424), (is g403), (is g21), (is g16)]) 5 rfl rfl
          have S829 := St.first (Fa := [F683, (is g483), F50, (is g43), F797, (is g810)]) (Fr := [F649, F634, F637, F596, F531, F535, (is g424), (is g403), (is g21), (is g16)]) S828
          exact ⟨rfl, _, H792, g810, t789.1.kind, t789.1.n, t789.1.text, A794, c795, F797, t789.2, rfl, (by exact e55), (by exact e56), (by kernel_rfl), (by kernel_rfl), (by kernel_rfl), (by kernel_rfl), h682, b488, h51, b44, h796, b817, (((((E753.trans E767).trans E773).trans E780).trans E786).trans E801), S829, M⟩
        refine ye (i := 8) (d := 15) rfl rfl (wanted_none rfl _) (by kernel_rfl) (by kernel_rfl) (new_blk (v := fun g_ => .pointer (some ⟨g_, 0, none⟩)) (cs := #[.int .i64 0, .int .i64 0, .slice none 0 0]) (t := 36) S765 (by kernel_rfl)) ?_
        rintro hc835 _ w830 ⟨g831, rfl, b832, S833, K834⟩
        replace h762 := h762.move (K834.at 0 rfl)
        replace h744 := h744.move (K834.at 1 rfl)
        replace h748 := h748.move (K834.at 2 rfl)
        replace h682 := h682.move (K834.at 3 rfl)
        replace h648 := h648.move (K834.at 4 rfl)
        replace h633 := h633.move (K834.at 5 rfl)
        replace h636 := h636.move (K834.at 6 rfl)
        replace h595 := h595.move (K834.at 7 rfl)
        replace h530 := h530.move (K834.at 8 rfl)
        replace h534 := h534.move (K834.at 9 rfl)
        replace b488 := K834.blk 10 rfl b488
        replace b429 := K834.blk 11 rfl b429
        replace b408 := K834.blk 12 rfl b408
        replace b22 := K834.blk 13 rfl b22
        replace b17 := K834.blk 14 rfl b17
        replace h51 := h51.move (K834.at 15 rfl)
        replace b44 := K834.blk 16 rfl b44
        refine ⟨⟨(Ext.trans (E753.trans E767) S833.inv), (fun b_ h_ => (K834.at 13 rfl b_ h_).trans (hs768.2.1 b_ h_)), (fun b_ h_ => (K834.at 14 rfl b_ h_).trans (hs768.2.2 b_ h_))⟩, fun hs836 => ?_⟩
        have l837 := h744.le
        have S838 := S833.pull (F := F745) (Fr := [(is g831), F763, F749, F683, F649, F634, F637, F596, F531, F535, (is g483), (is g424), (is g403), (is g21), (is g16), F50, (is g43)]) 2 rfl rfl
        obtain ⟨H839, S840, E841, h842, z843⟩ := S838.frzRow h744
        replace h762 := h762.ext E841
        replace h748 := h748.ext E841
        replace h682 := h682.ext E841
        replace h648 := h648.ext E841
        replace h633 := h633.ext E841
        replace h636 := h636.ext E841
        replace h595 := h595.ext E841
        replace h530 := h530.ext E841
        replace h534 := h534.ext E841
        replace h51 := h51.ext E841
        have l844 := h748.le
        have S845 := S840.pull (F := F749) (Fr := [(is g831), F763, F683, F649, F634, F637, F596, F531, F535, (is g483), (is g424), (is g403), (is g21), (is g16), F50, (is g43)]) 2 rfl rfl
        obtain ⟨H846, S847, E848, h849, z850⟩ := S845.frzRow h748
        replace h762 := h762.ext E848
        replace h682 := h682.ext E848
        replace h648 := h648.ext E848
        replace h633 := h633.ext E848
        replace h636 := h636.ext E848
        replace h595 := h595.ext E848
        replace h530 := h530.ext E848
        replace h534 := h534.ext E848
        replace h51 := h51.ext E848
        have l851 := h762.le
        have S852 := S847.pull (F := F763) (Fr := [(is g831), F683, F649, F634, F637, F596, F531, F535, (is g483), (is g424), (is g403), (is g21), (is g16), F50, (is g43)]) 1 rfl rfl
        obtain ⟨H853, S854, E855, h856, z857⟩ := S852.frzRow h762
        replace h682 := h682.ext E855
        replace h648 := h648.ext E855
        replace h633 := h633.ext E855
        replace h636 := h636.ext E855
        replace h595 := h595.ext E855
        replace h530 := h530.ext E855
        replace h534 := h534.ext E855
        replace h51 := h51.ext E855
        obtain ⟨t858, u859, M⟩ := bnd M
        refine xone (i := 4) (by kernel_rfl) hc835 ?_
        refine yc (i := 4) rfl (wanted_none rfl _) (by kernel_rfl) (by kernel_rfl) (e_call (l := [.tmp 96, .tmp 98]) (vs := [.agg #[.slice A742 t737.cells.length c743, .slice A746 t737.trail.length c747], .agg #[.int .i64 t755.kind, .int .i64 t755.n, .slice A760 t755.text.length c761]]) Try.func18 (by kernel_rfl) rfl (by kernel_rfl) rfl) (impl_Deref.calls k w830 H853 t737 A742 c743 A746 c747 t755 A760 c761 (h842.ext (E848.trans E855)) l837 (h849.ext E855) l844 h856 l851 (St.own' (Fa := []) (Fr := [(is g831), F683, F649, F634, F637, F596, F531, F535, (is g483), (is g424), (is g403), (is g21), (is g16), F50, (is g43)]) S854) t858 u859) ?_
        rintro hc867 _ w860 ⟨A863, c864, F866, H861, rfl, h865, T862⟩
        refine ⟨_, rfl, ?_⟩
        obtain ⟨S868, K869⟩ := St.call (Fa := []) (Fr := [(is g831), F683, F649, F634, F637, F596, F531, F535, (is g483), (is g424), (is g403), (is g21), (is g16), F50, (is g43)]) S854 T862
        replace b832 := K869.blk 0 rfl b832
        replace h682 := h682.move (K869.at 1 rfl)
        replace h648 := h648.move (K869.at 2 rfl)
        replace h633 := h633.move (K869.at 3 rfl)
        replace h636 := h636.move (K869.at 4 rfl)
        replace h595 := h595.move (K869.at 5 rfl)
        replace h530 := h530.move (K869.at 6 rfl)
        replace h534 := h534.move (K869.at 7 rfl)
        replace b488 := K869.blk 8 rfl b488
        replace b429 := K869.blk 9 rfl b429
        replace b408 := K869.blk 10 rfl b408
        replace b22 := K869.blk 11 rfl b22
        replace b17 := K869.blk 12 rfl b17
        replace h51 := h51.move (K869.at 13 rfl)
        replace b44 := K869.blk 14 rfl b44
        have E870 := T862.ext
        replace h682 := h682.ext E870
        replace h648 := h648.ext E870
        replace h633 := h633.ext E870
        replace h636 := h636.ext E870
        replace h595 := h595.ext E870
        replace h530 := h530.ext E870
        replace h534 := h534.ext E870
        replace h51 := h51.ext E870
        refine ⟨⟨(Ext.trans (((((E753.trans E767).trans E841).trans E848).trans E855).trans E870) S868.inv), (fun b_ h_ => (K869.at 11 rfl b_ h_).trans (hs836.2.1 b_ h_)), (fun b_ h_ => (K869.at 12 rfl b_ h_).trans (hs836.2.2 b_ h_))⟩, fun hs871 => ?_⟩
        refine xone (i := 5) (by kernel_rfl) hc867 ?_
        refine yo (i := 5) (d := 94) rfl rfl (wanted_none rfl _) (by kernel_rfl) (by kernel_rfl) (fun _ _ => Iff.rfl) hs871 (e_move (v := .tuple #[.agg #[.int .i64 t858.1.kind, .int .i64 t858.1.n, .slice A863 t858.1.text.length c864], .int .i64 t858.2]) (by kernel_rfl)) ?_; intro hc872 hs873
        refine xv (i := 6) (d := 100) rfl rfl rfl (by kernel_rfl) (by kernel_rfl) (fun _ _ => Iff.rfl) hc872 hs873 (fun L_ w_ hc_ hu_ hs_ => e_extract (vs := #[.agg #[.int .i64 t858.1.kind, .int .i64 t858.1.n, .slice A863 t858.1.text.length c864], .int .i64 t858.2]) (v := .agg #[.int .i64 t858.1.kind, .int .i64 t858.1.n, .slice A863 t858.1.text.length c864]) (by kernel_rfl) rfl) ?_; intro hc874 hs875
        refine xv (i := 7) (d := 101) rfl rfl rfl (by kernel_rfl) (by kernel_rfl) (fun _ _ => Iff.rfl) hc874 hs875 (fun L_ w_ hc_ hu_ hs_ => e_extract (vs := #[.agg #[.int .i64 t858.1.kind, .int .i64 t858.1.n, .slice A863 t858.1.text.length c864], .int .i64 t858.2]) (v := .int .i64 t858.2) (by kernel_rfl) rfl) ?_; intro hc876 hs877
        have S878 := S868.pull (F := (is g831)) (Fr := [F866, F683, F649, F634, F637, F596, F531, F535, (is g483), (is g424), (is g403), (is g21), (is g16), F50, (is g43)]) 1 rfl rfl
        refine xone (i := 9) (by kernel_rfl) hc876 ?_
        refine ys (i := 9) rfl rfl (wanted_none rfl _) (by kernel_rfl) (by kernel_rfl) (e_store (g := g831) (o := 0) (v := .agg #[.int .i64 t858.1.kind, .int .i64 t858.1.n, .slice A863 t858.1.text.length c864]) (cur' := #[.int .i64 t858.1.kind, .int .i64 t858.1.n, .slice A863 t858.1.text.length c864]) (vs := [.int .i64 t858.1.kind, .int .i64 t858.1.n, .slice A863 t858.1.text.length c864]) S878 (by kernel_rfl) (by kernel_rfl) rfl (by kernel_rfl) b832 (Nat.le_of_ble_eq_true rfl) (List.forall_mem_cons.2 ⟨rfl, (List.forall_mem_cons.2 ⟨rfl, (List.forall_mem_cons.2 ⟨rfl, (fun _ h_ => by cases h_)⟩)⟩)⟩) rfl) ?_
        rintro hc883 w879 ⟨b880, S881, K882⟩
        replace h865 := h865.move (K882.at 0 rfl)
        replace h682 := h682.move (K882.at 1 rfl)
        replace h648 := h648.move (K882.at 2 rfl)
        replace h633 := h633.move (K882.at 3 rfl)
        replace h636 := h636.move (K882.at 4 rfl)
        replace h595 := h595.move (K882.at 5 rfl)
        replace h530 := h530.move (K882.at 6 rfl)
        replace h534 := h534.move (K882.at 7 rfl)
        replace b488 := K882.blk 8 rfl b488
        replace b429 := K882.blk 9 rfl b429
        replace b408 := K882.blk 10 rfl b408
        replace b22 := K882.blk 11 rfl b22
        replace b17 := K882.blk 12 rfl b17
        replace h51 := h51.move (K882.at 13 rfl)
        replace b44 := K882.blk 14 rfl b44
        refine ⟨⟨(Ext.trans (((((E753.trans E767).trans E841).trans E848).trans E855).trans E870) S881.inv), (fun b_ h_ => (K882.at 11 rfl b_ h_).trans (hs877.2.1 b_ h_)), (fun b_ h_ => (K882.at 12 rfl b_ h_).trans (hs877.2.2 b_ h_))⟩, fun hs884 => ?_⟩
        clear b832
        refine xone (i := 10) (by kernel_rfl) hc883 ?_
        refine yo (i := 10) (d := 16) rfl rfl (wanted_none rfl _) (by kernel_rfl) (by kernel_rfl) (fun _ _ => Iff.rfl) hs884 (e_assign (v := .int .i64 t858.2) (by kernel_rfl)) ?_; intro hc885 hs886
        refine xn (by kernel_rfl) ?_ _
        have S887 := S881.pull (F := F866) (Fr := [(is g831), F683, F649, F634, F637, F596, F531, F535, (is g483), (is g424), (is g403), (is g21), (is g16), F50, (is g43)]) 1 rfl rfl
        have S888 := S887.pull (F := (is g43)) (Fr := [F866, (is g831), F683, F649, F634, F637, F596, F531, F535, (is g483), (is g424), (is g403), (is g21), (is g16), F50]) 15 rfl rfl
        have S889 := S888.pull (F := F50) (Fr := [(is g43), F866, (is g831), F683, F649, F634, F637, F596, F531, F535, (is g483), (is g424), (is g403), (is g21), (is g16)]) 15 rfl rfl
        have S890 := S889.pull (F := (is g483)) (Fr := [F50, (is g43), F866, (is g831), F683, F649, F634, F637, F596, F531, F535, (is g424), (is g403), (is g21), (is g16)]) 11 rfl rfl
        have S891 := S890.pull (F := F683) (Fr := [(is g483), F50, (is g43), F866, (is g831), F649, F634, F637, F596, F531, F535, (is g424), (is g403), (is g21), (is g16)]) 5 rfl rfl
        have S892 := St.first (Fa := [F683, (is g483), F50, (is g43), F866, (is g831)]) (Fr := [F649, F634, F637, F596, F531, F535, (is g424), (is g403), (is g21), (is g16)]) S891
        exact ⟨rfl, _, H861, g831, t858.1.kind, t858.1.n, t858.1.text, A863, c864, F866, t858.2, rfl, (by exact e55), (by exact e56), (by kernel_rfl), (by kernel_rfl), (by kernel_rfl), (by kernel_rfl), h682, b488, h51, b44, h865, b880, (((((E753.trans E767).trans E841).trans E848).trans E855).trans E870), S892, M⟩
      refine ye (i := 8) (d := 15) rfl rfl (wanted_none rfl _) (by kernel_rfl) (by kernel_rfl) (new_blk (v := fun g_ => .pointer (some ⟨g_, 0, none⟩)) (cs := #[.int .i64 0, .int .i64 0, .slice none 0 0]) (t := 36) S751 (by kernel_rfl)) ?_
      rintro hc898 _ w893 ⟨g894, rfl, b895, S896, K897⟩
      replace h744 := h744.move (K897.at 0 rfl)
      replace h748 := h748.move (K897.at 1 rfl)
      replace h682 := h682.move (K897.at 2 rfl)
      replace h648 := h648.move (K897.at 3 rfl)
      replace h633 := h633.move (K897.at 4 rfl)
      replace h636 := h636.move (K897.at 5 rfl)
      replace h595 := h595.move (K897.at 6 rfl)
      replace h530 := h530.move (K897.at 7 rfl)
      replace h534 := h534.move (K897.at 8 rfl)
      replace b488 := K897.blk 9 rfl b488
      replace b429 := K897.blk 10 rfl b429
      replace b408 := K897.blk 11 rfl b408
      replace b22 := K897.blk 12 rfl b22
      replace b17 := K897.blk 13 rfl b17
      replace h51 := h51.move (K897.at 14 rfl)
      replace b44 := K897.blk 15 rfl b44
      refine ⟨⟨(Ext.trans E753 S896.inv), (fun b_ h_ => (K897.at 12 rfl b_ h_).trans (hs754.2.1 b_ h_)), (fun b_ h_ => (K897.at 13 rfl b_ h_).trans (hs754.2.2 b_ h_))⟩, fun hs899 => ?_⟩
      obtain ⟨t900, u901, M⟩ := bnd M
      refine xone (i := 3) (by kernel_rfl) hc898 ?_
      refine yc (i := 3) rfl (wanted_none rfl _) (by kernel_rfl) (by kernel_rfl) (e_call (l := [.tmp 97]) (vs := [.agg #[.int .i64 x10.kind, .int .i64 x10.n, .slice A11 x10.text.length c12]]) Try.func13 (by kernel_rfl) rfl (by kernel_rfl) rfl) (laws_toCell.calls k w893 H740 x10 A11 c12 (h13.ext (((((((((Y42.trans E401).trans E422).trans E480).trans E539).trans E600).trans E641).trans E653).trans E687).trans E753)) l14 (St.own' (Fa := []) (Fr := [(is g894), F745, F749, F683, F649, F634, F637, F596, F531, F535, (is g483), (is g424), (is g403), (is g21), (is g16), F50, (is g43)]) S896) t900 u901) ?_
      rintro hc909 _ w902 ⟨A905, c906, F908, H903, rfl, h907, T904⟩
      refine ⟨_, rfl, ?_⟩
      obtain ⟨S910, K911⟩ := St.call (Fa := []) (Fr := [(is g894), F745, F749, F683, F649, F634, F637, F596, F531, F535, (is g483), (is g424), (is g403), (is g21), (is g16), F50, (is g43)]) S896 T904
      replace b895 := K911.blk 0 rfl b895
      replace h744 := h744.move (K911.at 1 rfl)
      replace h748 := h748.move (K911.at 2 rfl)
      replace h682 := h682.move (K911.at 3 rfl)
      replace h648 := h648.move (K911.at 4 rfl)
      replace h633 := h633.move (K911.at 5 rfl)
      replace h636 := h636.move (K911.at 6 rfl)
      replace h595 := h595.move (K911.at 7 rfl)
      replace h530 := h530.move (K911.at 8 rfl)
      replace h534 := h534.move (K911.at 9 rfl)
      replace b488 := K911.blk 10 rfl b488
      replace b429 := K911.blk 11 rfl b429
      replace b408 := K911.blk 12 rfl b408
      replace b22 := K911.blk 13 rfl b22
      replace b17 := K911.blk 14 rfl b17
      replace h51 := h51.move (K911.at 15 rfl)
      replace b44 := K911.blk 16 rfl b44
      have E912 := T904.ext
      replace h744 := h744.ext E912
      replace h748 := h748.ext E912
      replace h682 := h682.ext E912
      replace h648 := h648.ext E912
      replace h633 := h633.ext E912
      replace h636 := h636.ext E912
      replace h595 := h595.ext E912
      replace h530 := h530.ext E912
      replace h534 := h534.ext E912
      replace h51 := h51.ext E912
      refine ⟨⟨(Ext.trans (E753.trans E912) S910.inv), (fun b_ h_ => (K911.at 13 rfl b_ h_).trans (hs899.2.1 b_ h_)), (fun b_ h_ => (K911.at 14 rfl b_ h_).trans (hs899.2.2 b_ h_))⟩, fun hs913 => ?_⟩
      have l914 := h744.le
      have S915 := S910.pull (F := F745) (Fr := [F908, (is g894), F749, F683, F649, F634, F637, F596, F531, F535, (is g483), (is g424), (is g403), (is g21), (is g16), F50, (is g43)]) 2 rfl rfl
      obtain ⟨H916, S917, E918, h919, z920⟩ := S915.frzRow h744
      replace h907 := h907.ext E918
      replace h748 := h748.ext E918
      replace h682 := h682.ext E918
      replace h648 := h648.ext E918
      replace h633 := h633.ext E918
      replace h636 := h636.ext E918
      replace h595 := h595.ext E918
      replace h530 := h530.ext E918
      replace h534 := h534.ext E918
      replace h51 := h51.ext E918
      have l921 := h748.le
      have S922 := S917.pull (F := F749) (Fr := [F908, (is g894), F683, F649, F634, F637, F596, F531, F535, (is g483), (is g424), (is g403), (is g21), (is g16), F50, (is g43)]) 2 rfl rfl
      obtain ⟨H923, S924, E925, h926, z927⟩ := S922.frzRow h748
      replace h907 := h907.ext E925
      replace h682 := h682.ext E925
      replace h648 := h648.ext E925
      replace h633 := h633.ext E925
      replace h636 := h636.ext E925
      replace h595 := h595.ext E925
      replace h530 := h530.ext E925
      replace h534 := h534.ext E925
      replace h51 := h51.ext E925
      have l928 := h907.le
      obtain ⟨H929, S930, E931, h932, z933⟩ := S924.frzRow h907
      replace h682 := h682.ext E931
      replace h648 := h648.ext E931
      replace h633 := h633.ext E931
      replace h636 := h636.ext E931
      replace h595 := h595.ext E931
      replace h530 := h530.ext E931
      replace h534 := h534.ext E931
      replace h51 := h51.ext E931
      obtain ⟨t934, u935, M⟩ := bnd M
      refine xone (i := 4) (by kernel_rfl) hc909 ?_
      refine yc (i := 4) rfl (wanted_none rfl _) (by kernel_rfl) (by kernel_rfl) (e_call (l := [.tmp 96, .tmp 98]) (vs := [.agg #[.slice A742 t737.cells.length c743, .slice A746 t737.trail.length c747], .agg #[.int .i64 t900.kind, .int .i64 t900.n, .slice A905 t900.text.length c906]]) Try.func18 (by kernel_rfl) rfl (by kernel_rfl) rfl) (impl_Deref.calls k w902 H929 t737 A742 c743 A746 c747 t900 A905 c906 (h919.ext (E925.trans E931)) l914 (h926.ext E931) l921 h932 l928 (St.own' (Fa := []) (Fr := [(is g894), F683, F649, F634, F637, F596, F531, F535, (is g483), (is g424), (is g403), (is g21), (is g16), F50, (is g43)]) S930) t934 u935) ?_
      rintro hc943 _ w936 ⟨A939, c940, F942, H937, rfl, h941, T938⟩
      refine ⟨_, rfl, ?_⟩
      obtain ⟨S944, K945⟩ := St.call (Fa := []) (Fr := [(is g894), F683, F649, F634, F637, F596, F531, F535, (is g483), (is g424), (is g403), (is g21), (is g16), F50, (is g43)]) S930 T938
      replace b895 := K945.blk 0 rfl b895
      replace h682 := h682.move (K945.at 1 rfl)
      replace h648 := h648.move (K945.at 2 rfl)
      replace h633 := h633.move (K945.at 3 rfl)
      replace h636 := h636.move (K945.at 4 rfl)
      replace h595 := h595.move (K945.at 5 rfl)
      replace h530 := h530.move (K945.at 6 rfl)
      replace h534 := h534.move (K945.at 7 rfl)
      replace b488 := K945.blk 8 rfl b488
      replace b429 := K945.blk 9 rfl b429
      replace b408 := K945.blk 10 rfl b408
      replace b22 := K945.blk 11 rfl b22
      replace b17 := K945.blk 12 rfl b17
      replace h51 := h51.move (K945.at 13 rfl)
      replace b44 := K945.blk 14 rfl b44
      have E946 := T938.ext
      replace h682 := h682.ext E946
      replace h648 := h648.ext E946
      replace h633 := h633.ext E946
      replace h636 := h636.ext E946
      replace h595 := h595.ext E946
      replace h530 := h530.ext E946
      replace h534 := h534.ext E946
      replace h51 := h51.ext E946
      refine ⟨⟨(Ext.trans (((((E753.trans E912).trans E918).trans E925).trans E931).trans E946) S944.inv), (fun b_ h_ => (K945.at 11 rfl b_ h_).trans (hs913.2.1 b_ h_)), (fun b_ h_ => (K945.at 12 rfl b_ h_).trans (hs913.2.2 b_ h_))⟩, fun hs947 => ?_⟩
      refine xone (i := 5) (by kernel_rfl) hc943 ?_
      refine yo (i := 5) (d := 94) rfl rfl (wanted_none rfl _) (by kernel_rfl) (by kernel_rfl) (fun _ _ => Iff.rfl) hs947 (e_move (v := .tuple #[.agg #[.int .i64 t934.1.kind, .int .i64 t934.1.n, .slice A939 t934.1.text.length c940], .int .i64 t934.2]) (by kernel_rfl)) ?_; intro hc948 hs949
      refine xv (i := 6) (d := 100) rfl rfl rfl (by kernel_rfl) (by kernel_rfl) (fun _ _ => Iff.rfl) hc948 hs949 (fun L_ w_ hc_ hu_ hs_ => e_extract (vs := #[.agg #[.int .i64 t934.1.kind, .int .i64 t934.1.n, .slice A939 t934.1.text.length c940], .int .i64 t934.2]) (v := .agg #[.int .i64 t934.1.kind, .int .i64 t934.1.n, .slice A939 t934.1.text.length c940]) (by kernel_rfl) rfl) ?_; intro hc950 hs951
      refine xv (i := 7) (d := 101) rfl rfl rfl (by kernel_rfl) (by kernel_rfl) (fun _ _ => Iff.rfl) hc950 hs951 (fun L_ w_ hc_ hu_ hs_ => e_extract (vs := #[.agg #[.int .i64 t934.1.kind, .int .i64 t934.1.n, .slice A939 t934.1.text.length c940], .int .i64 t934.2]) (v := .int .i64 t934.2) (by kernel_rfl) rfl) ?_; intro hc952 hs953
      have S954 := S944.pull (F := (is g894)) (Fr := [F942, F683, F649, F634, F637, F596, F531, F535, (is g483), (is g424), (is g403), (is g21), (is g16), F50, (is g43)]) 1 rfl rfl
      refine xone (i := 9) (by kernel_rfl) hc952 ?_
      refine ys (i := 9) rfl rfl (wanted_none rfl _) (by kernel_rfl) (by kernel_rfl) (e_store (g := g894) (o := 0) (v := .agg #[.int .i64 t934.1.kind, .int .i64 t934.1.n, .slice A939 t934.1.text.length c940]) (cur' := #[.int .i64 t934.1.kind, .int .i64 t934.1.n, .slice A939 t934.1.text.length c940]) (vs := [.int .i64 t934.1.kind, .int .i64 t934.1.n, .slice A939 t934.1.text.length c940]) S954 (by kernel_rfl) (by kernel_rfl) rfl (by kernel_rfl) b895 (Nat.le_of_ble_eq_true rfl) (List.forall_mem_cons.2 ⟨rfl, (List.forall_mem_cons.2 ⟨rfl, (List.forall_mem_cons.2 ⟨rfl, (fun _ h_ => by cases h_)⟩)⟩)⟩) rfl) ?_
      rintro hc959 w955 ⟨b956, S957, K958⟩
      replace h941 := h941.move (K958.at 0 rfl)
      replace h682 := h682.move (K958.at 1 rfl)
      replace h648 := h648.move (K958.at 2 rfl)
      replace h633 := h633.move (K958.at 3 rfl)
      replace h636 := h636.move (K958.at 4 rfl)
      replace h595 := h595.move (K958.at 5 rfl)
      replace h530 := h530.move (K958.at 6 rfl)
      replace h534 := h534.move (K958.at 7 rfl)
      replace b488 := K958.blk 8 rfl b488
      replace b429 := K958.blk 9 rfl b429
      replace b408 := K958.blk 10 rfl b408
      replace b22 := K958.blk 11 rfl b22
      replace b17 := K958.blk 12 rfl b17
      replace h51 := h51.move (K958.at 13 rfl)
      replace b44 := K958.blk 14 rfl b44
      refine ⟨⟨(Ext.trans (((((E753.trans E912).trans E918).trans E925).trans E931).trans E946) S957.inv), (fun b_ h_ => (K958.at 11 rfl b_ h_).trans (hs953.2.1 b_ h_)), (fun b_ h_ => (K958.at 12 rfl b_ h_).trans (hs953.2.2 b_ h_))⟩, fun hs960 => ?_⟩
      clear b895
      refine xone (i := 10) (by kernel_rfl) hc959 ?_
      refine yo (i := 10) (d := 16) rfl rfl (wanted_none rfl _) (by kernel_rfl) (by kernel_rfl) (fun _ _ => Iff.rfl) hs960 (e_assign (v := .int .i64 t934.2) (by kernel_rfl)) ?_; intro hc961 hs962
      refine xn (by kernel_rfl) ?_ _
      have S963 := S957.pull (F := F942) (Fr := [(is g894), F683, F649, F634, F637, F596, F531, F535, (is g483), (is g424), (is g403), (is g21), (is g16), F50, (is g43)]) 1 rfl rfl
      have S964 := S963.pull (F := (is g43)) (Fr := [F942, (is g894), F683, F649, F634, F637, F596, F531, F535, (is g483), (is g424), (is g403), (is g21), (is g16), F50]) 15 rfl rfl
      have S965 := S964.pull (F := F50) (Fr := [(is g43), F942, (is g894), F683, F649, F634, F637, F596, F531, F535, (is g483), (is g424), (is g403), (is g21), (is g16)]) 15 rfl rfl
      have S966 := S965.pull (F := (is g483)) (Fr := [F50, (is g43), F942, (is g894), F683, F649, F634, F637, F596, F531, F535, (is g424), (is g403), (is g21), (is g16)]) 11 rfl rfl
      have S967 := S966.pull (F := F683) (Fr := [(is g483), F50, (is g43), F942, (is g894), F649, F634, F637, F596, F531, F535, (is g424), (is g403), (is g21), (is g16)]) 5 rfl rfl
      have S968 := St.first (Fa := [F683, (is g483), F50, (is g43), F942, (is g894)]) (Fr := [F649, F634, F637, F596, F531, F535, (is g424), (is g403), (is g21), (is g16)]) S967
      exact ⟨rfl, _, H937, g894, t934.1.kind, t934.1.n, t934.1.text, A939, c940, F942, t934.2, rfl, (by exact e55), (by exact e56), (by kernel_rfl), (by kernel_rfl), (by kernel_rfl), (by kernel_rfl), h682, b488, h51, b44, h941, b956, (((((E753.trans E912).trans E918).trans E925).trans E931).trans E946), S968, M⟩
    refine ye (i := 8) (d := 15) rfl rfl (wanted_none rfl _) (by kernel_rfl) (by kernel_rfl) (new_blk (v := fun g_ => .pointer (some ⟨g_, 0, none⟩)) (cs := #[.int .i64 0, .int .i64 0, .slice none 0 0]) (t := 36) S727 (by kernel_rfl)) ?_
    rintro hc974 _ w969 ⟨g970, rfl, b971, S972, K973⟩
    replace h682 := h682.move (K973.at 0 rfl)
    replace h648 := h648.move (K973.at 1 rfl)
    replace h633 := h633.move (K973.at 2 rfl)
    replace h636 := h636.move (K973.at 3 rfl)
    replace h595 := h595.move (K973.at 4 rfl)
    replace h530 := h530.move (K973.at 5 rfl)
    replace h534 := h534.move (K973.at 6 rfl)
    replace b488 := K973.blk 7 rfl b488
    replace b429 := K973.blk 8 rfl b429
    replace b408 := K973.blk 9 rfl b408
    replace b22 := K973.blk 10 rfl b22
    replace b17 := K973.blk 11 rfl b17
    replace h51 := h51.move (K973.at 12 rfl)
    replace b44 := K973.blk 13 rfl b44
    refine ⟨⟨S972.inv, (fun b_ h_ => (K973.at 10 rfl b_ h_).trans (hs736.2.1 b_ h_)), (fun b_ h_ => (K973.at 11 rfl b_ h_).trans (hs736.2.2 b_ h_))⟩, fun hs975 => ?_⟩
    obtain ⟨t976, u977, M⟩ := bnd M
    refine xone (i := 1) (by kernel_rfl) hc974 ?_
    refine yc (i := 1) rfl (wanted_none rfl _) (by kernel_rfl) (by kernel_rfl) (e_call (l := [.tmp 95]) (vs := [.agg #[.slice A2 x1.cells.length c3, .slice A6 x1.trail.length c7]]) Try.func12 (by kernel_rfl) rfl (by kernel_rfl) rfl) (laws_toStore.calls k w969 H680 x1 A2 c3 A6 c7 (h4.ext ((((((((Y42.trans E401).trans E422).trans E480).trans E539).trans E600).trans E641).trans E653).trans E687)) l5 (h8.ext ((((((((Y42.trans E401).trans E422).trans E480).trans E539).trans E600).trans E641).trans E653).trans E687)) l9 (St.own' (Fa := []) (Fr := [(is g970), F683, F649, F634, F637, F596, F531, F535, (is g483), (is g424), (is g403), (is g21), (is g16), F50, (is g43)]) S972) t976 u977) ?_
    rintro hc989 _ w978 ⟨A981, c982, F984, A985, c986, F988, H979, rfl, h983, h987, T980⟩
    refine ⟨_, rfl, ?_⟩
    obtain ⟨S990, K991⟩ := St.call (Fa := []) (Fr := [(is g970), F683, F649, F634, F637, F596, F531, F535, (is g483), (is g424), (is g403), (is g21), (is g16), F50, (is g43)]) S972 T980
    replace b971 := K991.blk 0 rfl b971
    replace h682 := h682.move (K991.at 1 rfl)
    replace h648 := h648.move (K991.at 2 rfl)
    replace h633 := h633.move (K991.at 3 rfl)
    replace h636 := h636.move (K991.at 4 rfl)
    replace h595 := h595.move (K991.at 5 rfl)
    replace h530 := h530.move (K991.at 6 rfl)
    replace h534 := h534.move (K991.at 7 rfl)
    replace b488 := K991.blk 8 rfl b488
    replace b429 := K991.blk 9 rfl b429
    replace b408 := K991.blk 10 rfl b408
    replace b22 := K991.blk 11 rfl b22
    replace b17 := K991.blk 12 rfl b17
    replace h51 := h51.move (K991.at 13 rfl)
    replace b44 := K991.blk 14 rfl b44
    have E992 := T980.ext
    replace h682 := h682.ext E992
    replace h648 := h648.ext E992
    replace h633 := h633.ext E992
    replace h636 := h636.ext E992
    replace h595 := h595.ext E992
    replace h530 := h530.ext E992
    replace h534 := h534.ext E992
    replace h51 := h51.ext E992
    refine ⟨⟨(Ext.trans E992 S990.inv), (fun b_ h_ => (K991.at 11 rfl b_ h_).trans (hs975.2.1 b_ h_)), (fun b_ h_ => (K991.at 12 rfl b_ h_).trans (hs975.2.2 b_ h_))⟩, fun hs993 => ?_⟩
    obtain ⟨t994, u995, M⟩ := bnd M
    refine xone (i := 3) (by kernel_rfl) hc989 ?_
    refine yc (i := 3) rfl (wanted_none rfl _) (by kernel_rfl) (by kernel_rfl) (e_call (l := [.tmp 97]) (vs := [.agg #[.int .i64 x10.kind, .int .i64 x10.n, .slice A11 x10.text.length c12]]) Try.func13 (by kernel_rfl) rfl (by kernel_rfl) rfl) (laws_toCell.calls k w978 H979 x10 A11 c12 (h13.ext (((((((((Y42.trans E401).trans E422).trans E480).trans E539).trans E600).trans E641).trans E653).trans E687).trans E992)) l14 (St.own' (Fa := []) (Fr := [F984, F988, (is g970), F683, F649, F634, F637, F596, F531, F535, (is g483), (is g424), (is g403), (is g21), (is g16), F50, (is g43)]) S990) t994 u995) ?_
    rintro hc1003 _ w996 ⟨A999, c1000, F1002, H997, rfl, h1001, T998⟩
    refine ⟨_, rfl, ?_⟩
    obtain ⟨S1004, K1005⟩ := St.call (Fa := []) (Fr := [F984, F988, (is g970), F683, F649, F634, F637, F596, F531, F535, (is g483), (is g424), (is g403), (is g21), (is g16), F50, (is g43)]) S990 T998
    replace h983 := h983.move (K1005.at 0 rfl)
    replace h987 := h987.move (K1005.at 1 rfl)
    replace b971 := K1005.blk 2 rfl b971
    replace h682 := h682.move (K1005.at 3 rfl)
    replace h648 := h648.move (K1005.at 4 rfl)
    replace h633 := h633.move (K1005.at 5 rfl)
    replace h636 := h636.move (K1005.at 6 rfl)
    replace h595 := h595.move (K1005.at 7 rfl)
    replace h530 := h530.move (K1005.at 8 rfl)
    replace h534 := h534.move (K1005.at 9 rfl)
    replace b488 := K1005.blk 10 rfl b488
    replace b429 := K1005.blk 11 rfl b429
    replace b408 := K1005.blk 12 rfl b408
    replace b22 := K1005.blk 13 rfl b22
    replace b17 := K1005.blk 14 rfl b17
    replace h51 := h51.move (K1005.at 15 rfl)
    replace b44 := K1005.blk 16 rfl b44
    have E1006 := T998.ext
    replace h983 := h983.ext E1006
    replace h987 := h987.ext E1006
    replace h682 := h682.ext E1006
    replace h648 := h648.ext E1006
    replace h633 := h633.ext E1006
    replace h636 := h636.ext E1006
    replace h595 := h595.ext E1006
    replace h530 := h530.ext E1006
    replace h534 := h534.ext E1006
    replace h51 := h51.ext E1006
    refine ⟨⟨(Ext.trans (E992.trans E1006) S1004.inv), (fun b_ h_ => (K1005.at 13 rfl b_ h_).trans (hs993.2.1 b_ h_)), (fun b_ h_ => (K1005.at 14 rfl b_ h_).trans (hs993.2.2 b_ h_))⟩, fun hs1007 => ?_⟩
    have l1008 := h983.le
    have S1009 := S1004.pull (F := F984) (Fr := [F1002, F988, (is g970), F683, F649, F634, F637, F596, F531, F535, (is g483), (is g424), (is g403), (is g21), (is g16), F50, (is g43)]) 1 rfl rfl
    obtain ⟨H1010, S1011, E1012, h1013, z1014⟩ := S1009.frzRow h983
    replace h1001 := h1001.ext E1012
    replace h987 := h987.ext E1012
    replace h682 := h682.ext E1012
    replace h648 := h648.ext E1012
    replace h633 := h633.ext E1012
    replace h636 := h636.ext E1012
    replace h595 := h595.ext E1012
    replace h530 := h530.ext E1012
    replace h534 := h534.ext E1012
    replace h51 := h51.ext E1012
    have l1015 := h987.le
    have S1016 := S1011.pull (F := F988) (Fr := [F1002, (is g970), F683, F649, F634, F637, F596, F531, F535, (is g483), (is g424), (is g403), (is g21), (is g16), F50, (is g43)]) 1 rfl rfl
    obtain ⟨H1017, S1018, E1019, h1020, z1021⟩ := S1016.frzRow h987
    replace h1001 := h1001.ext E1019
    replace h682 := h682.ext E1019
    replace h648 := h648.ext E1019
    replace h633 := h633.ext E1019
    replace h636 := h636.ext E1019
    replace h595 := h595.ext E1019
    replace h530 := h530.ext E1019
    replace h534 := h534.ext E1019
    replace h51 := h51.ext E1019
    have l1022 := h1001.le
    obtain ⟨H1023, S1024, E1025, h1026, z1027⟩ := S1018.frzRow h1001
    replace h682 := h682.ext E1025
    replace h648 := h648.ext E1025
    replace h633 := h633.ext E1025
    replace h636 := h636.ext E1025
    replace h595 := h595.ext E1025
    replace h530 := h530.ext E1025
    replace h534 := h534.ext E1025
    replace h51 := h51.ext E1025
    obtain ⟨t1028, u1029, M⟩ := bnd M
    refine xone (i := 4) (by kernel_rfl) hc1003 ?_
    refine yc (i := 4) rfl (wanted_none rfl _) (by kernel_rfl) (by kernel_rfl) (e_call (l := [.tmp 96, .tmp 98]) (vs := [.agg #[.slice A981 t976.cells.length c982, .slice A985 t976.trail.length c986], .agg #[.int .i64 t994.kind, .int .i64 t994.n, .slice A999 t994.text.length c1000]]) Try.func18 (by kernel_rfl) rfl (by kernel_rfl) rfl) (impl_Deref.calls k w996 H1023 t976 A981 c982 A985 c986 t994 A999 c1000 (h1013.ext (E1019.trans E1025)) l1008 (h1020.ext E1025) l1015 h1026 l1022 (St.own' (Fa := []) (Fr := [(is g970), F683, F649, F634, F637, F596, F531, F535, (is g483), (is g424), (is g403), (is g21), (is g16), F50, (is g43)]) S1024) t1028 u1029) ?_
    rintro hc1037 _ w1030 ⟨A1033, c1034, F1036, H1031, rfl, h1035, T1032⟩
    refine ⟨_, rfl, ?_⟩
    obtain ⟨S1038, K1039⟩ := St.call (Fa := []) (Fr := [(is g970), F683, F649, F634, F637, F596, F531, F535, (is g483), (is g424), (is g403), (is g21), (is g16), F50, (is g43)]) S1024 T1032
    replace b971 := K1039.blk 0 rfl b971
    replace h682 := h682.move (K1039.at 1 rfl)
    replace h648 := h648.move (K1039.at 2 rfl)
    replace h633 := h633.move (K1039.at 3 rfl)
    replace h636 := h636.move (K1039.at 4 rfl)
    replace h595 := h595.move (K1039.at 5 rfl)
    replace h530 := h530.move (K1039.at 6 rfl)
    replace h534 := h534.move (K1039.at 7 rfl)
    replace b488 := K1039.blk 8 rfl b488
    replace b429 := K1039.blk 9 rfl b429
    replace b408 := K1039.blk 10 rfl b408
    replace b22 := K1039.blk 11 rfl b22
    replace b17 := K1039.blk 12 rfl b17
    replace h51 := h51.move (K1039.at 13 rfl)
    replace b44 := K1039.blk 14 rfl b44
    have E1040 := T1032.ext
    replace h682 := h682.ext E1040
    replace h648 := h648.ext E1040
    replace h633 := h633.ext E1040
    replace h636 := h636.ext E1040
    replace h595 := h595.ext E1040
    replace h530 := h530.ext E1040
    replace h534 := h534.ext E1040
    replace h51 := h51.ext E1040
    refine ⟨⟨(Ext.trans (((((E992.trans E1006).trans E1012).trans E1019).trans E1025).trans E1040) S1038.inv), (fun b_ h_ => (K1039.at 11 rfl b_ h_).trans (hs1007.2.1 b_ h_)), (fun b_ h_ => (K1039.at 12 rfl b_ h_).trans (hs1007.2.2 b_ h_))⟩, fun hs1041 => ?_⟩
    refine xone (i := 5) (by kernel_rfl) hc1037 ?_
    refine yo (i := 5) (d := 94) rfl rfl (wanted_none rfl _) (by kernel_rfl) (by kernel_rfl) (fun _ _ => Iff.rfl) hs1041 (e_move (v := .tuple #[.agg #[.int .i64 t1028.1.kind, .int .i64 t1028.1.n, .slice A1033 t1028.1.text.length c1034], .int .i64 t1028.2]) (by kernel_rfl)) ?_; intro hc1042 hs1043
    refine xv (i := 6) (d := 100) rfl rfl rfl (by kernel_rfl) (by kernel_rfl) (fun _ _ => Iff.rfl) hc1042 hs1043 (fun L_ w_ hc_ hu_ hs_ => e_extract (vs := #[.agg #[.int .i64 t1028.1.kind, .int .i64 t1028.1.n, .slice A1033 t1028.1.text.length c1034], .int .i64 t1028.2]) (v := .agg #[.int .i64 t1028.1.kind, .int .i64 t1028.1.n, .slice A1033 t1028.1.text.length c1034]) (by kernel_rfl) rfl) ?_; intro hc1044 hs1045
    refine xv (i := 7) (d := 101) rfl rfl rfl (by kernel_rfl) (by kernel_rfl) (fun _ _ => Iff.rfl) hc1044 hs1045 (fun L_ w_ hc_ hu_ hs_ => e_extract (vs := #[.agg #[.int .i64 t1028.1.kind, .int .i64 t1028.1.n, .slice A1033 t1028.1.text.length c1034], .int .i64 t1028.2]) (v := .int .i64 t1028.2) (by kernel_rfl) rfl) ?_; intro hc1046 hs1047
    have S1048 := S1038.pull (F := (is g970)) (Fr := [F1036, F683, F649, F634, F637, F596, F531, F535, (is g483), (is g424), (is g403), (is g21), (is g16), F50, (is g43)]) 1 rfl rfl
    refine xone (i := 9) (by kernel_rfl) hc1046 ?_
    refine ys (i := 9) rfl rfl (wanted_none rfl _) (by kernel_rfl) (by kernel_rfl) (e_store (g := g970) (o := 0) (v := .agg #[.int .i64 t1028.1.kind, .int .i64 t1028.1.n, .slice A1033 t1028.1.text.length c1034]) (cur' := #[.int .i64 t1028.1.kind, .int .i64 t1028.1.n, .slice A1033 t1028.1.text.length c1034]) (vs := [.int .i64 t1028.1.kind, .int .i64 t1028.1.n, .slice A1033 t1028.1.text.length c1034]) S1048 (by kernel_rfl) (by kernel_rfl) rfl (by kernel_rfl) b971 (Nat.le_of_ble_eq_true rfl) (List.forall_mem_cons.2 ⟨rfl, (List.forall_mem_cons.2 ⟨rfl, (List.forall_mem_cons.2 ⟨rfl, (fun _ h_ => by cases h_)⟩)⟩)⟩) rfl) ?_
    rintro hc1053 w1049 ⟨b1050, S1051, K1052⟩
    replace h1035 := h1035.move (K1052.at 0 rfl)
    replace h682 := h682.move (K1052.at 1 rfl)
    replace h648 := h648.move (K1052.at 2 rfl)
    replace h633 := h633.move (K1052.at 3 rfl)
    replace h636 := h636.move (K1052.at 4 rfl)
    replace h595 := h595.move (K1052.at 5 rfl)
    replace h530 := h530.move (K1052.at 6 rfl)
    replace h534 := h534.move (K1052.at 7 rfl)
    replace b488 := K1052.blk 8 rfl b488
    replace b429 := K1052.blk 9 rfl b429
    replace b408 := K1052.blk 10 rfl b408
    replace b22 := K1052.blk 11 rfl b22
    replace b17 := K1052.blk 12 rfl b17
    replace h51 := h51.move (K1052.at 13 rfl)
    replace b44 := K1052.blk 14 rfl b44
    refine ⟨⟨(Ext.trans (((((E992.trans E1006).trans E1012).trans E1019).trans E1025).trans E1040) S1051.inv), (fun b_ h_ => (K1052.at 11 rfl b_ h_).trans (hs1047.2.1 b_ h_)), (fun b_ h_ => (K1052.at 12 rfl b_ h_).trans (hs1047.2.2 b_ h_))⟩, fun hs1054 => ?_⟩
    clear b971
    refine xone (i := 10) (by kernel_rfl) hc1053 ?_
    refine yo (i := 10) (d := 16) rfl rfl (wanted_none rfl _) (by kernel_rfl) (by kernel_rfl) (fun _ _ => Iff.rfl) hs1054 (e_assign (v := .int .i64 t1028.2) (by kernel_rfl)) ?_; intro hc1055 hs1056
    refine xn (by kernel_rfl) ?_ _
    have S1057 := S1051.pull (F := F1036) (Fr := [(is g970), F683, F649, F634, F637, F596, F531, F535, (is g483), (is g424), (is g403), (is g21), (is g16), F50, (is g43)]) 1 rfl rfl
    have S1058 := S1057.pull (F := (is g43)) (Fr := [F1036, (is g970), F683, F649, F634, F637, F596, F531, F535, (is g483), (is g424), (is g403), (is g21), (is g16), F50]) 15 rfl rfl
    have S1059 := S1058.pull (F := F50) (Fr := [(is g43), F1036, (is g970), F683, F649, F634, F637, F596, F531, F535, (is g483), (is g424), (is g403), (is g21), (is g16)]) 15 rfl rfl
    have S1060 := S1059.pull (F := (is g483)) (Fr := [F50, (is g43), F1036, (is g970), F683, F649, F634, F637, F596, F531, F535, (is g424), (is g403), (is g21), (is g16)]) 11 rfl rfl
    have S1061 := S1060.pull (F := F683) (Fr := [(is g483), F50, (is g43), F1036, (is g970), F649, F634, F637, F596, F531, F535, (is g424), (is g403), (is g21), (is g16)]) 5 rfl rfl
    have S1062 := St.first (Fa := [F683, (is g483), F50, (is g43), F1036, (is g970)]) (Fr := [F649, F634, F637, F596, F531, F535, (is g424), (is g403), (is g21), (is g16)]) S1061
    exact ⟨rfl, _, H1031, g970, t1028.1.kind, t1028.1.n, t1028.1.text, A1033, c1034, F1036, t1028.2, rfl, (by exact e55), (by exact e56), (by kernel_rfl), (by kernel_rfl), (by kernel_rfl), (by kernel_rfl), h682, b488, h51, b44, h1035, b1050, (((((E992.trans E1006).trans E1012).trans E1019).trans E1025).trans E1040), S1062, M⟩
  clear M
  rintro a725 w702 ⟨f703, H704, g706, x708, x709, x710, A711, c712, F713, x715, rfl, e716, e717, e718, e719, e720, e721, h682, b488, h51, b44, h714, b707, Y705, S722, M⟩
  rw [laws_FnExactDeref.l1] at M
  refine then_n ?_
  refine wp_seq ?_
  refine wp_seq ?_
  refine wp_region_lit ?_
  refine lv (d := 102) rfl rfl (by kernel_rfl) (e_loadS (b := g706) (off := 0) (cs := [.int .i64 x708, .int .i64 x709, .slice A711 x710.length c712]) Try.underlying36 rfl (by kernel_rfl) (by exact e720) (blk_cells b707 rfl)) ?_
  refine lv (d := 103) rfl rfl (by kernel_rfl) (e_loadS (b := g43) (off := 0) (cs := [.int .i64 x45, .int .i64 x46, .slice A48 x47.length c49]) Try.underlying36 rfl (by kernel_rfl) (by exact e716) (blk_cells b44 rfl)) ?_
  obtain ⟨t1063, u1064, M⟩ := bnd M
  refine lcall (d := 104) rfl rfl (by kernel_rfl) (e_call (l := [.tmp 102, .tmp 103]) (vs := [.agg #[.int .i64 x708, .int .i64 x709, .slice A711 x710.length c712], .agg #[.int .i64 x45, .int .i64 x46, .slice A48 x47.length c49]]) Try.func16 (by kernel_rfl) rfl (by kernel_rfl) rfl) (by have l1065 := h714.le; have S1066 := S722.pull (F := F713) (Fr := [F683, (is g483), F50, (is g43), (is g706)]) 4 rfl rfl; obtain ⟨H1067, S1068, E1069, h1070, z1071⟩ := S1066.frzRow h714; replace h682 := h682.ext E1069; replace h51 := h51.ext E1069; have l1072 := h51.le; have S1073 := S1068.pull (F := F50) (Fr := [F683, (is g483), (is g43), (is g706)]) 2 rfl rfl; obtain ⟨H1074, S1075, E1076, h1077, z1078⟩ := S1073.frzRow h51; replace h682 := h682.ext E1076; exact (laws_eqCell.calls k w702 H1074 (⟨x708, x709, x710⟩ : Cell) A711 c712 (⟨x45, x46, x47⟩ : Cell) A48 c49 (h1070.ext E1076) l1065 h1077 l1072 S1075.own0 t1063 u1064)) ?_
  rintro _ w1079 ⟨rfl, C1080⟩
  refine ⟨_, rfl, ?_⟩
  obtain ⟨S1081, K1082⟩ := S722.still C1080
  replace h682 := h682.move (K1082.at 0 rfl)
  replace b488 := K1082.blk 1 rfl b488
  replace h51 := h51.move (K1082.at 2 rfl)
  replace b44 := K1082.blk 3 rfl b44
  replace h714 := h714.move (K1082.at 4 rfl)
  replace b707 := K1082.blk 5 rfl b707
  refine lv (d := 105) rfl rfl (by kernel_rfl) (e_notv (c := t1063) (by kernel_rfl)) ?_
  refine lv (d := 106) rfl rfl (by kernel_rfl) (e_move (v := .bool (decide (¬ (t1063 = true)))) (by kernel_rfl)) ?_
  by_cases q1083 : ¬ (t1063 = true)
  · replace M := ifp q1083 M
    refine lskip (t := 106) (c := true) rfl (by kernel_rfl) rfl (bt q1083 (by kernel_rfl)) rfl rfl ?_
    refine lskip (t := 106) (c := true) rfl (by kernel_rfl) rfl (bt q1083 (by kernel_rfl)) rfl rfl ?_
    refine lskip (t := 106) (c := true) rfl (by kernel_rfl) rfl (bt q1083 (by kernel_rfl)) rfl rfl ?_
    refine lv (d := 110) rfl rfl (by kernel_rfl) (e_pick_t (v := .bool true) (bt q1083 (by kernel_rfl)) rfl) ?_
    refine wpList_nil ?_
    refine then_n ?_
    refine cond_t rfl (by kernel_rfl) ?_
    refine wp_seq ?_
    refine wp_region_lit ?_
    refine lv (d := 4) rfl rfl (by kernel_rfl) (e_assign (v := .bool false) rfl) ?_
    refine wpList_nil ?_
    refine then_n ?_
    refine wp_ret ?_
    refine then_r ?_
    obtain rfl := Option.some.inj M
    exact ret1 rfl rfl  (show _ = .bool false from (by kernel_rfl)) ⟨rfl, S1081.chg⟩
  replace M := ifn q1083 M
  refine lvg (d := 107) (t := 106) rfl (by kernel_rfl) rfl (bf q1083 (by kernel_rfl)) rfl (by kernel_rfl) (e_move (v := .int .i64 x715) (by exact e721)) ?_
  refine lvg (d := 108) (t := 106) rfl (by kernel_rfl) rfl (bf q1083 (by kernel_rfl)) rfl (by kernel_rfl) (e_move (v := .int .i64 x52) (by exact e717)) ?_
  refine lvg (d := 109) (t := 106) rfl (by kernel_rfl) rfl (bf q1083 (by kernel_rfl)) rfl (by kernel_rfl) (e_neq (k := .i64) (a := x715) (b := x52) (by kernel_rfl) (by kernel_rfl)) ?_
  refine lv (d := 110) rfl rfl (by kernel_rfl) (e_pick_f (v := .bool (decide (x715 ≠ x52))) (bf q1083 (by kernel_rfl)) (by kernel_rfl)) ?_
  refine wpList_nil ?_
  refine then_n ?_
  by_cases q1084 : x715 ≠ x52
  · replace M := ifp q1084 M
    refine cond_t rfl (bt q1084 (by kernel_rfl)) ?_
    refine wp_seq ?_
    refine wp_region_lit ?_
    refine lv (d := 4) rfl rfl (by kernel_rfl) (e_assign (v := .bool false) rfl) ?_
    refine wpList_nil ?_
    refine then_n ?_
    refine wp_ret ?_
    refine then_r ?_
    obtain rfl := Option.some.inj M
    exact ret1 rfl rfl  (show _ = .bool false from (by kernel_rfl)) ⟨rfl, S1081.chg⟩
  replace M := ifn q1084 M
  refine cond_f rfl (bf q1084 (by kernel_rfl)) ?_
  refine wp_skip ?_
  refine then_n ?_
  refine wp_seq ?_
  refine wp_region_lit ?_
  refine lv (d := 14) rfl rfl (by kernel_rfl) (e_assign (v := .int .i64 1) rfl) ?_
  refine wpList_nil ?_
  refine then_n ?_
  refine wp_seq ?_
  refine wp_region_lit ?_
  refine lv (d := 111) rfl rfl (by kernel_rfl) (e_loadS (b := g483) (off := 0) (cs := [.int .i64 t459.1.kind, .int .i64 t459.1.n, .slice A464 t459.1.text.length c465]) Try.underlying36 rfl (by kernel_rfl) (by exact e718) (blk_cells b488 rfl)) ?_
  refine lv (d := 112) rfl rfl (by kernel_rfl) (e_move (v := .int .i64 1) (by kernel_rfl)) ?_
  obtain ⟨t1085, u1086, M⟩ := bnd M
  refine lcall (d := 113) rfl rfl (by kernel_rfl) (e_call (l := [.tmp 111, .tmp 112]) (vs := [.agg #[.int .i64 t459.1.kind, .int .i64 t459.1.n, .slice A464 t459.1.text.length c465], .int .i64 1]) Try.func21 (by kernel_rfl) rfl (by kernel_rfl) rfl) (by have l1087 := h682.le; obtain ⟨H1088, S1089, E1090, h1091, z1092⟩ := S1081.frzRow h682; replace h51 := h51.ext E1090; replace h714 := h714.ext E1090; exact (by have q_ := (laws_heldCell.calls k w1079 H1088 (⟨t459.1.kind, t459.1.n, t677.2⟩ : Cell) A464 c465 1 h1091 l1087 S1089.own0 t1085 u1086); rw [(show t677.2.length = t459.1.text.length from n684)] at q_; exact q_)) ?_
  rintro _ w1093 ⟨rfl, C1094⟩
  refine ⟨_, rfl, ?_⟩
  obtain ⟨S1095, K1096⟩ := S1081.still C1094
  replace h682 := h682.move (K1096.at 0 rfl)
  replace b488 := K1096.blk 1 rfl b488
  replace h51 := h51.move (K1096.at 2 rfl)
  replace b44 := K1096.blk 3 rfl b44
  replace h714 := h714.move (K1096.at 4 rfl)
  replace b707 := K1096.blk 5 rfl b707
  refine lv (d := 14) rfl rfl (by kernel_rfl) (e_assign (v := .int .i64 t1085) (by kernel_rfl)) ?_
  refine wpList_nil ?_
  refine then_n ?_
  refine wp_seq ?_
  refine wp_seq ?_
  refine wp_region_lit ?_
  refine lv (d := 114) rfl rfl (by kernel_rfl) (e_move (v := .int .i64 t1085) (by kernel_rfl)) ?_
  refine lv (d := 115) rfl rfl (by kernel_rfl) (e_lss (k := .i64) (a := t1085) (b := 0) (by kernel_rfl) rfl) ?_
  refine wpList_nil ?_
  refine then_n ?_
  by_cases q1097 : t1085 < 0
  · replace M := ifp q1097 M
    refine cond_t rfl (bt q1097 (by kernel_rfl)) ?_
    refine wp_seq ?_
    refine wp_region_lit ?_
    refine lv (d := 4) rfl rfl (by kernel_rfl) (e_assign (v := .bool false) rfl) ?_
    refine wpList_nil ?_
    refine then_n ?_
    refine wp_ret ?_
    refine then_r ?_
    obtain rfl := Option.some.inj M
    exact ret1 rfl rfl  (show _ = .bool false from (by kernel_rfl)) ⟨rfl, S1095.chg⟩
  replace M := ifn q1097 M
  refine cond_f rfl (bf q1097 (by kernel_rfl)) ?_
  refine wp_skip ?_
  refine then_n ?_
  refine wp_seq ?_
  refine wp_seq ?_
  refine wp_region_lit ?_
  refine lv (d := 116) rfl rfl (by kernel_rfl) (e_move (v := .int .i64 t1085) (by kernel_rfl)) ?_
  refine lv (d := 117) rfl rfl (by kernel_rfl) (e_move (v := .int .i64 t677.1) (by exact e719)) ?_
  refine lv (d := 118) rfl rfl (by kernel_rfl) (e_neq (k := .i64) (a := t1085) (b := t677.1) (by kernel_rfl) (by kernel_rfl)) ?_
  refine wpList_nil ?_
  refine then_n ?_
  by_cases q1098 : t1085 ≠ t677.1
  · replace M := ifp q1098 M
    refine cond_t rfl (bt q1098 (by kernel_rfl)) ?_
    refine wp_seq ?_
    refine wp_region_lit ?_
    refine lv (d := 4) rfl rfl (by kernel_rfl) (e_assign (v := .bool false) rfl) ?_
    refine wpList_nil ?_
    refine then_n ?_
    refine wp_ret ?_
    refine then_r ?_
    obtain rfl := Option.some.inj M
    exact ret1 rfl rfl  (show _ = .bool false from (by kernel_rfl)) ⟨rfl, S1095.chg⟩
  replace M := ifn q1098 M
  refine cond_f rfl (bf q1098 (by kernel_rfl)) ?_
  refine wp_skip ?_
  refine then_n ?_
  refine wp_seq ?_
  refine wp_region_lit ?_
  refine lv (d := 4) rfl rfl (by kernel_rfl) (e_assign (v := .bool true) rfl) ?_
  refine wpList_nil ?_
  refine then_n ?_
  refine wp_ret ?_
  obtain rfl := Option.some.inj M
  exact ret1 rfl rfl  (show _ = .bool true from (by kernel_rfl)) ⟨rfl, S1095.chg⟩
end Go.Proofs.Ytnigifmkjmbfiaa
