import Derived.Test.YtminnekeekhjcaaSo
import Derived.Test.YtminnekeekhjcaaPuSo4
import Derived.Test.YtminnekeekhjcaaY19
import Derived.WalkKit
namespace Go.Proofs.Ytminnekeekhjcaa
open Go.Sx Go.Sy
set_option linter.unusedVariables false
set_option linter.unusedSimpArgs false
set_option maxRecDepth 100000
set_option maxHeartbeats 1000000
/-! ### operators with their names' headers: what spec.l3put moves about -/
structure OpA where
  name : List UInt8
  pri : Int
  typ : Int
  adr : Option Addr
  cap : Nat
def fg (x : OpA) : Sy.Op := ⟨x.name, x.pri, x.typ⟩
def stR (H : Hp) (x : OpA) (cs : List Value) : Prop := cs = [.slice x.adr x.name.length x.cap, .int .i64 x.pri, .int .i64 x.typ] ∧ x.name.length ≤ x.cap ∧ Rd tByte H x.adr x.name
theorem stR_len {H : Hp} {x : OpA} {cs : List Value} (h : stR H x cs) : cs.length = 3 := by rw [h.1]; rfl
theorem stR_one {H : Hp} {x : OpA} {cs : List Value} (h : stR H x cs) : ∀ u ∈ cs, u.oneCell' = true := by
  rw [h.1]; exact List.forall_mem_cons.2 ⟨rfl, List.forall_mem_cons.2 ⟨rfl, List.forall_mem_cons.2 ⟨rfl, fun _ h => by cases h⟩⟩⟩
theorem stR_ext {H H' : Hp} {x : OpA} {cs : List Value} (hE : Ext H H') (h : stR H x cs) : stR H' x cs := ⟨h.1, h.2.1, h.2.2.ext hE⟩
def stA : Ty OpA where
  sz := 3
  R := stR
  O := fun H _ _ x cs => stR H x cs
  R_len := stR_len
  R_one := stR_one
  R_ext := stR_ext
  O_len := stR_len
  O_one := stR_one
  O_mono := fun _ h => h
  O_ext := stR_ext
  O_move := fun _ h => h
  O_frz := fun hE _ h => stR_ext hE h
def zA : OpA := ⟨[], 0, 0, none, 0⟩
theorem stA_open {H : Hp} {x : OpA} {cs : List Value} (h : stA.R H x cs) : ∃ (A0 : Option Addr) (c0 : Nat), cs = [.slice A0 x.name.length c0, .int .i64 x.pri, .int .i64 x.typ] ∧ x.name.length ≤ c0 ∧ Rd tByte H A0 x.name ∧ (A0 = x.adr ∧ c0 = x.cap) := ⟨_, _, h.1, h.2.1, h.2.2, rfl, rfl⟩
theorem stA_mkR {H : Hp} {x : OpA} {A0 : Option Addr} {c0 : Nat} (l0 : x.name.length ≤ c0) (h0 : Rd tByte H A0 x.name) (g : A0 = x.adr ∧ c0 = x.cap) : stA.R H x [.slice A0 x.name.length c0, .int .i64 x.pri, .int .i64 x.typ] := by
  obtain ⟨rfl, rfl⟩ := g
  exact ⟨rfl, l0, h0⟩
attribute [local irreducible] Go.wpList Go.wpStill Go.wpQuiet Go.Code.wp
def l3prefixA.f (x1 : Int) : Option Bool := (if x1 = 3 then some true else some (decide (x1 = 4)))
theorem l3prefixA.calls (w : World) (H : Hp) (x1 : Int) (S : Own [] H w) (r : Bool) (M : l3prefixA.f x1 = some r) :
    Calls Try.prog 25 #[.int .i64 x1] w (fun e e_w => e = .returned (.bool r) ∧ Chg no w e_w) := by
  rw [l3prefixA.f] at M
  refine enter (l := [.int .i64 x1]) 9 Try.func25 rfl rfl rfl ?_
  have S0_ := S.st
  refine wp_seq ?_
  refine wp_region_lit ?_
  refine lv (d := 2) rfl rfl (by kernel_rfl) (e_assign (v := .bool false) rfl) ?_
  refine wpList_nil ?_
  refine then_n ?_
  refine wp_seq ?_
  refine wp_region_lit ?_
  refine lv (d := 3) rfl rfl (by kernel_rfl) (e_move (v := .int .i64 x1) (by kernel_rfl)) ?_
  refine lv (d := 4) rfl rfl (by kernel_rfl) (e_eql (k := .i64) (a := x1) (b := 3) (by kernel_rfl) rfl) ?_
  refine lv (d := 5) rfl rfl (by kernel_rfl) (e_move (v := .bool (decide (x1 = 3))) (by kernel_rfl)) ?_
  by_cases q2 : x1 = 3
  · replace M := ifp q2 M
    refine lskip (t := 5) (c := true) rfl (by kernel_rfl) rfl (bt q2 (by kernel_rfl)) rfl rfl ?_
    refine lskip (t := 5) (c := true) rfl (by kernel_rfl) rfl (bt q2 (by kernel_rfl)) rfl rfl ?_
    refine lv (d := 8) rfl rfl (by kernel_rfl) (e_pick_t (v := .bool true) (bt q2 (by kernel_rfl)) rfl) ?_
    refine lv (d := 2) rfl rfl (by kernel_rfl) (e_assign (v := .bool true) (by kernel_rfl)) ?_
    refine wpList_nil ?_
    refine then_n ?_
    refine wp_ret ?_
    obtain rfl := Option.some.inj M
    exact ret1 rfl rfl  (show _ = .bool true from (by kernel_rfl)) ⟨rfl, S0_.chg⟩
  replace M := ifn q2 M
  refine lvg (d := 6) (t := 5) rfl (by kernel_rfl) rfl (bf q2 (by kernel_rfl)) rfl (by kernel_rfl) (e_move (v := .int .i64 x1) (by kernel_rfl)) ?_
  refine lvg (d := 7) (t := 5) rfl (by kernel_rfl) rfl (bf q2 (by kernel_rfl)) rfl (by kernel_rfl) (e_eql (k := .i64) (a := x1) (b := 4) (by kernel_rfl) rfl) ?_
  refine lv (d := 8) rfl rfl (by kernel_rfl) (e_pick_f (v := .bool (decide (x1 = 4))) (bf q2 (by kernel_rfl)) (by kernel_rfl)) ?_
  refine lv (d := 2) rfl rfl (by kernel_rfl) (e_assign (v := .bool (decide (x1 = 4))) (by kernel_rfl)) ?_
  refine wpList_nil ?_
  refine then_n ?_
  refine wp_ret ?_
  obtain rfl := Option.some.inj M
  exact ret1 rfl rfl  (show _ = .bool (decide (x1 = 4)) from (by kernel_rfl)) ⟨rfl, S0_.chg⟩

/-! l3putA -/
mutual
def l3putA.l0 : Nat → (List OpA) → OpA → (List OpA) → Bool → Int → Option (List OpA)
  | 0, _, _, _, _, _ => none
  | k35 + 1, x1, x6, x18, x23, x24 => (if x24 < (x1.length : Int) then (if 0 ≤ x24 then (if (x1.getD ((x24).toNat) zA).name = x6.name then ((l3prefixA.f ((x1.getD ((x24).toNat) zA).typ)).bind fun t60 => ((l3prefixA.f x6.typ).bind fun t62 => (if t60 = t62 then (l3putA.l0 k35 x1 x6 x18 x23 (IntKind.i64.wrap (x24 + 1))) else (if ¬ (x23 = true) then (if (!(Op.bytesLess ((x1.getD ((x24).toNat) zA).name) x6.name || ((x1.getD ((x24).toNat) zA).name) == x6.name)) = true then (if x18.length + 1 ≤ 3518437208883 then (l3putA.l1 k35 x1 x6 x24 (x18 ++ [x6]) true) else none) else ((l3prefixA.f x6.typ).bind fun t113 => (if t113 = true then (if x18.length + 1 ≤ 3518437208883 then (l3putA.l1 k35 x1 x6 x24 (x18 ++ [x6]) true) else none) else (l3putA.l1 k35 x1 x6 x24 x18 x23)))) else (l3putA.l1 k35 x1 x6 x24 x18 x23))))) else (if ¬ (x23 = true) then (if (!(Op.bytesLess ((x1.getD ((x24).toNat) zA).name) x6.name || ((x1.getD ((x24).toNat) zA).name) == x6.name)) = true then (if x18.length + 1 ≤ 3518437208883 then (l3putA.l2 k35 x1 x6 x24 (x18 ++ [x6]) true) else none) else (l3putA.l2 k35 x1 x6 x24 x18 x23)) else (l3putA.l2 k35 x1 x6 x24 x18 x23))) else none) else (if ¬ (x23 = true) then (if x18.length + 1 ≤ 3518437208883 then some (x18 ++ [x6]) else none) else some x18))
def l3putA.l1 : Nat → (List OpA) → OpA → Int → (List OpA) → Bool → Option (List OpA)
  | 0, _, _, _, _, _ => none
  | k90 + 1, x1, x6, x24, x74, x79 => (if x74.length + 1 ≤ 3518437208883 then (l3putA.l0 k90 x1 x6 (x74 ++ [(x1.getD ((x24).toNat) zA)]) x79 (IntKind.i64.wrap (x24 + 1))) else none)
def l3putA.l2 : Nat → (List OpA) → OpA → Int → (List OpA) → Bool → Option (List OpA)
  | 0, _, _, _, _, _ => none
  | k180 + 1, x1, x6, x24, x164, x169 => (if x164.length + 1 ≤ 3518437208883 then (l3putA.l0 k180 x1 x6 (x164 ++ [(x1.getD ((x24).toNat) zA)]) x169 (IntKind.i64.wrap (x24 + 1))) else none)
end
def l3putA.f (k : Nat) (x1 : List OpA) (x6 : OpA) : Option (List OpA) := (l3putA.l0 k x1 x6 [] (decide (x6.pri = 0)) 0)
theorem l3putA.calls (k : Nat) (w : World) (H : Hp) (x1 : List OpA) (A2 : Option Addr) (c3 : Nat) (x6 : OpA) (A7 : Option Addr) (c8 : Nat) (h4 : Rd stA H A2 x1) (l5 : x1.length ≤ c3) (h9 : Rd tByte H A7 x6.name) (l10 : x6.name.length ≤ c8) (gh9 : A7 = x6.adr ∧ c8 = x6.cap) (S : Own [] H w) (r : List OpA) (M : l3putA.f k x1 x6 = some r) :
    Calls Try.prog 30 #[.slice A2 x1.length c3, .agg #[.slice A7 x6.name.length c8, .int .i64 x6.pri, .int .i64 x6.typ]] w (fun e e_w => ∃ (A_1 : Option Addr) (c_1 : Nat) (F_1 : Foot) (H_ : Hp), e = .returned (.slice A_1 r.length c_1) ∧ Row (ro stA) 45 H_ (hp e_w) F_1 A_1 c_1 r ∧ St (anyOf []) H w [F_1] H_ e_w) := by
  rw [l3putA.f] at M
  refine enter (l := [.slice A2 x1.length c3, .agg #[.slice A7 x6.name.length c8, .int .i64 x6.pri, .int .i64 x6.typ]]) 74 Try.func30 rfl rfl rfl ?_
  have S0_ := S.st
  refine wp_seq ?_
  refine wp_region_lit ?_
  refine lve (d := 3) rfl rfl (by kernel_rfl) (new_blk (v := fun g_ => .pointer (some ⟨g_, 0, none⟩)) (cs := #[.slice A7 x6.name.length c8, .int .i64 x6.pri, .int .i64 x6.typ]) (t := 45) S0_ (by kernel_rfl)) ?_
  rintro _ w11 ⟨g12, rfl, b13, S14, K15⟩
  refine lv (d := 4) rfl rfl (by kernel_rfl) (e_assign (v := .slice none 0 0) rfl) ?_
  refine wpList_nil ?_
  refine then_n ?_
  refine wp_seq ?_
  refine wp_region_lit ?_
  refine lv (d := 5) rfl rfl (by kernel_rfl) (e_assign (v := .slice none 0 0) rfl) ?_
  refine wpList_nil ?_
  refine then_n ?_
  refine wp_seq ?_
  refine wp_region_lit ?_
  refine lv (d := 10) rfl rfl (by kernel_rfl) (e_fieldAddr (b := g12) (off := 0) (o := 1) Try.underlying45 rfl rfl (sz := 1) (by kernel_rfl) (by decide) (by kernel_rfl)) ?_
  refine lv (d := 11) rfl rfl (by kernel_rfl) (e_load1 (ad := ⟨g12, 0 + 1, none⟩) (v := .int .i64 x6.pri) Try.underlying3 rfl (by kernel_rfl) (blk_cell b13 rfl)) ?_
  refine lv (d := 12) rfl rfl (by kernel_rfl) (e_eql (k := .i64) (a := x6.pri) (b := 0) (by kernel_rfl) rfl) ?_
  refine lv (d := 6) rfl rfl (by kernel_rfl) (e_assign (v := .bool (decide (x6.pri = 0))) (by kernel_rfl)) ?_
  refine wpList_nil ?_
  refine then_n ?_
  refine wp_seq ?_
  refine wp_seq ?_
  refine wp_region_lit ?_
  refine lv (d := 7) rfl rfl (by kernel_rfl) (e_assign (v := .int .i64 0) rfl) ?_
  refine wpList_nil ?_
  refine then_n ?_
  refine wp_block ?_
  have S36 := S14.unit
  have S37 := S36.pull (F := (is g12)) (Fr := [no]) 1 rfl rfl
  refine wp_loop_g (fun k33 a34 w16 => ∃ (f17 : Nat → Value) (x18 : List OpA) (A19 : Option Addr) (c20 : Nat) (F21 : Foot) (x23 : Bool) (x24 : Int), a34 = mk 74 f17 ∧ f17 0 = .slice A2 x1.length c3 ∧ f17 3 = .pointer (some ⟨g12, 0, none⟩) ∧ f17 5 = .slice A19 x18.length c20 ∧ f17 6 = .bool x23 ∧ f17 7 = .int .i64 x24 ∧ w16.heap[g12]? = some (.cells #[.slice A7 x6.name.length c8, .int .i64 x6.pri, .int .i64 x6.typ] 45 (0, 0)) ∧ Row (ro stA) 45 H (hp w16) F21 A19 c20 x18 ∧ St (anyOf []) H w [(is g12), F21] H w16 ∧ l3putA.l0 k33 x1 x6 x18 x23 x24 = some r) k ⟨_, [], none, 0, no, (decide (x6.pri = 0)), 0, rfl, (by kernel_rfl), (by kernel_rfl), (by kernel_rfl), (by kernel_rfl), (by kernel_rfl), b13, (Row.nil _ _ _ _ _), S37, M⟩ ?_
  clear M
  rintro k33 a34 w16 ⟨f17, x18, A19, c20, F21, x23, x24, rfl, e25, e26, e27, e28, e29, b13, h22, S30, M⟩
  rcases k33 with _ | k35
  · rw [l3putA.l0] at M
    cases M
  rw [l3putA.l0] at M
  refine wp_seq ?_
  refine wp_seq ?_
  refine wp_region_lit ?_
  refine lv (d := 13) rfl rfl (by kernel_rfl) (e_move (v := .int .i64 x24) (by exact e29)) ?_
  refine lv (d := 14) rfl rfl (by kernel_rfl) (e_move (v := .slice A2 x1.length c3) (by exact e25)) ?_
  refine lv (d := 15) rfl rfl (by kernel_rfl) (e_len (A := A2) (n := x1.length) (c := c3) Try.underlying25 (by kernel_rfl)) ?_
  refine lv (d := 16) rfl rfl (by kernel_rfl) (e_lss (k := .i64) (a := x24) (b := (x1.length : Int)) (by kernel_rfl) (by kernel_rfl)) ?_
  refine wpList_nil ?_
  refine then_n ?_
  by_cases q38 : x24 < (x1.length : Int)
  · replace M := ifp q38 M
    refine cond_t rfl (bt q38 (by kernel_rfl)) ?_
    refine wp_skip ?_
    refine then_n ?_
    refine wp_seq ?_
    refine wp_block ?_
    refine wp_seq ?_
    refine wp_region_lit ?_
    refine lv (d := 19) rfl rfl (by kernel_rfl) (e_move (v := .slice A2 x1.length c3) (by exact e25)) ?_
    refine lv (d := 20) rfl rfl (by kernel_rfl) (e_move (v := .int .i64 x24) (by exact e29)) ?_
    obtain ⟨q39, M⟩ := chk M
    obtain ⟨b40, o41, e42⟩ := Rd.addr h4 (show (x24).toNat < x1.length by omega)
    obtain ⟨y43, r44, k45⟩ := Rd.at h4 e42 (getD_some zA (show (x24).toNat < x1.length by omega))
    obtain ⟨A46, c47, rfl, l48, h49, gh49⟩ := stA_open r44
    refine lv (d := 21) rfl rfl (by kernel_rfl) (e_indexAddr (b := b40) (off := o41) (n := x1.length) (c := c3) (sz := 3) (i := x24) (k := .i64) Try.underlying25 e42 (by kernel_rfl) (by kernel_rfl) (by kernel_rfl) q39 q38) ?_
    refine lv (d := 22) rfl rfl (by kernel_rfl) (e_loadS (b := b40) (off := o41 + (x24 : Int).toNat * 3) (cs := [.slice A46 ((x1.getD ((x24).toNat) zA).name).length c47, .int .i64 ((x1.getD ((x24).toNat) zA).pri), .int .i64 ((x1.getD ((x24).toNat) zA).typ)]) Try.underlying45 rfl (by kernel_rfl) (by kernel_rfl) (fun j_ u_ e_ => (hpx (S30.inv.cell (k45 j_ u_ e_))))) ?_
    refine lve (d := 8) rfl rfl (by kernel_rfl) (new_blk (v := fun g_ => .pointer (some ⟨g_, 0, none⟩)) (cs := #[.slice none 0 0, .int .i64 0, .int .i64 0]) (t := 45) S30 (by kernel_rfl)) ?_
    rintro _ w50 ⟨g51, rfl, b52, S53, K54⟩
    replace b13 := K54.blk 0 rfl b13
    replace h22 := h22.move (K54.at 1 rfl)
    refine lse rfl rfl (by kernel_rfl) (e_store (g := g51) (o := 0) (v := .agg #[.slice A46 ((x1.getD ((x24).toNat) zA).name).length c47, .int .i64 ((x1.getD ((x24).toNat) zA).pri), .int .i64 ((x1.getD ((x24).toNat) zA).typ)]) (cur' := #[.slice A46 ((x1.getD ((x24).toNat) zA).name).length c47, .int .i64 ((x1.getD ((x24).toNat) zA).pri), .int .i64 ((x1.getD ((x24).toNat) zA).typ)]) (vs := [.slice A46 ((x1.getD ((x24).toNat) zA).name).length c47, .int .i64 ((x1.getD ((x24).toNat) zA).pri), .int .i64 ((x1.getD ((x24).toNat) zA).typ)]) S53 (by kernel_rfl) (by kernel_rfl) rfl (by kernel_rfl) b52 (Nat.le_of_ble_eq_true rfl) (List.forall_mem_cons.2 ⟨rfl, (List.forall_mem_cons.2 ⟨rfl, (List.forall_mem_cons.2 ⟨rfl, (fun _ h_ => by cases h_)⟩)⟩)⟩) rfl) ?_
    rintro w55 ⟨b56, S57, K58⟩
    replace b13 := K58.blk 0 rfl b13
    replace h22 := h22.move (K58.at 1 rfl)
    clear b52
    refine wpList_nil ?_
    refine then_n ?_
    refine wp_seq ?_
    refine wp_region_lit ?_
    refine lv (d := 23) rfl rfl (by kernel_rfl) (e_fieldAddr (b := g51) (off := 0) (o := 0) Try.underlying45 rfl rfl (sz := 1) (by kernel_rfl) (by decide) (by kernel_rfl)) ?_
    refine lv (d := 24) rfl rfl (by kernel_rfl) (e_load1 (ad := ⟨g51, 0 + 0, none⟩) (v := .slice A46 ((x1.getD ((x24).toNat) zA).name).length c47) Try.underlying32 rfl (by kernel_rfl) (blk_cell b56 rfl)) ?_
    refine lv (d := 25) rfl rfl (by kernel_rfl) (e_conv_bs (A := A46) (n := ((x1.getD ((x24).toNat) zA).name).length) (c := c47) (xs := (x1.getD ((x24).toNat) zA).name) Try.underlying32 Try.underlying5 Try.underlying9 (by kernel_rfl) rfl (Rd.bytesE S57.inv h49)) ?_
    refine lv (d := 26) rfl rfl (by kernel_rfl) (e_fieldAddr (b := g12) (off := 0) (o := 0) Try.underlying45 rfl rfl (sz := 1) (by kernel_rfl) (by decide) (by exact e26)) ?_
    refine lv (d := 27) rfl rfl (by kernel_rfl) (e_load1 (ad := ⟨g12, 0 + 0, none⟩) (v := .slice A7 x6.name.length c8) Try.underlying32 rfl (by kernel_rfl) (blk_cell b13 rfl)) ?_
    refine lv (d := 28) rfl rfl (by kernel_rfl) (e_conv_bs (A := A7) (n := x6.name.length) (c := c8) (xs := x6.name) Try.underlying32 Try.underlying5 Try.underlying9 (by kernel_rfl) rfl (Rd.bytesE S57.inv h9)) ?_
    refine lv (d := 29) rfl rfl (by kernel_rfl) (e_seql (p := (x1.getD ((x24).toNat) zA).name) (q := x6.name) (by kernel_rfl) (by kernel_rfl)) ?_
    refine lv (d := 9) rfl rfl (by kernel_rfl) (e_assign (v := .bool (decide ((x1.getD ((x24).toNat) zA).name = x6.name))) (by kernel_rfl)) ?_
    refine wpList_nil ?_
    refine then_n ?_
    refine wp_seq ?_
    refine wp_seq ?_
    refine region_quiet (by kernel_rfl) (by kernel_rfl) ?_
    refine qv (d := 30) rfl rfl (by kernel_rfl) (fun wq_ hq_ => e_move (v := .bool (decide ((x1.getD ((x24).toNat) zA).name = x6.name))) (by kernel_rfl)) ?_
    refine qv (d := 31) rfl rfl (by kernel_rfl) (fun wq_ hq_ => e_move (v := .bool (decide ((x1.getD ((x24).toNat) zA).name = x6.name))) (by kernel_rfl)) ?_
    by_cases q59 : (x1.getD ((x24).toNat) zA).name = x6.name
    · replace M := ifp q59 M
      refine qvg (d := 32) (t := 31) rfl (by kernel_rfl) rfl (bt q59 (by kernel_rfl)) rfl (by kernel_rfl) (fun wq_ hq_ => e_fieldAddr (b := g51) (off := 0) (o := 2) Try.underlying45 rfl rfl (sz := 1) (by kernel_rfl) (by decide) (by kernel_rfl)) ?_
      refine qvg (d := 33) (t := 31) rfl (by kernel_rfl) rfl (bt q59 (by kernel_rfl)) rfl (by kernel_rfl) (fun wq_ hq_ => e_load1 (ad := ⟨g51, 0 + 2, none⟩) (v := .int .i64 ((x1.getD ((x24).toNat) zA).typ)) Try.underlying3 rfl (by kernel_rfl) (blk_cell ((S57.still hq_).2.blk 0 rfl b56) rfl)) ?_
      obtain ⟨t60, u61, M⟩ := bnd M
      refine qcallg (v := .bool t60) (d := 34) (t := 31) rfl (by kernel_rfl) rfl (bt q59 (by kernel_rfl)) rfl (by kernel_rfl) (fun w_ => e_call (l := [.tmp 33]) (vs := [.int .i64 ((x1.getD ((x24).toNat) zA).typ)]) Try.func25 (by kernel_rfl) rfl (by kernel_rfl) rfl) (fun wq_ hq_ => (by obtain ⟨S_, K_⟩ := S57.still hq_; replace b56 := K_.blk 0 rfl b56; replace b13 := K_.blk 1 rfl b13; replace h22 := h22.move (K_.at 2 rfl); exact (l3prefixA.calls wq_ H ((x1.getD ((x24).toNat) zA).typ)  S_.own0 t60 u61))) ?_
      refine qvg (d := 35) (t := 31) rfl (by kernel_rfl) rfl (bt q59 (by kernel_rfl)) rfl (by kernel_rfl) (fun wq_ hq_ => e_fieldAddr (b := g12) (off := 0) (o := 2) Try.underlying45 rfl rfl (sz := 1) (by kernel_rfl) (by decide) (by exact e26)) ?_
      refine qvg (d := 36) (t := 31) rfl (by kernel_rfl) rfl (bt q59 (by kernel_rfl)) rfl (by kernel_rfl) (fun wq_ hq_ => e_load1 (ad := ⟨g12, 0 + 2, none⟩) (v := .int .i64 x6.typ) Try.underlying3 rfl (by kernel_rfl) (blk_cell ((S57.still hq_).2.blk 1 rfl b13) rfl)) ?_
      obtain ⟨t62, u63, M⟩ := bnd M
      refine qcallg (v := .bool t62) (d := 37) (t := 31) rfl (by kernel_rfl) rfl (bt q59 (by kernel_rfl)) rfl (by kernel_rfl) (fun w_ => e_call (l := [.tmp 36]) (vs := [.int .i64 x6.typ]) Try.func25 (by kernel_rfl) rfl (by kernel_rfl) rfl) (fun wq_ hq_ => (by obtain ⟨S_, K_⟩ := S57.still hq_; replace b56 := K_.blk 0 rfl b56; replace b13 := K_.blk 1 rfl b13; replace h22 := h22.move (K_.at 2 rfl); exact (l3prefixA.calls wq_ H x6.typ  S_.own0 t62 u63))) ?_
      refine qvg (d := 38) (t := 31) rfl (by kernel_rfl) rfl (bt q59 (by kernel_rfl)) rfl (by kernel_rfl) (fun wq_ hq_ => e_beql (p := t60) (q := t62) Try.underlying4 (by kernel_rfl) (by kernel_rfl)) ?_
      refine qv (d := 39) rfl rfl (by kernel_rfl) (fun wq_ hq_ => e_pick_t (v := .bool (decide (t60 = t62))) (bt q59 (by kernel_rfl)) (by kernel_rfl)) ?_
      refine wpQuiet_nil ?_
      intro w64 C67
      obtain ⟨S65, K66⟩ := S57.still C67
      replace b56 := K66.blk 0 rfl b56
      replace b13 := K66.blk 1 rfl b13
      replace h22 := h22.move (K66.at 2 rfl)
      refine then_n ?_
      by_cases q68 : t60 = t62
      · replace M := ifp q68 M
        refine cond_t rfl (bt q68 (by kernel_rfl)) ?_
        refine wp_exit ?_
        refine then_e ?_
        refine inb_hit ?_
        refine then_n ?_
        refine wp_region_lit ?_
        refine lv (d := 17) rfl rfl (by kernel_rfl) (e_move (v := .int .i64 x24) (by exact e29)) ?_
        refine lv (d := 18) rfl rfl (by kernel_rfl) (e_add (k := .i64) (a := x24) (b := 1) (by kernel_rfl) rfl) ?_
        refine lv (d := 7) rfl rfl (by kernel_rfl) (e_assign (v := .int .i64 (IntKind.i64.wrap (x24 + 1))) (by kernel_rfl)) ?_
        refine wpList_nil ?_
        refine then_n ?_
        have S69 := S65.pull (F := F21) (Fr := [(is g51), (is g12)]) 2 rfl rfl
        have S70 := S69.pull (F := (is g12)) (Fr := [F21, (is g51)]) 2 rfl rfl
        have S71 := St.first (Fa := [(is g12), F21]) (Fr := [(is g51)]) S70
        exact ⟨k35, (by omega), _, x18, A19, c20, F21, x23, (IntKind.i64.wrap (x24 + 1)), rfl, (by exact e25), (by exact e26), (by exact e27), (by exact e28), (by kernel_rfl), b13, h22, S71, M⟩
      replace M := ifn q68 M
      refine cond_f rfl (bf q68 (by kernel_rfl)) ?_
      refine wp_skip ?_
      refine then_n ?_
      refine wp_seq_cut (fun a89 w72 => ∃ (k91 : Nat), k91 ≤ k35 ∧ ∃ (f73 : Nat → Value) (x74 : List OpA) (A75 : Option Addr) (c76 : Nat) (F77 : Foot) (x79 : Bool), a89 = mk 74 f73 ∧ f73 0 = .slice A2 x1.length c3 ∧ f73 3 = .pointer (some ⟨g12, 0, none⟩) ∧ f73 5 = .slice A75 x74.length c76 ∧ f73 6 = .bool x79 ∧ f73 7 = .int .i64 x24 ∧ f73 8 = .pointer (some ⟨g51, 0, none⟩) ∧ w72.heap[g51]? = some (.cells #[.slice A46 ((x1.getD ((x24).toNat) zA).name).length c47, .int .i64 ((x1.getD ((x24).toNat) zA).pri), .int .i64 ((x1.getD ((x24).toNat) zA).typ)] 45 (0, 0)) ∧ w72.heap[g12]? = some (.cells #[.slice A7 x6.name.length c8, .int .i64 x6.pri, .int .i64 x6.typ] 45 (0, 0)) ∧ Row (ro stA) 45 H (hp w72) F77 A75 c76 x74 ∧ St (anyOf []) H w [(is g51), (is g12), F77] H w72 ∧ l3putA.l1 k91 x1 x6 x24 x74 x79 = some r) ?_ ?_
      · refine wp_seq ?_
        refine wp_region_lit ?_
        refine lv (d := 40) rfl rfl (by kernel_rfl) (e_move (v := .bool x23) (by exact e28)) ?_
        refine lv (d := 41) rfl rfl (by kernel_rfl) (e_notv (c := x23) (by kernel_rfl)) ?_
        refine lv (d := 42) rfl rfl (by kernel_rfl) (e_move (v := .bool (decide (¬ (x23 = true)))) (by kernel_rfl)) ?_
        by_cases q92 : ¬ (x23 = true)
        · replace M := ifp q92 M
          refine lvg (d := 43) (t := 42) rfl (by kernel_rfl) rfl (bt q92 (by kernel_rfl)) rfl (by kernel_rfl) (e_fieldAddr (b := g51) (off := 0) (o := 0) Try.underlying45 rfl rfl (sz := 1) (by kernel_rfl) (by decide) (by kernel_rfl)) ?_
          refine lvg (d := 44) (t := 42) rfl (by kernel_rfl) rfl (bt q92 (by kernel_rfl)) rfl (by kernel_rfl) (e_load1 (ad := ⟨g51, 0 + 0, none⟩) (v := .slice A46 ((x1.getD ((x24).toNat) zA).name).length c47) Try.underlying32 rfl (by kernel_rfl) (blk_cell b56 rfl)) ?_
          refine lvg (d := 45) (t := 42) rfl (by kernel_rfl) rfl (bt q92 (by kernel_rfl)) rfl (by kernel_rfl) (e_conv_bs (A := A46) (n := ((x1.getD ((x24).toNat) zA).name).length) (c := c47) (xs := (x1.getD ((x24).toNat) zA).name) Try.underlying32 Try.underlying5 Try.underlying9 (by kernel_rfl) rfl (Rd.bytesE S65.inv h49)) ?_
          refine lvg (d := 46) (t := 42) rfl (by kernel_rfl) rfl (bt q92 (by kernel_rfl)) rfl (by kernel_rfl) (e_fieldAddr (b := g12) (off := 0) (o := 0) Try.underlying45 rfl rfl (sz := 1) (by kernel_rfl) (by decide) (by exact e26)) ?_
          refine lvg (d := 47) (t := 42) rfl (by kernel_rfl) rfl (bt q92 (by kernel_rfl)) rfl (by kernel_rfl) (e_load1 (ad := ⟨g12, 0 + 0, none⟩) (v := .slice A7 x6.name.length c8) Try.underlying32 rfl (by kernel_rfl) (blk_cell b13 rfl)) ?_
          refine lvg (d := 48) (t := 42) rfl (by kernel_rfl) rfl (bt q92 (by kernel_rfl)) rfl (by kernel_rfl) (e_conv_bs (A := A7) (n := x6.name.length) (c := c8) (xs := x6.name) Try.underlying32 Try.underlying5 Try.underlying9 (by kernel_rfl) rfl (Rd.bytesE S65.inv h9)) ?_
          refine lvg (d := 49) (t := 42) rfl (by kernel_rfl) rfl (bt q92 (by kernel_rfl)) rfl (by kernel_rfl) (e_sgtr (p := (x1.getD ((x24).toNat) zA).name) (q := x6.name) (by kernel_rfl) (by kernel_rfl)) ?_
          refine lvg (d := 50) (t := 42) rfl (by kernel_rfl) rfl (bt q92 (by kernel_rfl)) rfl (by kernel_rfl) (e_move (v := .bool (!(Op.bytesLess ((x1.getD ((x24).toNat) zA).name) x6.name || ((x1.getD ((x24).toNat) zA).name) == x6.name))) (by kernel_rfl)) ?_
          by_cases q93 : (!(Op.bytesLess ((x1.getD ((x24).toNat) zA).name) x6.name || ((x1.getD ((x24).toNat) zA).name) == x6.name)) = true
          · replace M := ifp q93 M
            refine lskip (t := 50) (c := true) rfl (by kernel_rfl) rfl (bvt q93 (by kernel_rfl)) rfl rfl ?_
            refine lskip (t := 50) (c := true) rfl (by kernel_rfl) rfl (bvt q93 (by kernel_rfl)) rfl rfl ?_
            refine lskipu (t := 52) rfl (by kernel_rfl) rfl (by kernel_rfl) rfl ?_
            refine lskipu (t := 52) rfl (by kernel_rfl) rfl (by kernel_rfl) rfl ?_
            refine lskipu (t := 52) rfl (by kernel_rfl) rfl (by kernel_rfl) rfl ?_
            refine lskip (t := 50) (c := true) rfl (by kernel_rfl) rfl (bvt q93 (by kernel_rfl)) rfl rfl ?_
            refine lvg (d := 57) (t := 42) rfl (by kernel_rfl) rfl (bt q92 (by kernel_rfl)) rfl (by kernel_rfl) (e_pick_t (v := .bool true) (bvt q93 (by kernel_rfl)) rfl) ?_
            refine lv (d := 58) rfl rfl (by kernel_rfl) (e_pick_t (v := .bool true) (bt q92 (by kernel_rfl)) (by kernel_rfl)) ?_
            refine wpList_nil ?_
            refine then_n ?_
            refine cond_t rfl (by kernel_rfl) ?_
            refine wp_seq ?_
            refine wp_region_lit ?_
            refine lv (d := 59) rfl rfl (by kernel_rfl) (e_move (v := .slice A19 x18.length c20) (by exact e27)) ?_
            refine lv (d := 60) rfl rfl (by kernel_rfl) (e_loadS (b := g12) (off := 0) (cs := [.slice A7 x6.name.length c8, .int .i64 x6.pri, .int .i64 x6.typ]) Try.underlying45 rfl (by kernel_rfl) (by exact e26) (blk_cells b13 rfl)) ?_
            refine lve (d := 61) rfl rfl (by kernel_rfl) (new_blk (v := fun g_ => .slice (some ⟨g_, 0, none⟩) 1 1) (cs := #[.slice A7 x6.name.length c8, .int .i64 x6.pri, .int .i64 x6.typ]) (t := 45) S65 (by kernel_rfl)) ?_
            rintro _ w94 ⟨g95, rfl, b96, S97, K98⟩
            replace b56 := K98.blk 0 rfl b56
            replace b13 := K98.blk 1 rfl b13
            replace h22 := h22.move (K98.at 2 rfl)
            obtain ⟨q99, M⟩ := chk M
            have S100 := S97.pull (F := F21) (Fr := [(is g95), (is g51), (is g12)]) 3 rfl rfl
            have S101 := S100.unit
            have S102 := S101.pull (F := F21) (Fr := [no, (is g95), (is g51), (is g12)]) 1 rfl rfl
            refine lve (d := 62) rfl rfl (by kernel_rfl) (e_append (d := (ro stA)) (n := x18.length) (xs := x18) (cap := c20) (A := A19) (ys := [x6]) (A2 := (some ⟨g95, 0, none⟩)) (c2 := 1) (z := .agg #[.slice none 0 0, .int .i64 0, .int .i64 0]) (bytes := 40) S102 Try.underlying25 (by kernel_rfl) rfl (by decide) (by kernel_rfl) rfl (by kernel_rfl) h22 (elsO_one1 (stA_mkR (x := x6) l10 h9 gh9)) (.inr (blk_news b96 rfl)) (show (x18.length + [x6].length) * 40 ≤ _ by first | omega | (simp only [List.length_cons, List.length_nil]; omega)) (by decide)) ?_
            rintro _ w103 ⟨A104, c105, F106, rfl, h107, S108, K109⟩
            replace b96 := K109.blk 0 rfl b96
            replace b56 := K109.blk 1 rfl b56
            replace b13 := K109.blk 2 rfl b13
            refine lv (d := 5) rfl rfl (by kernel_rfl) (e_assign (v := .slice A104 ((x18 ++ [x6]).length) c105) (by kernel_rfl)) ?_
            refine wpList_nil ?_
            refine then_n ?_
            refine wp_region_lit ?_
            refine lv (d := 6) rfl rfl (by kernel_rfl) (e_assign (v := .bool true) rfl) ?_
            refine wpList_nil ?_
            refine then_n ?_
            have S110 := S108.pull (F := (is g12)) (Fr := [F106, (is g95), (is g51)]) 3 rfl rfl
            have S111 := S110.pull (F := (is g51)) (Fr := [(is g12), F106, (is g95)]) 3 rfl rfl
            have S112 := St.first (Fa := [(is g51), (is g12), F106]) (Fr := [(is g95)]) S111
            exact ⟨k35, (by omega), _, (x18 ++ [x6]), A104, c105, F106, true, rfl, (by exact e25), (by exact e26), (by kernel_rfl), (by kernel_rfl), (by exact e29), (by kernel_rfl), b56, b13, h107, S112, M⟩
          replace M := ifn q93 M
          refine lvg (d := 51) (t := 50) rfl (by kernel_rfl) rfl (bvf q93 (by kernel_rfl)) rfl (by kernel_rfl) (e_move (v := .bool (decide ((x1.getD ((x24).toNat) zA).name = x6.name))) (by kernel_rfl)) ?_
          refine lvg (d := 52) (t := 50) rfl (by kernel_rfl) rfl (bvf q93 (by kernel_rfl)) rfl (by kernel_rfl) (e_move (v := .bool (decide ((x1.getD ((x24).toNat) zA).name = x6.name))) (by kernel_rfl)) ?_
          refine lvg (d := 53) (t := 52) rfl (by kernel_rfl) rfl (bt q59 (by kernel_rfl)) rfl (by kernel_rfl) (e_fieldAddr (b := g12) (off := 0) (o := 2) Try.underlying45 rfl rfl (sz := 1) (by kernel_rfl) (by decide) (by exact e26)) ?_
          refine lvg (d := 54) (t := 52) rfl (by kernel_rfl) rfl (bt q59 (by kernel_rfl)) rfl (by kernel_rfl) (e_load1 (ad := ⟨g12, 0 + 2, none⟩) (v := .int .i64 x6.typ) Try.underlying3 rfl (by kernel_rfl) (blk_cell b13 rfl)) ?_
          obtain ⟨t113, u114, M⟩ := bnd M
          refine lcallg (d := 55) (t := 52) rfl (by kernel_rfl) rfl (bt q59 (by kernel_rfl)) rfl (by kernel_rfl) (e_call (l := [.tmp 54]) (vs := [.int .i64 x6.typ]) Try.func25 (by kernel_rfl) rfl (by kernel_rfl) rfl) (l3prefixA.calls w64 H x6.typ  S65.own0 t113 u114) ?_
          rintro _ w115 ⟨rfl, C116⟩
          refine ⟨_, rfl, ?_⟩
          obtain ⟨S117, K118⟩ := S65.still C116
          replace b56 := K118.blk 0 rfl b56
          replace b13 := K118.blk 1 rfl b13
          replace h22 := h22.move (K118.at 2 rfl)
          refine lvg (d := 56) (t := 50) rfl (by kernel_rfl) rfl (bvf q93 (by kernel_rfl)) rfl (by kernel_rfl) (e_pick_t (v := .bool t113) (bt q59 (by kernel_rfl)) (by kernel_rfl)) ?_
          refine lvg (d := 57) (t := 42) rfl (by kernel_rfl) rfl (bt q92 (by kernel_rfl)) rfl (by kernel_rfl) (e_pick_f (v := .bool t113) (bvf q93 (by kernel_rfl)) (by kernel_rfl)) ?_
          refine lv (d := 58) rfl rfl (by kernel_rfl) (e_pick_t (v := .bool t113) (bt q92 (by kernel_rfl)) (by kernel_rfl)) ?_
          refine wpList_nil ?_
          refine then_n ?_
          by_cases q119 : t113 = true
          · replace M := ifp q119 M
            refine cond_t rfl (bvt q119 (by kernel_rfl)) ?_
            refine wp_seq ?_
            refine wp_region_lit ?_
            refine lv (d := 59) rfl rfl (by kernel_rfl) (e_move (v := .slice A19 x18.length c20) (by exact e27)) ?_
            refine lv (d := 60) rfl rfl (by kernel_rfl) (e_loadS (b := g12) (off := 0) (cs := [.slice A7 x6.name.length c8, .int .i64 x6.pri, .int .i64 x6.typ]) Try.underlying45 rfl (by kernel_rfl) (by exact e26) (blk_cells b13 rfl)) ?_
            refine lve (d := 61) rfl rfl (by kernel_rfl) (new_blk (v := fun g_ => .slice (some ⟨g_, 0, none⟩) 1 1) (cs := #[.slice A7 x6.name.length c8, .int .i64 x6.pri, .int .i64 x6.typ]) (t := 45) S117 (by kernel_rfl)) ?_
            rintro _ w120 ⟨g121, rfl, b122, S123, K124⟩
            replace b56 := K124.blk 0 rfl b56
            replace b13 := K124.blk 1 rfl b13
            replace h22 := h22.move (K124.at 2 rfl)
            obtain ⟨q125, M⟩ := chk M
            have S126 := S123.pull (F := F21) (Fr := [(is g121), (is g51), (is g12)]) 3 rfl rfl
            have S127 := S126.unit
            have S128 := S127.pull (F := F21) (Fr := [no, (is g121), (is g51), (is g12)]) 1 rfl rfl
            refine lve (d := 62) rfl rfl (by kernel_rfl) (e_append (d := (ro stA)) (n := x18.length) (xs := x18) (cap := c20) (A := A19) (ys := [x6]) (A2 := (some ⟨g121, 0, none⟩)) (c2 := 1) (z := .agg #[.slice none 0 0, .int .i64 0, .int .i64 0]) (bytes := 40) S128 Try.underlying25 (by kernel_rfl) rfl (by decide) (by kernel_rfl) rfl (by kernel_rfl) h22 (elsO_one1 (stA_mkR (x := x6) l10 h9 gh9)) (.inr (blk_news b122 rfl)) (show (x18.length + [x6].length) * 40 ≤ _ by first | omega | (simp only [List.length_cons, List.length_nil]; omega)) (by decide)) ?_
            rintro _ w129 ⟨A130, c131, F132, rfl, h133, S134, K135⟩
            replace b122 := K135.blk 0 rfl b122
            replace b56 := K135.blk 1 rfl b56
            replace b13 := K135.blk 2 rfl b13
            refine lv (d := 5) rfl rfl (by kernel_rfl) (e_assign (v := .slice A130 ((x18 ++ [x6]).length) c131) (by kernel_rfl)) ?_
            refine wpList_nil ?_
            refine then_n ?_
            refine wp_region_lit ?_
            refine lv (d := 6) rfl rfl (by kernel_rfl) (e_assign (v := .bool true) rfl) ?_
            refine wpList_nil ?_
            refine then_n ?_
            have S136 := S134.pull (F := (is g12)) (Fr := [F132, (is g121), (is g51)]) 3 rfl rfl
            have S137 := S136.pull (F := (is g51)) (Fr := [(is g12), F132, (is g121)]) 3 rfl rfl
            have S138 := St.first (Fa := [(is g51), (is g12), F132]) (Fr := [(is g121)]) S137
            exact ⟨k35, (by omega), _, (x18 ++ [x6]), A130, c131, F132, true, rfl, (by exact e25), (by exact e26), (by kernel_rfl), (by kernel_rfl), (by exact e29), (by kernel_rfl), b56, b13, h133, S138, M⟩
          replace M := ifn q119 M
          refine cond_f rfl (bvf q119 (by kernel_rfl)) ?_
          refine wp_skip ?_
          refine then_n ?_
          exact ⟨k35, (by omega), _, x18, A19, c20, F21, x23, rfl, (by exact e25), (by exact e26), (by exact e27), (by exact e28), (by exact e29), (by kernel_rfl), b56, b13, h22, S117, M⟩
        replace M := ifn q92 M
        refine lskip (t := 42) (c := false) rfl (by kernel_rfl) rfl (bf q92 (by kernel_rfl)) rfl rfl ?_
        refine lskip (t := 42) (c := false) rfl (by kernel_rfl) rfl (bf q92 (by kernel_rfl)) rfl rfl ?_
        refine lskip (t := 42) (c := false) rfl (by kernel_rfl) rfl (bf q92 (by kernel_rfl)) rfl rfl ?_
        refine lskip (t := 42) (c := false) rfl (by kernel_rfl) rfl (bf q92 (by kernel_rfl)) rfl rfl ?_
        refine lskip (t := 42) (c := false) rfl (by kernel_rfl) rfl (bf q92 (by kernel_rfl)) rfl rfl ?_
        refine lskip (t := 42) (c := false) rfl (by kernel_rfl) rfl (bf q92 (by kernel_rfl)) rfl rfl ?_
        refine lskip (t := 42) (c := false) rfl (by kernel_rfl) rfl (bf q92 (by kernel_rfl)) rfl rfl ?_
        refine lskip (t := 42) (c := false) rfl (by kernel_rfl) rfl (bf q92 (by kernel_rfl)) rfl rfl ?_
        refine lskipu (t := 50) rfl (by kernel_rfl) rfl (by kernel_rfl) rfl ?_
        refine lskipu (t := 50) rfl (by kernel_rfl) rfl (by kernel_rfl) rfl ?_
        refine lskipu (t := 52) rfl (by kernel_rfl) rfl (by kernel_rfl) rfl ?_
        refine lskipu (t := 52) rfl (by kernel_rfl) rfl (by kernel_rfl) rfl ?_
        refine lskipu (t := 52) rfl (by kernel_rfl) rfl (by kernel_rfl) rfl ?_
        refine lskipu (t := 50) rfl (by kernel_rfl) rfl (by kernel_rfl) rfl ?_
        refine lskip (t := 42) (c := false) rfl (by kernel_rfl) rfl (bf q92 (by kernel_rfl)) rfl rfl ?_
        refine lv (d := 58) rfl rfl (by kernel_rfl) (e_pick_f (v := .bool false) (bf q92 (by kernel_rfl)) rfl) ?_
        refine wpList_nil ?_
        refine then_n ?_
        refine cond_f rfl (by kernel_rfl) ?_
        refine wp_skip ?_
        refine then_n ?_
        exact ⟨k35, (by omega), _, x18, A19, c20, F21, x23, rfl, (by exact e25), (by exact e26), (by exact e27), (by exact e28), (by exact e29), (by kernel_rfl), b56, b13, h22, S65, M⟩
      clear M
      rintro a89 w72 ⟨k91, z157, f73, x74, A75, c76, F77, x79, rfl, e80, e81, e82, e83, e84, e85, b56, b13, h78, S86, M⟩
      rcases k91 with _ | k90
      · rw [l3putA.l1] at M
        cases M
      rw [l3putA.l1] at M
      refine wp_region_lit ?_
      refine lv (d := 63) rfl rfl (by kernel_rfl) (e_move (v := .slice A75 x74.length c76) (by exact e82)) ?_
      refine lv (d := 64) rfl rfl (by kernel_rfl) (e_loadS (b := g51) (off := 0) (cs := [.slice A46 ((x1.getD ((x24).toNat) zA).name).length c47, .int .i64 ((x1.getD ((x24).toNat) zA).pri), .int .i64 ((x1.getD ((x24).toNat) zA).typ)]) Try.underlying45 rfl (by kernel_rfl) (by exact e85) (blk_cells b56 rfl)) ?_
      refine lve (d := 65) rfl rfl (by kernel_rfl) (new_blk (v := fun g_ => .slice (some ⟨g_, 0, none⟩) 1 1) (cs := #[.slice A46 ((x1.getD ((x24).toNat) zA).name).length c47, .int .i64 ((x1.getD ((x24).toNat) zA).pri), .int .i64 ((x1.getD ((x24).toNat) zA).typ)]) (t := 45) S86 (by kernel_rfl)) ?_
      rintro _ w139 ⟨g140, rfl, b141, S142, K143⟩
      replace b56 := K143.blk 0 rfl b56
      replace b13 := K143.blk 1 rfl b13
      replace h78 := h78.move (K143.at 2 rfl)
      obtain ⟨q144, M⟩ := chk M
      have S145 := S142.pull (F := F77) (Fr := [(is g140), (is g51), (is g12)]) 3 rfl rfl
      have S146 := S145.unit
      have S147 := S146.pull (F := F77) (Fr := [no, (is g140), (is g51), (is g12)]) 1 rfl rfl
      refine lve (d := 66) rfl rfl (by kernel_rfl) (e_append (d := (ro stA)) (n := x74.length) (xs := x74) (cap := c76) (A := A75) (ys := [(x1.getD ((x24).toNat) zA)]) (A2 := (some ⟨g140, 0, none⟩)) (c2 := 1) (z := .agg #[.slice none 0 0, .int .i64 0, .int .i64 0]) (bytes := 40) S147 Try.underlying25 (by kernel_rfl) rfl (by decide) (by kernel_rfl) rfl (by kernel_rfl) h78 (elsO_one1 (stA_mkR (x := (x1.getD ((x24).toNat) zA)) l48 h49 gh49)) (.inr (blk_news b141 rfl)) (show (x74.length + [(x1.getD ((x24).toNat) zA)].length) * 40 ≤ _ by first | omega | (simp only [List.length_cons, List.length_nil]; omega)) (by decide)) ?_
      rintro _ w148 ⟨A149, c150, F151, rfl, h152, S153, K154⟩
      replace b141 := K154.blk 0 rfl b141
      replace b56 := K154.blk 1 rfl b56
      replace b13 := K154.blk 2 rfl b13
      refine lv (d := 5) rfl rfl (by kernel_rfl) (e_assign (v := .slice A149 ((x74 ++ [(x1.getD ((x24).toNat) zA)]).length) c150) (by kernel_rfl)) ?_
      refine wpList_nil ?_
      refine inb_n ?_
      refine then_n ?_
      refine wp_region_lit ?_
      refine lv (d := 17) rfl rfl (by kernel_rfl) (e_move (v := .int .i64 x24) (by exact e84)) ?_
      refine lv (d := 18) rfl rfl (by kernel_rfl) (e_add (k := .i64) (a := x24) (b := 1) (by kernel_rfl) rfl) ?_
      refine lv (d := 7) rfl rfl (by kernel_rfl) (e_assign (v := .int .i64 (IntKind.i64.wrap (x24 + 1))) (by kernel_rfl)) ?_
      refine wpList_nil ?_
      refine then_n ?_
      have S155 := S153.pull (F := (is g12)) (Fr := [F151, (is g140), (is g51)]) 3 rfl rfl
      have S156 := St.first (Fa := [(is g12), F151]) (Fr := [(is g140), (is g51)]) S155
      exact ⟨k90, (by omega), _, (x74 ++ [(x1.getD ((x24).toNat) zA)]), A149, c150, F151, x79, (IntKind.i64.wrap (x24 + 1)), rfl, (by exact e80), (by exact e81), (by kernel_rfl), (by exact e83), (by kernel_rfl), b13, h152, S156, M⟩
    replace M := ifn q59 M
    refine qskip (t := 31) (c := false) rfl (by kernel_rfl) rfl (bf q59 (by kernel_rfl)) rfl rfl ?_
    refine qskip (t := 31) (c := false) rfl (by kernel_rfl) rfl (bf q59 (by kernel_rfl)) rfl rfl ?_
    refine qskip (t := 31) (c := false) rfl (by kernel_rfl) rfl (bf q59 (by kernel_rfl)) rfl rfl ?_
    refine qskip (t := 31) (c := false) rfl (by kernel_rfl) rfl (bf q59 (by kernel_rfl)) rfl rfl ?_
    refine qskip (t := 31) (c := false) rfl (by kernel_rfl) rfl (bf q59 (by kernel_rfl)) rfl rfl ?_
    refine qskip (t := 31) (c := false) rfl (by kernel_rfl) rfl (bf q59 (by kernel_rfl)) rfl rfl ?_
    refine qskip (t := 31) (c := false) rfl (by kernel_rfl) rfl (bf q59 (by kernel_rfl)) rfl rfl ?_
    refine qv (d := 39) rfl rfl (by kernel_rfl) (fun wq_ hq_ => e_pick_f (v := .bool false) (bf q59 (by kernel_rfl)) rfl) ?_
    refine wpQuiet_nil ?_
    intro w158 C161
    obtain ⟨S159, K160⟩ := S57.still C161
    replace b56 := K160.blk 0 rfl b56
    replace b13 := K160.blk 1 rfl b13
    replace h22 := h22.move (K160.at 2 rfl)
    refine then_n ?_
    refine cond_f rfl (by kernel_rfl) ?_
    refine wp_skip ?_
    refine then_n ?_
    refine wp_seq_cut (fun a179 w162 => ∃ (k181 : Nat), k181 ≤ k35 ∧ ∃ (f163 : Nat → Value) (x164 : List OpA) (A165 : Option Addr) (c166 : Nat) (F167 : Foot) (x169 : Bool), a179 = mk 74 f163 ∧ f163 0 = .slice A2 x1.length c3 ∧ f163 3 = .pointer (some ⟨g12, 0, none⟩) ∧ f163 5 = .slice A165 x164.length c166 ∧ f163 6 = .bool x169 ∧ f163 7 = .int .i64 x24 ∧ f163 8 = .pointer (some ⟨g51, 0, none⟩) ∧ w162.heap[g51]? = some (.cells #[.slice A46 ((x1.getD ((x24).toNat) zA).name).length c47, .int .i64 ((x1.getD ((x24).toNat) zA).pri), .int .i64 ((x1.getD ((x24).toNat) zA).typ)] 45 (0, 0)) ∧ w162.heap[g12]? = some (.cells #[.slice A7 x6.name.length c8, .int .i64 x6.pri, .int .i64 x6.typ] 45 (0, 0)) ∧ Row (ro stA) 45 H (hp w162) F167 A165 c166 x164 ∧ St (anyOf []) H w [(is g51), (is g12), F167] H w162 ∧ l3putA.l2 k181 x1 x6 x24 x164 x169 = some r) ?_ ?_
    · refine wp_seq ?_
      refine wp_region_lit ?_
      refine lv (d := 40) rfl rfl (by kernel_rfl) (e_move (v := .bool x23) (by exact e28)) ?_
      refine lv (d := 41) rfl rfl (by kernel_rfl) (e_notv (c := x23) (by kernel_rfl)) ?_
      refine lv (d := 42) rfl rfl (by kernel_rfl) (e_move (v := .bool (decide (¬ (x23 = true)))) (by kernel_rfl)) ?_
      by_cases q182 : ¬ (x23 = true)
      · replace M := ifp q182 M
        refine lvg (d := 43) (t := 42) rfl (by kernel_rfl) rfl (bt q182 (by kernel_rfl)) rfl (by kernel_rfl) (e_fieldAddr (b := g51) (off := 0) (o := 0) Try.underlying45 rfl rfl (sz := 1) (by kernel_rfl) (by decide) (by kernel_rfl)) ?_
        refine lvg (d := 44) (t := 42) rfl (by kernel_rfl) rfl (bt q182 (by kernel_rfl)) rfl (by kernel_rfl) (e_load1 (ad := ⟨g51, 0 + 0, none⟩) (v := .slice A46 ((x1.getD ((x24).toNat) zA).name).length c47) Try.underlying32 rfl (by kernel_rfl) (blk_cell b56 rfl)) ?_
        refine lvg (d := 45) (t := 42) rfl (by kernel_rfl) rfl (bt q182 (by kernel_rfl)) rfl (by kernel_rfl) (e_conv_bs (A := A46) (n := ((x1.getD ((x24).toNat) zA).name).length) (c := c47) (xs := (x1.getD ((x24).toNat) zA).name) Try.underlying32 Try.underlying5 Try.underlying9 (by kernel_rfl) rfl (Rd.bytesE S159.inv h49)) ?_
        refine lvg (d := 46) (t := 42) rfl (by kernel_rfl) rfl (bt q182 (by kernel_rfl)) rfl (by kernel_rfl) (e_fieldAddr (b := g12) (off := 0) (o := 0) Try.underlying45 rfl rfl (sz := 1) (by kernel_rfl) (by decide) (by exact e26)) ?_
        refine lvg (d := 47) (t := 42) rfl (by kernel_rfl) rfl (bt q182 (by kernel_rfl)) rfl (by kernel_rfl) (e_load1 (ad := ⟨g12, 0 + 0, none⟩) (v := .slice A7 x6.name.length c8) Try.underlying32 rfl (by kernel_rfl) (blk_cell b13 rfl)) ?_
        refine lvg (d := 48) (t := 42) rfl (by kernel_rfl) rfl (bt q182 (by kernel_rfl)) rfl (by kernel_rfl) (e_conv_bs (A := A7) (n := x6.name.length) (c := c8) (xs := x6.name) Try.underlying32 Try.underlying5 Try.underlying9 (by kernel_rfl) rfl (Rd.bytesE S159.inv h9)) ?_
        refine lvg (d := 49) (t := 42) rfl (by kernel_rfl) rfl (bt q182 (by kernel_rfl)) rfl (by kernel_rfl) (e_sgtr (p := (x1.getD ((x24).toNat) zA).name) (q := x6.name) (by kernel_rfl) (by kernel_rfl)) ?_
        refine lvg (d := 50) (t := 42) rfl (by kernel_rfl) rfl (bt q182 (by kernel_rfl)) rfl (by kernel_rfl) (e_move (v := .bool (!(Op.bytesLess ((x1.getD ((x24).toNat) zA).name) x6.name || ((x1.getD ((x24).toNat) zA).name) == x6.name))) (by kernel_rfl)) ?_
        by_cases q183 : (!(Op.bytesLess ((x1.getD ((x24).toNat) zA).name) x6.name || ((x1.getD ((x24).toNat) zA).name) == x6.name)) = true
        · replace M := ifp q183 M
          refine lskip (t := 50) (c := true) rfl (by kernel_rfl) rfl (bvt q183 (by kernel_rfl)) rfl rfl ?_
          refine lskip (t := 50) (c := true) rfl (by kernel_rfl) rfl (bvt q183 (by kernel_rfl)) rfl rfl ?_
          refine lskipu (t := 52) rfl (by kernel_rfl) rfl (by kernel_rfl) rfl ?_
          refine lskipu (t := 52) rfl (by kernel_rfl) rfl (by kernel_rfl) rfl ?_
          refine lskipu (t := 52) rfl (by kernel_rfl) rfl (by kernel_rfl) rfl ?_
          refine lskip (t := 50) (c := true) rfl (by kernel_rfl) rfl (bvt q183 (by kernel_rfl)) rfl rfl ?_
          refine lvg (d := 57) (t := 42) rfl (by kernel_rfl) rfl (bt q182 (by kernel_rfl)) rfl (by kernel_rfl) (e_pick_t (v := .bool true) (bvt q183 (by kernel_rfl)) rfl) ?_
          refine lv (d := 58) rfl rfl (by kernel_rfl) (e_pick_t (v := .bool true) (bt q182 (by kernel_rfl)) (by kernel_rfl)) ?_
          refine wpList_nil ?_
          refine then_n ?_
          refine cond_t rfl (by kernel_rfl) ?_
          refine wp_seq ?_
          refine wp_region_lit ?_
          refine lv (d := 59) rfl rfl (by kernel_rfl) (e_move (v := .slice A19 x18.length c20) (by exact e27)) ?_
          refine lv (d := 60) rfl rfl (by kernel_rfl) (e_loadS (b := g12) (off := 0) (cs := [.slice A7 x6.name.length c8, .int .i64 x6.pri, .int .i64 x6.typ]) Try.underlying45 rfl (by kernel_rfl) (by exact e26) (blk_cells b13 rfl)) ?_
          refine lve (d := 61) rfl rfl (by kernel_rfl) (new_blk (v := fun g_ => .slice (some ⟨g_, 0, none⟩) 1 1) (cs := #[.slice A7 x6.name.length c8, .int .i64 x6.pri, .int .i64 x6.typ]) (t := 45) S159 (by kernel_rfl)) ?_
          rintro _ w184 ⟨g185, rfl, b186, S187, K188⟩
          replace b56 := K188.blk 0 rfl b56
          replace b13 := K188.blk 1 rfl b13
          replace h22 := h22.move (K188.at 2 rfl)
          obtain ⟨q189, M⟩ := chk M
          have S190 := S187.pull (F := F21) (Fr := [(is g185), (is g51), (is g12)]) 3 rfl rfl
          have S191 := S190.unit
          have S192 := S191.pull (F := F21) (Fr := [no, (is g185), (is g51), (is g12)]) 1 rfl rfl
          refine lve (d := 62) rfl rfl (by kernel_rfl) (e_append (d := (ro stA)) (n := x18.length) (xs := x18) (cap := c20) (A := A19) (ys := [x6]) (A2 := (some ⟨g185, 0, none⟩)) (c2 := 1) (z := .agg #[.slice none 0 0, .int .i64 0, .int .i64 0]) (bytes := 40) S192 Try.underlying25 (by kernel_rfl) rfl (by decide) (by kernel_rfl) rfl (by kernel_rfl) h22 (elsO_one1 (stA_mkR (x := x6) l10 h9 gh9)) (.inr (blk_news b186 rfl)) (show (x18.length + [x6].length) * 40 ≤ _ by first | omega | (simp only [List.length_cons, List.length_nil]; omega)) (by decide)) ?_
          rintro _ w193 ⟨A194, c195, F196, rfl, h197, S198, K199⟩
          replace b186 := K199.blk 0 rfl b186
          replace b56 := K199.blk 1 rfl b56
          replace b13 := K199.blk 2 rfl b13
          refine lv (d := 5) rfl rfl (by kernel_rfl) (e_assign (v := .slice A194 ((x18 ++ [x6]).length) c195) (by kernel_rfl)) ?_
          refine wpList_nil ?_
          refine then_n ?_
          refine wp_region_lit ?_
          refine lv (d := 6) rfl rfl (by kernel_rfl) (e_assign (v := .bool true) rfl) ?_
          refine wpList_nil ?_
          refine then_n ?_
          have S200 := S198.pull (F := (is g12)) (Fr := [F196, (is g185), (is g51)]) 3 rfl rfl
          have S201 := S200.pull (F := (is g51)) (Fr := [(is g12), F196, (is g185)]) 3 rfl rfl
          have S202 := St.first (Fa := [(is g51), (is g12), F196]) (Fr := [(is g185)]) S201
          exact ⟨k35, (by omega), _, (x18 ++ [x6]), A194, c195, F196, true, rfl, (by exact e25), (by exact e26), (by kernel_rfl), (by kernel_rfl), (by exact e29), (by kernel_rfl), b56, b13, h197, S202, M⟩
        replace M := ifn q183 M
        refine lvg (d := 51) (t := 50) rfl (by kernel_rfl) rfl (bvf q183 (by kernel_rfl)) rfl (by kernel_rfl) (e_move (v := .bool (decide ((x1.getD ((x24).toNat) zA).name = x6.name))) (by kernel_rfl)) ?_
        refine lvg (d := 52) (t := 50) rfl (by kernel_rfl) rfl (bvf q183 (by kernel_rfl)) rfl (by kernel_rfl) (e_move (v := .bool (decide ((x1.getD ((x24).toNat) zA).name = x6.name))) (by kernel_rfl)) ?_
        refine lskip (t := 52) (c := false) rfl (by kernel_rfl) rfl (bf q59 (by kernel_rfl)) rfl rfl ?_
        refine lskip (t := 52) (c := false) rfl (by kernel_rfl) rfl (bf q59 (by kernel_rfl)) rfl rfl ?_
        refine lskip (t := 52) (c := false) rfl (by kernel_rfl) rfl (bf q59 (by kernel_rfl)) rfl rfl ?_
        refine lvg (d := 56) (t := 50) rfl (by kernel_rfl) rfl (bvf q183 (by kernel_rfl)) rfl (by kernel_rfl) (e_pick_f (v := .bool false) (bf q59 (by kernel_rfl)) rfl) ?_
        refine lvg (d := 57) (t := 42) rfl (by kernel_rfl) rfl (bt q182 (by kernel_rfl)) rfl (by kernel_rfl) (e_pick_f (v := .bool false) (bvf q183 (by kernel_rfl)) (by kernel_rfl)) ?_
        refine lv (d := 58) rfl rfl (by kernel_rfl) (e_pick_t (v := .bool false) (bt q182 (by kernel_rfl)) (by kernel_rfl)) ?_
        refine wpList_nil ?_
        refine then_n ?_
        refine cond_f rfl (by kernel_rfl) ?_
        refine wp_skip ?_
        refine then_n ?_
        exact ⟨k35, (by omega), _, x18, A19, c20, F21, x23, rfl, (by exact e25), (by exact e26), (by exact e27), (by exact e28), (by exact e29), (by kernel_rfl), b56, b13, h22, S159, M⟩
      replace M := ifn q182 M
      refine lskip (t := 42) (c := false) rfl (by kernel_rfl) rfl (bf q182 (by kernel_rfl)) rfl rfl ?_
      refine lskip (t := 42) (c := false) rfl (by kernel_rfl) rfl (bf q182 (by kernel_rfl)) rfl rfl ?_
      refine lskip (t := 42) (c := false) rfl (by kernel_rfl) rfl (bf q182 (by kernel_rfl)) rfl rfl ?_
      refine lskip (t := 42) (c := false) rfl (by kernel_rfl) rfl (bf q182 (by kernel_rfl)) rfl rfl ?_
      refine lskip (t := 42) (c := false) rfl (by kernel_rfl) rfl (bf q182 (by kernel_rfl)) rfl rfl ?_
      refine lskip (t := 42) (c := false) rfl (by kernel_rfl) rfl (bf q182 (by kernel_rfl)) rfl rfl ?_
      refine lskip (t := 42) (c := false) rfl (by kernel_rfl) rfl (bf q182 (by kernel_rfl)) rfl rfl ?_
      refine lskip (t := 42) (c := false) rfl (by kernel_rfl) rfl (bf q182 (by kernel_rfl)) rfl rfl ?_
      refine lskipu (t := 50) rfl (by kernel_rfl) rfl (by kernel_rfl) rfl ?_
      refine lskipu (t := 50) rfl (by kernel_rfl) rfl (by kernel_rfl) rfl ?_
      refine lskipu (t := 52) rfl (by kernel_rfl) rfl (by kernel_rfl) rfl ?_
      refine lskipu (t := 52) rfl (by kernel_rfl) rfl (by kernel_rfl) rfl ?_
      refine lskipu (t := 52) rfl (by kernel_rfl) rfl (by kernel_rfl) rfl ?_
      refine lskipu (t := 50) rfl (by kernel_rfl) rfl (by kernel_rfl) rfl ?_
      refine lskip (t := 42) (c := false) rfl (by kernel_rfl) rfl (bf q182 (by kernel_rfl)) rfl rfl ?_
      refine lv (d := 58) rfl rfl (by kernel_rfl) (e_pick_f (v := .bool false) (bf q182 (by kernel_rfl)) rfl) ?_
      refine wpList_nil ?_
      refine then_n ?_
      refine cond_f rfl (by kernel_rfl) ?_
      refine wp_skip ?_
      refine then_n ?_
      exact ⟨k35, (by omega), _, x18, A19, c20, F21, x23, rfl, (by exact e25), (by exact e26), (by exact e27), (by exact e28), (by exact e29), (by kernel_rfl), b56, b13, h22, S159, M⟩
    clear M
    rintro a179 w162 ⟨k181, z221, f163, x164, A165, c166, F167, x169, rfl, e170, e171, e172, e173, e174, e175, b56, b13, h168, S176, M⟩
    rcases k181 with _ | k180
    · rw [l3putA.l2] at M
      cases M
    rw [l3putA.l2] at M
    refine wp_region_lit ?_
    refine lv (d := 63) rfl rfl (by kernel_rfl) (e_move (v := .slice A165 x164.length c166) (by exact e172)) ?_
    refine lv (d := 64) rfl rfl (by kernel_rfl) (e_loadS (b := g51) (off := 0) (cs := [.slice A46 ((x1.getD ((x24).toNat) zA).name).length c47, .int .i64 ((x1.getD ((x24).toNat) zA).pri), .int .i64 ((x1.getD ((x24).toNat) zA).typ)]) Try.underlying45 rfl (by kernel_rfl) (by exact e175) (blk_cells b56 rfl)) ?_
    refine lve (d := 65) rfl rfl (by kernel_rfl) (new_blk (v := fun g_ => .slice (some ⟨g_, 0, none⟩) 1 1) (cs := #[.slice A46 ((x1.getD ((x24).toNat) zA).name).length c47, .int .i64 ((x1.getD ((x24).toNat) zA).pri), .int .i64 ((x1.getD ((x24).toNat) zA).typ)]) (t := 45) S176 (by kernel_rfl)) ?_
    rintro _ w203 ⟨g204, rfl, b205, S206, K207⟩
    replace b56 := K207.blk 0 rfl b56
    replace b13 := K207.blk 1 rfl b13
    replace h168 := h168.move (K207.at 2 rfl)
    obtain ⟨q208, M⟩ := chk M
    have S209 := S206.pull (F := F167) (Fr := [(is g204), (is g51), (is g12)]) 3 rfl rfl
    have S210 := S209.unit
    have S211 := S210.pull (F := F167) (Fr := [no, (is g204), (is g51), (is g12)]) 1 rfl rfl
    refine lve (d := 66) rfl rfl (by kernel_rfl) (e_append (d := (ro stA)) (n := x164.length) (xs := x164) (cap := c166) (A := A165) (ys := [(x1.getD ((x24).toNat) zA)]) (A2 := (some ⟨g204, 0, none⟩)) (c2 := 1) (z := .agg #[.slice none 0 0, .int .i64 0, .int .i64 0]) (bytes := 40) S211 Try.underlying25 (by kernel_rfl) rfl (by decide) (by kernel_rfl) rfl (by kernel_rfl) h168 (elsO_one1 (stA_mkR (x := (x1.getD ((x24).toNat) zA)) l48 h49 gh49)) (.inr (blk_news b205 rfl)) (show (x164.length + [(x1.getD ((x24).toNat) zA)].length) * 40 ≤ _ by first | omega | (simp only [List.length_cons, List.length_nil]; omega)) (by decide)) ?_
    rintro _ w212 ⟨A213, c214, F215, rfl, h216, S217, K218⟩
    replace b205 := K218.blk 0 rfl b205
    replace b56 := K218.blk 1 rfl b56
    replace b13 := K218.blk 2 rfl b13
    refine lv (d := 5) rfl rfl (by kernel_rfl) (e_assign (v := .slice A213 ((x164 ++ [(x1.getD ((x24).toNat) zA)]).length) c214) (by kernel_rfl)) ?_
    refine wpList_nil ?_
    refine inb_n ?_
    refine then_n ?_
    refine wp_region_lit ?_
    refine lv (d := 17) rfl rfl (by kernel_rfl) (e_move (v := .int .i64 x24) (by exact e174)) ?_
    refine lv (d := 18) rfl rfl (by kernel_rfl) (e_add (k := .i64) (a := x24) (b := 1) (by kernel_rfl) rfl) ?_
    refine lv (d := 7) rfl rfl (by kernel_rfl) (e_assign (v := .int .i64 (IntKind.i64.wrap (x24 + 1))) (by kernel_rfl)) ?_
    refine wpList_nil ?_
    refine then_n ?_
    have S219 := S217.pull (F := (is g12)) (Fr := [F215, (is g204), (is g51)]) 3 rfl rfl
    have S220 := St.first (Fa := [(is g12), F215]) (Fr := [(is g204), (is g51)]) S219
    exact ⟨k180, (by omega), _, (x164 ++ [(x1.getD ((x24).toNat) zA)]), A213, c214, F215, x169, (IntKind.i64.wrap (x24 + 1)), rfl, (by exact e170), (by exact e171), (by kernel_rfl), (by exact e173), (by kernel_rfl), b13, h216, S220, M⟩
  replace M := ifn q38 M
  refine cond_f rfl (bf q38 (by kernel_rfl)) ?_
  refine wp_exit ?_
  refine then_e ?_
  refine then_e ?_
  refine inb_hit ?_
  refine then_n ?_
  refine wp_seq ?_
  refine wp_seq ?_
  refine wp_region_lit ?_
  refine lv (d := 67) rfl rfl (by kernel_rfl) (e_move (v := .bool x23) (by exact e28)) ?_
  refine lv (d := 68) rfl rfl (by kernel_rfl) (e_notv (c := x23) (by kernel_rfl)) ?_
  refine wpList_nil ?_
  refine then_n ?_
  by_cases q222 : ¬ (x23 = true)
  · replace M := ifp q222 M
    refine cond_t rfl (bt q222 (by kernel_rfl)) ?_
    refine wp_region_lit ?_
    refine lv (d := 69) rfl rfl (by kernel_rfl) (e_move (v := .slice A19 x18.length c20) (by exact e27)) ?_
    refine lv (d := 70) rfl rfl (by kernel_rfl) (e_loadS (b := g12) (off := 0) (cs := [.slice A7 x6.name.length c8, .int .i64 x6.pri, .int .i64 x6.typ]) Try.underlying45 rfl (by kernel_rfl) (by exact e26) (blk_cells b13 rfl)) ?_
    refine lve (d := 71) rfl rfl (by kernel_rfl) (new_blk (v := fun g_ => .slice (some ⟨g_, 0, none⟩) 1 1) (cs := #[.slice A7 x6.name.length c8, .int .i64 x6.pri, .int .i64 x6.typ]) (t := 45) S30 (by kernel_rfl)) ?_
    rintro _ w223 ⟨g224, rfl, b225, S226, K227⟩
    replace b13 := K227.blk 0 rfl b13
    replace h22 := h22.move (K227.at 1 rfl)
    obtain ⟨q228, M⟩ := chk M
    have S229 := S226.pull (F := F21) (Fr := [(is g224), (is g12)]) 2 rfl rfl
    have S230 := S229.unit
    have S231 := S230.pull (F := F21) (Fr := [no, (is g224), (is g12)]) 1 rfl rfl
    refine lve (d := 72) rfl rfl (by kernel_rfl) (e_append (d := (ro stA)) (n := x18.length) (xs := x18) (cap := c20) (A := A19) (ys := [x6]) (A2 := (some ⟨g224, 0, none⟩)) (c2 := 1) (z := .agg #[.slice none 0 0, .int .i64 0, .int .i64 0]) (bytes := 40) S231 Try.underlying25 (by kernel_rfl) rfl (by decide) (by kernel_rfl) rfl (by kernel_rfl) h22 (elsO_one1 (stA_mkR (x := x6) l10 h9 gh9)) (.inr (blk_news b225 rfl)) (show (x18.length + [x6].length) * 40 ≤ _ by first | omega | (simp only [List.length_cons, List.length_nil]; omega)) (by decide)) ?_
    rintro _ w232 ⟨A233, c234, F235, rfl, h236, S237, K238⟩
    replace b225 := K238.blk 0 rfl b225
    replace b13 := K238.blk 1 rfl b13
    refine lv (d := 5) rfl rfl (by kernel_rfl) (e_assign (v := .slice A233 ((x18 ++ [x6]).length) c234) (by kernel_rfl)) ?_
    refine wpList_nil ?_
    refine then_n ?_
    refine wp_seq ?_
    refine wp_region_lit ?_
    refine lv (d := 73) rfl rfl (by kernel_rfl) (e_move (v := .slice A233 ((x18 ++ [x6]).length) c234) (by kernel_rfl)) ?_
    refine lv (d := 4) rfl rfl (by kernel_rfl) (e_assign (v := .slice A233 ((x18 ++ [x6]).length) c234) (by kernel_rfl)) ?_
    refine wpList_nil ?_
    refine then_n ?_
    refine wp_ret ?_
    obtain rfl := Option.some.inj M
    have S239 := St.first (Fa := [F235]) (Fr := [(is g224), (is g12)]) S237
    exact ret1 rfl rfl  (show _ = .slice A233 ((x18 ++ [x6]).length) c234 from (by kernel_rfl)) ⟨A233, c234, F235, H, rfl, h236, S239⟩
  replace M := ifn q222 M
  refine cond_f rfl (bf q222 (by kernel_rfl)) ?_
  refine wp_skip ?_
  refine then_n ?_
  refine wp_seq ?_
  refine wp_region_lit ?_
  refine lv (d := 73) rfl rfl (by kernel_rfl) (e_move (v := .slice A19 x18.length c20) (by exact e27)) ?_
  refine lv (d := 4) rfl rfl (by kernel_rfl) (e_assign (v := .slice A19 x18.length c20) (by kernel_rfl)) ?_
  refine wpList_nil ?_
  refine then_n ?_
  refine wp_ret ?_
  obtain rfl := Option.some.inj M
  have S240 := S30.pull (F := F21) (Fr := [(is g12)]) 1 rfl rfl
  have S241 := St.first (Fa := [F21]) (Fr := [(is g12)]) S240
  exact ret1 rfl rfl  (show _ = .slice A19 x18.length c20 from (by kernel_rfl)) ⟨A19, c20, F21, H, rfl, h22, S241⟩
end Go.Proofs.Ytminnekeekhjcaa
