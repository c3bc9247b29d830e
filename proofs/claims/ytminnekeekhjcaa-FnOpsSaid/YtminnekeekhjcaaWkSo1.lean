import Derived.Test.YtminnekeekhjcaaProg
import Derived.Test.YtminnekeekhjcaaY17
namespace Go.Proofs.Ytminnekeekhjcaa
open Go.Sx Go.Sy
attribute [local irreducible] Go.wpList Go.wpStill Go.wpQuiet Go.Code.wp
set_option maxRecDepth 100000
set_option maxHeartbeats 1000000
set_option linter.unusedVariables false
set_option linter.unusedSimpArgs false

/-! impl_Op_prefix -/
def sl5 : Ty (List UInt8) := slice 5 tByte (by decide)
def st45 : Ty Sy.Op := iso (pair sl5 (pair tInt tInt)) (fun x => (x.name, x.pri, x.typ))
theorem st45_open {H : Hp} {x : Sy.Op} {cs : List Value} (h : st45.R H x cs) : ∃ (A0 : Option Addr) (c0 : Nat), cs = [.slice A0 x.name.length c0, .int .i64 x.pri, .int .i64 x.typ] ∧ x.name.length ≤ c0 ∧ Rd tByte H A0 x.name := by
  obtain ⟨_, _, rfl, ⟨A0, c0, rfl, l0, h0⟩, ⟨_, _, rfl, rfl, rfl⟩⟩ := h
  exact ⟨A0, c0, rfl, l0, h0⟩
theorem st45_mkR {H : Hp} {x : Sy.Op} {A0 : Option Addr} {c0 : Nat} (l0 : x.name.length ≤ c0) (h0 : Rd tByte H A0 x.name) : st45.R H x [.slice A0 x.name.length c0, .int .i64 x.pri, .int .i64 x.typ] := ⟨[.slice A0 x.name.length c0], [.int .i64 x.pri, .int .i64 x.typ], rfl, ⟨A0, c0, rfl, l0, h0⟩, ⟨[.int .i64 x.pri], [.int .i64 x.typ], rfl, rfl, rfl⟩⟩
theorem st45_mkO {H X : Hp} {F0 : Foot} {x : Sy.Op} {A0 : Option Addr} {c0 : Nat} (h0 : Row tByte 5 H X F0 A0 c0 x.name) : st45.O H X F0 x [.slice A0 x.name.length c0, .int .i64 x.pri, .int .i64 x.typ] := (pairO1 (a := sl5) (b := (pair tInt tInt)) (x := (x.name, (x.pri, x.typ))) (c0 := [.slice A0 x.name.length c0]) (c1 := [.int .i64 x.pri, .int .i64 x.typ]) ⟨A0, c0, rfl, h0⟩ (pairO0 (a := tInt) (b := tInt) (x := (x.pri, x.typ)) (c0 := [.int .i64 x.pri]) (c1 := [.int .i64 x.typ]) (F := no) rfl rfl))
theorem st45_openO {H X : Hp} {F : Foot} {x : Sy.Op} {cs : List Value} (h : st45.O H X F x cs) : ∃ (A0 : Option Addr) (c0 : Nat) (F0 : Foot), cs = [.slice A0 x.name.length c0, .int .i64 x.pri, .int .i64 x.typ] ∧ Row tByte 5 H X F0 A0 c0 x.name ∧ (∀ b, F0 b → F b) := by
  obtain ⟨_, _, K1, L1, rfl, ⟨A0, c0, rfl, h0⟩, ⟨_, _, K0, L0, rfl, rfl, rfl, d0, s0⟩, d1, s1⟩ := h
  exact ⟨A0, c0, _, rfl, h0, fun b hb => s1 b (.inl (hb))⟩
theorem st45_c1 {H X : Hp} {F : Foot} {x : Sy.Op} {cs : List Value} (h : st45.O H X F x cs) : cs[1]? = some (.int .i64 x.pri) := by obtain ⟨_, _, _, rfl, _, _⟩ := st45_openO h; rfl
theorem st45_r1 {H : Hp} {x : Sy.Op} {cs : List Value} (h : st45.R H x cs) : cs[1]? = some (.int .i64 x.pri) := by obtain ⟨_, _, rfl, _, _⟩ := st45_open h; rfl
theorem st45_c2 {H X : Hp} {F : Foot} {x : Sy.Op} {cs : List Value} (h : st45.O H X F x cs) : cs[2]? = some (.int .i64 x.typ) := by obtain ⟨_, _, _, rfl, _, _⟩ := st45_openO h; rfl
theorem st45_r2 {H : Hp} {x : Sy.Op} {cs : List Value} (h : st45.R H x cs) : cs[2]? = some (.int .i64 x.typ) := by obtain ⟨_, _, rfl, _, _⟩ := st45_open h; rfl
theorem st45_u0 {H X : Hp} {F1 F2 : Foot} {x : Sy.Op} {y : List UInt8} {A : Option Addr} {c : Nat} {cs : List Value} (hy : Row tByte 5 H X F2 A c y) (h : st45.O H X F1 x cs) : st45.O H X (or2 F1 F2) {x with name := y} (cs.take 0 ++ [.slice A y.length c] ++ cs.drop 1) := by
  obtain ⟨_, _, _, rfl, h0, _⟩ := st45_openO h
  exact st45_mkO (x := {x with name := y}) (hy.mono fun b hb => .inr hb)
theorem st45_u1 {H X : Hp} {F1 F2 : Foot} {x : Sy.Op} (y : Int) {cs : List Value} (h : st45.O H X F1 x cs) : st45.O H X (or2 F1 F2) {x with pri := y} (cs.take 1 ++ [.int .i64 y] ++ cs.drop 2) := by
  obtain ⟨_, _, _, rfl, h0, s0⟩ := st45_openO h
  exact st45_mkO (x := {x with pri := y}) (h0.mono fun b hb => .inl (s0 b hb))
theorem st45_u2 {H X : Hp} {F1 F2 : Foot} {x : Sy.Op} (y : Int) {cs : List Value} (h : st45.O H X F1 x cs) : st45.O H X (or2 F1 F2) {x with typ := y} (cs.take 2 ++ [.int .i64 y] ++ cs.drop 3) := by
  obtain ⟨_, _, _, rfl, h0, s0⟩ := st45_openO h
  exact st45_mkO (x := {x with typ := y}) (h0.mono fun b hb => .inl (s0 b hb))
def z45 : Sy.Op := ⟨([] : List UInt8), (0 : Int), (0 : Int)⟩
theorem z45_O (H X : Hp) : st45.O H X no z45 [.slice none 0 0, .int .i64 (0 : Int), .int .i64 (0 : Int)] := st45_mkO (x := z45) (Row.nil _ _ _ _ no)
theorem z45_R (H : Hp) : st45.R H z45 [.slice none 0 0, .int .i64 (0 : Int), .int .i64 (0 : Int)] := st45_mkR (x := z45) (Nat.le_refl _) (Rd.nil _ _ _)
def impl_Op_prefix.f (x1 : Sy.Op) : Option Bool := (if x1.typ = 3 then some true else some (decide (x1.typ = 4)))
theorem impl_Op_prefix.calls (w : World) (H : Hp) (x1 : Sy.Op) (A2 : Option Addr) (c3 : Nat) (h4 : Rd tByte H A2 x1.name) (l5 : x1.name.length ≤ c3) (S : Own [] H w) (r : Bool) (M : impl_Op_prefix.f x1 = some r) :
    Calls Try.prog 27 #[.agg #[.slice A2 x1.name.length c3, .int .i64 x1.pri, .int .i64 x1.typ]] w (fun e e_w => e = .returned (.bool r) ∧ Chg no w e_w) := by
  rw [impl_Op_prefix.f] at M
  refine enter (l := [.agg #[.slice A2 x1.name.length c3, .int .i64 x1.pri, .int .i64 x1.typ]]) 11 Try.func27 rfl rfl rfl ?_
  have S0_ := S.st
  refine wp_seq ?_
  refine wp_region_lit ?_
  refine lve (d := 1) rfl rfl (by kernel_rfl) (new_blk (v := fun g_ => .pointer (some ⟨g_, 0, none⟩)) (cs := #[.slice A2 x1.name.length c3, .int .i64 x1.pri, .int .i64 x1.typ]) (t := 45) S0_ (by kernel_rfl)) ?_
  rintro _ w6 ⟨g7, rfl, b9, S10, K11⟩
  refine lv (d := 2) rfl rfl (by kernel_rfl) (e_assign (v := .bool false) rfl) ?_
  refine wpList_nil ?_
  refine then_n ?_
  refine wp_seq ?_
  refine wp_region_lit ?_
  refine lv (d := 3) rfl rfl (by kernel_rfl) (e_fieldAddr (b := g7) (off := 0) (o := 2) Try.underlying45 rfl rfl (sz := 1) (by kernel_rfl) (by decide) (by kernel_rfl)) ?_
  refine lv (d := 4) rfl rfl (by kernel_rfl) (e_load1 (ad := ⟨g7, 0 + 2, none⟩) (v := .int .i64 x1.typ) Try.underlying3 rfl (by kernel_rfl) (blk_cell b9 rfl)) ?_
  refine lv (d := 5) rfl rfl (by kernel_rfl) (e_eql (k := .i64) (a := x1.typ) (b := 3) (by kernel_rfl) rfl) ?_
  refine lv (d := 6) rfl rfl (by kernel_rfl) (e_move (v := .bool (decide (x1.typ = 3))) (by kernel_rfl)) ?_
  by_cases q12 : x1.typ = 3
  · replace M := ifp q12 M
    refine lskip (t := 6) (c := true) rfl (by kernel_rfl) rfl (bt q12 (by kernel_rfl)) rfl rfl ?_
    refine lskip (t := 6) (c := true) rfl (by kernel_rfl) rfl (bt q12 (by kernel_rfl)) rfl rfl ?_
    refine lskip (t := 6) (c := true) rfl (by kernel_rfl) rfl (bt q12 (by kernel_rfl)) rfl rfl ?_
    refine lv (d := 10) rfl rfl (by kernel_rfl) (e_pick_t (v := .bool true) (bt q12 (by kernel_rfl)) rfl) ?_
    refine lv (d := 2) rfl rfl (by kernel_rfl) (e_assign (v := .bool true) (by kernel_rfl)) ?_
    refine wpList_nil ?_
    refine then_n ?_
    refine wp_ret ?_
    obtain rfl := Option.some.inj M
    exact ret1 rfl rfl  (show _ = .bool true from (by kernel_rfl)) ⟨rfl, S10.chg⟩
  replace M := ifn q12 M
  refine lvg (d := 7) (t := 6) rfl (by kernel_rfl) rfl (bf q12 (by kernel_rfl)) rfl (by kernel_rfl) (e_fieldAddr (b := g7) (off := 0) (o := 2) Try.underlying45 rfl rfl (sz := 1) (by kernel_rfl) (by decide) (by kernel_rfl)) ?_
  refine lvg (d := 8) (t := 6) rfl (by kernel_rfl) rfl (bf q12 (by kernel_rfl)) rfl (by kernel_rfl) (e_load1 (ad := ⟨g7, 0 + 2, none⟩) (v := .int .i64 x1.typ) Try.underlying3 rfl (by kernel_rfl) (blk_cell b9 rfl)) ?_
  refine lvg (d := 9) (t := 6) rfl (by kernel_rfl) rfl (bf q12 (by kernel_rfl)) rfl (by kernel_rfl) (e_eql (k := .i64) (a := x1.typ) (b := 4) (by kernel_rfl) rfl) ?_
  refine lv (d := 10) rfl rfl (by kernel_rfl) (e_pick_f (v := .bool (decide (x1.typ = 4))) (bf q12 (by kernel_rfl)) (by kernel_rfl)) ?_
  refine lv (d := 2) rfl rfl (by kernel_rfl) (e_assign (v := .bool (decide (x1.typ = 4))) (by kernel_rfl)) ?_
  refine wpList_nil ?_
  refine then_n ?_
  refine wp_ret ?_
  obtain rfl := Option.some.inj M
  exact ret1 rfl rfl  (show _ = .bool (decide (x1.typ = 4)) from (by kernel_rfl)) ⟨rfl, S10.chg⟩

/-! impl_sortOps_c1 -/
def impl_sortOps_c1.l0 (_k : Nat) (x14 : List UInt8) (x19 : Int) (x20 : Int) (x23 : List UInt8) (x28 : Int) (x29 : Int) : Option Bool := (if x14 ≠ x23 then some (Op.bytesLess x14 x23) else ((impl_Op_prefix.f (⟨x14, x19, x20⟩ : Sy.Op)).bind fun t139 => (if t139 = true then ((impl_Op_prefix.f (⟨x23, x28, x29⟩ : Sy.Op)).bind fun t146 => some (decide (¬ (t146 = true)))) else some false)))
def impl_sortOps_c1.f (x1 : Int) (x2 : Int) (x3 : List Sy.Op) : Option Bool := (if 0 ≤ x1 then (if x1 < (x3.length : Int) then (if 0 ≤ x2 then (if x2 < (x3.length : Int) then (impl_sortOps_c1.l0 0 ((x3.getD ((x1).toNat) z45).name) ((x3.getD ((x1).toNat) z45).pri) ((x3.getD ((x1).toNat) z45).typ) ((x3.getD ((x2).toNat) z45).name) ((x3.getD ((x2).toNat) z45).pri) ((x3.getD ((x2).toNat) z45).typ)) else none) else none) else none) else none)
theorem impl_sortOps_c1.calls (w : World) (H : Hp) (x1 : Int) (x2 : Int) (x3 : List Sy.Op) (g4 : Nat) (A6 : Option Addr) (c7 : Nat) (h8 : Rd st45 H A6 x3) (l9 : x3.length ≤ c7) (b5 : H g4 = some (.cells #[.slice A6 x3.length c7] 25 (0, 0))) (S : Own [] H w) (r : Bool) (M : impl_sortOps_c1.f x1 x2 x3 = some r) :
    Calls Try.prog 48 #[.int .i64 x1, .int .i64 x2, .pointer (some ⟨g4, 0, none⟩)] w (fun e e_w => e = .returned (.bool r) ∧ Chg no w e_w) := by
  rw [impl_sortOps_c1.f] at M
  refine enter (l := [.int .i64 x1, .int .i64 x2, .pointer (some ⟨g4, 0, none⟩)]) 37 Try.func48 rfl rfl rfl ?_
  have S0_ := S.st
  refine wp_seq ?_
  refine wp_region_lit ?_
  refine lv (d := 5) rfl rfl (by kernel_rfl) (e_assign (v := .bool false) rfl) ?_
  refine wpList_nil ?_
  refine then_n ?_
  refine wp_seq ?_
  refine wp_cut (fun a35 w10 => ∃ (f11 : Nat → Value) (g12 : Nat) (x14 : List UInt8) (A15 : Option Addr) (c16 : Nat) (x19 : Int) (x20 : Int) (g21 : Nat) (x23 : List UInt8) (A24 : Option Addr) (c25 : Nat) (x28 : Int) (x29 : Int), a35 = mk 37 f11 ∧ f11 6 = .pointer (some ⟨g12, 0, none⟩) ∧ f11 7 = .pointer (some ⟨g21, 0, none⟩) ∧ w10.heap[g12]? = some (.cells #[.slice A15 x14.length c16, .int .i64 x19, .int .i64 x20] 45 (0, 0)) ∧ w10.heap[g21]? = some (.cells #[.slice A24 x23.length c25, .int .i64 x28, .int .i64 x29] 45 (0, 0)) ∧ Rd tByte H A15 x14 ∧ x14.length ≤ c16 ∧ Rd tByte H A24 x23 ∧ x23.length ≤ c25 ∧ St (anyOf []) H w [(is g12), (is g21)] H w10 ∧ impl_sortOps_c1.l0 0 x14 x19 x20 x23 x28 x29 = some r) ?_ ?_
  · refine region_mix (S := (fun (L_ : Array Bool) (w_ : World) => Ext H (hp w_) ∧ True)) (by kernel_rfl) S0_ ?_
    intro w36 S37 K38 hc39
    have hs40 : (fun (L_ : Array Bool) (w_ : World) => Ext H (hp w_) ∧ True) (Array.replicate 12 false) w36 := ⟨S37.inv, trivial⟩
    refine xv (i := 0) (d := 8) rfl rfl rfl (by kernel_rfl) (by kernel_rfl) (fun _ _ => Iff.rfl) hc39 hs40 (fun L_ w_ hc_ hu_ hs_ => e_load1 (ad := ⟨g4, 0, none⟩) (v := .slice A6 x3.length c7) Try.underlying25 rfl (by kernel_rfl) (blk_cell (hs_.1 _ _ b5) rfl)) ?_; intro hc41 hs42
    refine xv (i := 1) (d := 9) rfl rfl rfl (by kernel_rfl) (by kernel_rfl) (fun _ _ => Iff.rfl) hc41 hs42 (fun L_ w_ hc_ hu_ hs_ => e_move (v := .int .i64 x1) (by kernel_rfl)) ?_; intro hc43 hs44
    obtain ⟨q45, M⟩ := chk M
    obtain ⟨q46, M⟩ := chk M
    obtain ⟨b47, o48, e49⟩ := Rd.addr h8 (show (x1).toNat < x3.length by omega)
    obtain ⟨y50, r51, k52⟩ := Rd.at h8 e49 (getD_some z45 (show (x1).toNat < x3.length by omega))
    obtain ⟨A53, c54, rfl, l55, h56⟩ := st45_open r51
    refine xv (i := 2) (d := 10) rfl rfl rfl (by kernel_rfl) (by kernel_rfl) (fun _ _ => Iff.rfl) hc43 hs44 (fun L_ w_ hc_ hu_ hs_ => e_indexAddr (b := b47) (off := o48) (n := x3.length) (c := c7) (sz := 3) (i := x1) (k := .i64) Try.underlying25 e49 (by kernel_rfl) (by kernel_rfl) (by kernel_rfl) q45 q46) ?_; intro hc57 hs58
    refine xv (i := 3) (d := 11) rfl rfl rfl (by kernel_rfl) (by kernel_rfl) (fun _ _ => Iff.rfl) hc57 hs58 (fun L_ w_ hc_ hu_ hs_ => e_loadS (b := b47) (off := o48 + (x1 : Int).toNat * 3) (cs := [.slice A53 ((x3.getD ((x1).toNat) z45).name).length c54, .int .i64 ((x3.getD ((x1).toNat) z45).pri), .int .i64 ((x3.getD ((x1).toNat) z45).typ)]) Try.underlying45 rfl (by kernel_rfl) (by kernel_rfl) (fun j_ u_ e_ => (hpx (hs_.1.cell (k52 j_ u_ e_))))) ?_; intro hc59 hs60
    refine xv (i := 4) (d := 12) rfl rfl rfl (by kernel_rfl) (by kernel_rfl) (fun _ _ => Iff.rfl) hc59 hs60 (fun L_ w_ hc_ hu_ hs_ => e_load1 (ad := ⟨g4, 0, none⟩) (v := .slice A6 x3.length c7) Try.underlying25 rfl (by kernel_rfl) (blk_cell (hs_.1 _ _ b5) rfl)) ?_; intro hc61 hs62
    refine xv (i := 5) (d := 13) rfl rfl rfl (by kernel_rfl) (by kernel_rfl) (fun _ _ => Iff.rfl) hc61 hs62 (fun L_ w_ hc_ hu_ hs_ => e_move (v := .int .i64 x2) (by kernel_rfl)) ?_; intro hc63 hs64
    obtain ⟨q65, M⟩ := chk M
    obtain ⟨q66, M⟩ := chk M
    obtain ⟨b67, o68, e69⟩ := Rd.addr h8 (show (x2).toNat < x3.length by omega)
    obtain ⟨y70, r71, k72⟩ := Rd.at h8 e69 (getD_some z45 (show (x2).toNat < x3.length by omega))
    obtain ⟨A73, c74, rfl, l75, h76⟩ := st45_open r71
    refine xv (i := 6) (d := 14) rfl rfl rfl (by kernel_rfl) (by kernel_rfl) (fun _ _ => Iff.rfl) hc63 hs64 (fun L_ w_ hc_ hu_ hs_ => e_indexAddr (b := b67) (off := o68) (n := x3.length) (c := c7) (sz := 3) (i := x2) (k := .i64) Try.underlying25 e69 (by kernel_rfl) (by kernel_rfl) (by kernel_rfl) q65 q66) ?_; intro hc77 hs78
    refine xv (i := 7) (d := 15) rfl rfl rfl (by kernel_rfl) (by kernel_rfl) (fun _ _ => Iff.rfl) hc77 hs78 (fun L_ w_ hc_ hu_ hs_ => e_loadS (b := b67) (off := o68 + (x2 : Int).toNat * 3) (cs := [.slice A73 ((x3.getD ((x2).toNat) z45).name).length c74, .int .i64 ((x3.getD ((x2).toNat) z45).pri), .int .i64 ((x3.getD ((x2).toNat) z45).typ)]) Try.underlying45 rfl (by kernel_rfl) (by kernel_rfl) (fun j_ u_ e_ => (hpx (hs_.1.cell (k72 j_ u_ e_))))) ?_; intro hc79 hs80
    refine xall [8, 9] (by kernel_rfl) (by decide) hc79 (List.forall_mem_cons.2 ⟨?_, List.forall_mem_cons.2 ⟨?_, fun _ h_ => by cases h_⟩⟩)
    · refine ye (i := 8) (d := 6) rfl rfl (wanted_none rfl _) (by kernel_rfl) (by kernel_rfl) (new_blk (v := fun g_ => .pointer (some ⟨g_, 0, none⟩)) (cs := #[.slice none 0 0, .int .i64 0, .int .i64 0]) (t := 45) S37 (by kernel_rfl)) ?_
      rintro hc86 _ w81 ⟨g82, rfl, b83, S84, K85⟩
      refine ⟨⟨S84.inv, trivial⟩, fun hs87 => ?_⟩
      refine xone (i := 9) (by kernel_rfl) hc86 ?_
      refine ye (i := 9) (d := 7) rfl rfl (wanted_none rfl _) (by kernel_rfl) (by kernel_rfl) (new_blk (v := fun g_ => .pointer (some ⟨g_, 0, none⟩)) (cs := #[.slice none 0 0, .int .i64 0, .int .i64 0]) (t := 45) S84 (by kernel_rfl)) ?_
      rintro hc93 _ w88 ⟨g89, rfl, b90, S91, K92⟩
      replace b83 := K92.blk 0 rfl b83
      refine ⟨⟨S91.inv, trivial⟩, fun hs94 => ?_⟩
      have S95 := S91.pull (F := (is g82)) (Fr := [(is g89)]) 1 rfl rfl
      refine xone (i := 10) (by kernel_rfl) hc93 ?_
      refine ys (i := 10) rfl rfl (wanted_none rfl _) (by kernel_rfl) (by kernel_rfl) (e_store (g := g82) (o := 0) (v := .agg #[.slice A53 ((x3.getD ((x1).toNat) z45).name).length c54, .int .i64 ((x3.getD ((x1).toNat) z45).pri), .int .i64 ((x3.getD ((x1).toNat) z45).typ)]) (cur' := #[.slice A53 ((x3.getD ((x1).toNat) z45).name).length c54, .int .i64 ((x3.getD ((x1).toNat) z45).pri), .int .i64 ((x3.getD ((x1).toNat) z45).typ)]) (vs := [.slice A53 ((x3.getD ((x1).toNat) z45).name).length c54, .int .i64 ((x3.getD ((x1).toNat) z45).pri), .int .i64 ((x3.getD ((x1).toNat) z45).typ)]) S95 (by kernel_rfl) (by kernel_rfl) rfl (by kernel_rfl) b83 (Nat.le_of_ble_eq_true rfl) (List.forall_mem_cons.2 ⟨rfl, (List.forall_mem_cons.2 ⟨rfl, (List.forall_mem_cons.2 ⟨rfl, (fun _ h_ => by cases h_)⟩)⟩)⟩) rfl) ?_
      rintro hc100 w96 ⟨b97, S98, K99⟩
      replace b90 := K99.blk 0 rfl b90
      refine ⟨⟨S98.inv, trivial⟩, fun hs101 => ?_⟩
      clear b83
      have S102 := S98.pull (F := (is g89)) (Fr := [(is g82)]) 1 rfl rfl
      refine xone (i := 11) (by kernel_rfl) hc100 ?_
      refine ys (i := 11) rfl rfl (wanted_none rfl _) (by kernel_rfl) (by kernel_rfl) (e_store (g := g89) (o := 0) (v := .agg #[.slice A73 ((x3.getD ((x2).toNat) z45).name).length c74, .int .i64 ((x3.getD ((x2).toNat) z45).pri), .int .i64 ((x3.getD ((x2).toNat) z45).typ)]) (cur' := #[.slice A73 ((x3.getD ((x2).toNat) z45).name).length c74, .int .i64 ((x3.getD ((x2).toNat) z45).pri), .int .i64 ((x3.getD ((x2).toNat) z45).typ)]) (vs := [.slice A73 ((x3.getD ((x2).toNat) z45).name).length c74, .int .i64 ((x3.getD ((x2).toNat) z45).pri), .int .i64 ((x3.getD ((x2).toNat) z45).typ)]) S102 (by kernel_rfl) (by kernel_rfl) rfl (by kernel_rfl) b90 (Nat.le_of_ble_eq_true rfl) (List.forall_mem_cons.2 ⟨rfl, (List.forall_mem_cons.2 ⟨rfl, (List.forall_mem_cons.2 ⟨rfl, (fun _ h_ => by cases h_)⟩)⟩)⟩) rfl) ?_
      rintro hc107 w103 ⟨b104, S105, K106⟩
      replace b97 := K106.blk 0 rfl b97
      refine ⟨⟨S105.inv, trivial⟩, fun hs108 => ?_⟩
      clear b90
      refine xn (by kernel_rfl) ?_ _
      have S109 := S105.pull (F := (is g82)) (Fr := [(is g89)]) 1 rfl rfl
      exact ⟨rfl, _, g82, ((x3.getD ((x1).toNat) z45).name), A53, c54, ((x3.getD ((x1).toNat) z45).pri), ((x3.getD ((x1).toNat) z45).typ), g89, ((x3.getD ((x2).toNat) z45).name), A73, c74, ((x3.getD ((x2).toNat) z45).pri), ((x3.getD ((x2).toNat) z45).typ), rfl, (by kernel_rfl), (by kernel_rfl), b97, b104, h56, l55, h76, l75, S109, M⟩
    refine ye (i := 9) (d := 7) rfl rfl (wanted_none rfl _) (by kernel_rfl) (by kernel_rfl) (new_blk (v := fun g_ => .pointer (some ⟨g_, 0, none⟩)) (cs := #[.slice none 0 0, .int .i64 0, .int .i64 0]) (t := 45) S37 (by kernel_rfl)) ?_
    rintro hc115 _ w110 ⟨g111, rfl, b112, S113, K114⟩
    refine ⟨⟨S113.inv, trivial⟩, fun hs116 => ?_⟩
    refine xone (i := 8) (by kernel_rfl) hc115 ?_
    refine ye (i := 8) (d := 6) rfl rfl (wanted_none rfl _) (by kernel_rfl) (by kernel_rfl) (new_blk (v := fun g_ => .pointer (some ⟨g_, 0, none⟩)) (cs := #[.slice none 0 0, .int .i64 0, .int .i64 0]) (t := 45) S113 (by kernel_rfl)) ?_
    rintro hc122 _ w117 ⟨g118, rfl, b119, S120, K121⟩
    replace b112 := K121.blk 0 rfl b112
    refine ⟨⟨S120.inv, trivial⟩, fun hs123 => ?_⟩
    refine xone (i := 10) (by kernel_rfl) hc122 ?_
    refine ys (i := 10) rfl rfl (wanted_none rfl _) (by kernel_rfl) (by kernel_rfl) (e_store (g := g118) (o := 0) (v := .agg #[.slice A53 ((x3.getD ((x1).toNat) z45).name).length c54, .int .i64 ((x3.getD ((x1).toNat) z45).pri), .int .i64 ((x3.getD ((x1).toNat) z45).typ)]) (cur' := #[.slice A53 ((x3.getD ((x1).toNat) z45).name).length c54, .int .i64 ((x3.getD ((x1).toNat) z45).pri), .int .i64 ((x3.getD ((x1).toNat) z45).typ)]) (vs := [.slice A53 ((x3.getD ((x1).toNat) z45).name).length c54, .int .i64 ((x3.getD ((x1).toNat) z45).pri), .int .i64 ((x3.getD ((x1).toNat) z45).typ)]) S120 (by kernel_rfl) (by kernel_rfl) rfl (by kernel_rfl) b119 (Nat.le_of_ble_eq_true rfl) (List.forall_mem_cons.2 ⟨rfl, (List.forall_mem_cons.2 ⟨rfl, (List.forall_mem_cons.2 ⟨rfl, (fun _ h_ => by cases h_)⟩)⟩)⟩) rfl) ?_
    rintro hc128 w124 ⟨b125, S126, K127⟩
    replace b112 := K127.blk 0 rfl b112
    refine ⟨⟨S126.inv, trivial⟩, fun hs129 => ?_⟩
    clear b119
    have S130 := S126.pull (F := (is g111)) (Fr := [(is g118)]) 1 rfl rfl
    refine xone (i := 11) (by kernel_rfl) hc128 ?_
    refine ys (i := 11) rfl rfl (wanted_none rfl _) (by kernel_rfl) (by kernel_rfl) (e_store (g := g111) (o := 0) (v := .agg #[.slice A73 ((x3.getD ((x2).toNat) z45).name).length c74, .int .i64 ((x3.getD ((x2).toNat) z45).pri), .int .i64 ((x3.getD ((x2).toNat) z45).typ)]) (cur' := #[.slice A73 ((x3.getD ((x2).toNat) z45).name).length c74, .int .i64 ((x3.getD ((x2).toNat) z45).pri), .int .i64 ((x3.getD ((x2).toNat) z45).typ)]) (vs := [.slice A73 ((x3.getD ((x2).toNat) z45).name).length c74, .int .i64 ((x3.getD ((x2).toNat) z45).pri), .int .i64 ((x3.getD ((x2).toNat) z45).typ)]) S130 (by kernel_rfl) (by kernel_rfl) rfl (by kernel_rfl) b112 (Nat.le_of_ble_eq_true rfl) (List.forall_mem_cons.2 ⟨rfl, (List.forall_mem_cons.2 ⟨rfl, (List.forall_mem_cons.2 ⟨rfl, (fun _ h_ => by cases h_)⟩)⟩)⟩) rfl) ?_
    rintro hc135 w131 ⟨b132, S133, K134⟩
    replace b125 := K134.blk 0 rfl b125
    refine ⟨⟨S133.inv, trivial⟩, fun hs136 => ?_⟩
    clear b112
    refine xn (by kernel_rfl) ?_ _
    have S137 := S133.pull (F := (is g118)) (Fr := [(is g111)]) 1 rfl rfl
    exact ⟨rfl, _, g118, ((x3.getD ((x1).toNat) z45).name), A53, c54, ((x3.getD ((x1).toNat) z45).pri), ((x3.getD ((x1).toNat) z45).typ), g111, ((x3.getD ((x2).toNat) z45).name), A73, c74, ((x3.getD ((x2).toNat) z45).pri), ((x3.getD ((x2).toNat) z45).typ), rfl, (by kernel_rfl), (by kernel_rfl), b125, b132, h56, l55, h76, l75, S137, M⟩
  clear M
  rintro a35 w10 ⟨f11, g12, x14, A15, c16, x19, x20, g21, x23, A24, c25, x28, x29, rfl, e30, e31, b13, b22, h17, l18, h26, l27, S32, M⟩
  rw [impl_sortOps_c1.l0] at M
  refine then_n ?_
  refine wp_seq ?_
  refine wp_seq ?_
  refine wp_region_lit ?_
  refine lv (d := 16) rfl rfl (by kernel_rfl) (e_fieldAddr (b := g12) (off := 0) (o := 0) Try.underlying45 rfl rfl (sz := 1) (by kernel_rfl) (by decide) (by exact e30)) ?_
  refine lv (d := 17) rfl rfl (by kernel_rfl) (e_load1 (ad := ⟨g12, 0 + 0, none⟩) (v := .slice A15 x14.length c16) Try.underlying32 rfl (by kernel_rfl) (blk_cell b13 rfl)) ?_
  refine lv (d := 18) rfl rfl (by kernel_rfl) (e_conv_bs (A := A15) (n := x14.length) (c := c16) (xs := x14) Try.underlying32 Try.underlying5 Try.underlying9 (by kernel_rfl) rfl (Rd.bytesE S32.inv h17)) ?_
  refine lv (d := 19) rfl rfl (by kernel_rfl) (e_fieldAddr (b := g21) (off := 0) (o := 0) Try.underlying45 rfl rfl (sz := 1) (by kernel_rfl) (by decide) (by exact e31)) ?_
  refine lv (d := 20) rfl rfl (by kernel_rfl) (e_load1 (ad := ⟨g21, 0 + 0, none⟩) (v := .slice A24 x23.length c25) Try.underlying32 rfl (by kernel_rfl) (blk_cell b22 rfl)) ?_
  refine lv (d := 21) rfl rfl (by kernel_rfl) (e_conv_bs (A := A24) (n := x23.length) (c := c25) (xs := x23) Try.underlying32 Try.underlying5 Try.underlying9 (by kernel_rfl) rfl (Rd.bytesE S32.inv h26)) ?_
  refine lv (d := 22) rfl rfl (by kernel_rfl) (e_sneq (p := x14) (q := x23) (by kernel_rfl) (by kernel_rfl)) ?_
  refine wpList_nil ?_
  refine then_n ?_
  by_cases q138 : x14 ≠ x23
  · replace M := ifp q138 M
    refine cond_t rfl (bt q138 (by kernel_rfl)) ?_
    refine wp_seq ?_
    refine wp_region_lit ?_
    refine lv (d := 23) rfl rfl (by kernel_rfl) (e_fieldAddr (b := g12) (off := 0) (o := 0) Try.underlying45 rfl rfl (sz := 1) (by kernel_rfl) (by decide) (by exact e30)) ?_
    refine lv (d := 24) rfl rfl (by kernel_rfl) (e_load1 (ad := ⟨g12, 0 + 0, none⟩) (v := .slice A15 x14.length c16) Try.underlying32 rfl (by kernel_rfl) (blk_cell b13 rfl)) ?_
    refine lv (d := 25) rfl rfl (by kernel_rfl) (e_conv_bs (A := A15) (n := x14.length) (c := c16) (xs := x14) Try.underlying32 Try.underlying5 Try.underlying9 (by kernel_rfl) rfl (Rd.bytesE S32.inv h17)) ?_
    refine lv (d := 26) rfl rfl (by kernel_rfl) (e_fieldAddr (b := g21) (off := 0) (o := 0) Try.underlying45 rfl rfl (sz := 1) (by kernel_rfl) (by decide) (by exact e31)) ?_
    refine lv (d := 27) rfl rfl (by kernel_rfl) (e_load1 (ad := ⟨g21, 0 + 0, none⟩) (v := .slice A24 x23.length c25) Try.underlying32 rfl (by kernel_rfl) (blk_cell b22 rfl)) ?_
    refine lv (d := 28) rfl rfl (by kernel_rfl) (e_conv_bs (A := A24) (n := x23.length) (c := c25) (xs := x23) Try.underlying32 Try.underlying5 Try.underlying9 (by kernel_rfl) rfl (Rd.bytesE S32.inv h26)) ?_
    refine lv (d := 29) rfl rfl (by kernel_rfl) (e_slss (p := x14) (q := x23) (by kernel_rfl) (by kernel_rfl)) ?_
    refine lv (d := 5) rfl rfl (by kernel_rfl) (e_assign (v := .bool (Op.bytesLess x14 x23)) (by kernel_rfl)) ?_
    refine wpList_nil ?_
    refine then_n ?_
    refine wp_ret ?_
    refine then_r ?_
    obtain rfl := Option.some.inj M
    exact ret1 rfl rfl  (show _ = .bool (Op.bytesLess x14 x23) from (by kernel_rfl)) ⟨rfl, S32.chg⟩
  replace M := ifn q138 M
  refine cond_f rfl (bf q138 (by kernel_rfl)) ?_
  refine wp_skip ?_
  refine then_n ?_
  refine wp_seq ?_
  refine wp_region_lit ?_
  refine lv (d := 30) rfl rfl (by kernel_rfl) (e_loadS (b := g12) (off := 0) (cs := [.slice A15 x14.length c16, .int .i64 x19, .int .i64 x20]) Try.underlying45 rfl (by kernel_rfl) (by exact e30) (blk_cells b13 rfl)) ?_
  obtain ⟨t139, u140, M⟩ := bnd M
  refine lcall (d := 31) rfl rfl (by kernel_rfl) (e_call (l := [.tmp 30]) (vs := [.agg #[.slice A15 x14.length c16, .int .i64 x19, .int .i64 x20]]) Try.func27 (by kernel_rfl) rfl (by kernel_rfl) rfl) (impl_Op_prefix.calls w10 H (⟨x14, x19, x20⟩ : Sy.Op) A15 c16 h17 l18 S32.own0 t139 u140) ?_
  rintro _ w141 ⟨rfl, C142⟩
  refine ⟨_, rfl, ?_⟩
  obtain ⟨S143, K144⟩ := S32.still C142
  replace b13 := K144.blk 0 rfl b13
  replace b22 := K144.blk 1 rfl b22
  refine lv (d := 32) rfl rfl (by kernel_rfl) (e_move (v := .bool t139) (by kernel_rfl)) ?_
  by_cases q145 : t139 = true
  · replace M := ifp q145 M
    refine lvg (d := 33) (t := 32) rfl (by kernel_rfl) rfl (bvt q145 (by kernel_rfl)) rfl (by kernel_rfl) (e_loadS (b := g21) (off := 0) (cs := [.slice A24 x23.length c25, .int .i64 x28, .int .i64 x29]) Try.underlying45 rfl (by kernel_rfl) (by exact e31) (blk_cells b22 rfl)) ?_
    obtain ⟨t146, u147, M⟩ := bnd M
    refine lcallg (d := 34) (t := 32) rfl (by kernel_rfl) rfl (bvt q145 (by kernel_rfl)) rfl (by kernel_rfl) (e_call (l := [.tmp 33]) (vs := [.agg #[.slice A24 x23.length c25, .int .i64 x28, .int .i64 x29]]) Try.func27 (by kernel_rfl) rfl (by kernel_rfl) rfl) (impl_Op_prefix.calls w141 H (⟨x23, x28, x29⟩ : Sy.Op) A24 c25 h26 l27 S143.own0 t146 u147) ?_
    rintro _ w148 ⟨rfl, C149⟩
    refine ⟨_, rfl, ?_⟩
    obtain ⟨S150, K151⟩ := S143.still C149
    replace b13 := K151.blk 0 rfl b13
    replace b22 := K151.blk 1 rfl b22
    refine lvg (d := 35) (t := 32) rfl (by kernel_rfl) rfl (bvt q145 (by kernel_rfl)) rfl (by kernel_rfl) (e_notv (c := t146) (by kernel_rfl)) ?_
    refine lv (d := 36) rfl rfl (by kernel_rfl) (e_pick_t (v := .bool (decide (¬ (t146 = true)))) (bvt q145 (by kernel_rfl)) (by kernel_rfl)) ?_
    refine lv (d := 5) rfl rfl (by kernel_rfl) (e_assign (v := .bool (decide (¬ (t146 = true)))) (by kernel_rfl)) ?_
    refine wpList_nil ?_
    refine then_n ?_
    refine wp_ret ?_
    obtain rfl := Option.some.inj M
    exact ret1 rfl rfl  (show _ = .bool (decide (¬ (t146 = true))) from (by kernel_rfl)) ⟨rfl, S150.chg⟩
  replace M := ifn q145 M
  refine lskip (t := 32) (c := false) rfl (by kernel_rfl) rfl (bvf q145 (by kernel_rfl)) rfl rfl ?_
  refine lskip (t := 32) (c := false) rfl (by kernel_rfl) rfl (bvf q145 (by kernel_rfl)) rfl rfl ?_
  refine lskip (t := 32) (c := false) rfl (by kernel_rfl) rfl (bvf q145 (by kernel_rfl)) rfl rfl ?_
  refine lv (d := 36) rfl rfl (by kernel_rfl) (e_pick_f (v := .bool false) (bvf q145 (by kernel_rfl)) rfl) ?_
  refine lv (d := 5) rfl rfl (by kernel_rfl) (e_assign (v := .bool false) (by kernel_rfl)) ?_
  refine wpList_nil ?_
  refine then_n ?_
  refine wp_ret ?_
  obtain rfl := Option.some.inj M
  exact ret1 rfl rfl  (show _ = .bool false from (by kernel_rfl)) ⟨rfl, S143.chg⟩

/-! sort_insertionSort_func -/
mutual
def sort_insertionSort_func.l0 : Nat → (List Sy.Op) → Int → Int → Int → (List Sy.Op) → Option (List Sy.Op)
  | 0, _, _, _, _, _ => none
  | k33 + 1, x1, x11, x12, x20, x22 => (if x20 < x12 then (sort_insertionSort_func.l1 k33 x1 x11 x12 x20 x20 x22) else some x22)
def sort_insertionSort_func.l1 : Nat → (List Sy.Op) → Int → Int → Int → Int → (List Sy.Op) → Option (List Sy.Op)
  | 0, _, _, _, _, _, _ => none
  | k51 + 1, x1, x11, x12, x20, x37, x39 => (if x37 > x11 then ((impl_sortOps_c1.f x37 (IntKind.i64.wrap (x37 - 1)) x39).bind fun t53 => (if t53 = true then (if 0 ≤ x37 then (if x37 < (x1.length : Int) then (if 0 ≤ (IntKind.i64.wrap (x37 - 1)) then (if (IntKind.i64.wrap (x37 - 1)) < (x1.length : Int) then (sort_insertionSort_func.l1 k51 x1 x11 x12 x20 (IntKind.i64.wrap (x37 - 1)) (swL x39 (x37).toNat ((IntKind.i64.wrap (x37 - 1))).toNat)) else none) else none) else none) else none) else (sort_insertionSort_func.l0 k51 x1 x11 x12 (IntKind.i64.wrap (x20 + 1)) x39))) else (sort_insertionSort_func.l0 k51 x1 x11 x12 (IntKind.i64.wrap (x20 + 1)) x39))
end
def sort_insertionSort_func.f (k : Nat) (x1 : List Sy.Op) (x11 : Int) (x12 : Int) : Option (List Sy.Op) := (sort_insertionSort_func.l0 k x1 x11 x12 (IntKind.i64.wrap (x11 + 1)) x1)
theorem sort_insertionSort_func.calls (k : Nat) (w : World) (H : Hp) (x1 : List Sy.Op) (A2 : Option Addr) (c3 : Nat) (F4 : Foot) (g6 : Nat) (f8 : FuncId) (a9 : Array Value) (x11 : Int) (x12 : Int) (h5 : Row st45 45 H (hp w) F4 A2 c3 x1) (b7 : w.heap[g6]? = some (.cells #[.slice A2 x1.length c3] 25 (0, 0))) (h10 : SwOK Try.prog st45 45 f8 a9 A2 c3 x1.length) (S : Own [F4, (is g6)] H w) (r : List Sy.Op) (M : sort_insertionSort_func.f k x1 x11 x12 = some r) :
    Calls Try.prog 65 #[.agg #[.func (.func 48) #[] #[.pointer (some ⟨g6, 0, none⟩)], .func (.func f8) #[] a9], .int .i64 x11, .int .i64 x12] w (fun e e_w => ∃ (F_1 : Foot) (H_ : Hp), e = .returned (.tuple #[]) ∧ r.length = x1.length ∧ Row st45 45 H_ (hp e_w) F_1 A2 c3 r ∧ e_w.heap[g6]? = some (.cells #[.slice A2 x1.length c3] 25 (0, 0)) ∧ St (anyOf [F4, (is g6)]) H w [F_1, (is g6)] H_ e_w) := by
  rw [sort_insertionSort_func.f] at M
  refine enter (l := [.agg #[.func (.func 48) #[] #[.pointer (some ⟨g6, 0, none⟩)], .func (.func f8) #[] a9], .int .i64 x11, .int .i64 x12]) 35 Try.func65 rfl rfl rfl ?_
  have S0_ := S.st
  refine wp_seq ?_
  refine wp_region_lit ?_
  refine lve (d := 3) rfl rfl (by kernel_rfl) (new_blk (v := fun g_ => .pointer (some ⟨g_, 0, none⟩)) (cs := #[.func (.func 48) #[] #[.pointer (some ⟨g6, 0, none⟩)], .func (.func f8) #[] a9]) (t := 78) S0_ (by kernel_rfl)) ?_
  rintro _ w13 ⟨g14, rfl, b15, S16, K17⟩
  replace h5 := h5.move (K17.at 0 rfl)
  replace b7 := K17.blk 1 rfl b7
  refine wpList_nil ?_
  refine then_n ?_
  refine wp_seq ?_
  refine wp_region_lit ?_
  refine lv (d := 8) rfl rfl (by kernel_rfl) (e_move (v := .int .i64 x11) (by kernel_rfl)) ?_
  refine lv (d := 9) rfl rfl (by kernel_rfl) (e_add (k := .i64) (a := x11) (b := 1) (by kernel_rfl) rfl) ?_
  refine lv (d := 6) rfl rfl (by kernel_rfl) (e_assign (v := .int .i64 (IntKind.i64.wrap (x11 + 1))) (by kernel_rfl)) ?_
  refine wpList_nil ?_
  refine then_n ?_
  refine wp_block ?_
  refine wp_loop_g (fun k31 a32 w18 => ∃ (f19 : Nat → Value) (x20 : Int) (F21 : Foot) (x22 : List Sy.Op), a32 = mk 35 f19 ∧ f19 1 = .int .i64 x11 ∧ f19 2 = .int .i64 x12 ∧ f19 3 = .pointer (some ⟨g14, 0, none⟩) ∧ f19 6 = .int .i64 x20 ∧ w18.heap[g14]? = some (.cells #[.func (.func 48) #[] #[.pointer (some ⟨g6, 0, none⟩)], .func (.func f8) #[] a9] 78 (0, 0)) ∧ Row st45 45 H (hp w18) F21 A2 c3 x22 ∧ w18.heap[g6]? = some (.cells #[.slice A2 x1.length c3] 25 (0, 0)) ∧ x22.length = x1.length ∧ St (anyOf [F4, (is g6)]) H w [(is g14), F21, (is g6)] H w18 ∧ sort_insertionSort_func.l0 k31 x1 x11 x12 x20 x22 = some r) k ⟨_, (IntKind.i64.wrap (x11 + 1)), F4, x1, rfl, (by kernel_rfl), (by kernel_rfl), (by kernel_rfl), (by kernel_rfl), b15, h5, b7, rfl, S16, M⟩ ?_
  clear M
  rintro k31 a32 w18 ⟨f19, x20, F21, x22, rfl, e24, e25, e26, e27, b15, h5, b7, n23, S28, M⟩
  rcases k31 with _ | k33
  · rw [sort_insertionSort_func.l0] at M
    cases M
  rw [sort_insertionSort_func.l0] at M
  refine wp_seq ?_
  refine wp_seq ?_
  refine wp_region_lit ?_
  refine lv (d := 10) rfl rfl (by kernel_rfl) (e_move (v := .int .i64 x20) (by exact e27)) ?_
  refine lv (d := 11) rfl rfl (by kernel_rfl) (e_move (v := .int .i64 x12) (by exact e25)) ?_
  refine lv (d := 12) rfl rfl (by kernel_rfl) (e_lss (k := .i64) (a := x20) (b := x12) (by kernel_rfl) (by kernel_rfl)) ?_
  refine wpList_nil ?_
  refine then_n ?_
  by_cases q34 : x20 < x12
  · replace M := ifp q34 M
    refine cond_t rfl (bt q34 (by kernel_rfl)) ?_
    refine wp_skip ?_
    refine then_n ?_
    refine wp_seq ?_
    refine wp_block ?_
    refine wp_seq ?_
    refine wp_region_lit ?_
    refine lv (d := 15) rfl rfl (by kernel_rfl) (e_move (v := .int .i64 x20) (by exact e27)) ?_
    refine lv (d := 7) rfl rfl (by kernel_rfl) (e_assign (v := .int .i64 x20) (by kernel_rfl)) ?_
    refine wpList_nil ?_
    refine then_n ?_
    refine wp_block ?_
    refine wp_loop_g (fun k49 a50 w35 => ∃ (f36 : Nat → Value) (x37 : Int) (F38 : Foot) (x39 : List Sy.Op), k49 ≤ k33 ∧ a50 = mk 35 f36 ∧ f36 1 = .int .i64 x11 ∧ f36 2 = .int .i64 x12 ∧ f36 3 = .pointer (some ⟨g14, 0, none⟩) ∧ f36 6 = .int .i64 x20 ∧ f36 7 = .int .i64 x37 ∧ w35.heap[g14]? = some (.cells #[.func (.func 48) #[] #[.pointer (some ⟨g6, 0, none⟩)], .func (.func f8) #[] a9] 78 (0, 0)) ∧ Row st45 45 H (hp w35) F38 A2 c3 x39 ∧ w35.heap[g6]? = some (.cells #[.slice A2 x1.length c3] 25 (0, 0)) ∧ x39.length = x1.length ∧ St (anyOf [F4, (is g6)]) H w [(is g14), F38, (is g6)] H w35 ∧ sort_insertionSort_func.l1 k49 x1 x11 x12 x20 x37 x39 = some r) k33 ⟨_, x20, F21, x22, (by omega), rfl, (by exact e24), (by exact e25), (by exact e26), (by exact e27), (by kernel_rfl), b15, h5, b7, n23, S28, M⟩ ?_
    clear M
    rintro k49 a50 w35 ⟨f36, x37, F38, x39, z48, rfl, e41, e42, e43, e44, e45, b15, h5, b7, n40, S46, M⟩
    rcases k49 with _ | k51
    · rw [sort_insertionSort_func.l1] at M
      cases M
    rw [sort_insertionSort_func.l1] at M
    refine wp_seq ?_
    refine wp_seq ?_
    refine wp_region_lit ?_
    refine lv (d := 16) rfl rfl (by kernel_rfl) (e_move (v := .int .i64 x37) (by exact e45)) ?_
    refine lv (d := 17) rfl rfl (by kernel_rfl) (e_move (v := .int .i64 x11) (by exact e41)) ?_
    refine lv (d := 18) rfl rfl (by kernel_rfl) (e_gtr (k := .i64) (a := x37) (b := x11) (by kernel_rfl) (by kernel_rfl)) ?_
    refine lv (d := 19) rfl rfl (by kernel_rfl) (e_move (v := .bool (decide (x37 > x11))) (by kernel_rfl)) ?_
    by_cases q52 : x37 > x11
    · replace M := ifp q52 M
      refine lvg (d := 20) (t := 19) rfl (by kernel_rfl) rfl (bt q52 (by kernel_rfl)) rfl (by kernel_rfl) (e_fieldAddr (b := g14) (off := 0) (o := 0) Try.underlying78 rfl rfl (sz := 1) (by kernel_rfl) (by decide) (by exact e43)) ?_
      refine lvg (d := 21) (t := 19) rfl (by kernel_rfl) rfl (bt q52 (by kernel_rfl)) rfl (by kernel_rfl) (e_load1 (ad := ⟨g14, 0 + 0, none⟩) (v := .func (.func 48) #[] #[.pointer (some ⟨g6, 0, none⟩)]) Try.underlying64 rfl (by kernel_rfl) (blk_cell b15 rfl)) ?_
      refine lvg (d := 22) (t := 19) rfl (by kernel_rfl) rfl (bt q52 (by kernel_rfl)) rfl (by kernel_rfl) (e_move (v := .int .i64 x37) (by exact e45)) ?_
      refine lvg (d := 23) (t := 19) rfl (by kernel_rfl) rfl (bt q52 (by kernel_rfl)) rfl (by kernel_rfl) (e_move (v := .int .i64 x37) (by exact e45)) ?_
      refine lvg (d := 24) (t := 19) rfl (by kernel_rfl) rfl (bt q52 (by kernel_rfl)) rfl (by kernel_rfl) (e_sub (k := .i64) (a := x37) (b := 1) (by kernel_rfl) rfl) ?_
      obtain ⟨t53, u54, M⟩ := bnd M
      refine lcallg (d := 25) (t := 19) rfl (by kernel_rfl) rfl (bt q52 (by kernel_rfl)) rfl (by kernel_rfl) (e_callv (l := [.tmp 22, .tmp 24]) (vs := [.int .i64 x37, .int .i64 (IntKind.i64.wrap (x37 - 1))]) (cs := [.pointer (some ⟨g6, 0, none⟩)]) Try.func48 (by kernel_rfl) rfl (by kernel_rfl) (by kernel_rfl)) (by have l55 := h5.le; have S56 := S46.pull (F := F38) (Fr := [(is g14), (is g6)]) 1 rfl rfl; obtain ⟨H57, S58, E59, h60, z61⟩ := S56.frzRow h5; have S62 := S58.pull (F := (is g6)) (Fr := [(is g14)]) 1 rfl rfl; obtain ⟨H63, S64, E65, h66, z67⟩ := S62.frzBlk b7; exact (by have q_ := (impl_sortOps_c1.calls w35 H63 x37 (IntKind.i64.wrap (x37 - 1)) x39 g6 A2 c3 (h60.ext E65) l55 (by rw [show x39.length = x1.length from n40]; exact h66) S64.own0 t53 u54); (try rw [(show x39.length = x1.length from n40)] at q_); exact q_)) ?_
      rintro _ w68 ⟨rfl, C69⟩
      refine ⟨_, rfl, ?_⟩
      obtain ⟨S70, K71⟩ := S46.still C69
      replace b15 := K71.blk 0 rfl b15
      replace h5 := h5.move (K71.at 1 rfl)
      replace b7 := K71.blk 2 rfl b7
      refine lv (d := 26) rfl rfl (by kernel_rfl) (e_pick_t (v := .bool t53) (bt q52 (by kernel_rfl)) (by kernel_rfl)) ?_
      refine wpList_nil ?_
      refine then_n ?_
      by_cases q72 : t53 = true
      · replace M := ifp q72 M
        refine cond_t rfl (bvt q72 (by kernel_rfl)) ?_
        refine wp_skip ?_
        refine then_n ?_
        refine wp_seq ?_
        refine wp_block ?_
        refine wp_region_lit ?_
        refine lv (d := 29) rfl rfl (by kernel_rfl) (e_fieldAddr (b := g14) (off := 0) (o := 1) Try.underlying78 rfl rfl (sz := 1) (by kernel_rfl) (by decide) (by exact e43)) ?_
        refine lv (d := 30) rfl rfl (by kernel_rfl) (e_load1 (ad := ⟨g14, 0 + 1, none⟩) (v := .func (.func f8) #[] a9) Try.underlying72 rfl (by kernel_rfl) (blk_cell b15 rfl)) ?_
        refine lv (d := 31) rfl rfl (by kernel_rfl) (e_move (v := .int .i64 x37) (by exact e45)) ?_
        refine lv (d := 32) rfl rfl (by kernel_rfl) (e_move (v := .int .i64 x37) (by exact e45)) ?_
        refine lv (d := 33) rfl rfl (by kernel_rfl) (e_sub (k := .i64) (a := x37) (b := 1) (by kernel_rfl) rfl) ?_
        obtain ⟨q73, M⟩ := chk M
        obtain ⟨q74, M⟩ := chk M
        obtain ⟨q75, M⟩ := chk M
        obtain ⟨q76, M⟩ := chk M
        have S77 := S70.pull (F := F38) (Fr := [(is g14), (is g6)]) 1 rfl rfl
        refine lve (d := 34) rfl rfl (by kernel_rfl) (e_swap (a := x37) (b := (IntKind.i64.wrap (x37 - 1))) S77 h5 n40 h10 (by kernel_rfl) (by kernel_rfl) (by kernel_rfl) q73 q74 q75 q76) ?_
        rintro _ w78 ⟨rfl, h79, S80, K81⟩
        replace b15 := K81.blk 0 rfl b15
        replace b7 := K81.blk 1 rfl b7
        clear h5
        refine wpList_nil ?_
        refine inb_n ?_
        refine then_n ?_
        refine wp_region_lit ?_
        refine lv (d := 27) rfl rfl (by kernel_rfl) (e_move (v := .int .i64 x37) (by exact e45)) ?_
        refine lv (d := 28) rfl rfl (by kernel_rfl) (e_sub (k := .i64) (a := x37) (b := 1) (by kernel_rfl) rfl) ?_
        refine lv (d := 7) rfl rfl (by kernel_rfl) (e_assign (v := .int .i64 (IntKind.i64.wrap (x37 - 1))) (by kernel_rfl)) ?_
        refine wpList_nil ?_
        refine then_n ?_
        have S82 := S80.pull (F := (is g6)) (Fr := [F38, (is g14)]) 2 rfl rfl
        have S83 := S82.pull (F := F38) (Fr := [(is g6), (is g14)]) 1 rfl rfl
        have S84 := S83.pull (F := (is g14)) (Fr := [F38, (is g6)]) 2 rfl rfl
        exact ⟨k51, (by omega), _, (IntKind.i64.wrap (x37 - 1)), F38, (swL x39 (x37).toNat ((IntKind.i64.wrap (x37 - 1))).toNat), (by omega), rfl, (by exact e41), (by exact e42), (by exact e43), (by exact e44), (by kernel_rfl), b15, h79, b7, ((swL_len _ _ _).trans n40), S84, M⟩
      replace M := ifn q72 M
      refine cond_f rfl (bvf q72 (by kernel_rfl)) ?_
      refine wp_exit ?_
      refine then_e ?_
      refine then_e ?_
      refine inb_hit ?_
      refine inb_n ?_
      refine then_n ?_
      refine wp_region_lit ?_
      refine lv (d := 13) rfl rfl (by kernel_rfl) (e_move (v := .int .i64 x20) (by exact e44)) ?_
      refine lv (d := 14) rfl rfl (by kernel_rfl) (e_add (k := .i64) (a := x20) (b := 1) (by kernel_rfl) rfl) ?_
      refine lv (d := 6) rfl rfl (by kernel_rfl) (e_assign (v := .int .i64 (IntKind.i64.wrap (x20 + 1))) (by kernel_rfl)) ?_
      refine wpList_nil ?_
      refine then_n ?_
      exact ⟨k51, (by omega), _, (IntKind.i64.wrap (x20 + 1)), F38, x39, rfl, (by exact e41), (by exact e42), (by exact e43), (by kernel_rfl), b15, h5, b7, n40, S70, M⟩
    replace M := ifn q52 M
    refine lskip (t := 19) (c := false) rfl (by kernel_rfl) rfl (bf q52 (by kernel_rfl)) rfl rfl ?_
    refine lskip (t := 19) (c := false) rfl (by kernel_rfl) rfl (bf q52 (by kernel_rfl)) rfl rfl ?_
    refine lskip (t := 19) (c := false) rfl (by kernel_rfl) rfl (bf q52 (by kernel_rfl)) rfl rfl ?_
    refine lskip (t := 19) (c := false) rfl (by kernel_rfl) rfl (bf q52 (by kernel_rfl)) rfl rfl ?_
    refine lskip (t := 19) (c := false) rfl (by kernel_rfl) rfl (bf q52 (by kernel_rfl)) rfl rfl ?_
    refine lskip (t := 19) (c := false) rfl (by kernel_rfl) rfl (bf q52 (by kernel_rfl)) rfl rfl ?_
    refine lv (d := 26) rfl rfl (by kernel_rfl) (e_pick_f (v := .bool false) (bf q52 (by kernel_rfl)) rfl) ?_
    refine wpList_nil ?_
    refine then_n ?_
    refine cond_f rfl (by kernel_rfl) ?_
    refine wp_exit ?_
    refine then_e ?_
    refine then_e ?_
    refine inb_hit ?_
    refine inb_n ?_
    refine then_n ?_
    refine wp_region_lit ?_
    refine lv (d := 13) rfl rfl (by kernel_rfl) (e_move (v := .int .i64 x20) (by exact e44)) ?_
    refine lv (d := 14) rfl rfl (by kernel_rfl) (e_add (k := .i64) (a := x20) (b := 1) (by kernel_rfl) rfl) ?_
    refine lv (d := 6) rfl rfl (by kernel_rfl) (e_assign (v := .int .i64 (IntKind.i64.wrap (x20 + 1))) (by kernel_rfl)) ?_
    refine wpList_nil ?_
    refine then_n ?_
    exact ⟨k51, (by omega), _, (IntKind.i64.wrap (x20 + 1)), F38, x39, rfl, (by exact e41), (by exact e42), (by exact e43), (by kernel_rfl), b15, h5, b7, n40, S46, M⟩
  replace M := ifn q34 M
  refine cond_f rfl (bf q34 (by kernel_rfl)) ?_
  refine wp_exit ?_
  refine then_e ?_
  refine then_e ?_
  refine inb_hit ?_
  obtain rfl := Option.some.inj M
  have S85 := S28.pull (F := (is g6)) (Fr := [(is g14), F21]) 2 rfl rfl
  have S86 := S85.pull (F := F21) (Fr := [(is g6), (is g14)]) 2 rfl rfl
  have S87 := St.first (Fa := [F21, (is g6)]) (Fr := [(is g14)]) S86
  exact end0 rfl ⟨F21, H, rfl, n23, h5, b7, S87⟩

/-! sort_siftDown_func -/
mutual
def sort_siftDown_func.l0 : Nat → (List Sy.Op) → Int → Int → Int → (List Sy.Op) → Option (List Sy.Op)
  | 0, _, _, _, _, _ => none
  | k34 + 1, x1, x12, x13, x21, x23 => (if (IntKind.i64.wrap ((IntKind.i64.wrap (2 * x21)) + 1)) ≥ x12 then some x23 else (if (IntKind.i64.wrap ((IntKind.i64.wrap ((IntKind.i64.wrap (2 * x21)) + 1)) + 1)) < x12 then ((impl_sortOps_c1.f (IntKind.i64.wrap (x13 + (IntKind.i64.wrap ((IntKind.i64.wrap (2 * x21)) + 1)))) (IntKind.i64.wrap ((IntKind.i64.wrap (x13 + (IntKind.i64.wrap ((IntKind.i64.wrap (2 * x21)) + 1)))) + 1)) x23).bind fun t54 => (if t54 = true then (sort_siftDown_func.l1 k34 x1 x12 x13 x21 x23 (IntKind.i64.wrap ((IntKind.i64.wrap ((IntKind.i64.wrap (2 * x21)) + 1)) + 1))) else (sort_siftDown_func.l1 k34 x1 x12 x13 x21 x23 (IntKind.i64.wrap ((IntKind.i64.wrap (2 * x21)) + 1))))) else (sort_siftDown_func.l1 k34 x1 x12 x13 x21 x23 (IntKind.i64.wrap ((IntKind.i64.wrap (2 * x21)) + 1)))))
def sort_siftDown_func.l1 : Nat → (List Sy.Op) → Int → Int → Int → (List Sy.Op) → Int → Option (List Sy.Op)
  | 0, _, _, _, _, _, _ => none
  | k51 + 1, x1, x12, x13, x21, x23, x41 => ((impl_sortOps_c1.f (IntKind.i64.wrap (x13 + x21)) (IntKind.i64.wrap (x13 + x41)) x23).bind fun t74 => (if ¬ (t74 = true) then some x23 else (if 0 ≤ (IntKind.i64.wrap (x13 + x21)) then (if (IntKind.i64.wrap (x13 + x21)) < (x1.length : Int) then (if 0 ≤ (IntKind.i64.wrap (x13 + x41)) then (if (IntKind.i64.wrap (x13 + x41)) < (x1.length : Int) then (sort_siftDown_func.l0 k51 x1 x12 x13 x41 (swL x23 ((IntKind.i64.wrap (x13 + x21))).toNat ((IntKind.i64.wrap (x13 + x41))).toNat)) else none) else none) else none) else none)))
end
def sort_siftDown_func.f (k : Nat) (x1 : List Sy.Op) (x11 : Int) (x12 : Int) (x13 : Int) : Option (List Sy.Op) := (sort_siftDown_func.l0 k x1 x12 x13 x11 x1)
theorem sort_siftDown_func.calls (k : Nat) (w : World) (H : Hp) (x1 : List Sy.Op) (A2 : Option Addr) (c3 : Nat) (F4 : Foot) (g6 : Nat) (f8 : FuncId) (a9 : Array Value) (x11 : Int) (x12 : Int) (x13 : Int) (h5 : Row st45 45 H (hp w) F4 A2 c3 x1) (b7 : w.heap[g6]? = some (.cells #[.slice A2 x1.length c3] 25 (0, 0))) (h10 : SwOK Try.prog st45 45 f8 a9 A2 c3 x1.length) (S : Own [F4, (is g6)] H w) (r : List Sy.Op) (M : sort_siftDown_func.f k x1 x11 x12 x13 = some r) :
    Calls Try.prog 73 #[.agg #[.func (.func 48) #[] #[.pointer (some ⟨g6, 0, none⟩)], .func (.func f8) #[] a9], .int .i64 x11, .int .i64 x12, .int .i64 x13] w (fun e e_w => ∃ (F_1 : Foot) (H_ : Hp), e = .returned (.tuple #[]) ∧ r.length = x1.length ∧ Row st45 45 H_ (hp e_w) F_1 A2 c3 r ∧ e_w.heap[g6]? = some (.cells #[.slice A2 x1.length c3] 25 (0, 0)) ∧ St (anyOf [F4, (is g6)]) H w [F_1, (is g6)] H_ e_w) := by
  rw [sort_siftDown_func.f] at M
  refine enter (l := [.agg #[.func (.func 48) #[] #[.pointer (some ⟨g6, 0, none⟩)], .func (.func f8) #[] a9], .int .i64 x11, .int .i64 x12, .int .i64 x13]) 55 Try.func73 rfl rfl rfl ?_
  have S0_ := S.st
  refine wp_seq ?_
  refine wp_region_lit ?_
  refine lve (d := 4) rfl rfl (by kernel_rfl) (new_blk (v := fun g_ => .pointer (some ⟨g_, 0, none⟩)) (cs := #[.func (.func 48) #[] #[.pointer (some ⟨g6, 0, none⟩)], .func (.func f8) #[] a9]) (t := 78) S0_ (by kernel_rfl)) ?_
  rintro _ w14 ⟨g15, rfl, b16, S17, K18⟩
  replace h5 := h5.move (K18.at 0 rfl)
  replace b7 := K18.blk 1 rfl b7
  refine wpList_nil ?_
  refine then_n ?_
  refine wp_seq ?_
  refine wp_region_lit ?_
  refine lv (d := 10) rfl rfl (by kernel_rfl) (e_move (v := .int .i64 x11) (by kernel_rfl)) ?_
  refine lv (d := 8) rfl rfl (by kernel_rfl) (e_assign (v := .int .i64 x11) (by kernel_rfl)) ?_
  refine wpList_nil ?_
  refine then_n ?_
  refine wp_block ?_
  refine wp_loop_g (fun k32 a33 w19 => ∃ (f20 : Nat → Value) (x21 : Int) (F22 : Foot) (x23 : List Sy.Op), a33 = mk 55 f20 ∧ f20 2 = .int .i64 x12 ∧ f20 3 = .int .i64 x13 ∧ f20 4 = .pointer (some ⟨g15, 0, none⟩) ∧ f20 8 = .int .i64 x21 ∧ w19.heap[g15]? = some (.cells #[.func (.func 48) #[] #[.pointer (some ⟨g6, 0, none⟩)], .func (.func f8) #[] a9] 78 (0, 0)) ∧ Row st45 45 H (hp w19) F22 A2 c3 x23 ∧ w19.heap[g6]? = some (.cells #[.slice A2 x1.length c3] 25 (0, 0)) ∧ x23.length = x1.length ∧ St (anyOf [F4, (is g6)]) H w [(is g15), F22, (is g6)] H w19 ∧ sort_siftDown_func.l0 k32 x1 x12 x13 x21 x23 = some r) k ⟨_, x11, F4, x1, rfl, (by kernel_rfl), (by kernel_rfl), (by kernel_rfl), (by kernel_rfl), b16, h5, b7, rfl, S17, M⟩ ?_
  clear M
  rintro k32 a33 w19 ⟨f20, x21, F22, x23, rfl, e25, e26, e27, e28, b16, h5, b7, n24, S29, M⟩
  rcases k32 with _ | k34
  · rw [sort_siftDown_func.l0] at M
    cases M
  rw [sort_siftDown_func.l0] at M
  refine wp_block ?_
  refine wp_seq ?_
  refine wp_region_lit ?_
  refine lv (d := 11) rfl rfl (by kernel_rfl) (e_move (v := .int .i64 x21) (by exact e28)) ?_
  refine lv (d := 12) rfl rfl (by kernel_rfl) (e_mul (k := .i64) (a := 2) (b := x21) rfl (by kernel_rfl)) ?_
  refine lv (d := 13) rfl rfl (by kernel_rfl) (e_add (k := .i64) (a := (IntKind.i64.wrap (2 * x21))) (b := 1) (by kernel_rfl) rfl) ?_
  refine lv (d := 9) rfl rfl (by kernel_rfl) (e_assign (v := .int .i64 (IntKind.i64.wrap ((IntKind.i64.wrap (2 * x21)) + 1))) (by kernel_rfl)) ?_
  refine wpList_nil ?_
  refine then_n ?_
  refine wp_seq ?_
  refine wp_seq ?_
  refine wp_region_lit ?_
  refine lv (d := 14) rfl rfl (by kernel_rfl) (e_move (v := .int .i64 (IntKind.i64.wrap ((IntKind.i64.wrap (2 * x21)) + 1))) (by kernel_rfl)) ?_
  refine lv (d := 15) rfl rfl (by kernel_rfl) (e_move (v := .int .i64 x12) (by exact e25)) ?_
  refine lv (d := 16) rfl rfl (by kernel_rfl) (e_geq (k := .i64) (a := (IntKind.i64.wrap ((IntKind.i64.wrap (2 * x21)) + 1))) (b := x12) (by kernel_rfl) (by kernel_rfl)) ?_
  refine wpList_nil ?_
  refine then_n ?_
  by_cases q35 : (IntKind.i64.wrap ((IntKind.i64.wrap (2 * x21)) + 1)) ≥ x12
  · replace M := ifp q35 M
    refine cond_t rfl (bt q35 (by kernel_rfl)) ?_
    refine wp_exit ?_
    refine then_e ?_
    refine inb_miss rfl ?_
    refine then_e ?_
    refine inb_hit ?_
    obtain rfl := Option.some.inj M
    have S36 := S29.pull (F := (is g6)) (Fr := [(is g15), F22]) 2 rfl rfl
    have S37 := S36.pull (F := F22) (Fr := [(is g6), (is g15)]) 2 rfl rfl
    have S38 := St.first (Fa := [F22, (is g6)]) (Fr := [(is g15)]) S37
    exact end0 rfl ⟨F22, H, rfl, n24, h5, b7, S38⟩
  replace M := ifn q35 M
  refine cond_f rfl (bf q35 (by kernel_rfl)) ?_
  refine wp_skip ?_
  refine then_n ?_
  refine wp_seq_cut (fun a50 w39 => ∃ (k52 : Nat), k52 ≤ k34 ∧ ∃ (f40 : Nat → Value) (x41 : Int), a50 = mk 55 f40 ∧ f40 2 = .int .i64 x12 ∧ f40 3 = .int .i64 x13 ∧ f40 4 = .pointer (some ⟨g15, 0, none⟩) ∧ f40 8 = .int .i64 x21 ∧ f40 9 = .int .i64 x41 ∧ w39.heap[g15]? = some (.cells #[.func (.func 48) #[] #[.pointer (some ⟨g6, 0, none⟩)], .func (.func f8) #[] a9] 78 (0, 0)) ∧ Row st45 45 H (hp w39) F22 A2 c3 x23 ∧ w39.heap[g6]? = some (.cells #[.slice A2 x1.length c3] 25 (0, 0)) ∧ St (anyOf [F4, (is g6)]) H w [(is g15), F22, (is g6)] H w39 ∧ sort_siftDown_func.l1 k52 x1 x12 x13 x21 x23 x41 = some r) ?_ ?_
  · refine wp_seq ?_
    refine wp_region_lit ?_
    refine lv (d := 17) rfl rfl (by kernel_rfl) (e_move (v := .int .i64 (IntKind.i64.wrap ((IntKind.i64.wrap (2 * x21)) + 1))) (by kernel_rfl)) ?_
    refine lv (d := 18) rfl rfl (by kernel_rfl) (e_add (k := .i64) (a := (IntKind.i64.wrap ((IntKind.i64.wrap (2 * x21)) + 1))) (b := 1) (by kernel_rfl) rfl) ?_
    refine lv (d := 19) rfl rfl (by kernel_rfl) (e_move (v := .int .i64 x12) (by exact e25)) ?_
    refine lv (d := 20) rfl rfl (by kernel_rfl) (e_lss (k := .i64) (a := (IntKind.i64.wrap ((IntKind.i64.wrap ((IntKind.i64.wrap (2 * x21)) + 1)) + 1))) (b := x12) (by kernel_rfl) (by kernel_rfl)) ?_
    refine lv (d := 21) rfl rfl (by kernel_rfl) (e_move (v := .bool (decide ((IntKind.i64.wrap ((IntKind.i64.wrap ((IntKind.i64.wrap (2 * x21)) + 1)) + 1)) < x12))) (by kernel_rfl)) ?_
    by_cases q53 : (IntKind.i64.wrap ((IntKind.i64.wrap ((IntKind.i64.wrap (2 * x21)) + 1)) + 1)) < x12
    · replace M := ifp q53 M
      refine lvg (d := 22) (t := 21) rfl (by kernel_rfl) rfl (bt q53 (by kernel_rfl)) rfl (by kernel_rfl) (e_fieldAddr (b := g15) (off := 0) (o := 0) Try.underlying78 rfl rfl (sz := 1) (by kernel_rfl) (by decide) (by exact e27)) ?_
      refine lvg (d := 23) (t := 21) rfl (by kernel_rfl) rfl (bt q53 (by kernel_rfl)) rfl (by kernel_rfl) (e_load1 (ad := ⟨g15, 0 + 0, none⟩) (v := .func (.func 48) #[] #[.pointer (some ⟨g6, 0, none⟩)]) Try.underlying64 rfl (by kernel_rfl) (blk_cell b16 rfl)) ?_
      refine lvg (d := 24) (t := 21) rfl (by kernel_rfl) rfl (bt q53 (by kernel_rfl)) rfl (by kernel_rfl) (e_move (v := .int .i64 x13) (by exact e26)) ?_
      refine lvg (d := 25) (t := 21) rfl (by kernel_rfl) rfl (bt q53 (by kernel_rfl)) rfl (by kernel_rfl) (e_move (v := .int .i64 (IntKind.i64.wrap ((IntKind.i64.wrap (2 * x21)) + 1))) (by kernel_rfl)) ?_
      refine lvg (d := 26) (t := 21) rfl (by kernel_rfl) rfl (bt q53 (by kernel_rfl)) rfl (by kernel_rfl) (e_add (k := .i64) (a := x13) (b := (IntKind.i64.wrap ((IntKind.i64.wrap (2 * x21)) + 1))) (by kernel_rfl) (by kernel_rfl)) ?_
      refine lvg (d := 27) (t := 21) rfl (by kernel_rfl) rfl (bt q53 (by kernel_rfl)) rfl (by kernel_rfl) (e_move (v := .int .i64 x13) (by exact e26)) ?_
      refine lvg (d := 28) (t := 21) rfl (by kernel_rfl) rfl (bt q53 (by kernel_rfl)) rfl (by kernel_rfl) (e_move (v := .int .i64 (IntKind.i64.wrap ((IntKind.i64.wrap (2 * x21)) + 1))) (by kernel_rfl)) ?_
      refine lvg (d := 29) (t := 21) rfl (by kernel_rfl) rfl (bt q53 (by kernel_rfl)) rfl (by kernel_rfl) (e_add (k := .i64) (a := x13) (b := (IntKind.i64.wrap ((IntKind.i64.wrap (2 * x21)) + 1))) (by kernel_rfl) (by kernel_rfl)) ?_
      refine lvg (d := 30) (t := 21) rfl (by kernel_rfl) rfl (bt q53 (by kernel_rfl)) rfl (by kernel_rfl) (e_add (k := .i64) (a := (IntKind.i64.wrap (x13 + (IntKind.i64.wrap ((IntKind.i64.wrap (2 * x21)) + 1))))) (b := 1) (by kernel_rfl) rfl) ?_
      obtain ⟨t54, u55, M⟩ := bnd M
      refine lcallg (d := 31) (t := 21) rfl (by kernel_rfl) rfl (bt q53 (by kernel_rfl)) rfl (by kernel_rfl) (e_callv (l := [.tmp 26, .tmp 30]) (vs := [.int .i64 (IntKind.i64.wrap (x13 + (IntKind.i64.wrap ((IntKind.i64.wrap (2 * x21)) + 1)))), .int .i64 (IntKind.i64.wrap ((IntKind.i64.wrap (x13 + (IntKind.i64.wrap ((IntKind.i64.wrap (2 * x21)) + 1)))) + 1))]) (cs := [.pointer (some ⟨g6, 0, none⟩)]) Try.func48 (by kernel_rfl) rfl (by kernel_rfl) (by kernel_rfl)) (by have l56 := h5.le; have S57 := S29.pull (F := F22) (Fr := [(is g15), (is g6)]) 1 rfl rfl; obtain ⟨H58, S59, E60, h61, z62⟩ := S57.frzRow h5; have S63 := S59.pull (F := (is g6)) (Fr := [(is g15)]) 1 rfl rfl; obtain ⟨H64, S65, E66, h67, z68⟩ := S63.frzBlk b7; exact (by have q_ := (impl_sortOps_c1.calls w19 H64 (IntKind.i64.wrap (x13 + (IntKind.i64.wrap ((IntKind.i64.wrap (2 * x21)) + 1)))) (IntKind.i64.wrap ((IntKind.i64.wrap (x13 + (IntKind.i64.wrap ((IntKind.i64.wrap (2 * x21)) + 1)))) + 1)) x23 g6 A2 c3 (h61.ext E66) l56 (by rw [show x23.length = x1.length from n24]; exact h67) S65.own0 t54 u55); (try rw [(show x23.length = x1.length from n24)] at q_); exact q_)) ?_
      rintro _ w69 ⟨rfl, C70⟩
      refine ⟨_, rfl, ?_⟩
      obtain ⟨S71, K72⟩ := S29.still C70
      replace b16 := K72.blk 0 rfl b16
      replace h5 := h5.move (K72.at 1 rfl)
      replace b7 := K72.blk 2 rfl b7
      refine lv (d := 32) rfl rfl (by kernel_rfl) (e_pick_t (v := .bool t54) (bt q53 (by kernel_rfl)) (by kernel_rfl)) ?_
      refine wpList_nil ?_
      refine then_n ?_
      by_cases q73 : t54 = true
      · replace M := ifp q73 M
        refine cond_t rfl (bvt q73 (by kernel_rfl)) ?_
        refine wp_region_lit ?_
        refine lv (d := 33) rfl rfl (by kernel_rfl) (e_move (v := .int .i64 (IntKind.i64.wrap ((IntKind.i64.wrap (2 * x21)) + 1))) (by kernel_rfl)) ?_
        refine lv (d := 34) rfl rfl (by kernel_rfl) (e_add (k := .i64) (a := (IntKind.i64.wrap ((IntKind.i64.wrap (2 * x21)) + 1))) (b := 1) (by kernel_rfl) rfl) ?_
        refine lv (d := 9) rfl rfl (by kernel_rfl) (e_assign (v := .int .i64 (IntKind.i64.wrap ((IntKind.i64.wrap ((IntKind.i64.wrap (2 * x21)) + 1)) + 1))) (by kernel_rfl)) ?_
        refine wpList_nil ?_
        refine then_n ?_
        exact ⟨k34, (by omega), _, (IntKind.i64.wrap ((IntKind.i64.wrap ((IntKind.i64.wrap (2 * x21)) + 1)) + 1)), rfl, (by exact e25), (by exact e26), (by exact e27), (by exact e28), (by kernel_rfl), b16, h5, b7, S71, M⟩
      replace M := ifn q73 M
      refine cond_f rfl (bvf q73 (by kernel_rfl)) ?_
      refine wp_skip ?_
      refine then_n ?_
      exact ⟨k34, (by omega), _, (IntKind.i64.wrap ((IntKind.i64.wrap (2 * x21)) + 1)), rfl, (by exact e25), (by exact e26), (by exact e27), (by exact e28), (by kernel_rfl), b16, h5, b7, S71, M⟩
    replace M := ifn q53 M
    refine lskip (t := 21) (c := false) rfl (by kernel_rfl) rfl (bf q53 (by kernel_rfl)) rfl rfl ?_
    refine lskip (t := 21) (c := false) rfl (by kernel_rfl) rfl (bf q53 (by kernel_rfl)) rfl rfl ?_
    refine lskip (t := 21) (c := false) rfl (by kernel_rfl) rfl (bf q53 (by kernel_rfl)) rfl rfl ?_
    refine lskip (t := 21) (c := false) rfl (by kernel_rfl) rfl (bf q53 (by kernel_rfl)) rfl rfl ?_
    refine lskip (t := 21) (c := false) rfl (by kernel_rfl) rfl (bf q53 (by kernel_rfl)) rfl rfl ?_
    refine lskip (t := 21) (c := false) rfl (by kernel_rfl) rfl (bf q53 (by kernel_rfl)) rfl rfl ?_
    refine lskip (t := 21) (c := false) rfl (by kernel_rfl) rfl (bf q53 (by kernel_rfl)) rfl rfl ?_
    refine lskip (t := 21) (c := false) rfl (by kernel_rfl) rfl (bf q53 (by kernel_rfl)) rfl rfl ?_
    refine lskip (t := 21) (c := false) rfl (by kernel_rfl) rfl (bf q53 (by kernel_rfl)) rfl rfl ?_
    refine lskip (t := 21) (c := false) rfl (by kernel_rfl) rfl (bf q53 (by kernel_rfl)) rfl rfl ?_
    refine lv (d := 32) rfl rfl (by kernel_rfl) (e_pick_f (v := .bool false) (bf q53 (by kernel_rfl)) rfl) ?_
    refine wpList_nil ?_
    refine then_n ?_
    refine cond_f rfl (by kernel_rfl) ?_
    refine wp_skip ?_
    refine then_n ?_
    exact ⟨k34, (by omega), _, (IntKind.i64.wrap ((IntKind.i64.wrap (2 * x21)) + 1)), rfl, (by exact e25), (by exact e26), (by exact e27), (by exact e28), (by kernel_rfl), b16, h5, b7, S29, M⟩
  clear M
  rintro a50 w39 ⟨k52, z109, f40, x41, rfl, e42, e43, e44, e45, e46, b16, h5, b7, S47, M⟩
  rcases k52 with _ | k51
  · rw [sort_siftDown_func.l1] at M
    cases M
  rw [sort_siftDown_func.l1] at M
  refine wp_seq ?_
  refine wp_seq ?_
  refine wp_region_lit ?_
  refine lv (d := 35) rfl rfl (by kernel_rfl) (e_fieldAddr (b := g15) (off := 0) (o := 0) Try.underlying78 rfl rfl (sz := 1) (by kernel_rfl) (by decide) (by exact e44)) ?_
  refine lv (d := 36) rfl rfl (by kernel_rfl) (e_load1 (ad := ⟨g15, 0 + 0, none⟩) (v := .func (.func 48) #[] #[.pointer (some ⟨g6, 0, none⟩)]) Try.underlying64 rfl (by kernel_rfl) (blk_cell b16 rfl)) ?_
  refine lv (d := 37) rfl rfl (by kernel_rfl) (e_move (v := .int .i64 x13) (by exact e43)) ?_
  refine lv (d := 38) rfl rfl (by kernel_rfl) (e_move (v := .int .i64 x21) (by exact e45)) ?_
  refine lv (d := 39) rfl rfl (by kernel_rfl) (e_add (k := .i64) (a := x13) (b := x21) (by kernel_rfl) (by kernel_rfl)) ?_
  refine lv (d := 40) rfl rfl (by kernel_rfl) (e_move (v := .int .i64 x13) (by exact e43)) ?_
  refine lv (d := 41) rfl rfl (by kernel_rfl) (e_move (v := .int .i64 x41) (by exact e46)) ?_
  refine lv (d := 42) rfl rfl (by kernel_rfl) (e_add (k := .i64) (a := x13) (b := x41) (by kernel_rfl) (by kernel_rfl)) ?_
  obtain ⟨t74, u75, M⟩ := bnd M
  refine lcall (d := 43) rfl rfl (by kernel_rfl) (e_callv (l := [.tmp 39, .tmp 42]) (vs := [.int .i64 (IntKind.i64.wrap (x13 + x21)), .int .i64 (IntKind.i64.wrap (x13 + x41))]) (cs := [.pointer (some ⟨g6, 0, none⟩)]) Try.func48 (by kernel_rfl) rfl (by kernel_rfl) (by kernel_rfl)) (by have l76 := h5.le; have S77 := S47.pull (F := F22) (Fr := [(is g15), (is g6)]) 1 rfl rfl; obtain ⟨H78, S79, E80, h81, z82⟩ := S77.frzRow h5; have S83 := S79.pull (F := (is g6)) (Fr := [(is g15)]) 1 rfl rfl; obtain ⟨H84, S85, E86, h87, z88⟩ := S83.frzBlk b7; exact (by have q_ := (impl_sortOps_c1.calls w39 H84 (IntKind.i64.wrap (x13 + x21)) (IntKind.i64.wrap (x13 + x41)) x23 g6 A2 c3 (h81.ext E86) l76 (by rw [show x23.length = x1.length from n24]; exact h87) S85.own0 t74 u75); (try rw [(show x23.length = x1.length from n24)] at q_); exact q_)) ?_
  rintro _ w89 ⟨rfl, C90⟩
  refine ⟨_, rfl, ?_⟩
  obtain ⟨S91, K92⟩ := S47.still C90
  replace b16 := K92.blk 0 rfl b16
  replace h5 := h5.move (K92.at 1 rfl)
  replace b7 := K92.blk 2 rfl b7
  refine lv (d := 44) rfl rfl (by kernel_rfl) (e_notv (c := t74) (by kernel_rfl)) ?_
  refine wpList_nil ?_
  refine then_n ?_
  by_cases q93 : ¬ (t74 = true)
  · replace M := ifp q93 M
    refine cond_t rfl (bt q93 (by kernel_rfl)) ?_
    refine wp_ret ?_
    refine then_r ?_
    refine inb_r ?_
    refine then_r ?_
    refine inb_r ?_
    obtain rfl := Option.some.inj M
    have S94 := S91.pull (F := (is g6)) (Fr := [(is g15), F22]) 2 rfl rfl
    have S95 := S94.pull (F := F22) (Fr := [(is g6), (is g15)]) 2 rfl rfl
    have S96 := St.first (Fa := [F22, (is g6)]) (Fr := [(is g15)]) S95
    exact Go.Sy.ret0 rfl ⟨F22, H, rfl, n24, h5, b7, S96⟩
  replace M := ifn q93 M
  refine cond_f rfl (bf q93 (by kernel_rfl)) ?_
  refine wp_skip ?_
  refine then_n ?_
  refine wp_seq ?_
  refine wp_region_lit ?_
  refine lv (d := 45) rfl rfl (by kernel_rfl) (e_fieldAddr (b := g15) (off := 0) (o := 1) Try.underlying78 rfl rfl (sz := 1) (by kernel_rfl) (by decide) (by exact e44)) ?_
  refine lv (d := 46) rfl rfl (by kernel_rfl) (e_load1 (ad := ⟨g15, 0 + 1, none⟩) (v := .func (.func f8) #[] a9) Try.underlying72 rfl (by kernel_rfl) (blk_cell b16 rfl)) ?_
  refine lv (d := 47) rfl rfl (by kernel_rfl) (e_move (v := .int .i64 x13) (by exact e43)) ?_
  refine lv (d := 48) rfl rfl (by kernel_rfl) (e_move (v := .int .i64 x21) (by exact e45)) ?_
  refine lv (d := 49) rfl rfl (by kernel_rfl) (e_add (k := .i64) (a := x13) (b := x21) (by kernel_rfl) (by kernel_rfl)) ?_
  refine lv (d := 50) rfl rfl (by kernel_rfl) (e_move (v := .int .i64 x13) (by exact e43)) ?_
  refine lv (d := 51) rfl rfl (by kernel_rfl) (e_move (v := .int .i64 x41) (by exact e46)) ?_
  refine lv (d := 52) rfl rfl (by kernel_rfl) (e_add (k := .i64) (a := x13) (b := x41) (by kernel_rfl) (by kernel_rfl)) ?_
  obtain ⟨q97, M⟩ := chk M
  obtain ⟨q98, M⟩ := chk M
  obtain ⟨q99, M⟩ := chk M
  obtain ⟨q100, M⟩ := chk M
  have S101 := S91.pull (F := F22) (Fr := [(is g15), (is g6)]) 1 rfl rfl
  refine lve (d := 53) rfl rfl (by kernel_rfl) (e_swap (a := (IntKind.i64.wrap (x13 + x21))) (b := (IntKind.i64.wrap (x13 + x41))) S101 h5 n24 h10 (by kernel_rfl) (by kernel_rfl) (by kernel_rfl) q97 q98 q99 q100) ?_
  rintro _ w102 ⟨rfl, h103, S104, K105⟩
  replace b16 := K105.blk 0 rfl b16
  replace b7 := K105.blk 1 rfl b7
  clear h5
  refine wpList_nil ?_
  refine then_n ?_
  refine wp_region_lit ?_
  refine lv (d := 54) rfl rfl (by kernel_rfl) (e_move (v := .int .i64 x41) (by exact e46)) ?_
  refine lv (d := 8) rfl rfl (by kernel_rfl) (e_assign (v := .int .i64 x41) (by kernel_rfl)) ?_
  refine wpList_nil ?_
  refine inb_n ?_
  refine then_n ?_
  have S106 := S104.pull (F := (is g6)) (Fr := [F22, (is g15)]) 2 rfl rfl
  have S107 := S106.pull (F := F22) (Fr := [(is g6), (is g15)]) 1 rfl rfl
  have S108 := S107.pull (F := (is g15)) (Fr := [F22, (is g6)]) 2 rfl rfl
  exact ⟨k51, (by omega), _, x41, F22, (swL x23 ((IntKind.i64.wrap (x13 + x21))).toNat ((IntKind.i64.wrap (x13 + x41))).toNat), rfl, (by exact e42), (by exact e43), (by exact e44), (by kernel_rfl), b16, h103, b7, ((swL_len _ _ _).trans n24), S108, M⟩

/-! sort_heapSort_func -/
def sort_heapSort_func.l1 : Nat → (List Sy.Op) → Int → Int → (List Sy.Op) → Option (List Sy.Op)
  | 0, _, _, _, _ => none
  | k72 + 1, x1, x11, x59, x61 => (if x59 ≥ 0 then (if 0 ≤ x11 then (if x11 < (x1.length : Int) then (if 0 ≤ (IntKind.i64.wrap (x11 + x59)) then (if (IntKind.i64.wrap (x11 + x59)) < (x1.length : Int) then ((sort_siftDown_func.f k72 (swL x61 (x11).toNat ((IntKind.i64.wrap (x11 + x59))).toNat) 0 x59 x11).bind fun t85 => (sort_heapSort_func.l1 k72 x1 x11 (IntKind.i64.wrap (x59 - 1)) t85)) else none) else none) else none) else none) else some x61)
def sort_heapSort_func.l0 : Nat → (List Sy.Op) → Int → Int → Int → (List Sy.Op) → Option (List Sy.Op)
  | 0, _, _, _, _, _ => none
  | k36 + 1, x1, x11, x12, x22, x24 => (if x22 ≥ 0 then ((sort_siftDown_func.f k36 x24 x22 (IntKind.i64.wrap (x12 - x11)) x11).bind fun t40 => (sort_heapSort_func.l0 k36 x1 x11 x12 (IntKind.i64.wrap (x22 - 1)) t40)) else (sort_heapSort_func.l1 k36 x1 x11 (IntKind.i64.wrap ((IntKind.i64.wrap (x12 - x11)) - 1)) x24))
def sort_heapSort_func.f (k : Nat) (x1 : List Sy.Op) (x11 : Int) (x12 : Int) : Option (List Sy.Op) := (sort_heapSort_func.l0 k x1 x11 x12 (IntKind.i64.wrap (Int.tdiv (IntKind.i64.wrap ((IntKind.i64.wrap (x12 - x11)) - 1)) 2)) x1)
theorem sort_heapSort_func.calls (k : Nat) (w : World) (H : Hp) (x1 : List Sy.Op) (A2 : Option Addr) (c3 : Nat) (F4 : Foot) (g6 : Nat) (f8 : FuncId) (a9 : Array Value) (x11 : Int) (x12 : Int) (h5 : Row st45 45 H (hp w) F4 A2 c3 x1) (b7 : w.heap[g6]? = some (.cells #[.slice A2 x1.length c3] 25 (0, 0))) (h10 : SwOK Try.prog st45 45 f8 a9 A2 c3 x1.length) (S : Own [F4, (is g6)] H w) (r : List Sy.Op) (M : sort_heapSort_func.f k x1 x11 x12 = some r) :
    Calls Try.prog 66 #[.agg #[.func (.func 48) #[] #[.pointer (some ⟨g6, 0, none⟩)], .func (.func f8) #[] a9], .int .i64 x11, .int .i64 x12] w (fun e e_w => ∃ (F_1 : Foot) (H_ : Hp), e = .returned (.tuple #[]) ∧ r.length = x1.length ∧ Row st45 45 H_ (hp e_w) F_1 A2 c3 r ∧ e_w.heap[g6]? = some (.cells #[.slice A2 x1.length c3] 25 (0, 0)) ∧ St (anyOf [F4, (is g6)]) H w [F_1, (is g6)] H_ e_w) := by
  rw [sort_heapSort_func.f] at M
  refine enter (l := [.agg #[.func (.func 48) #[] #[.pointer (some ⟨g6, 0, none⟩)], .func (.func f8) #[] a9], .int .i64 x11, .int .i64 x12]) 45 Try.func66 rfl rfl rfl ?_
  have S0_ := S.st
  refine wp_seq ?_
  refine wp_region_lit ?_
  refine lve (d := 3) rfl rfl (by kernel_rfl) (new_blk (v := fun g_ => .pointer (some ⟨g_, 0, none⟩)) (cs := #[.func (.func 48) #[] #[.pointer (some ⟨g6, 0, none⟩)], .func (.func f8) #[] a9]) (t := 78) S0_ (by kernel_rfl)) ?_
  rintro _ w13 ⟨g14, rfl, b15, S16, K17⟩
  replace h5 := h5.move (K17.at 0 rfl)
  replace b7 := K17.blk 1 rfl b7
  refine wpList_nil ?_
  refine then_n ?_
  refine wp_seq ?_
  refine wp_region_lit ?_
  refine lv (d := 11) rfl rfl (by kernel_rfl) (e_move (v := .int .i64 x11) (by kernel_rfl)) ?_
  refine lv (d := 6) rfl rfl (by kernel_rfl) (e_assign (v := .int .i64 x11) (by kernel_rfl)) ?_
  refine wpList_nil ?_
  refine then_n ?_
  refine wp_seq ?_
  refine wp_region_lit ?_
  refine lv (d := 7) rfl rfl (by kernel_rfl) (e_assign (v := .int .i64 0) rfl) ?_
  refine wpList_nil ?_
  refine then_n ?_
  refine wp_seq ?_
  refine wp_region_lit ?_
  refine lv (d := 12) rfl rfl (by kernel_rfl) (e_move (v := .int .i64 x12) (by kernel_rfl)) ?_
  refine lv (d := 13) rfl rfl (by kernel_rfl) (e_move (v := .int .i64 x11) (by kernel_rfl)) ?_
  refine lv (d := 14) rfl rfl (by kernel_rfl) (e_sub (k := .i64) (a := x12) (b := x11) (by kernel_rfl) (by kernel_rfl)) ?_
  refine lv (d := 8) rfl rfl (by kernel_rfl) (e_assign (v := .int .i64 (IntKind.i64.wrap (x12 - x11))) (by kernel_rfl)) ?_
  refine wpList_nil ?_
  refine then_n ?_
  refine wp_seq ?_
  refine wp_seq ?_
  refine wp_region_lit ?_
  refine lv (d := 15) rfl rfl (by kernel_rfl) (e_move (v := .int .i64 (IntKind.i64.wrap (x12 - x11))) (by kernel_rfl)) ?_
  refine lv (d := 16) rfl rfl (by kernel_rfl) (e_sub (k := .i64) (a := (IntKind.i64.wrap (x12 - x11))) (b := 1) (by kernel_rfl) rfl) ?_
  refine lv (d := 17) rfl rfl (by kernel_rfl) (e_quo (k := .i64) (a := (IntKind.i64.wrap ((IntKind.i64.wrap (x12 - x11)) - 1))) (b := 2) (by kernel_rfl) rfl (by decide)) ?_
  refine lv (d := 9) rfl rfl (by kernel_rfl) (e_assign (v := .int .i64 (IntKind.i64.wrap (Int.tdiv (IntKind.i64.wrap ((IntKind.i64.wrap (x12 - x11)) - 1)) 2))) (by kernel_rfl)) ?_
  refine wpList_nil ?_
  refine then_n ?_
  refine wp_block ?_
  refine wp_loop_g (fun k34 a35 w18 => ∃ (f19 : Nat → Value) (H20 : Hp) (x22 : Int) (F23 : Foot) (x24 : List Sy.Op), a35 = mk 45 f19 ∧ f19 3 = .pointer (some ⟨g14, 0, none⟩) ∧ f19 6 = .int .i64 x11 ∧ f19 7 = .int .i64 0 ∧ f19 8 = .int .i64 (IntKind.i64.wrap (x12 - x11)) ∧ f19 9 = .int .i64 x22 ∧ w18.heap[g14]? = some (.cells #[.func (.func 48) #[] #[.pointer (some ⟨g6, 0, none⟩)], .func (.func f8) #[] a9] 78 (0, 0)) ∧ Row st45 45 H20 (hp w18) F23 A2 c3 x24 ∧ w18.heap[g6]? = some (.cells #[.slice A2 x1.length c3] 25 (0, 0)) ∧ x24.length = x1.length ∧ Ext H H20 ∧ St (anyOf [F4, (is g6)]) H w [(is g14), F23, (is g6)] H20 w18 ∧ sort_heapSort_func.l0 k34 x1 x11 x12 x22 x24 = some r) k ⟨_, H, (IntKind.i64.wrap (Int.tdiv (IntKind.i64.wrap ((IntKind.i64.wrap (x12 - x11)) - 1)) 2)), F4, x1, rfl, (by kernel_rfl), (by kernel_rfl), (by kernel_rfl), (by kernel_rfl), (by kernel_rfl), b15, h5, b7, rfl, (Ext.refl _), S16, M⟩ ?_
  clear M
  rintro k34 a35 w18 ⟨f19, H20, x22, F23, x24, rfl, e26, e27, e28, e29, e30, b15, h5, b7, n25, Y21, S31, M⟩
  rcases k34 with _ | k36
  · rw [sort_heapSort_func.l0] at M
    cases M
  rw [sort_heapSort_func.l0] at M
  refine wp_seq ?_
  refine wp_seq ?_
  refine wp_region_lit ?_
  refine lv (d := 18) rfl rfl (by kernel_rfl) (e_move (v := .int .i64 x22) (by exact e30)) ?_
  refine lv (d := 19) rfl rfl (by kernel_rfl) (e_geq (k := .i64) (a := x22) (b := 0) (by kernel_rfl) rfl) ?_
  refine wpList_nil ?_
  refine then_n ?_
  by_cases q37 : x22 ≥ 0
  · replace M := ifp q37 M
    refine cond_t rfl (bt q37 (by kernel_rfl)) ?_
    refine wp_skip ?_
    refine then_n ?_
    refine wp_seq ?_
    refine wp_block ?_
    refine wp_region_lit ?_
    refine lv (d := 22) rfl rfl (by kernel_rfl) (e_loadS (b := g14) (off := 0) (cs := [.func (.func 48) #[] #[.pointer (some ⟨g6, 0, none⟩)], .func (.func f8) #[] a9]) Try.underlying78 rfl (by kernel_rfl) (by exact e26) (blk_cells b15 rfl)) ?_
    refine lv (d := 23) rfl rfl (by kernel_rfl) (e_move (v := .int .i64 x22) (by exact e30)) ?_
    refine lv (d := 24) rfl rfl (by kernel_rfl) (e_move (v := .int .i64 (IntKind.i64.wrap (x12 - x11))) (by exact e29)) ?_
    refine lv (d := 25) rfl rfl (by kernel_rfl) (e_move (v := .int .i64 x11) (by exact e27)) ?_
    have S38 := S31.pull (F := (is g6)) (Fr := [(is g14), F23]) 2 rfl rfl
    have S39 := S38.pull (F := F23) (Fr := [(is g6), (is g14)]) 2 rfl rfl
    obtain ⟨t40, u41, M⟩ := bnd M
    refine lcall (d := 26) rfl rfl (by kernel_rfl) (e_call (l := [.tmp 22, .tmp 23, .tmp 24, .tmp 25]) (vs := [.agg #[.func (.func 48) #[] #[.pointer (some ⟨g6, 0, none⟩)], .func (.func f8) #[] a9], .int .i64 x22, .int .i64 (IntKind.i64.wrap (x12 - x11)), .int .i64 x11]) Try.func73 (by kernel_rfl) rfl (by kernel_rfl) rfl) (by have q_ := (sort_siftDown_func.calls k36 w18 H20 x24 A2 c3 F23 g6 f8 a9 x22 (IntKind.i64.wrap (x12 - x11)) x11 h5 (by rw [show x24.length = x1.length from n25]; exact b7) (by rw [show x24.length = x1.length from n25]; exact h10) (St.own' (Fa := [F23, (is g6)]) (Fr := [(is g14)]) S39) t40 u41); (try rw [(show x24.length = x1.length from n25)] at q_); exact q_) ?_
    rintro _ w42 ⟨F46, H43, rfl, n47, h45, b48, T44⟩
    refine ⟨_, rfl, ?_⟩
    obtain ⟨S49, K50⟩ := St.call (Fa := [F23, (is g6)]) (Fr := [(is g14)]) S39 T44
    replace b15 := K50.blk 0 rfl b15
    have E51 := T44.ext
    refine wpList_nil ?_
    refine inb_n ?_
    refine then_n ?_
    refine wp_region_lit ?_
    refine lv (d := 20) rfl rfl (by kernel_rfl) (e_move (v := .int .i64 x22) (by exact e30)) ?_
    refine lv (d := 21) rfl rfl (by kernel_rfl) (e_sub (k := .i64) (a := x22) (b := 1) (by kernel_rfl) rfl) ?_
    refine lv (d := 9) rfl rfl (by kernel_rfl) (e_assign (v := .int .i64 (IntKind.i64.wrap (x22 - 1))) (by kernel_rfl)) ?_
    refine wpList_nil ?_
    refine then_n ?_
    have S52 := S49.pull (F := (is g6)) (Fr := [F46, (is g14)]) 1 rfl rfl
    have S53 := S52.pull (F := F46) (Fr := [(is g6), (is g14)]) 1 rfl rfl
    have S54 := S53.pull (F := (is g14)) (Fr := [F46, (is g6)]) 2 rfl rfl
    exact ⟨k36, (by omega), _, H43, (IntKind.i64.wrap (x22 - 1)), F46, t40, rfl, (by exact e26), (by exact e27), (by exact e28), (by exact e29), (by kernel_rfl), b15, h45, b48, n47, (Y21.trans E51), S54, M⟩
  replace M := ifn q37 M
  refine cond_f rfl (bf q37 (by kernel_rfl)) ?_
  refine wp_exit ?_
  refine then_e ?_
  refine then_e ?_
  refine inb_hit ?_
  refine then_n ?_
  refine wp_seq ?_
  refine wp_region_lit ?_
  refine lv (d := 27) rfl rfl (by kernel_rfl) (e_move (v := .int .i64 (IntKind.i64.wrap (x12 - x11))) (by exact e29)) ?_
  refine lv (d := 28) rfl rfl (by kernel_rfl) (e_sub (k := .i64) (a := (IntKind.i64.wrap (x12 - x11))) (b := 1) (by kernel_rfl) rfl) ?_
  refine lv (d := 10) rfl rfl (by kernel_rfl) (e_assign (v := .int .i64 (IntKind.i64.wrap ((IntKind.i64.wrap (x12 - x11)) - 1))) (by kernel_rfl)) ?_
  refine wpList_nil ?_
  refine then_n ?_
  refine wp_block ?_
  refine wp_loop_g (fun k70 a71 w55 => ∃ (f56 : Nat → Value) (H57 : Hp) (x59 : Int) (F60 : Foot) (x61 : List Sy.Op), k70 ≤ k36 ∧ a71 = mk 45 f56 ∧ f56 3 = .pointer (some ⟨g14, 0, none⟩) ∧ f56 6 = .int .i64 x11 ∧ f56 7 = .int .i64 0 ∧ f56 10 = .int .i64 x59 ∧ w55.heap[g14]? = some (.cells #[.func (.func 48) #[] #[.pointer (some ⟨g6, 0, none⟩)], .func (.func f8) #[] a9] 78 (0, 0)) ∧ Row st45 45 H57 (hp w55) F60 A2 c3 x61 ∧ w55.heap[g6]? = some (.cells #[.slice A2 x1.length c3] 25 (0, 0)) ∧ x61.length = x1.length ∧ Ext H20 H57 ∧ St (anyOf [F4, (is g6)]) H w [(is g14), F60, (is g6)] H57 w55 ∧ sort_heapSort_func.l1 k70 x1 x11 x59 x61 = some r) k36 ⟨_, H20, (IntKind.i64.wrap ((IntKind.i64.wrap (x12 - x11)) - 1)), F23, x24, (by omega), rfl, (by exact e26), (by exact e27), (by exact e28), (by kernel_rfl), b15, h5, b7, n25, (Ext.refl _), S31, M⟩ ?_
  clear M
  rintro k70 a71 w55 ⟨f56, H57, x59, F60, x61, z69, rfl, e63, e64, e65, e66, b15, h5, b7, n62, Y58, S67, M⟩
  rcases k70 with _ | k72
  · rw [sort_heapSort_func.l1] at M
    cases M
  rw [sort_heapSort_func.l1] at M
  refine wp_seq ?_
  refine wp_seq ?_
  refine wp_region_lit ?_
  refine lv (d := 29) rfl rfl (by kernel_rfl) (e_move (v := .int .i64 x59) (by exact e66)) ?_
  refine lv (d := 30) rfl rfl (by kernel_rfl) (e_geq (k := .i64) (a := x59) (b := 0) (by kernel_rfl) rfl) ?_
  refine wpList_nil ?_
  refine then_n ?_
  by_cases q73 : x59 ≥ 0
  · replace M := ifp q73 M
    refine cond_t rfl (bt q73 (by kernel_rfl)) ?_
    refine wp_skip ?_
    refine then_n ?_
    refine wp_seq ?_
    refine wp_block ?_
    refine wp_seq ?_
    refine wp_region_lit ?_
    refine lv (d := 33) rfl rfl (by kernel_rfl) (e_fieldAddr (b := g14) (off := 0) (o := 1) Try.underlying78 rfl rfl (sz := 1) (by kernel_rfl) (by decide) (by exact e63)) ?_
    refine lv (d := 34) rfl rfl (by kernel_rfl) (e_load1 (ad := ⟨g14, 0 + 1, none⟩) (v := .func (.func f8) #[] a9) Try.underlying72 rfl (by kernel_rfl) (blk_cell b15 rfl)) ?_
    refine lv (d := 35) rfl rfl (by kernel_rfl) (e_move (v := .int .i64 x11) (by exact e64)) ?_
    refine lv (d := 36) rfl rfl (by kernel_rfl) (e_move (v := .int .i64 x11) (by exact e64)) ?_
    refine lv (d := 37) rfl rfl (by kernel_rfl) (e_move (v := .int .i64 x59) (by exact e66)) ?_
    refine lv (d := 38) rfl rfl (by kernel_rfl) (e_add (k := .i64) (a := x11) (b := x59) (by kernel_rfl) (by kernel_rfl)) ?_
    obtain ⟨q74, M⟩ := chk M
    obtain ⟨q75, M⟩ := chk M
    obtain ⟨q76, M⟩ := chk M
    obtain ⟨q77, M⟩ := chk M
    have S78 := S67.pull (F := F60) (Fr := [(is g14), (is g6)]) 1 rfl rfl
    refine lve (d := 39) rfl rfl (by kernel_rfl) (e_swap (a := x11) (b := (IntKind.i64.wrap (x11 + x59))) S78 h5 n62 h10 (by kernel_rfl) (by kernel_rfl) (by kernel_rfl) q74 q75 q76 q77) ?_
    rintro _ w79 ⟨rfl, h80, S81, K82⟩
    replace b15 := K82.blk 0 rfl b15
    replace b7 := K82.blk 1 rfl b7
    clear h5
    refine wpList_nil ?_
    refine then_n ?_
    refine wp_region_lit ?_
    refine lv (d := 40) rfl rfl (by kernel_rfl) (e_loadS (b := g14) (off := 0) (cs := [.func (.func 48) #[] #[.pointer (some ⟨g6, 0, none⟩)], .func (.func f8) #[] a9]) Try.underlying78 rfl (by kernel_rfl) (by exact e63) (blk_cells b15 rfl)) ?_
    refine lv (d := 41) rfl rfl (by kernel_rfl) (e_move (v := .int .i64 0) (by exact e65)) ?_
    refine lv (d := 42) rfl rfl (by kernel_rfl) (e_move (v := .int .i64 x59) (by exact e66)) ?_
    refine lv (d := 43) rfl rfl (by kernel_rfl) (e_move (v := .int .i64 x11) (by exact e64)) ?_
    have S83 := S81.pull (F := (is g6)) (Fr := [F60, (is g14)]) 2 rfl rfl
    have S84 := S83.pull (F := F60) (Fr := [(is g6), (is g14)]) 1 rfl rfl
    obtain ⟨t85, u86, M⟩ := bnd M
    refine lcall (d := 44) rfl rfl (by kernel_rfl) (e_call (l := [.tmp 40, .tmp 41, .tmp 42, .tmp 43]) (vs := [.agg #[.func (.func 48) #[] #[.pointer (some ⟨g6, 0, none⟩)], .func (.func f8) #[] a9], .int .i64 0, .int .i64 x59, .int .i64 x11]) Try.func73 (by kernel_rfl) rfl (by kernel_rfl) rfl) (by have q_ := (sort_siftDown_func.calls k72 w79 H57 (swL x61 (x11).toNat ((IntKind.i64.wrap (x11 + x59))).toNat) A2 c3 F60 g6 f8 a9 0 x59 x11 h80 (by rw [show (swL x61 (x11).toNat ((IntKind.i64.wrap (x11 + x59))).toNat).length = x1.length from ((swL_len _ _ _).trans n62)]; exact b7) (by rw [show (swL x61 (x11).toNat ((IntKind.i64.wrap (x11 + x59))).toNat).length = x1.length from ((swL_len _ _ _).trans n62)]; exact h10) (St.own' (Fa := [F60, (is g6)]) (Fr := [(is g14)]) S84) t85 u86); (try rw [(show (swL x61 (x11).toNat ((IntKind.i64.wrap (x11 + x59))).toNat).length = x1.length from ((swL_len _ _ _).trans n62))] at q_); exact q_) ?_
    rintro _ w87 ⟨F91, H88, rfl, n92, h90, b93, T89⟩
    refine ⟨_, rfl, ?_⟩
    obtain ⟨S94, K95⟩ := St.call (Fa := [F60, (is g6)]) (Fr := [(is g14)]) S84 T89
    replace b15 := K95.blk 0 rfl b15
    have E96 := T89.ext
    refine wpList_nil ?_
    refine inb_n ?_
    refine then_n ?_
    refine wp_region_lit ?_
    refine lv (d := 31) rfl rfl (by kernel_rfl) (e_move (v := .int .i64 x59) (by exact e66)) ?_
    refine lv (d := 32) rfl rfl (by kernel_rfl) (e_sub (k := .i64) (a := x59) (b := 1) (by kernel_rfl) rfl) ?_
    refine lv (d := 10) rfl rfl (by kernel_rfl) (e_assign (v := .int .i64 (IntKind.i64.wrap (x59 - 1))) (by kernel_rfl)) ?_
    refine wpList_nil ?_
    refine then_n ?_
    have S97 := S94.pull (F := (is g6)) (Fr := [F91, (is g14)]) 1 rfl rfl
    have S98 := S97.pull (F := F91) (Fr := [(is g6), (is g14)]) 1 rfl rfl
    have S99 := S98.pull (F := (is g14)) (Fr := [F91, (is g6)]) 2 rfl rfl
    exact ⟨k72, (by omega), _, H88, (IntKind.i64.wrap (x59 - 1)), F91, t85, (by omega), rfl, (by exact e63), (by exact e64), (by exact e65), (by kernel_rfl), b15, h90, b93, n92, (Y58.trans E96), S99, M⟩
  replace M := ifn q73 M
  refine cond_f rfl (bf q73 (by kernel_rfl)) ?_
  refine wp_exit ?_
  refine then_e ?_
  refine then_e ?_
  refine inb_hit ?_
  obtain rfl := Option.some.inj M
  have S100 := S67.pull (F := (is g6)) (Fr := [(is g14), F60]) 2 rfl rfl
  have S101 := S100.pull (F := F60) (Fr := [(is g6), (is g14)]) 2 rfl rfl
  have S102 := St.first (Fa := [F60, (is g6)]) (Fr := [(is g14)]) S101
  exact end0 rfl ⟨F60, H57, rfl, n62, h5, b7, S102⟩

/-! sort_order2_func -/
def sort_order2_func_2.f (_k : Nat) (x1 : List Sy.Op) (x11 : Int) (x12 : Int) (x13 : Int) : Option (Int × Int × Int) := ((impl_sortOps_c1.f x12 x11 x1).bind fun t21 => (if t21 = true then some (x12, x11, (IntKind.i64.wrap (x13 + 1))) else some (x11, x12, x13)))
theorem sort_order2_func_2.calls (k : Nat) (w : World) (H : Hp) (x1 : List Sy.Op) (A2 : Option Addr) (c3 : Nat) (F4 : Foot) (g6 : Nat) (f8 : FuncId) (a9 : Array Value) (x11 : Int) (x12 : Int) (x13 : Int) (g14 : Nat) (h5 : Row st45 45 H (hp w) F4 A2 c3 x1) (b7 : w.heap[g6]? = some (.cells #[.slice A2 x1.length c3] 25 (0, 0))) (h10 : SwOK Try.prog st45 45 f8 a9 A2 c3 x1.length) (b15 : w.heap[g14]? = some (.cells #[.int .i64 x13] 3 (0, 0))) (S : Own [F4, (is g6), (is g14)] H w) (r : Int × Int × Int) (M : sort_order2_func_2.f k x1 x11 x12 x13 = some r) :
    Calls Try.prog 78 #[.agg #[.func (.func 48) #[] #[.pointer (some ⟨g6, 0, none⟩)], .func (.func f8) #[] a9], .int .i64 x11, .int .i64 x12, .pointer (some ⟨g14, 0, none⟩)] w (fun e e_w => ∃ (H_ : Hp), e = .returned (.tuple #[.int .i64 r.1, .int .i64 r.2.1]) ∧ Row st45 45 H_ (hp e_w) F4 A2 c3 x1 ∧ e_w.heap[g6]? = some (.cells #[.slice A2 x1.length c3] 25 (0, 0)) ∧ e_w.heap[g14]? = some (.cells #[.int .i64 r.2.2] 3 (0, 0)) ∧ St (anyOf [F4, (is g6), (is g14)]) H w [F4, (is g6), (is g14)] H_ e_w) := by
  rw [sort_order2_func_2.f] at M
  refine enter (l := [.agg #[.func (.func 48) #[] #[.pointer (some ⟨g6, 0, none⟩)], .func (.func f8) #[] a9], .int .i64 x11, .int .i64 x12, .pointer (some ⟨g14, 0, none⟩)]) 24 Try.func78 rfl rfl rfl ?_
  have S0_ := S.st
  refine wp_seq ?_
  refine wp_region_lit ?_
  refine lve (d := 4) rfl rfl (by kernel_rfl) (new_blk (v := fun g_ => .pointer (some ⟨g_, 0, none⟩)) (cs := #[.func (.func 48) #[] #[.pointer (some ⟨g6, 0, none⟩)], .func (.func f8) #[] a9]) (t := 78) S0_ (by kernel_rfl)) ?_
  rintro _ w16 ⟨g17, rfl, b18, S19, K20⟩
  replace h5 := h5.move (K20.at 0 rfl)
  replace b7 := K20.blk 1 rfl b7
  replace b15 := K20.blk 2 rfl b15
  refine lv (d := 8) rfl rfl (by kernel_rfl) (e_assign (v := .int .i64 0) rfl) ?_
  refine lv (d := 9) rfl rfl (by kernel_rfl) (e_assign (v := .int .i64 0) rfl) ?_
  refine wpList_nil ?_
  refine then_n ?_
  refine wp_seq ?_
  refine wp_seq ?_
  refine wp_region_lit ?_
  refine lv (d := 10) rfl rfl (by kernel_rfl) (e_fieldAddr (b := g17) (off := 0) (o := 0) Try.underlying78 rfl rfl (sz := 1) (by kernel_rfl) (by decide) (by kernel_rfl)) ?_
  refine lv (d := 11) rfl rfl (by kernel_rfl) (e_load1 (ad := ⟨g17, 0 + 0, none⟩) (v := .func (.func 48) #[] #[.pointer (some ⟨g6, 0, none⟩)]) Try.underlying64 rfl (by kernel_rfl) (blk_cell b18 rfl)) ?_
  refine lv (d := 12) rfl rfl (by kernel_rfl) (e_move (v := .int .i64 x12) (by kernel_rfl)) ?_
  refine lv (d := 13) rfl rfl (by kernel_rfl) (e_move (v := .int .i64 x11) (by kernel_rfl)) ?_
  obtain ⟨t21, u22, M⟩ := bnd M
  refine lcall (d := 14) rfl rfl (by kernel_rfl) (e_callv (l := [.tmp 12, .tmp 13]) (vs := [.int .i64 x12, .int .i64 x11]) (cs := [.pointer (some ⟨g6, 0, none⟩)]) Try.func48 (by kernel_rfl) rfl (by kernel_rfl) (by kernel_rfl)) (by have l23 := h5.le; have S24 := S19.pull (F := F4) (Fr := [(is g17), (is g6), (is g14)]) 1 rfl rfl; obtain ⟨H25, S26, E27, h28, z29⟩ := S24.frzRow h5; have S30 := S26.pull (F := (is g6)) (Fr := [(is g17), (is g14)]) 1 rfl rfl; obtain ⟨H31, S32, E33, h34, z35⟩ := S30.frzBlk b7; exact (impl_sortOps_c1.calls w16 H31 x12 x11 x1 g6 A2 c3 (h28.ext E33) l23 h34 S32.own0 t21 u22)) ?_
  rintro _ w36 ⟨rfl, C37⟩
  refine ⟨_, rfl, ?_⟩
  obtain ⟨S38, K39⟩ := S19.still C37
  replace b18 := K39.blk 0 rfl b18
  replace h5 := h5.move (K39.at 1 rfl)
  replace b7 := K39.blk 2 rfl b7
  replace b15 := K39.blk 3 rfl b15
  refine wpList_nil ?_
  refine then_n ?_
  by_cases q40 : t21 = true
  · replace M := ifp q40 M
    refine cond_t rfl (bvt q40 (by kernel_rfl)) ?_
    refine wp_seq ?_
    refine wp_region_lit ?_
    refine lv (d := 15) rfl rfl (by kernel_rfl) (e_move (v := .pointer (some ⟨g14, 0, none⟩)) (by kernel_rfl)) ?_
    refine lv (d := 16) rfl rfl (by kernel_rfl) (e_nilCheck (ad := ⟨g14, 0, none⟩) (by kernel_rfl)) ?_
    refine lv (d := 17) rfl rfl (by kernel_rfl) (e_load1 (ad := ⟨g14, 0, none⟩) (v := .int .i64 x13) Try.underlying3 rfl (by kernel_rfl) (blk_cell b15 rfl)) ?_
    refine lv (d := 18) rfl rfl (by kernel_rfl) (e_add (k := .i64) (a := x13) (b := 1) (by kernel_rfl) rfl) ?_
    refine lv (d := 19) rfl rfl (by kernel_rfl) (e_nilCheck (ad := ⟨g14, 0, none⟩) (by kernel_rfl)) ?_
    have S41 := S38.pull (F := (is g14)) (Fr := [(is g17), F4, (is g6)]) 3 rfl rfl
    refine lse rfl rfl (by kernel_rfl) (e_store (g := g14) (o := 0) (v := .int .i64 (IntKind.i64.wrap (x13 + 1))) (cur' := #[.int .i64 (IntKind.i64.wrap (x13 + 1))]) (vs := [.int .i64 (IntKind.i64.wrap (x13 + 1))]) S41 (by kernel_rfl) (by kernel_rfl) rfl (by kernel_rfl) b15 (Nat.le_of_ble_eq_true rfl) (List.forall_mem_cons.2 ⟨rfl, (fun _ h_ => by cases h_)⟩) rfl) ?_
    rintro w42 ⟨b43, S44, K45⟩
    replace b18 := K45.blk 0 rfl b18
    replace h5 := h5.move (K45.at 1 rfl)
    replace b7 := K45.blk 2 rfl b7
    clear b15
    refine wpList_nil ?_
    refine then_n ?_
    refine wp_seq ?_
    refine wp_region_lit ?_
    refine lv (d := 20) rfl rfl (by kernel_rfl) (e_move (v := .int .i64 x12) (by kernel_rfl)) ?_
    refine lv (d := 21) rfl rfl (by kernel_rfl) (e_move (v := .int .i64 x11) (by kernel_rfl)) ?_
    refine lv (d := 8) rfl rfl (by kernel_rfl) (e_assign (v := .int .i64 x12) (by kernel_rfl)) ?_
    refine lv (d := 9) rfl rfl (by kernel_rfl) (e_assign (v := .int .i64 x11) (by kernel_rfl)) ?_
    refine wpList_nil ?_
    refine then_n ?_
    refine wp_ret ?_
    refine then_r ?_
    obtain rfl := Option.some.inj M
    have S46 := S44.pull (F := (is g6)) (Fr := [(is g14), (is g17), F4]) 3 rfl rfl
    have S47 := S46.pull (F := F4) (Fr := [(is g6), (is g14), (is g17)]) 3 rfl rfl
    have S48 := St.first (Fa := [F4, (is g6), (is g14)]) (Fr := [(is g17)]) S47
    exact ret2 rfl rfl rfl (show _ = .int .i64 x12 from (by kernel_rfl)) (show _ = .int .i64 x11 from (by kernel_rfl)) ⟨H, rfl, h5, b7, b43, S48⟩
  replace M := ifn q40 M
  refine cond_f rfl (bvf q40 (by kernel_rfl)) ?_
  refine wp_skip ?_
  refine then_n ?_
  refine wp_seq ?_
  refine wp_region_lit ?_
  refine lv (d := 22) rfl rfl (by kernel_rfl) (e_move (v := .int .i64 x11) (by kernel_rfl)) ?_
  refine lv (d := 23) rfl rfl (by kernel_rfl) (e_move (v := .int .i64 x12) (by kernel_rfl)) ?_
  refine lv (d := 8) rfl rfl (by kernel_rfl) (e_assign (v := .int .i64 x11) (by kernel_rfl)) ?_
  refine lv (d := 9) rfl rfl (by kernel_rfl) (e_assign (v := .int .i64 x12) (by kernel_rfl)) ?_
  refine wpList_nil ?_
  refine then_n ?_
  refine wp_ret ?_
  obtain rfl := Option.some.inj M
  have S49 := S38.pull (F := (is g14)) (Fr := [(is g17), F4, (is g6)]) 3 rfl rfl
  have S50 := S49.pull (F := (is g6)) (Fr := [(is g14), (is g17), F4]) 3 rfl rfl
  have S51 := S50.pull (F := F4) (Fr := [(is g6), (is g14), (is g17)]) 3 rfl rfl
  have S52 := St.first (Fa := [F4, (is g6), (is g14)]) (Fr := [(is g17)]) S51
  exact ret2 rfl rfl rfl (show _ = .int .i64 x11 from (by kernel_rfl)) (show _ = .int .i64 x12 from (by kernel_rfl)) ⟨H, rfl, h5, b7, b15, S52⟩

/-! sort_median_func -/
def sort_median_func_2.f (k : Nat) (x1 : List Sy.Op) (x11 : Int) (x12 : Int) (x13 : Int) (x14 : Int) : Option (Int × Int) := ((sort_order2_func_2.f k x1 x11 x12 x14).bind fun t25 => ((sort_order2_func_2.f k x1 t25.2.1 x13 t25.2.2).bind fun t39 => ((sort_order2_func_2.f k x1 t25.1 t39.1 t39.2.2).bind fun t53 => some (t53.2.1, t53.2.2))))
theorem sort_median_func_2.calls (k : Nat) (w : World) (H : Hp) (x1 : List Sy.Op) (A2 : Option Addr) (c3 : Nat) (F4 : Foot) (g6 : Nat) (f8 : FuncId) (a9 : Array Value) (x11 : Int) (x12 : Int) (x13 : Int) (x14 : Int) (g15 : Nat) (h5 : Row st45 45 H (hp w) F4 A2 c3 x1) (b7 : w.heap[g6]? = some (.cells #[.slice A2 x1.length c3] 25 (0, 0))) (h10 : SwOK Try.prog st45 45 f8 a9 A2 c3 x1.length) (b16 : w.heap[g15]? = some (.cells #[.int .i64 x14] 3 (0, 0))) (S : Own [F4, (is g6), (is g15)] H w) (r : Int × Int) (M : sort_median_func_2.f k x1 x11 x12 x13 x14 = some r) :
    Calls Try.prog 77 #[.agg #[.func (.func 48) #[] #[.pointer (some ⟨g6, 0, none⟩)], .func (.func f8) #[] a9], .int .i64 x11, .int .i64 x12, .int .i64 x13, .pointer (some ⟨g15, 0, none⟩)] w (fun e e_w => ∃ (H_ : Hp), e = .returned (.int .i64 r.1) ∧ Row st45 45 H_ (hp e_w) F4 A2 c3 x1 ∧ e_w.heap[g6]? = some (.cells #[.slice A2 x1.length c3] 25 (0, 0)) ∧ e_w.heap[g15]? = some (.cells #[.int .i64 r.2] 3 (0, 0)) ∧ St (anyOf [F4, (is g6), (is g15)]) H w [F4, (is g6), (is g15)] H_ e_w) := by
  rw [sort_median_func_2.f] at M
  refine enter (l := [.agg #[.func (.func 48) #[] #[.pointer (some ⟨g6, 0, none⟩)], .func (.func f8) #[] a9], .int .i64 x11, .int .i64 x12, .int .i64 x13, .pointer (some ⟨g15, 0, none⟩)]) 36 Try.func77 rfl rfl rfl ?_
  have S0_ := S.st
  refine wp_seq ?_
  refine wp_region_lit ?_
  refine lve (d := 5) rfl rfl (by kernel_rfl) (new_blk (v := fun g_ => .pointer (some ⟨g_, 0, none⟩)) (cs := #[.func (.func 48) #[] #[.pointer (some ⟨g6, 0, none⟩)], .func (.func f8) #[] a9]) (t := 78) S0_ (by kernel_rfl)) ?_
  rintro _ w17 ⟨g18, rfl, b19, S20, K21⟩
  replace h5 := h5.move (K21.at 0 rfl)
  replace b7 := K21.blk 1 rfl b7
  replace b16 := K21.blk 2 rfl b16
  refine lv (d := 10) rfl rfl (by kernel_rfl) (e_assign (v := .int .i64 0) rfl) ?_
  refine wpList_nil ?_
  refine then_n ?_
  refine wp_seq ?_
  refine wp_region_lit ?_
  refine lv (d := 12) rfl rfl (by kernel_rfl) (e_loadS (b := g18) (off := 0) (cs := [.func (.func 48) #[] #[.pointer (some ⟨g6, 0, none⟩)], .func (.func f8) #[] a9]) Try.underlying78 rfl (by kernel_rfl) (by kernel_rfl) (blk_cells b19 rfl)) ?_
  refine lv (d := 13) rfl rfl (by kernel_rfl) (e_move (v := .int .i64 x11) (by kernel_rfl)) ?_
  refine lv (d := 14) rfl rfl (by kernel_rfl) (e_move (v := .int .i64 x12) (by kernel_rfl)) ?_
  refine lv (d := 15) rfl rfl (by kernel_rfl) (e_move (v := .pointer (some ⟨g15, 0, none⟩)) (by kernel_rfl)) ?_
  have S22 := S20.pull (F := (is g15)) (Fr := [(is g18), F4, (is g6)]) 3 rfl rfl
  have S23 := S22.pull (F := (is g6)) (Fr := [(is g15), (is g18), F4]) 3 rfl rfl
  have S24 := S23.pull (F := F4) (Fr := [(is g6), (is g15), (is g18)]) 3 rfl rfl
  obtain ⟨t25, u26, M⟩ := bnd M
  refine lcall (d := 16) rfl rfl (by kernel_rfl) (e_call (l := [.tmp 12, .tmp 13, .tmp 14, .tmp 15]) (vs := [.agg #[.func (.func 48) #[] #[.pointer (some ⟨g6, 0, none⟩)], .func (.func f8) #[] a9], .int .i64 x11, .int .i64 x12, .pointer (some ⟨g15, 0, none⟩)]) Try.func78 (by kernel_rfl) rfl (by kernel_rfl) rfl) (sort_order2_func_2.calls k w17 H x1 A2 c3 F4 g6 f8 a9 x11 x12 x14 g15 h5 b7 h10 b16 (St.own' (Fa := [F4, (is g6), (is g15)]) (Fr := [(is g18)]) S24) t25 u26) ?_
  rintro _ w27 ⟨H28, rfl, h30, b31, b32, T29⟩
  refine ⟨_, rfl, ?_⟩
  obtain ⟨S33, K34⟩ := St.call (Fa := [F4, (is g6), (is g15)]) (Fr := [(is g18)]) S24 T29
  replace b19 := K34.blk 0 rfl b19
  have E35 := T29.ext
  refine lv (d := 11) rfl rfl (by kernel_rfl) (e_move (v := .tuple #[.int .i64 t25.1, .int .i64 t25.2.1]) (by kernel_rfl)) ?_
  refine lv (d := 17) rfl rfl (by kernel_rfl) (e_extract (vs := #[.int .i64 t25.1, .int .i64 t25.2.1]) (v := .int .i64 t25.1) (by kernel_rfl) rfl) ?_
  refine lv (d := 18) rfl rfl (by kernel_rfl) (e_extract (vs := #[.int .i64 t25.1, .int .i64 t25.2.1]) (v := .int .i64 t25.2.1) (by kernel_rfl) rfl) ?_
  refine lv (d := 1) rfl rfl (by kernel_rfl) (e_assign (v := .int .i64 t25.1) (by kernel_rfl)) ?_
  refine lv (d := 2) rfl rfl (by kernel_rfl) (e_assign (v := .int .i64 t25.2.1) (by kernel_rfl)) ?_
  refine wpList_nil ?_
  refine then_n ?_
  refine wp_seq ?_
  refine wp_region_lit ?_
  refine lv (d := 20) rfl rfl (by kernel_rfl) (e_loadS (b := g18) (off := 0) (cs := [.func (.func 48) #[] #[.pointer (some ⟨g6, 0, none⟩)], .func (.func f8) #[] a9]) Try.underlying78 rfl (by kernel_rfl) (by kernel_rfl) (blk_cells b19 rfl)) ?_
  refine lv (d := 21) rfl rfl (by kernel_rfl) (e_move (v := .int .i64 t25.2.1) (by kernel_rfl)) ?_
  refine lv (d := 22) rfl rfl (by kernel_rfl) (e_move (v := .int .i64 x13) (by kernel_rfl)) ?_
  refine lv (d := 23) rfl rfl (by kernel_rfl) (e_move (v := .pointer (some ⟨g15, 0, none⟩)) (by kernel_rfl)) ?_
  have S36 := S33.pull (F := (is g15)) (Fr := [F4, (is g6), (is g18)]) 2 rfl rfl
  have S37 := S36.pull (F := (is g6)) (Fr := [(is g15), F4, (is g18)]) 2 rfl rfl
  have S38 := S37.pull (F := F4) (Fr := [(is g6), (is g15), (is g18)]) 2 rfl rfl
  obtain ⟨t39, u40, M⟩ := bnd M
  refine lcall (d := 24) rfl rfl (by kernel_rfl) (e_call (l := [.tmp 20, .tmp 21, .tmp 22, .tmp 23]) (vs := [.agg #[.func (.func 48) #[] #[.pointer (some ⟨g6, 0, none⟩)], .func (.func f8) #[] a9], .int .i64 t25.2.1, .int .i64 x13, .pointer (some ⟨g15, 0, none⟩)]) Try.func78 (by kernel_rfl) rfl (by kernel_rfl) rfl) (sort_order2_func_2.calls k w27 H28 x1 A2 c3 F4 g6 f8 a9 t25.2.1 x13 t25.2.2 g15 h30 b31 h10 b32 (St.own' (Fa := [F4, (is g6), (is g15)]) (Fr := [(is g18)]) S38) t39 u40) ?_
  rintro _ w41 ⟨H42, rfl, h44, b45, b46, T43⟩
  refine ⟨_, rfl, ?_⟩
  obtain ⟨S47, K48⟩ := St.call (Fa := [F4, (is g6), (is g15)]) (Fr := [(is g18)]) S38 T43
  replace b19 := K48.blk 0 rfl b19
  have E49 := T43.ext
  refine lv (d := 19) rfl rfl (by kernel_rfl) (e_move (v := .tuple #[.int .i64 t39.1, .int .i64 t39.2.1]) (by kernel_rfl)) ?_
  refine lv (d := 25) rfl rfl (by kernel_rfl) (e_extract (vs := #[.int .i64 t39.1, .int .i64 t39.2.1]) (v := .int .i64 t39.1) (by kernel_rfl) rfl) ?_
  refine lv (d := 26) rfl rfl (by kernel_rfl) (e_extract (vs := #[.int .i64 t39.1, .int .i64 t39.2.1]) (v := .int .i64 t39.2.1) (by kernel_rfl) rfl) ?_
  refine lv (d := 2) rfl rfl (by kernel_rfl) (e_assign (v := .int .i64 t39.1) (by kernel_rfl)) ?_
  refine lv (d := 3) rfl rfl (by kernel_rfl) (e_assign (v := .int .i64 t39.2.1) (by kernel_rfl)) ?_
  refine wpList_nil ?_
  refine then_n ?_
  refine wp_seq ?_
  refine wp_region_lit ?_
  refine lv (d := 28) rfl rfl (by kernel_rfl) (e_loadS (b := g18) (off := 0) (cs := [.func (.func 48) #[] #[.pointer (some ⟨g6, 0, none⟩)], .func (.func f8) #[] a9]) Try.underlying78 rfl (by kernel_rfl) (by kernel_rfl) (blk_cells b19 rfl)) ?_
  refine lv (d := 29) rfl rfl (by kernel_rfl) (e_move (v := .int .i64 t25.1) (by kernel_rfl)) ?_
  refine lv (d := 30) rfl rfl (by kernel_rfl) (e_move (v := .int .i64 t39.1) (by kernel_rfl)) ?_
  refine lv (d := 31) rfl rfl (by kernel_rfl) (e_move (v := .pointer (some ⟨g15, 0, none⟩)) (by kernel_rfl)) ?_
  have S50 := S47.pull (F := (is g15)) (Fr := [F4, (is g6), (is g18)]) 2 rfl rfl
  have S51 := S50.pull (F := (is g6)) (Fr := [(is g15), F4, (is g18)]) 2 rfl rfl
  have S52 := S51.pull (F := F4) (Fr := [(is g6), (is g15), (is g18)]) 2 rfl rfl
  obtain ⟨t53, u54, M⟩ := bnd M
  refine lcall (d := 32) rfl rfl (by kernel_rfl) (e_call (l := [.tmp 28, .tmp 29, .tmp 30, .tmp 31]) (vs := [.agg #[.func (.func 48) #[] #[.pointer (some ⟨g6, 0, none⟩)], .func (.func f8) #[] a9], .int .i64 t25.1, .int .i64 t39.1, .pointer (some ⟨g15, 0, none⟩)]) Try.func78 (by kernel_rfl) rfl (by kernel_rfl) rfl) (sort_order2_func_2.calls k w41 H42 x1 A2 c3 F4 g6 f8 a9 t25.1 t39.1 t39.2.2 g15 h44 b45 h10 b46 (St.own' (Fa := [F4, (is g6), (is g15)]) (Fr := [(is g18)]) S52) t53 u54) ?_
  rintro _ w55 ⟨H56, rfl, h58, b59, b60, T57⟩
  refine ⟨_, rfl, ?_⟩
  obtain ⟨S61, K62⟩ := St.call (Fa := [F4, (is g6), (is g15)]) (Fr := [(is g18)]) S52 T57
  replace b19 := K62.blk 0 rfl b19
  have E63 := T57.ext
  refine lv (d := 27) rfl rfl (by kernel_rfl) (e_move (v := .tuple #[.int .i64 t53.1, .int .i64 t53.2.1]) (by kernel_rfl)) ?_
  refine lv (d := 33) rfl rfl (by kernel_rfl) (e_extract (vs := #[.int .i64 t53.1, .int .i64 t53.2.1]) (v := .int .i64 t53.1) (by kernel_rfl) rfl) ?_
  refine lv (d := 34) rfl rfl (by kernel_rfl) (e_extract (vs := #[.int .i64 t53.1, .int .i64 t53.2.1]) (v := .int .i64 t53.2.1) (by kernel_rfl) rfl) ?_
  refine lv (d := 1) rfl rfl (by kernel_rfl) (e_assign (v := .int .i64 t53.1) (by kernel_rfl)) ?_
  refine lv (d := 2) rfl rfl (by kernel_rfl) (e_assign (v := .int .i64 t53.2.1) (by kernel_rfl)) ?_
  refine wpList_nil ?_
  refine then_n ?_
  refine wp_seq ?_
  refine wp_region_lit ?_
  refine lv (d := 35) rfl rfl (by kernel_rfl) (e_move (v := .int .i64 t53.2.1) (by kernel_rfl)) ?_
  refine lv (d := 10) rfl rfl (by kernel_rfl) (e_assign (v := .int .i64 t53.2.1) (by kernel_rfl)) ?_
  refine wpList_nil ?_
  refine then_n ?_
  refine wp_ret ?_
  obtain rfl := Option.some.inj M
  have S64 := S61.pull (F := (is g15)) (Fr := [F4, (is g6), (is g18)]) 2 rfl rfl
  have S65 := S64.pull (F := (is g6)) (Fr := [(is g15), F4, (is g18)]) 2 rfl rfl
  have S66 := S65.pull (F := F4) (Fr := [(is g6), (is g15), (is g18)]) 2 rfl rfl
  have S67 := St.first (Fa := [F4, (is g6), (is g15)]) (Fr := [(is g18)]) S66
  exact ret1 rfl rfl  (show _ = .int .i64 t53.2.1 from (by kernel_rfl)) ⟨H56, rfl, h58, b59, b60, S67⟩

/-! sort_medianAdjacent_func -/
def sort_medianAdjacent_func_2.f (k : Nat) (x1 : List Sy.Op) (x11 : Int) (x12 : Int) : Option (Int × Int) := ((sort_median_func_2.f k x1 (IntKind.i64.wrap (x11 - 1)) x11 (IntKind.i64.wrap (x11 + 1)) x12).bind fun t23 => some (t23.1, t23.2))
theorem sort_medianAdjacent_func_2.calls (k : Nat) (w : World) (H : Hp) (x1 : List Sy.Op) (A2 : Option Addr) (c3 : Nat) (F4 : Foot) (g6 : Nat) (f8 : FuncId) (a9 : Array Value) (x11 : Int) (x12 : Int) (g13 : Nat) (h5 : Row st45 45 H (hp w) F4 A2 c3 x1) (b7 : w.heap[g6]? = some (.cells #[.slice A2 x1.length c3] 25 (0, 0))) (h10 : SwOK Try.prog st45 45 f8 a9 A2 c3 x1.length) (b14 : w.heap[g13]? = some (.cells #[.int .i64 x12] 3 (0, 0))) (S : Own [F4, (is g6), (is g13)] H w) (r : Int × Int) (M : sort_medianAdjacent_func_2.f k x1 x11 x12 = some r) :
    Calls Try.prog 76 #[.agg #[.func (.func 48) #[] #[.pointer (some ⟨g6, 0, none⟩)], .func (.func f8) #[] a9], .int .i64 x11, .pointer (some ⟨g13, 0, none⟩)] w (fun e e_w => ∃ (H_ : Hp), e = .returned (.int .i64 r.1) ∧ Row st45 45 H_ (hp e_w) F4 A2 c3 x1 ∧ e_w.heap[g6]? = some (.cells #[.slice A2 x1.length c3] 25 (0, 0)) ∧ e_w.heap[g13]? = some (.cells #[.int .i64 r.2] 3 (0, 0)) ∧ St (anyOf [F4, (is g6), (is g13)]) H w [F4, (is g6), (is g13)] H_ e_w) := by
  rw [sort_medianAdjacent_func_2.f] at M
  refine enter (l := [.agg #[.func (.func 48) #[] #[.pointer (some ⟨g6, 0, none⟩)], .func (.func f8) #[] a9], .int .i64 x11, .pointer (some ⟨g13, 0, none⟩)]) 15 Try.func76 rfl rfl rfl ?_
  have S0_ := S.st
  refine wp_seq ?_
  refine wp_region_lit ?_
  refine lve (d := 3) rfl rfl (by kernel_rfl) (new_blk (v := fun g_ => .pointer (some ⟨g_, 0, none⟩)) (cs := #[.func (.func 48) #[] #[.pointer (some ⟨g6, 0, none⟩)], .func (.func f8) #[] a9]) (t := 78) S0_ (by kernel_rfl)) ?_
  rintro _ w15 ⟨g16, rfl, b17, S18, K19⟩
  replace h5 := h5.move (K19.at 0 rfl)
  replace b7 := K19.blk 1 rfl b7
  replace b14 := K19.blk 2 rfl b14
  refine lv (d := 6) rfl rfl (by kernel_rfl) (e_assign (v := .int .i64 0) rfl) ?_
  refine wpList_nil ?_
  refine then_n ?_
  refine wp_seq ?_
  refine wp_region_lit ?_
  refine lv (d := 7) rfl rfl (by kernel_rfl) (e_loadS (b := g16) (off := 0) (cs := [.func (.func 48) #[] #[.pointer (some ⟨g6, 0, none⟩)], .func (.func f8) #[] a9]) Try.underlying78 rfl (by kernel_rfl) (by kernel_rfl) (blk_cells b17 rfl)) ?_
  refine lv (d := 8) rfl rfl (by kernel_rfl) (e_move (v := .int .i64 x11) (by kernel_rfl)) ?_
  refine lv (d := 9) rfl rfl (by kernel_rfl) (e_sub (k := .i64) (a := x11) (b := 1) (by kernel_rfl) rfl) ?_
  refine lv (d := 10) rfl rfl (by kernel_rfl) (e_move (v := .int .i64 x11) (by kernel_rfl)) ?_
  refine lv (d := 11) rfl rfl (by kernel_rfl) (e_move (v := .int .i64 x11) (by kernel_rfl)) ?_
  refine lv (d := 12) rfl rfl (by kernel_rfl) (e_add (k := .i64) (a := x11) (b := 1) (by kernel_rfl) rfl) ?_
  refine lv (d := 13) rfl rfl (by kernel_rfl) (e_move (v := .pointer (some ⟨g13, 0, none⟩)) (by kernel_rfl)) ?_
  have S20 := S18.pull (F := (is g13)) (Fr := [(is g16), F4, (is g6)]) 3 rfl rfl
  have S21 := S20.pull (F := (is g6)) (Fr := [(is g13), (is g16), F4]) 3 rfl rfl
  have S22 := S21.pull (F := F4) (Fr := [(is g6), (is g13), (is g16)]) 3 rfl rfl
  obtain ⟨t23, u24, M⟩ := bnd M
  refine lcall (d := 14) rfl rfl (by kernel_rfl) (e_call (l := [.tmp 7, .tmp 9, .tmp 10, .tmp 12, .tmp 13]) (vs := [.agg #[.func (.func 48) #[] #[.pointer (some ⟨g6, 0, none⟩)], .func (.func f8) #[] a9], .int .i64 (IntKind.i64.wrap (x11 - 1)), .int .i64 x11, .int .i64 (IntKind.i64.wrap (x11 + 1)), .pointer (some ⟨g13, 0, none⟩)]) Try.func77 (by kernel_rfl) rfl (by kernel_rfl) rfl) (sort_median_func_2.calls k w15 H x1 A2 c3 F4 g6 f8 a9 (IntKind.i64.wrap (x11 - 1)) x11 (IntKind.i64.wrap (x11 + 1)) x12 g13 h5 b7 h10 b14 (St.own' (Fa := [F4, (is g6), (is g13)]) (Fr := [(is g16)]) S22) t23 u24) ?_
  rintro _ w25 ⟨H26, rfl, h28, b29, b30, T27⟩
  refine ⟨_, rfl, ?_⟩
  obtain ⟨S31, K32⟩ := St.call (Fa := [F4, (is g6), (is g13)]) (Fr := [(is g16)]) S22 T27
  replace b17 := K32.blk 0 rfl b17
  have E33 := T27.ext
  refine lv (d := 6) rfl rfl (by kernel_rfl) (e_assign (v := .int .i64 t23.1) (by kernel_rfl)) ?_
  refine wpList_nil ?_
  refine then_n ?_
  refine wp_ret ?_
  obtain rfl := Option.some.inj M
  have S34 := S31.pull (F := (is g13)) (Fr := [F4, (is g6), (is g16)]) 2 rfl rfl
  have S35 := S34.pull (F := (is g6)) (Fr := [(is g13), F4, (is g16)]) 2 rfl rfl
  have S36 := S35.pull (F := F4) (Fr := [(is g6), (is g13), (is g16)]) 2 rfl rfl
  have S37 := St.first (Fa := [F4, (is g6), (is g13)]) (Fr := [(is g16)]) S36
  exact ret1 rfl rfl  (show _ = .int .i64 t23.1 from (by kernel_rfl)) ⟨H26, rfl, h28, b29, b30, S37⟩

/-! sort_choosePivot_func -/
def sort_choosePivot_func.l0 (k : Nat) (x1 : List Sy.Op) (x28 : Int) (x29 : Int) (x30 : Int) (x31 : Int) : Option (Int × Int) := ((sort_median_func_2.f k x1 x28 x29 x30 x31).bind fun t89 => (if t89.2 = 0 then some (t89.1, 1) else (if t89.2 = 12 then some (t89.1, 2) else some (t89.1, 0))))
def sort_choosePivot_func.f (k : Nat) (x1 : List Sy.Op) (x11 : Int) (x12 : Int) : Option (Int × Int) := (if (IntKind.i64.wrap (x12 - x11)) ≥ 8 then (if (IntKind.i64.wrap (x12 - x11)) ≥ 50 then ((sort_medianAdjacent_func_2.f k x1 (IntKind.i64.wrap (x11 + (IntKind.i64.wrap ((IntKind.i64.wrap (Int.tdiv (IntKind.i64.wrap (x12 - x11)) 4)) * 1)))) 0).bind fun t44 => ((sort_medianAdjacent_func_2.f k x1 (IntKind.i64.wrap (x11 + (IntKind.i64.wrap ((IntKind.i64.wrap (Int.tdiv (IntKind.i64.wrap (x12 - x11)) 4)) * 2)))) t44.2).bind fun t58 => ((sort_medianAdjacent_func_2.f k x1 (IntKind.i64.wrap (x11 + (IntKind.i64.wrap ((IntKind.i64.wrap (Int.tdiv (IntKind.i64.wrap (x12 - x11)) 4)) * 3)))) t58.2).bind fun t72 => (sort_choosePivot_func.l0 k x1 t44.1 t58.1 t72.1 t72.2)))) else (sort_choosePivot_func.l0 k x1 (IntKind.i64.wrap (x11 + (IntKind.i64.wrap ((IntKind.i64.wrap (Int.tdiv (IntKind.i64.wrap (x12 - x11)) 4)) * 1)))) (IntKind.i64.wrap (x11 + (IntKind.i64.wrap ((IntKind.i64.wrap (Int.tdiv (IntKind.i64.wrap (x12 - x11)) 4)) * 2)))) (IntKind.i64.wrap (x11 + (IntKind.i64.wrap ((IntKind.i64.wrap (Int.tdiv (IntKind.i64.wrap (x12 - x11)) 4)) * 3)))) 0)) else (if 0 = 0 then some ((IntKind.i64.wrap (x11 + (IntKind.i64.wrap ((IntKind.i64.wrap (Int.tdiv (IntKind.i64.wrap (x12 - x11)) 4)) * 2)))), 1) else (if 0 = 12 then some ((IntKind.i64.wrap (x11 + (IntKind.i64.wrap ((IntKind.i64.wrap (Int.tdiv (IntKind.i64.wrap (x12 - x11)) 4)) * 2)))), 2) else some ((IntKind.i64.wrap (x11 + (IntKind.i64.wrap ((IntKind.i64.wrap (Int.tdiv (IntKind.i64.wrap (x12 - x11)) 4)) * 2)))), 0))))
theorem sort_choosePivot_func.calls (k : Nat) (w : World) (H : Hp) (x1 : List Sy.Op) (A2 : Option Addr) (c3 : Nat) (F4 : Foot) (g6 : Nat) (f8 : FuncId) (a9 : Array Value) (x11 : Int) (x12 : Int) (h5 : Row st45 45 H (hp w) F4 A2 c3 x1) (b7 : w.heap[g6]? = some (.cells #[.slice A2 x1.length c3] 25 (0, 0))) (h10 : SwOK Try.prog st45 45 f8 a9 A2 c3 x1.length) (S : Own [F4, (is g6)] H w) (r : Int × Int) (M : sort_choosePivot_func.f k x1 x11 x12 = some r) :
    Calls Try.prog 68 #[.agg #[.func (.func 48) #[] #[.pointer (some ⟨g6, 0, none⟩)], .func (.func f8) #[] a9], .int .i64 x11, .int .i64 x12] w (fun e e_w => ∃ (H_ : Hp), e = .returned (.tuple #[.int .i64 r.1, .int .i64 r.2]) ∧ Row st45 45 H_ (hp e_w) F4 A2 c3 x1 ∧ e_w.heap[g6]? = some (.cells #[.slice A2 x1.length c3] 25 (0, 0)) ∧ St (anyOf [F4, (is g6)]) H w [F4, (is g6)] H_ e_w) := by
  rw [sort_choosePivot_func.f] at M
  refine enter (l := [.agg #[.func (.func 48) #[] #[.pointer (some ⟨g6, 0, none⟩)], .func (.func f8) #[] a9], .int .i64 x11, .int .i64 x12]) 57 Try.func68 rfl rfl rfl ?_
  have S0_ := S.st
  refine wp_seq ?_
  refine wp_region_lit ?_
  refine lve (d := 3) rfl rfl (by kernel_rfl) (new_blk (v := fun g_ => .pointer (some ⟨g_, 0, none⟩)) (cs := #[.func (.func 48) #[] #[.pointer (some ⟨g6, 0, none⟩)], .func (.func f8) #[] a9]) (t := 78) S0_ (by kernel_rfl)) ?_
  rintro _ w13 ⟨g14, rfl, b15, S16, K17⟩
  replace h5 := h5.move (K17.at 0 rfl)
  replace b7 := K17.blk 1 rfl b7
  refine lv (d := 6) rfl rfl (by kernel_rfl) (e_assign (v := .int .i64 0) rfl) ?_
  refine lv (d := 7) rfl rfl (by kernel_rfl) (e_assign (v := .int .i64 0) rfl) ?_
  refine wpList_nil ?_
  refine then_n ?_
  refine wp_seq ?_
  refine wp_region_lit ?_
  refine lv (d := 13) rfl rfl (by kernel_rfl) (e_move (v := .int .i64 x12) (by kernel_rfl)) ?_
  refine lv (d := 14) rfl rfl (by kernel_rfl) (e_move (v := .int .i64 x11) (by kernel_rfl)) ?_
  refine lv (d := 15) rfl rfl (by kernel_rfl) (e_sub (k := .i64) (a := x12) (b := x11) (by kernel_rfl) (by kernel_rfl)) ?_
  refine lv (d := 8) rfl rfl (by kernel_rfl) (e_assign (v := .int .i64 (IntKind.i64.wrap (x12 - x11))) (by kernel_rfl)) ?_
  refine wpList_nil ?_
  refine then_n ?_
  refine wp_seq ?_
  refine wp_region_lit ?_
  refine lve (d := 9) rfl rfl (by kernel_rfl) (new_blk (v := fun g_ => .pointer (some ⟨g_, 0, none⟩)) (cs := #[.int .i64 0]) (t := 3) S16 (by kernel_rfl)) ?_
  rintro _ w18 ⟨g19, rfl, b20, S21, K22⟩
  replace b15 := K22.blk 0 rfl b15
  replace h5 := h5.move (K22.at 1 rfl)
  replace b7 := K22.blk 2 rfl b7
  refine wpList_nil ?_
  refine then_n ?_
  refine wp_seq ?_
  refine wp_region_lit ?_
  refine lv (d := 16) rfl rfl (by kernel_rfl) (e_move (v := .int .i64 x11) (by kernel_rfl)) ?_
  refine lv (d := 17) rfl rfl (by kernel_rfl) (e_move (v := .int .i64 (IntKind.i64.wrap (x12 - x11))) (by kernel_rfl)) ?_
  refine lv (d := 18) rfl rfl (by kernel_rfl) (e_quo (k := .i64) (a := (IntKind.i64.wrap (x12 - x11))) (b := 4) (by kernel_rfl) rfl (by decide)) ?_
  refine lv (d := 19) rfl rfl (by kernel_rfl) (e_mul (k := .i64) (a := (IntKind.i64.wrap (Int.tdiv (IntKind.i64.wrap (x12 - x11)) 4))) (b := 1) (by kernel_rfl) rfl) ?_
  refine lv (d := 20) rfl rfl (by kernel_rfl) (e_add (k := .i64) (a := x11) (b := (IntKind.i64.wrap ((IntKind.i64.wrap (Int.tdiv (IntKind.i64.wrap (x12 - x11)) 4)) * 1))) (by kernel_rfl) (by kernel_rfl)) ?_
  refine lv (d := 10) rfl rfl (by kernel_rfl) (e_assign (v := .int .i64 (IntKind.i64.wrap (x11 + (IntKind.i64.wrap ((IntKind.i64.wrap (Int.tdiv (IntKind.i64.wrap (x12 - x11)) 4)) * 1))))) (by kernel_rfl)) ?_
  refine wpList_nil ?_
  refine then_n ?_
  refine wp_seq ?_
  refine wp_region_lit ?_
  refine lv (d := 21) rfl rfl (by kernel_rfl) (e_move (v := .int .i64 x11) (by kernel_rfl)) ?_
  refine lv (d := 22) rfl rfl (by kernel_rfl) (e_move (v := .int .i64 (IntKind.i64.wrap (x12 - x11))) (by kernel_rfl)) ?_
  refine lv (d := 23) rfl rfl (by kernel_rfl) (e_quo (k := .i64) (a := (IntKind.i64.wrap (x12 - x11))) (b := 4) (by kernel_rfl) rfl (by decide)) ?_
  refine lv (d := 24) rfl rfl (by kernel_rfl) (e_mul (k := .i64) (a := (IntKind.i64.wrap (Int.tdiv (IntKind.i64.wrap (x12 - x11)) 4))) (b := 2) (by kernel_rfl) rfl) ?_
  refine lv (d := 25) rfl rfl (by kernel_rfl) (e_add (k := .i64) (a := x11) (b := (IntKind.i64.wrap ((IntKind.i64.wrap (Int.tdiv (IntKind.i64.wrap (x12 - x11)) 4)) * 2))) (by kernel_rfl) (by kernel_rfl)) ?_
  refine lv (d := 11) rfl rfl (by kernel_rfl) (e_assign (v := .int .i64 (IntKind.i64.wrap (x11 + (IntKind.i64.wrap ((IntKind.i64.wrap (Int.tdiv (IntKind.i64.wrap (x12 - x11)) 4)) * 2))))) (by kernel_rfl)) ?_
  refine wpList_nil ?_
  refine then_n ?_
  refine wp_seq ?_
  refine wp_region_lit ?_
  refine lv (d := 26) rfl rfl (by kernel_rfl) (e_move (v := .int .i64 x11) (by kernel_rfl)) ?_
  refine lv (d := 27) rfl rfl (by kernel_rfl) (e_move (v := .int .i64 (IntKind.i64.wrap (x12 - x11))) (by kernel_rfl)) ?_
  refine lv (d := 28) rfl rfl (by kernel_rfl) (e_quo (k := .i64) (a := (IntKind.i64.wrap (x12 - x11))) (b := 4) (by kernel_rfl) rfl (by decide)) ?_
  refine lv (d := 29) rfl rfl (by kernel_rfl) (e_mul (k := .i64) (a := (IntKind.i64.wrap (Int.tdiv (IntKind.i64.wrap (x12 - x11)) 4))) (b := 3) (by kernel_rfl) rfl) ?_
  refine lv (d := 30) rfl rfl (by kernel_rfl) (e_add (k := .i64) (a := x11) (b := (IntKind.i64.wrap ((IntKind.i64.wrap (Int.tdiv (IntKind.i64.wrap (x12 - x11)) 4)) * 3))) (by kernel_rfl) (by kernel_rfl)) ?_
  refine lv (d := 12) rfl rfl (by kernel_rfl) (e_assign (v := .int .i64 (IntKind.i64.wrap (x11 + (IntKind.i64.wrap ((IntKind.i64.wrap (Int.tdiv (IntKind.i64.wrap (x12 - x11)) 4)) * 3))))) (by kernel_rfl)) ?_
  refine wpList_nil ?_
  refine then_n ?_
  refine wp_seq ?_
  refine wp_seq ?_
  refine wp_region_lit ?_
  refine lv (d := 31) rfl rfl (by kernel_rfl) (e_move (v := .int .i64 (IntKind.i64.wrap (x12 - x11))) (by kernel_rfl)) ?_
  refine lv (d := 32) rfl rfl (by kernel_rfl) (e_geq (k := .i64) (a := (IntKind.i64.wrap (x12 - x11))) (b := 8) (by kernel_rfl) rfl) ?_
  refine wpList_nil ?_
  refine then_n ?_
  by_cases q23 : (IntKind.i64.wrap (x12 - x11)) ≥ 8
  · replace M := ifp q23 M
    refine cond_t rfl (bt q23 (by kernel_rfl)) ?_
    refine wp_seq_cut (fun a40 w24 => ∃ (f25 : Nat → Value) (H26 : Hp) (x28 : Int) (x29 : Int) (x30 : Int) (x31 : Int), a40 = mk 57 f25 ∧ f25 3 = .pointer (some ⟨g14, 0, none⟩) ∧ f25 9 = .pointer (some ⟨g19, 0, none⟩) ∧ f25 10 = .int .i64 x28 ∧ f25 11 = .int .i64 x29 ∧ f25 12 = .int .i64 x30 ∧ w24.heap[g19]? = some (.cells #[.int .i64 x31] 3 (0, 0)) ∧ w24.heap[g14]? = some (.cells #[.func (.func 48) #[] #[.pointer (some ⟨g6, 0, none⟩)], .func (.func f8) #[] a9] 78 (0, 0)) ∧ Row st45 45 H26 (hp w24) F4 A2 c3 x1 ∧ w24.heap[g6]? = some (.cells #[.slice A2 x1.length c3] 25 (0, 0)) ∧ Ext H H26 ∧ St (anyOf [F4, (is g6)]) H w [(is g19), (is g14), F4, (is g6)] H26 w24 ∧ sort_choosePivot_func.l0 k x1 x28 x29 x30 x31 = some r) ?_ ?_
    · refine wp_seq ?_
      refine wp_region_lit ?_
      refine lv (d := 33) rfl rfl (by kernel_rfl) (e_move (v := .int .i64 (IntKind.i64.wrap (x12 - x11))) (by kernel_rfl)) ?_
      refine lv (d := 34) rfl rfl (by kernel_rfl) (e_geq (k := .i64) (a := (IntKind.i64.wrap (x12 - x11))) (b := 50) (by kernel_rfl) rfl) ?_
      refine wpList_nil ?_
      refine then_n ?_
      by_cases q41 : (IntKind.i64.wrap (x12 - x11)) ≥ 50
      · replace M := ifp q41 M
        refine cond_t rfl (bt q41 (by kernel_rfl)) ?_
        refine wp_seq ?_
        refine wp_region_lit ?_
        refine lv (d := 35) rfl rfl (by kernel_rfl) (e_loadS (b := g14) (off := 0) (cs := [.func (.func 48) #[] #[.pointer (some ⟨g6, 0, none⟩)], .func (.func f8) #[] a9]) Try.underlying78 rfl (by kernel_rfl) (by kernel_rfl) (blk_cells b15 rfl)) ?_
        refine lv (d := 36) rfl rfl (by kernel_rfl) (e_move (v := .int .i64 (IntKind.i64.wrap (x11 + (IntKind.i64.wrap ((IntKind.i64.wrap (Int.tdiv (IntKind.i64.wrap (x12 - x11)) 4)) * 1))))) (by kernel_rfl)) ?_
        have S42 := S21.pull (F := (is g6)) (Fr := [(is g19), (is g14), F4]) 3 rfl rfl
        have S43 := S42.pull (F := F4) (Fr := [(is g6), (is g19), (is g14)]) 3 rfl rfl
        obtain ⟨t44, u45, M⟩ := bnd M
        refine lcall (d := 37) rfl rfl (by kernel_rfl) (e_call (l := [.tmp 35, .tmp 36, .tmp 9]) (vs := [.agg #[.func (.func 48) #[] #[.pointer (some ⟨g6, 0, none⟩)], .func (.func f8) #[] a9], .int .i64 (IntKind.i64.wrap (x11 + (IntKind.i64.wrap ((IntKind.i64.wrap (Int.tdiv (IntKind.i64.wrap (x12 - x11)) 4)) * 1)))), .pointer (some ⟨g19, 0, none⟩)]) Try.func76 (by kernel_rfl) rfl (by kernel_rfl) rfl) (sort_medianAdjacent_func_2.calls k w18 H x1 A2 c3 F4 g6 f8 a9 (IntKind.i64.wrap (x11 + (IntKind.i64.wrap ((IntKind.i64.wrap (Int.tdiv (IntKind.i64.wrap (x12 - x11)) 4)) * 1)))) 0 g19 h5 b7 h10 b20 (St.own' (Fa := [F4, (is g6), (is g19)]) (Fr := [(is g14)]) S43) t44 u45) ?_
        rintro _ w46 ⟨H47, rfl, h49, b50, b51, T48⟩
        refine ⟨_, rfl, ?_⟩
        obtain ⟨S52, K53⟩ := St.call (Fa := [F4, (is g6), (is g19)]) (Fr := [(is g14)]) S43 T48
        replace b15 := K53.blk 0 rfl b15
        have E54 := T48.ext
        refine lv (d := 10) rfl rfl (by kernel_rfl) (e_assign (v := .int .i64 t44.1) (by kernel_rfl)) ?_
        refine wpList_nil ?_
        refine then_n ?_
        refine wp_seq ?_
        refine wp_region_lit ?_
        refine lv (d := 38) rfl rfl (by kernel_rfl) (e_loadS (b := g14) (off := 0) (cs := [.func (.func 48) #[] #[.pointer (some ⟨g6, 0, none⟩)], .func (.func f8) #[] a9]) Try.underlying78 rfl (by kernel_rfl) (by kernel_rfl) (blk_cells b15 rfl)) ?_
        refine lv (d := 39) rfl rfl (by kernel_rfl) (e_move (v := .int .i64 (IntKind.i64.wrap (x11 + (IntKind.i64.wrap ((IntKind.i64.wrap (Int.tdiv (IntKind.i64.wrap (x12 - x11)) 4)) * 2))))) (by kernel_rfl)) ?_
        have S55 := S52.pull (F := (is g19)) (Fr := [F4, (is g6), (is g14)]) 2 rfl rfl
        have S56 := S55.pull (F := (is g6)) (Fr := [(is g19), F4, (is g14)]) 2 rfl rfl
        have S57 := S56.pull (F := F4) (Fr := [(is g6), (is g19), (is g14)]) 2 rfl rfl
        obtain ⟨t58, u59, M⟩ := bnd M
        refine lcall (d := 40) rfl rfl (by kernel_rfl) (e_call (l := [.tmp 38, .tmp 39, .tmp 9]) (vs := [.agg #[.func (.func 48) #[] #[.pointer (some ⟨g6, 0, none⟩)], .func (.func f8) #[] a9], .int .i64 (IntKind.i64.wrap (x11 + (IntKind.i64.wrap ((IntKind.i64.wrap (Int.tdiv (IntKind.i64.wrap (x12 - x11)) 4)) * 2)))), .pointer (some ⟨g19, 0, none⟩)]) Try.func76 (by kernel_rfl) rfl (by kernel_rfl) rfl) (sort_medianAdjacent_func_2.calls k w46 H47 x1 A2 c3 F4 g6 f8 a9 (IntKind.i64.wrap (x11 + (IntKind.i64.wrap ((IntKind.i64.wrap (Int.tdiv (IntKind.i64.wrap (x12 - x11)) 4)) * 2)))) t44.2 g19 h49 b50 h10 b51 (St.own' (Fa := [F4, (is g6), (is g19)]) (Fr := [(is g14)]) S57) t58 u59) ?_
        rintro _ w60 ⟨H61, rfl, h63, b64, b65, T62⟩
        refine ⟨_, rfl, ?_⟩
        obtain ⟨S66, K67⟩ := St.call (Fa := [F4, (is g6), (is g19)]) (Fr := [(is g14)]) S57 T62
        replace b15 := K67.blk 0 rfl b15
        have E68 := T62.ext
        refine lv (d := 11) rfl rfl (by kernel_rfl) (e_assign (v := .int .i64 t58.1) (by kernel_rfl)) ?_
        refine wpList_nil ?_
        refine then_n ?_
        refine wp_region_lit ?_
        refine lv (d := 41) rfl rfl (by kernel_rfl) (e_loadS (b := g14) (off := 0) (cs := [.func (.func 48) #[] #[.pointer (some ⟨g6, 0, none⟩)], .func (.func f8) #[] a9]) Try.underlying78 rfl (by kernel_rfl) (by kernel_rfl) (blk_cells b15 rfl)) ?_
        refine lv (d := 42) rfl rfl (by kernel_rfl) (e_move (v := .int .i64 (IntKind.i64.wrap (x11 + (IntKind.i64.wrap ((IntKind.i64.wrap (Int.tdiv (IntKind.i64.wrap (x12 - x11)) 4)) * 3))))) (by kernel_rfl)) ?_
        have S69 := S66.pull (F := (is g19)) (Fr := [F4, (is g6), (is g14)]) 2 rfl rfl
        have S70 := S69.pull (F := (is g6)) (Fr := [(is g19), F4, (is g14)]) 2 rfl rfl
        have S71 := S70.pull (F := F4) (Fr := [(is g6), (is g19), (is g14)]) 2 rfl rfl
        obtain ⟨t72, u73, M⟩ := bnd M
        refine lcall (d := 43) rfl rfl (by kernel_rfl) (e_call (l := [.tmp 41, .tmp 42, .tmp 9]) (vs := [.agg #[.func (.func 48) #[] #[.pointer (some ⟨g6, 0, none⟩)], .func (.func f8) #[] a9], .int .i64 (IntKind.i64.wrap (x11 + (IntKind.i64.wrap ((IntKind.i64.wrap (Int.tdiv (IntKind.i64.wrap (x12 - x11)) 4)) * 3)))), .pointer (some ⟨g19, 0, none⟩)]) Try.func76 (by kernel_rfl) rfl (by kernel_rfl) rfl) (sort_medianAdjacent_func_2.calls k w60 H61 x1 A2 c3 F4 g6 f8 a9 (IntKind.i64.wrap (x11 + (IntKind.i64.wrap ((IntKind.i64.wrap (Int.tdiv (IntKind.i64.wrap (x12 - x11)) 4)) * 3)))) t58.2 g19 h63 b64 h10 b65 (St.own' (Fa := [F4, (is g6), (is g19)]) (Fr := [(is g14)]) S71) t72 u73) ?_
        rintro _ w74 ⟨H75, rfl, h77, b78, b79, T76⟩
        refine ⟨_, rfl, ?_⟩
        obtain ⟨S80, K81⟩ := St.call (Fa := [F4, (is g6), (is g19)]) (Fr := [(is g14)]) S71 T76
        replace b15 := K81.blk 0 rfl b15
        have E82 := T76.ext
        refine lv (d := 12) rfl rfl (by kernel_rfl) (e_assign (v := .int .i64 t72.1) (by kernel_rfl)) ?_
        refine wpList_nil ?_
        refine then_n ?_
        have S83 := S80.pull (F := (is g6)) (Fr := [F4, (is g19), (is g14)]) 1 rfl rfl
        have S84 := S83.pull (F := F4) (Fr := [(is g6), (is g19), (is g14)]) 1 rfl rfl
        have S85 := S84.pull (F := (is g14)) (Fr := [F4, (is g6), (is g19)]) 3 rfl rfl
        have S86 := S85.pull (F := (is g19)) (Fr := [(is g14), F4, (is g6)]) 3 rfl rfl
        exact ⟨_, H75, t44.1, t58.1, t72.1, t72.2, rfl, (by kernel_rfl), (by kernel_rfl), (by kernel_rfl), (by kernel_rfl), (by kernel_rfl), b79, b15, h77, b78, ((E54.trans E68).trans E82), S86, M⟩
      replace M := ifn q41 M
      refine cond_f rfl (bf q41 (by kernel_rfl)) ?_
      refine wp_skip ?_
      refine then_n ?_
      exact ⟨_, H, (IntKind.i64.wrap (x11 + (IntKind.i64.wrap ((IntKind.i64.wrap (Int.tdiv (IntKind.i64.wrap (x12 - x11)) 4)) * 1)))), (IntKind.i64.wrap (x11 + (IntKind.i64.wrap ((IntKind.i64.wrap (Int.tdiv (IntKind.i64.wrap (x12 - x11)) 4)) * 2)))), (IntKind.i64.wrap (x11 + (IntKind.i64.wrap ((IntKind.i64.wrap (Int.tdiv (IntKind.i64.wrap (x12 - x11)) 4)) * 3)))), 0, rfl, (by kernel_rfl), (by kernel_rfl), (by kernel_rfl), (by kernel_rfl), (by kernel_rfl), b20, b15, h5, b7, (Ext.refl _), S21, M⟩
    clear M
    rintro a40 w24 ⟨f25, H26, x28, x29, x30, x31, rfl, e32, e33, e34, e35, e36, b20, b15, h5, b7, Y27, S37, M⟩
    rw [sort_choosePivot_func.l0] at M
    refine wp_region_lit ?_
    refine lv (d := 44) rfl rfl (by kernel_rfl) (e_loadS (b := g14) (off := 0) (cs := [.func (.func 48) #[] #[.pointer (some ⟨g6, 0, none⟩)], .func (.func f8) #[] a9]) Try.underlying78 rfl (by kernel_rfl) (by exact e32) (blk_cells b15 rfl)) ?_
    refine lv (d := 45) rfl rfl (by kernel_rfl) (e_move (v := .int .i64 x28) (by exact e34)) ?_
    refine lv (d := 46) rfl rfl (by kernel_rfl) (e_move (v := .int .i64 x29) (by exact e35)) ?_
    refine lv (d := 47) rfl rfl (by kernel_rfl) (e_move (v := .int .i64 x30) (by exact e36)) ?_
    have S87 := S37.pull (F := (is g6)) (Fr := [(is g19), (is g14), F4]) 3 rfl rfl
    have S88 := S87.pull (F := F4) (Fr := [(is g6), (is g19), (is g14)]) 3 rfl rfl
    obtain ⟨t89, u90, M⟩ := bnd M
    refine lcall (d := 48) rfl rfl (by kernel_rfl) (e_call (l := [.tmp 44, .tmp 45, .tmp 46, .tmp 47, .tmp 9]) (vs := [.agg #[.func (.func 48) #[] #[.pointer (some ⟨g6, 0, none⟩)], .func (.func f8) #[] a9], .int .i64 x28, .int .i64 x29, .int .i64 x30, .pointer (some ⟨g19, 0, none⟩)]) Try.func77 (by kernel_rfl) rfl (map_c (by kernel_rfl) (map_c (by kernel_rfl) (map_c (by kernel_rfl) (map_c (by kernel_rfl) (map_c (by exact e33) rfl))))) rfl) (sort_median_func_2.calls k w24 H26 x1 A2 c3 F4 g6 f8 a9 x28 x29 x30 x31 g19 h5 b7 h10 b20 (St.own' (Fa := [F4, (is g6), (is g19)]) (Fr := [(is g14)]) S88) t89 u90) ?_
    rintro _ w91 ⟨H92, rfl, h94, b95, b96, T93⟩
    refine ⟨_, rfl, ?_⟩
    obtain ⟨S97, K98⟩ := St.call (Fa := [F4, (is g6), (is g19)]) (Fr := [(is g14)]) S88 T93
    replace b15 := K98.blk 0 rfl b15
    have E99 := T93.ext
    refine lv (d := 11) rfl rfl (by kernel_rfl) (e_assign (v := .int .i64 t89.1) (by kernel_rfl)) ?_
    refine wpList_nil ?_
    refine then_n ?_
    refine wp_seq ?_
    refine wp_region_lit ?_
    refine lv (d := 49) rfl rfl (by kernel_rfl) (e_load1 (ad := ⟨g19, 0, none⟩) (v := .int .i64 t89.2) Try.underlying3 rfl (by exact e33) (blk_cell b96 rfl)) ?_
    refine wpList_nil ?_
    refine then_n ?_
    refine wp_block ?_
    refine wp_seq ?_
    refine wp_region_lit ?_
    refine lv (d := 52) rfl rfl (by kernel_rfl) (e_eql (k := .i64) (a := t89.2) (b := 0) (by kernel_rfl) rfl) ?_
    refine lv (d := 51) rfl rfl (by kernel_rfl) (e_assign (v := .bool (decide (t89.2 = 0))) (by kernel_rfl)) ?_
    refine wpList_nil ?_
    refine then_n ?_
    by_cases q100 : t89.2 = 0
    · replace M := ifp q100 M
      refine cond_t rfl (bt q100 (by kernel_rfl)) ?_
      refine wp_seq ?_
      refine wp_region_lit ?_
      refine lv (d := 53) rfl rfl (by kernel_rfl) (e_move (v := .int .i64 t89.1) (by kernel_rfl)) ?_
      refine lv (d := 6) rfl rfl (by kernel_rfl) (e_assign (v := .int .i64 t89.1) (by kernel_rfl)) ?_
      refine lv (d := 7) rfl rfl (by kernel_rfl) (e_assign (v := .int .i64 1) rfl) ?_
      refine wpList_nil ?_
      refine then_n ?_
      refine wp_ret ?_
      refine inb_r ?_
      obtain rfl := Option.some.inj M
      have S101 := S97.pull (F := (is g6)) (Fr := [F4, (is g19), (is g14)]) 1 rfl rfl
      have S102 := S101.pull (F := F4) (Fr := [(is g6), (is g19), (is g14)]) 1 rfl rfl
      have S103 := St.first (Fa := [F4, (is g6)]) (Fr := [(is g19), (is g14)]) S102
      exact ret2 rfl rfl rfl (show _ = .int .i64 t89.1 from (by kernel_rfl)) (show _ = .int .i64 1 from (by kernel_rfl)) ⟨H92, rfl, h94, b95, S103⟩
    replace M := ifn q100 M
    refine cond_f rfl (bf q100 (by kernel_rfl)) ?_
    refine wp_seq ?_
    refine wp_region_lit ?_
    refine lv (d := 55) rfl rfl (by kernel_rfl) (e_eql (k := .i64) (a := t89.2) (b := 12) (by kernel_rfl) rfl) ?_
    refine lv (d := 54) rfl rfl (by kernel_rfl) (e_assign (v := .bool (decide (t89.2 = 12))) (by kernel_rfl)) ?_
    refine wpList_nil ?_
    refine then_n ?_
    by_cases q104 : t89.2 = 12
    · replace M := ifp q104 M
      refine cond_t rfl (bt q104 (by kernel_rfl)) ?_
      refine wp_seq ?_
      refine wp_region_lit ?_
      refine lv (d := 56) rfl rfl (by kernel_rfl) (e_move (v := .int .i64 t89.1) (by kernel_rfl)) ?_
      refine lv (d := 6) rfl rfl (by kernel_rfl) (e_assign (v := .int .i64 t89.1) (by kernel_rfl)) ?_
      refine lv (d := 7) rfl rfl (by kernel_rfl) (e_assign (v := .int .i64 2) rfl) ?_
      refine wpList_nil ?_
      refine then_n ?_
      refine wp_ret ?_
      refine inb_r ?_
      obtain rfl := Option.some.inj M
      have S105 := S97.pull (F := (is g6)) (Fr := [F4, (is g19), (is g14)]) 1 rfl rfl
      have S106 := S105.pull (F := F4) (Fr := [(is g6), (is g19), (is g14)]) 1 rfl rfl
      have S107 := St.first (Fa := [F4, (is g6)]) (Fr := [(is g19), (is g14)]) S106
      exact ret2 rfl rfl rfl (show _ = .int .i64 t89.1 from (by kernel_rfl)) (show _ = .int .i64 2 from (by kernel_rfl)) ⟨H92, rfl, h94, b95, S107⟩
    replace M := ifn q104 M
    refine cond_f rfl (bf q104 (by kernel_rfl)) ?_
    refine wp_seq ?_
    refine wp_region_lit ?_
    refine lv (d := 50) rfl rfl (by kernel_rfl) (e_move (v := .int .i64 t89.1) (by kernel_rfl)) ?_
    refine lv (d := 6) rfl rfl (by kernel_rfl) (e_assign (v := .int .i64 t89.1) (by kernel_rfl)) ?_
    refine lv (d := 7) rfl rfl (by kernel_rfl) (e_assign (v := .int .i64 0) rfl) ?_
    refine wpList_nil ?_
    refine then_n ?_
    refine wp_ret ?_
    refine inb_r ?_
    obtain rfl := Option.some.inj M
    have S108 := S97.pull (F := (is g6)) (Fr := [F4, (is g19), (is g14)]) 1 rfl rfl
    have S109 := S108.pull (F := F4) (Fr := [(is g6), (is g19), (is g14)]) 1 rfl rfl
    have S110 := St.first (Fa := [F4, (is g6)]) (Fr := [(is g19), (is g14)]) S109
    exact ret2 rfl rfl rfl (show _ = .int .i64 t89.1 from (by kernel_rfl)) (show _ = .int .i64 0 from (by kernel_rfl)) ⟨H92, rfl, h94, b95, S110⟩
  replace M := ifn q23 M
  refine cond_f rfl (bf q23 (by kernel_rfl)) ?_
  refine wp_skip ?_
  refine then_n ?_
  refine wp_seq ?_
  refine wp_region_lit ?_
  refine lv (d := 49) rfl rfl (by kernel_rfl) (e_load1 (ad := ⟨g19, 0, none⟩) (v := .int .i64 0) Try.underlying3 rfl (by kernel_rfl) (blk_cell b20 rfl)) ?_
  refine wpList_nil ?_
  refine then_n ?_
  refine wp_block ?_
  refine wp_seq ?_
  refine wp_region_lit ?_
  refine lv (d := 52) rfl rfl (by kernel_rfl) (e_eql (k := .i64) (a := 0) (b := 0) (by kernel_rfl) rfl) ?_
  refine lv (d := 51) rfl rfl (by kernel_rfl) (e_assign (v := .bool (decide (0 = 0))) (by kernel_rfl)) ?_
  refine wpList_nil ?_
  refine then_n ?_
  by_cases q112 : 0 = 0
  · replace M := ifp q112 M
    refine cond_t rfl (bt q112 (by kernel_rfl)) ?_
    refine wp_seq ?_
    refine wp_region_lit ?_
    refine lv (d := 53) rfl rfl (by kernel_rfl) (e_move (v := .int .i64 (IntKind.i64.wrap (x11 + (IntKind.i64.wrap ((IntKind.i64.wrap (Int.tdiv (IntKind.i64.wrap (x12 - x11)) 4)) * 2))))) (by kernel_rfl)) ?_
    refine lv (d := 6) rfl rfl (by kernel_rfl) (e_assign (v := .int .i64 (IntKind.i64.wrap (x11 + (IntKind.i64.wrap ((IntKind.i64.wrap (Int.tdiv (IntKind.i64.wrap (x12 - x11)) 4)) * 2))))) (by kernel_rfl)) ?_
    refine lv (d := 7) rfl rfl (by kernel_rfl) (e_assign (v := .int .i64 1) rfl) ?_
    refine wpList_nil ?_
    refine then_n ?_
    refine wp_ret ?_
    refine inb_r ?_
    obtain rfl := Option.some.inj M
    have S113 := S21.pull (F := (is g6)) (Fr := [(is g19), (is g14), F4]) 3 rfl rfl
    have S114 := S113.pull (F := F4) (Fr := [(is g6), (is g19), (is g14)]) 3 rfl rfl
    have S115 := St.first (Fa := [F4, (is g6)]) (Fr := [(is g19), (is g14)]) S114
    exact ret2 rfl rfl rfl (show _ = .int .i64 (IntKind.i64.wrap (x11 + (IntKind.i64.wrap ((IntKind.i64.wrap (Int.tdiv (IntKind.i64.wrap (x12 - x11)) 4)) * 2)))) from (by kernel_rfl)) (show _ = .int .i64 1 from (by kernel_rfl)) ⟨H, rfl, h5, b7, S115⟩
  replace M := ifn q112 M
  refine cond_f rfl (bf q112 (by kernel_rfl)) ?_
  refine wp_seq ?_
  refine wp_region_lit ?_
  refine lv (d := 55) rfl rfl (by kernel_rfl) (e_eql (k := .i64) (a := 0) (b := 12) (by kernel_rfl) rfl) ?_
  refine lv (d := 54) rfl rfl (by kernel_rfl) (e_assign (v := .bool (decide (0 = 12))) (by kernel_rfl)) ?_
  refine wpList_nil ?_
  refine then_n ?_
  by_cases q116 : 0 = 12
  · replace M := ifp q116 M
    refine cond_t rfl (bt q116 (by kernel_rfl)) ?_
    refine wp_seq ?_
    refine wp_region_lit ?_
    refine lv (d := 56) rfl rfl (by kernel_rfl) (e_move (v := .int .i64 (IntKind.i64.wrap (x11 + (IntKind.i64.wrap ((IntKind.i64.wrap (Int.tdiv (IntKind.i64.wrap (x12 - x11)) 4)) * 2))))) (by kernel_rfl)) ?_
    refine lv (d := 6) rfl rfl (by kernel_rfl) (e_assign (v := .int .i64 (IntKind.i64.wrap (x11 + (IntKind.i64.wrap ((IntKind.i64.wrap (Int.tdiv (IntKind.i64.wrap (x12 - x11)) 4)) * 2))))) (by kernel_rfl)) ?_
    refine lv (d := 7) rfl rfl (by kernel_rfl) (e_assign (v := .int .i64 2) rfl) ?_
    refine wpList_nil ?_
    refine then_n ?_
    refine wp_ret ?_
    refine inb_r ?_
    obtain rfl := Option.some.inj M
    have S117 := S21.pull (F := (is g6)) (Fr := [(is g19), (is g14), F4]) 3 rfl rfl
    have S118 := S117.pull (F := F4) (Fr := [(is g6), (is g19), (is g14)]) 3 rfl rfl
    have S119 := St.first (Fa := [F4, (is g6)]) (Fr := [(is g19), (is g14)]) S118
    exact ret2 rfl rfl rfl (show _ = .int .i64 (IntKind.i64.wrap (x11 + (IntKind.i64.wrap ((IntKind.i64.wrap (Int.tdiv (IntKind.i64.wrap (x12 - x11)) 4)) * 2)))) from (by kernel_rfl)) (show _ = .int .i64 2 from (by kernel_rfl)) ⟨H, rfl, h5, b7, S119⟩
  replace M := ifn q116 M
  refine cond_f rfl (bf q116 (by kernel_rfl)) ?_
  refine wp_seq ?_
  refine wp_region_lit ?_
  refine lv (d := 50) rfl rfl (by kernel_rfl) (e_move (v := .int .i64 (IntKind.i64.wrap (x11 + (IntKind.i64.wrap ((IntKind.i64.wrap (Int.tdiv (IntKind.i64.wrap (x12 - x11)) 4)) * 2))))) (by kernel_rfl)) ?_
  refine lv (d := 6) rfl rfl (by kernel_rfl) (e_assign (v := .int .i64 (IntKind.i64.wrap (x11 + (IntKind.i64.wrap ((IntKind.i64.wrap (Int.tdiv (IntKind.i64.wrap (x12 - x11)) 4)) * 2))))) (by kernel_rfl)) ?_
  refine lv (d := 7) rfl rfl (by kernel_rfl) (e_assign (v := .int .i64 0) rfl) ?_
  refine wpList_nil ?_
  refine then_n ?_
  refine wp_ret ?_
  refine inb_r ?_
  obtain rfl := Option.some.inj M
  have S120 := S21.pull (F := (is g6)) (Fr := [(is g19), (is g14), F4]) 3 rfl rfl
  have S121 := S120.pull (F := F4) (Fr := [(is g6), (is g19), (is g14)]) 3 rfl rfl
  have S122 := St.first (Fa := [F4, (is g6)]) (Fr := [(is g19), (is g14)]) S121
  exact ret2 rfl rfl rfl (show _ = .int .i64 (IntKind.i64.wrap (x11 + (IntKind.i64.wrap ((IntKind.i64.wrap (Int.tdiv (IntKind.i64.wrap (x12 - x11)) 4)) * 2)))) from (by kernel_rfl)) (show _ = .int .i64 0 from (by kernel_rfl)) ⟨H, rfl, h5, b7, S122⟩

/-! sort_reverseRange_func -/
def sort_reverseRange_func.l0 : Nat → (List Sy.Op) → Int → Int → (List Sy.Op) → Option (List Sy.Op)
  | 0, _, _, _, _ => none
  | k33 + 1, x1, x20, x21, x23 => (if x20 < x21 then (if 0 ≤ x20 then (if x20 < (x1.length : Int) then (if 0 ≤ x21 then (if x21 < (x1.length : Int) then (sort_reverseRange_func.l0 k33 x1 (IntKind.i64.wrap (x20 + 1)) (IntKind.i64.wrap (x21 - 1)) (swL x23 (x20).toNat (x21).toNat)) else none) else none) else none) else none) else some x23)
def sort_reverseRange_func.f (k : Nat) (x1 : List Sy.Op) (x11 : Int) (x12 : Int) : Option (List Sy.Op) := (sort_reverseRange_func.l0 k x1 x11 (IntKind.i64.wrap (x12 - 1)) x1)
theorem sort_reverseRange_func.calls (k : Nat) (w : World) (H : Hp) (x1 : List Sy.Op) (A2 : Option Addr) (c3 : Nat) (F4 : Foot) (g6 : Nat) (f8 : FuncId) (a9 : Array Value) (x11 : Int) (x12 : Int) (h5 : Row st45 45 H (hp w) F4 A2 c3 x1) (b7 : w.heap[g6]? = some (.cells #[.slice A2 x1.length c3] 25 (0, 0))) (h10 : SwOK Try.prog st45 45 f8 a9 A2 c3 x1.length) (S : Own [F4, (is g6)] H w) (r : List Sy.Op) (M : sort_reverseRange_func.f k x1 x11 x12 = some r) :
    Calls Try.prog 69 #[.agg #[.func (.func 48) #[] #[.pointer (some ⟨g6, 0, none⟩)], .func (.func f8) #[] a9], .int .i64 x11, .int .i64 x12] w (fun e e_w => ∃ (F_1 : Foot) (H_ : Hp), e = .returned (.tuple #[]) ∧ r.length = x1.length ∧ Row st45 45 H_ (hp e_w) F_1 A2 c3 r ∧ e_w.heap[g6]? = some (.cells #[.slice A2 x1.length c3] 25 (0, 0)) ∧ St (anyOf [F4, (is g6)]) H w [F_1, (is g6)] H_ e_w) := by
  rw [sort_reverseRange_func.f] at M
  refine enter (l := [.agg #[.func (.func 48) #[] #[.pointer (some ⟨g6, 0, none⟩)], .func (.func f8) #[] a9], .int .i64 x11, .int .i64 x12]) 23 Try.func69 rfl rfl rfl ?_
  have S0_ := S.st
  refine wp_seq ?_
  refine wp_region_lit ?_
  refine lve (d := 3) rfl rfl (by kernel_rfl) (new_blk (v := fun g_ => .pointer (some ⟨g_, 0, none⟩)) (cs := #[.func (.func 48) #[] #[.pointer (some ⟨g6, 0, none⟩)], .func (.func f8) #[] a9]) (t := 78) S0_ (by kernel_rfl)) ?_
  rintro _ w13 ⟨g14, rfl, b15, S16, K17⟩
  replace h5 := h5.move (K17.at 0 rfl)
  replace b7 := K17.blk 1 rfl b7
  refine wpList_nil ?_
  refine then_n ?_
  refine wp_seq ?_
  refine wp_region_lit ?_
  refine lv (d := 8) rfl rfl (by kernel_rfl) (e_move (v := .int .i64 x11) (by kernel_rfl)) ?_
  refine lv (d := 6) rfl rfl (by kernel_rfl) (e_assign (v := .int .i64 x11) (by kernel_rfl)) ?_
  refine wpList_nil ?_
  refine then_n ?_
  refine wp_seq ?_
  refine wp_region_lit ?_
  refine lv (d := 9) rfl rfl (by kernel_rfl) (e_move (v := .int .i64 x12) (by kernel_rfl)) ?_
  refine lv (d := 10) rfl rfl (by kernel_rfl) (e_sub (k := .i64) (a := x12) (b := 1) (by kernel_rfl) rfl) ?_
  refine lv (d := 7) rfl rfl (by kernel_rfl) (e_assign (v := .int .i64 (IntKind.i64.wrap (x12 - 1))) (by kernel_rfl)) ?_
  refine wpList_nil ?_
  refine then_n ?_
  refine wp_block ?_
  refine wp_loop_g (fun k31 a32 w18 => ∃ (f19 : Nat → Value) (x20 : Int) (x21 : Int) (F22 : Foot) (x23 : List Sy.Op), a32 = mk 23 f19 ∧ f19 3 = .pointer (some ⟨g14, 0, none⟩) ∧ f19 6 = .int .i64 x20 ∧ f19 7 = .int .i64 x21 ∧ w18.heap[g14]? = some (.cells #[.func (.func 48) #[] #[.pointer (some ⟨g6, 0, none⟩)], .func (.func f8) #[] a9] 78 (0, 0)) ∧ Row st45 45 H (hp w18) F22 A2 c3 x23 ∧ w18.heap[g6]? = some (.cells #[.slice A2 x1.length c3] 25 (0, 0)) ∧ x23.length = x1.length ∧ St (anyOf [F4, (is g6)]) H w [(is g14), F22, (is g6)] H w18 ∧ sort_reverseRange_func.l0 k31 x1 x20 x21 x23 = some r) k ⟨_, x11, (IntKind.i64.wrap (x12 - 1)), F4, x1, rfl, (by kernel_rfl), (by kernel_rfl), (by kernel_rfl), b15, h5, b7, rfl, S16, M⟩ ?_
  clear M
  rintro k31 a32 w18 ⟨f19, x20, x21, F22, x23, rfl, e25, e26, e27, b15, h5, b7, n24, S28, M⟩
  rcases k31 with _ | k33
  · rw [sort_reverseRange_func.l0] at M
    cases M
  rw [sort_reverseRange_func.l0] at M
  refine wp_seq ?_
  refine wp_seq ?_
  refine wp_region_lit ?_
  refine lv (d := 11) rfl rfl (by kernel_rfl) (e_move (v := .int .i64 x20) (by exact e26)) ?_
  refine lv (d := 12) rfl rfl (by kernel_rfl) (e_move (v := .int .i64 x21) (by exact e27)) ?_
  refine lv (d := 13) rfl rfl (by kernel_rfl) (e_lss (k := .i64) (a := x20) (b := x21) (by kernel_rfl) (by kernel_rfl)) ?_
  refine wpList_nil ?_
  refine then_n ?_
  by_cases q34 : x20 < x21
  · replace M := ifp q34 M
    refine cond_t rfl (bt q34 (by kernel_rfl)) ?_
    refine wp_skip ?_
    refine then_n ?_
    refine wp_block ?_
    refine wp_seq ?_
    refine wp_region_lit ?_
    refine lv (d := 14) rfl rfl (by kernel_rfl) (e_fieldAddr (b := g14) (off := 0) (o := 1) Try.underlying78 rfl rfl (sz := 1) (by kernel_rfl) (by decide) (by exact e25)) ?_
    refine lv (d := 15) rfl rfl (by kernel_rfl) (e_load1 (ad := ⟨g14, 0 + 1, none⟩) (v := .func (.func f8) #[] a9) Try.underlying72 rfl (by kernel_rfl) (blk_cell b15 rfl)) ?_
    refine lv (d := 16) rfl rfl (by kernel_rfl) (e_move (v := .int .i64 x20) (by exact e26)) ?_
    refine lv (d := 17) rfl rfl (by kernel_rfl) (e_move (v := .int .i64 x21) (by exact e27)) ?_
    obtain ⟨q35, M⟩ := chk M
    obtain ⟨q36, M⟩ := chk M
    obtain ⟨q37, M⟩ := chk M
    obtain ⟨q38, M⟩ := chk M
    have S39 := S28.pull (F := F22) (Fr := [(is g14), (is g6)]) 1 rfl rfl
    refine lve (d := 18) rfl rfl (by kernel_rfl) (e_swap (a := x20) (b := x21) S39 h5 n24 h10 (by kernel_rfl) (by kernel_rfl) (by kernel_rfl) q35 q36 q37 q38) ?_
    rintro _ w40 ⟨rfl, h41, S42, K43⟩
    replace b15 := K43.blk 0 rfl b15
    replace b7 := K43.blk 1 rfl b7
    clear h5
    refine wpList_nil ?_
    refine then_n ?_
    refine wp_seq ?_
    refine wp_region_lit ?_
    refine lv (d := 19) rfl rfl (by kernel_rfl) (e_move (v := .int .i64 x20) (by exact e26)) ?_
    refine lv (d := 20) rfl rfl (by kernel_rfl) (e_add (k := .i64) (a := x20) (b := 1) (by kernel_rfl) rfl) ?_
    refine lv (d := 6) rfl rfl (by kernel_rfl) (e_assign (v := .int .i64 (IntKind.i64.wrap (x20 + 1))) (by kernel_rfl)) ?_
    refine wpList_nil ?_
    refine then_n ?_
    refine wp_region_lit ?_
    refine lv (d := 21) rfl rfl (by kernel_rfl) (e_move (v := .int .i64 x21) (by exact e27)) ?_
    refine lv (d := 22) rfl rfl (by kernel_rfl) (e_sub (k := .i64) (a := x21) (b := 1) (by kernel_rfl) rfl) ?_
    refine lv (d := 7) rfl rfl (by kernel_rfl) (e_assign (v := .int .i64 (IntKind.i64.wrap (x21 - 1))) (by kernel_rfl)) ?_
    refine wpList_nil ?_
    refine inb_n ?_
    refine then_n ?_
    have S44 := S42.pull (F := (is g6)) (Fr := [F22, (is g14)]) 2 rfl rfl
    have S45 := S44.pull (F := F22) (Fr := [(is g6), (is g14)]) 1 rfl rfl
    have S46 := S45.pull (F := (is g14)) (Fr := [F22, (is g6)]) 2 rfl rfl
    exact ⟨k33, (by omega), _, (IntKind.i64.wrap (x20 + 1)), (IntKind.i64.wrap (x21 - 1)), F22, (swL x23 (x20).toNat (x21).toNat), rfl, (by exact e25), (by kernel_rfl), (by kernel_rfl), b15, h41, b7, ((swL_len _ _ _).trans n24), S46, M⟩
  replace M := ifn q34 M
  refine cond_f rfl (bf q34 (by kernel_rfl)) ?_
  refine wp_exit ?_
  refine then_e ?_
  refine then_e ?_
  refine inb_hit ?_
  obtain rfl := Option.some.inj M
  have S47 := S28.pull (F := (is g6)) (Fr := [(is g14), F22]) 2 rfl rfl
  have S48 := S47.pull (F := F22) (Fr := [(is g6), (is g14)]) 2 rfl rfl
  have S49 := St.first (Fa := [F22, (is g6)]) (Fr := [(is g14)]) S48
  exact end0 rfl ⟨F22, H, rfl, n24, h5, b7, S49⟩

/-! sort_partialInsertionSort_func -/
mutual
def sort_partialInsertionSort_func.l0 : Nat → (List Sy.Op) → Int → Int → Int → Int → (List Sy.Op) → Option (Bool × (List Sy.Op))
  | 0, _, _, _, _, _, _ => none
  | k35 + 1, x1, x11, x12, x20, x21, x23 => (if x21 < 5 then (sort_partialInsertionSort_func.l3 k35 x1 x11 x12 x21 x23 x20) else some (false, x23))
def sort_partialInsertionSort_func.l1 : Nat → (List Sy.Op) → Int → Int → Int → Int → (List Sy.Op) → Option (Bool × (List Sy.Op))
  | 0, _, _, _, _, _, _ => none
  | k52 + 1, x1, x11, x12, x21, x39, x41 => (sort_partialInsertionSort_func.l0 k52 x1 x11 x12 x39 (IntKind.i64.wrap (x21 + 1)) x41)
def sort_partialInsertionSort_func.l2 : Nat → (List Sy.Op) → Int → Int → Int → (List Sy.Op) → Int → Option (Bool × (List Sy.Op))
  | 0, _, _, _, _, _, _ => none
  | k66 + 1, x1, x11, x12, x21, x23, x56 => (if x56 = x12 then some (true, x23) else (if (IntKind.i64.wrap (x12 - x11)) < 50 then some (false, x23) else (if 0 ≤ x56 then (if x56 < (x1.length : Int) then (if 0 ≤ (IntKind.i64.wrap (x56 - 1)) then (if (IntKind.i64.wrap (x56 - 1)) < (x1.length : Int) then (if (IntKind.i64.wrap (x56 - x11)) ≥ 2 then (sort_partialInsertionSort_func.l5 k66 x1 x11 x12 x21 x56 (IntKind.i64.wrap (x56 - 1)) (swL x23 (x56).toNat ((IntKind.i64.wrap (x56 - 1))).toNat)) else (sort_partialInsertionSort_func.l4 k66 x1 x11 x12 x21 x56 (swL x23 (x56).toNat ((IntKind.i64.wrap (x56 - 1))).toNat))) else none) else none) else none) else none)))
def sort_partialInsertionSort_func.l3 : Nat → (List Sy.Op) → Int → Int → Int → (List Sy.Op) → Int → Option (Bool × (List Sy.Op))
  | 0, _, _, _, _, _, _ => none
  | k81 + 1, x1, x11, x12, x21, x23, x70 => (if x70 < x12 then ((impl_sortOps_c1.f x70 (IntKind.i64.wrap (x70 - 1)) x23).bind fun t83 => (if ¬ (t83 = true) then (sort_partialInsertionSort_func.l3 k81 x1 x11 x12 x21 x23 (IntKind.i64.wrap (x70 + 1))) else (sort_partialInsertionSort_func.l2 k81 x1 x11 x12 x21 x23 x70))) else (sort_partialInsertionSort_func.l2 k81 x1 x11 x12 x21 x23 x70))
def sort_partialInsertionSort_func.l4 : Nat → (List Sy.Op) → Int → Int → Int → Int → (List Sy.Op) → Option (Bool × (List Sy.Op))
  | 0, _, _, _, _, _, _ => none
  | k134 + 1, x1, x11, x12, x21, x56, x123 => (if (IntKind.i64.wrap (x12 - x56)) ≥ 2 then (sort_partialInsertionSort_func.l6 k134 x1 x11 x12 x21 x56 (IntKind.i64.wrap (x56 + 1)) x123) else (sort_partialInsertionSort_func.l1 k134 x1 x11 x12 x21 x56 x123))
def sort_partialInsertionSort_func.l5 : Nat → (List Sy.Op) → Int → Int → Int → Int → Int → (List Sy.Op) → Option (Bool × (List Sy.Op))
  | 0, _, _, _, _, _, _, _ => none
  | k154 + 1, x1, x11, x12, x21, x56, x139, x141 => (if x139 ≥ 1 then ((impl_sortOps_c1.f x139 (IntKind.i64.wrap (x139 - 1)) x141).bind fun t156 => (if ¬ (t156 = true) then (sort_partialInsertionSort_func.l4 k154 x1 x11 x12 x21 x56 x141) else (if 0 ≤ x139 then (if x139 < (x1.length : Int) then (if 0 ≤ (IntKind.i64.wrap (x139 - 1)) then (if (IntKind.i64.wrap (x139 - 1)) < (x1.length : Int) then (sort_partialInsertionSort_func.l5 k154 x1 x11 x12 x21 x56 (IntKind.i64.wrap (x139 - 1)) (swL x141 (x139).toNat ((IntKind.i64.wrap (x139 - 1))).toNat)) else none) else none) else none) else none))) else (sort_partialInsertionSort_func.l4 k154 x1 x11 x12 x21 x56 x141))
def sort_partialInsertionSort_func.l6 : Nat → (List Sy.Op) → Int → Int → Int → Int → Int → (List Sy.Op) → Option (Bool × (List Sy.Op))
  | 0, _, _, _, _, _, _, _ => none
  | k201 + 1, x1, x11, x12, x21, x56, x186, x188 => (if x186 < x12 then ((impl_sortOps_c1.f x186 (IntKind.i64.wrap (x186 - 1)) x188).bind fun t203 => (if ¬ (t203 = true) then (sort_partialInsertionSort_func.l1 k201 x1 x11 x12 x21 x56 x188) else (if 0 ≤ x186 then (if x186 < (x1.length : Int) then (if 0 ≤ (IntKind.i64.wrap (x186 - 1)) then (if (IntKind.i64.wrap (x186 - 1)) < (x1.length : Int) then (sort_partialInsertionSort_func.l6 k201 x1 x11 x12 x21 x56 (IntKind.i64.wrap (x186 + 1)) (swL x188 (x186).toNat ((IntKind.i64.wrap (x186 - 1))).toNat)) else none) else none) else none) else none))) else (sort_partialInsertionSort_func.l1 k201 x1 x11 x12 x21 x56 x188))
end
def sort_partialInsertionSort_func.f (k : Nat) (x1 : List Sy.Op) (x11 : Int) (x12 : Int) : Option (Bool × (List Sy.Op)) := (sort_partialInsertionSort_func.l0 k x1 x11 x12 (IntKind.i64.wrap (x11 + 1)) 0 x1)
theorem sort_partialInsertionSort_func.calls (k : Nat) (w : World) (H : Hp) (x1 : List Sy.Op) (A2 : Option Addr) (c3 : Nat) (F4 : Foot) (g6 : Nat) (f8 : FuncId) (a9 : Array Value) (x11 : Int) (x12 : Int) (h5 : Row st45 45 H (hp w) F4 A2 c3 x1) (b7 : w.heap[g6]? = some (.cells #[.slice A2 x1.length c3] 25 (0, 0))) (h10 : SwOK Try.prog st45 45 f8 a9 A2 c3 x1.length) (S : Own [F4, (is g6)] H w) (r : Bool × (List Sy.Op)) (M : sort_partialInsertionSort_func.f k x1 x11 x12 = some r) :
    Calls Try.prog 70 #[.agg #[.func (.func 48) #[] #[.pointer (some ⟨g6, 0, none⟩)], .func (.func f8) #[] a9], .int .i64 x11, .int .i64 x12] w (fun e e_w => ∃ (F_1 : Foot) (H_ : Hp), e = .returned (.bool r.1) ∧ r.2.length = x1.length ∧ Row st45 45 H_ (hp e_w) F_1 A2 c3 r.2 ∧ e_w.heap[g6]? = some (.cells #[.slice A2 x1.length c3] 25 (0, 0)) ∧ St (anyOf [F4, (is g6)]) H w [F_1, (is g6)] H_ e_w) := by
  rw [sort_partialInsertionSort_func.f] at M
  refine enter (l := [.agg #[.func (.func 48) #[] #[.pointer (some ⟨g6, 0, none⟩)], .func (.func f8) #[] a9], .int .i64 x11, .int .i64 x12]) 91 Try.func70 rfl rfl rfl ?_
  have S0_ := S.st
  refine wp_seq ?_
  refine wp_region_lit ?_
  refine lve (d := 3) rfl rfl (by kernel_rfl) (new_blk (v := fun g_ => .pointer (some ⟨g_, 0, none⟩)) (cs := #[.func (.func 48) #[] #[.pointer (some ⟨g6, 0, none⟩)], .func (.func f8) #[] a9]) (t := 78) S0_ (by kernel_rfl)) ?_
  rintro _ w13 ⟨g14, rfl, b15, S16, K17⟩
  replace h5 := h5.move (K17.at 0 rfl)
  replace b7 := K17.blk 1 rfl b7
  refine lv (d := 6) rfl rfl (by kernel_rfl) (e_assign (v := .bool false) rfl) ?_
  refine wpList_nil ?_
  refine then_n ?_
  refine wp_seq ?_
  refine wp_region_lit ?_
  refine lv (d := 11) rfl rfl (by kernel_rfl) (e_move (v := .int .i64 x11) (by kernel_rfl)) ?_
  refine lv (d := 12) rfl rfl (by kernel_rfl) (e_add (k := .i64) (a := x11) (b := 1) (by kernel_rfl) rfl) ?_
  refine lv (d := 7) rfl rfl (by kernel_rfl) (e_assign (v := .int .i64 (IntKind.i64.wrap (x11 + 1))) (by kernel_rfl)) ?_
  refine wpList_nil ?_
  refine then_n ?_
  refine wp_seq ?_
  refine wp_seq ?_
  refine wp_region_lit ?_
  refine lv (d := 8) rfl rfl (by kernel_rfl) (e_assign (v := .int .i64 0) rfl) ?_
  refine wpList_nil ?_
  refine then_n ?_
  refine wp_block ?_
  refine wp_loop_g (fun k33 a34 w18 => ∃ (f19 : Nat → Value) (x20 : Int) (x21 : Int) (F22 : Foot) (x23 : List Sy.Op), a34 = mk 91 f19 ∧ f19 1 = .int .i64 x11 ∧ f19 2 = .int .i64 x12 ∧ f19 3 = .pointer (some ⟨g14, 0, none⟩) ∧ f19 7 = .int .i64 x20 ∧ f19 8 = .int .i64 x21 ∧ w18.heap[g14]? = some (.cells #[.func (.func 48) #[] #[.pointer (some ⟨g6, 0, none⟩)], .func (.func f8) #[] a9] 78 (0, 0)) ∧ Row st45 45 H (hp w18) F22 A2 c3 x23 ∧ w18.heap[g6]? = some (.cells #[.slice A2 x1.length c3] 25 (0, 0)) ∧ x23.length = x1.length ∧ St (anyOf [F4, (is g6)]) H w [(is g14), F22, (is g6)] H w18 ∧ sort_partialInsertionSort_func.l0 k33 x1 x11 x12 x20 x21 x23 = some r) k ⟨_, (IntKind.i64.wrap (x11 + 1)), 0, F4, x1, rfl, (by kernel_rfl), (by kernel_rfl), (by kernel_rfl), (by kernel_rfl), (by kernel_rfl), b15, h5, b7, rfl, S16, M⟩ ?_
  clear M
  rintro k33 a34 w18 ⟨f19, x20, x21, F22, x23, rfl, e25, e26, e27, e28, e29, b15, h5, b7, n24, S30, M⟩
  rcases k33 with _ | k35
  · rw [sort_partialInsertionSort_func.l0] at M
    cases M
  rw [sort_partialInsertionSort_func.l0] at M
  refine wp_seq ?_
  refine wp_seq ?_
  refine wp_region_lit ?_
  refine lv (d := 13) rfl rfl (by kernel_rfl) (e_move (v := .int .i64 x21) (by exact e29)) ?_
  refine lv (d := 14) rfl rfl (by kernel_rfl) (e_lss (k := .i64) (a := x21) (b := 5) (by kernel_rfl) rfl) ?_
  refine wpList_nil ?_
  refine then_n ?_
  by_cases q36 : x21 < 5
  · replace M := ifp q36 M
    refine cond_t rfl (bt q36 (by kernel_rfl)) ?_
    refine wp_skip ?_
    refine then_n ?_
    refine wp_seq_cut (fun a51 w37 => ∃ (k53 : Nat), k53 ≤ k35 ∧ ∃ (f38 : Nat → Value) (x39 : Int) (F40 : Foot) (x41 : List Sy.Op), a51 = mk 91 f38 ∧ f38 1 = .int .i64 x11 ∧ f38 2 = .int .i64 x12 ∧ f38 3 = .pointer (some ⟨g14, 0, none⟩) ∧ f38 7 = .int .i64 x39 ∧ f38 8 = .int .i64 x21 ∧ w37.heap[g14]? = some (.cells #[.func (.func 48) #[] #[.pointer (some ⟨g6, 0, none⟩)], .func (.func f8) #[] a9] 78 (0, 0)) ∧ Row st45 45 H (hp w37) F40 A2 c3 x41 ∧ w37.heap[g6]? = some (.cells #[.slice A2 x1.length c3] 25 (0, 0)) ∧ x41.length = x1.length ∧ St (anyOf [F4, (is g6)]) H w [(is g14), F40, (is g6)] H w37 ∧ sort_partialInsertionSort_func.l1 k53 x1 x11 x12 x21 x39 x41 = some r) ?_ ?_
    · refine wp_block ?_
      refine wp_seq_cut (fun a65 w54 => ∃ (k67 : Nat), k67 ≤ k35 ∧ ∃ (f55 : Nat → Value) (x56 : Int), a65 = mk 91 f55 ∧ f55 1 = .int .i64 x11 ∧ f55 2 = .int .i64 x12 ∧ f55 3 = .pointer (some ⟨g14, 0, none⟩) ∧ f55 7 = .int .i64 x56 ∧ f55 8 = .int .i64 x21 ∧ w54.heap[g14]? = some (.cells #[.func (.func 48) #[] #[.pointer (some ⟨g6, 0, none⟩)], .func (.func f8) #[] a9] 78 (0, 0)) ∧ Row st45 45 H (hp w54) F22 A2 c3 x23 ∧ w54.heap[g6]? = some (.cells #[.slice A2 x1.length c3] 25 (0, 0)) ∧ St (anyOf [F4, (is g6)]) H w [(is g14), F22, (is g6)] H w54 ∧ sort_partialInsertionSort_func.l2 k67 x1 x11 x12 x21 x23 x56 = some r) ?_ ?_
      · refine wp_block ?_
        refine wp_loop_g (fun k79 a80 w68 => ∃ (f69 : Nat → Value) (x70 : Int), k79 ≤ k35 ∧ a80 = mk 91 f69 ∧ f69 1 = .int .i64 x11 ∧ f69 2 = .int .i64 x12 ∧ f69 3 = .pointer (some ⟨g14, 0, none⟩) ∧ f69 7 = .int .i64 x70 ∧ f69 8 = .int .i64 x21 ∧ w68.heap[g14]? = some (.cells #[.func (.func 48) #[] #[.pointer (some ⟨g6, 0, none⟩)], .func (.func f8) #[] a9] 78 (0, 0)) ∧ Row st45 45 H (hp w68) F22 A2 c3 x23 ∧ w68.heap[g6]? = some (.cells #[.slice A2 x1.length c3] 25 (0, 0)) ∧ St (anyOf [F4, (is g6)]) H w [(is g14), F22, (is g6)] H w68 ∧ sort_partialInsertionSort_func.l3 k79 x1 x11 x12 x21 x23 x70 = some r) k35 ⟨_, x20, (by omega), rfl, (by exact e25), (by exact e26), (by exact e27), (by exact e28), (by exact e29), b15, h5, b7, S30, M⟩ ?_
        clear M
        rintro k79 a80 w68 ⟨f69, x70, z78, rfl, e71, e72, e73, e74, e75, b15, h5, b7, S76, M⟩
        rcases k79 with _ | k81
        · rw [sort_partialInsertionSort_func.l3] at M
          cases M
        rw [sort_partialInsertionSort_func.l3] at M
        refine wp_seq ?_
        refine wp_seq ?_
        refine wp_region_lit ?_
        refine lv (d := 17) rfl rfl (by kernel_rfl) (e_move (v := .int .i64 x70) (by exact e74)) ?_
        refine lv (d := 18) rfl rfl (by kernel_rfl) (e_move (v := .int .i64 x12) (by exact e72)) ?_
        refine lv (d := 19) rfl rfl (by kernel_rfl) (e_lss (k := .i64) (a := x70) (b := x12) (by kernel_rfl) (by kernel_rfl)) ?_
        refine lv (d := 20) rfl rfl (by kernel_rfl) (e_move (v := .bool (decide (x70 < x12))) (by kernel_rfl)) ?_
        by_cases q82 : x70 < x12
        · replace M := ifp q82 M
          refine lvg (d := 21) (t := 20) rfl (by kernel_rfl) rfl (bt q82 (by kernel_rfl)) rfl (by kernel_rfl) (e_fieldAddr (b := g14) (off := 0) (o := 0) Try.underlying78 rfl rfl (sz := 1) (by kernel_rfl) (by decide) (by exact e73)) ?_
          refine lvg (d := 22) (t := 20) rfl (by kernel_rfl) rfl (bt q82 (by kernel_rfl)) rfl (by kernel_rfl) (e_load1 (ad := ⟨g14, 0 + 0, none⟩) (v := .func (.func 48) #[] #[.pointer (some ⟨g6, 0, none⟩)]) Try.underlying64 rfl (by kernel_rfl) (blk_cell b15 rfl)) ?_
          refine lvg (d := 23) (t := 20) rfl (by kernel_rfl) rfl (bt q82 (by kernel_rfl)) rfl (by kernel_rfl) (e_move (v := .int .i64 x70) (by exact e74)) ?_
          refine lvg (d := 24) (t := 20) rfl (by kernel_rfl) rfl (bt q82 (by kernel_rfl)) rfl (by kernel_rfl) (e_move (v := .int .i64 x70) (by exact e74)) ?_
          refine lvg (d := 25) (t := 20) rfl (by kernel_rfl) rfl (bt q82 (by kernel_rfl)) rfl (by kernel_rfl) (e_sub (k := .i64) (a := x70) (b := 1) (by kernel_rfl) rfl) ?_
          obtain ⟨t83, u84, M⟩ := bnd M
          refine lcallg (d := 26) (t := 20) rfl (by kernel_rfl) rfl (bt q82 (by kernel_rfl)) rfl (by kernel_rfl) (e_callv (l := [.tmp 23, .tmp 25]) (vs := [.int .i64 x70, .int .i64 (IntKind.i64.wrap (x70 - 1))]) (cs := [.pointer (some ⟨g6, 0, none⟩)]) Try.func48 (by kernel_rfl) rfl (by kernel_rfl) (by kernel_rfl)) (by have l85 := h5.le; have S86 := S76.pull (F := F22) (Fr := [(is g14), (is g6)]) 1 rfl rfl; obtain ⟨H87, S88, E89, h90, z91⟩ := S86.frzRow h5; have S92 := S88.pull (F := (is g6)) (Fr := [(is g14)]) 1 rfl rfl; obtain ⟨H93, S94, E95, h96, z97⟩ := S92.frzBlk b7; exact (by have q_ := (impl_sortOps_c1.calls w68 H93 x70 (IntKind.i64.wrap (x70 - 1)) x23 g6 A2 c3 (h90.ext E95) l85 (by rw [show x23.length = x1.length from n24]; exact h96) S94.own0 t83 u84); (try rw [(show x23.length = x1.length from n24)] at q_); exact q_)) ?_
          rintro _ w98 ⟨rfl, C99⟩
          refine ⟨_, rfl, ?_⟩
          obtain ⟨S100, K101⟩ := S76.still C99
          replace b15 := K101.blk 0 rfl b15
          replace h5 := h5.move (K101.at 1 rfl)
          replace b7 := K101.blk 2 rfl b7
          refine lvg (d := 27) (t := 20) rfl (by kernel_rfl) rfl (bt q82 (by kernel_rfl)) rfl (by kernel_rfl) (e_notv (c := t83) (by kernel_rfl)) ?_
          refine lv (d := 28) rfl rfl (by kernel_rfl) (e_pick_t (v := .bool (decide (¬ (t83 = true)))) (bt q82 (by kernel_rfl)) (by kernel_rfl)) ?_
          refine wpList_nil ?_
          refine then_n ?_
          by_cases q102 : ¬ (t83 = true)
          · replace M := ifp q102 M
            refine cond_t rfl (bt q102 (by kernel_rfl)) ?_
            refine wp_skip ?_
            refine then_n ?_
            refine wp_block ?_
            refine wp_region_lit ?_
            refine lv (d := 29) rfl rfl (by kernel_rfl) (e_move (v := .int .i64 x70) (by exact e74)) ?_
            refine lv (d := 30) rfl rfl (by kernel_rfl) (e_add (k := .i64) (a := x70) (b := 1) (by kernel_rfl) rfl) ?_
            refine lv (d := 7) rfl rfl (by kernel_rfl) (e_assign (v := .int .i64 (IntKind.i64.wrap (x70 + 1))) (by kernel_rfl)) ?_
            refine wpList_nil ?_
            refine inb_n ?_
            refine then_n ?_
            exact ⟨k81, (by omega), _, (IntKind.i64.wrap (x70 + 1)), (by omega), rfl, (by exact e71), (by exact e72), (by exact e73), (by kernel_rfl), (by exact e75), b15, h5, b7, S100, M⟩
          replace M := ifn q102 M
          refine cond_f rfl (bf q102 (by kernel_rfl)) ?_
          refine wp_exit ?_
          refine then_e ?_
          refine then_e ?_
          refine inb_hit ?_
          refine then_n ?_
          exact ⟨k81, (by omega), _, x70, rfl, (by exact e71), (by exact e72), (by exact e73), (by exact e74), (by exact e75), b15, h5, b7, S100, M⟩
        replace M := ifn q82 M
        refine lskip (t := 20) (c := false) rfl (by kernel_rfl) rfl (bf q82 (by kernel_rfl)) rfl rfl ?_
        refine lskip (t := 20) (c := false) rfl (by kernel_rfl) rfl (bf q82 (by kernel_rfl)) rfl rfl ?_
        refine lskip (t := 20) (c := false) rfl (by kernel_rfl) rfl (bf q82 (by kernel_rfl)) rfl rfl ?_
        refine lskip (t := 20) (c := false) rfl (by kernel_rfl) rfl (bf q82 (by kernel_rfl)) rfl rfl ?_
        refine lskip (t := 20) (c := false) rfl (by kernel_rfl) rfl (bf q82 (by kernel_rfl)) rfl rfl ?_
        refine lskip (t := 20) (c := false) rfl (by kernel_rfl) rfl (bf q82 (by kernel_rfl)) rfl rfl ?_
        refine lskip (t := 20) (c := false) rfl (by kernel_rfl) rfl (bf q82 (by kernel_rfl)) rfl rfl ?_
        refine lv (d := 28) rfl rfl (by kernel_rfl) (e_pick_f (v := .bool false) (bf q82 (by kernel_rfl)) rfl) ?_
        refine wpList_nil ?_
        refine then_n ?_
        refine cond_f rfl (by kernel_rfl) ?_
        refine wp_exit ?_
        refine then_e ?_
        refine then_e ?_
        refine inb_hit ?_
        refine then_n ?_
        exact ⟨k81, (by omega), _, x70, rfl, (by exact e71), (by exact e72), (by exact e73), (by exact e74), (by exact e75), b15, h5, b7, S76, M⟩
      clear M
      rintro a65 w54 ⟨k67, z240, f55, x56, rfl, e57, e58, e59, e60, e61, b15, h5, b7, S62, M⟩
      rcases k67 with _ | k66
      · rw [sort_partialInsertionSort_func.l2] at M
        cases M
      rw [sort_partialInsertionSort_func.l2] at M
      refine wp_seq ?_
      refine wp_seq ?_
      refine wp_region_lit ?_
      refine lv (d := 31) rfl rfl (by kernel_rfl) (e_move (v := .int .i64 x56) (by exact e60)) ?_
      refine lv (d := 32) rfl rfl (by kernel_rfl) (e_move (v := .int .i64 x12) (by exact e58)) ?_
      refine lv (d := 33) rfl rfl (by kernel_rfl) (e_eql (k := .i64) (a := x56) (b := x12) (by kernel_rfl) (by kernel_rfl)) ?_
      refine wpList_nil ?_
      refine then_n ?_
      by_cases q103 : x56 = x12
      · replace M := ifp q103 M
        refine cond_t rfl (bt q103 (by kernel_rfl)) ?_
        refine wp_seq ?_
        refine wp_region_lit ?_
        refine lv (d := 6) rfl rfl (by kernel_rfl) (e_assign (v := .bool true) rfl) ?_
        refine wpList_nil ?_
        refine then_n ?_
        refine wp_ret ?_
        refine then_r ?_
        refine inb_r ?_
        refine then_r ?_
        refine then_r ?_
        refine inb_r ?_
        refine then_r ?_
        obtain rfl := Option.some.inj M
        have S104 := S62.pull (F := (is g6)) (Fr := [(is g14), F22]) 2 rfl rfl
        have S105 := S104.pull (F := F22) (Fr := [(is g6), (is g14)]) 2 rfl rfl
        have S106 := St.first (Fa := [F22, (is g6)]) (Fr := [(is g14)]) S105
        exact ret1 rfl rfl  (show _ = .bool true from (by kernel_rfl)) ⟨F22, H, rfl, n24, h5, b7, S106⟩
      replace M := ifn q103 M
      refine cond_f rfl (bf q103 (by kernel_rfl)) ?_
      refine wp_skip ?_
      refine then_n ?_
      refine wp_seq ?_
      refine wp_seq ?_
      refine wp_region_lit ?_
      refine lv (d := 34) rfl rfl (by kernel_rfl) (e_move (v := .int .i64 x12) (by exact e58)) ?_
      refine lv (d := 35) rfl rfl (by kernel_rfl) (e_move (v := .int .i64 x11) (by exact e57)) ?_
      refine lv (d := 36) rfl rfl (by kernel_rfl) (e_sub (k := .i64) (a := x12) (b := x11) (by kernel_rfl) (by kernel_rfl)) ?_
      refine lv (d := 37) rfl rfl (by kernel_rfl) (e_lss (k := .i64) (a := (IntKind.i64.wrap (x12 - x11))) (b := 50) (by kernel_rfl) rfl) ?_
      refine wpList_nil ?_
      refine then_n ?_
      by_cases q107 : (IntKind.i64.wrap (x12 - x11)) < 50
      · replace M := ifp q107 M
        refine cond_t rfl (bt q107 (by kernel_rfl)) ?_
        refine wp_seq ?_
        refine wp_region_lit ?_
        refine lv (d := 6) rfl rfl (by kernel_rfl) (e_assign (v := .bool false) rfl) ?_
        refine wpList_nil ?_
        refine then_n ?_
        refine wp_ret ?_
        refine then_r ?_
        refine inb_r ?_
        refine then_r ?_
        refine then_r ?_
        refine inb_r ?_
        refine then_r ?_
        obtain rfl := Option.some.inj M
        have S108 := S62.pull (F := (is g6)) (Fr := [(is g14), F22]) 2 rfl rfl
        have S109 := S108.pull (F := F22) (Fr := [(is g6), (is g14)]) 2 rfl rfl
        have S110 := St.first (Fa := [F22, (is g6)]) (Fr := [(is g14)]) S109
        exact ret1 rfl rfl  (show _ = .bool false from (by kernel_rfl)) ⟨F22, H, rfl, n24, h5, b7, S110⟩
      replace M := ifn q107 M
      refine cond_f rfl (bf q107 (by kernel_rfl)) ?_
      refine wp_skip ?_
      refine then_n ?_
      refine wp_seq ?_
      refine wp_region_lit ?_
      refine lv (d := 38) rfl rfl (by kernel_rfl) (e_fieldAddr (b := g14) (off := 0) (o := 1) Try.underlying78 rfl rfl (sz := 1) (by kernel_rfl) (by decide) (by exact e59)) ?_
      refine lv (d := 39) rfl rfl (by kernel_rfl) (e_load1 (ad := ⟨g14, 0 + 1, none⟩) (v := .func (.func f8) #[] a9) Try.underlying72 rfl (by kernel_rfl) (blk_cell b15 rfl)) ?_
      refine lv (d := 40) rfl rfl (by kernel_rfl) (e_move (v := .int .i64 x56) (by exact e60)) ?_
      refine lv (d := 41) rfl rfl (by kernel_rfl) (e_move (v := .int .i64 x56) (by exact e60)) ?_
      refine lv (d := 42) rfl rfl (by kernel_rfl) (e_sub (k := .i64) (a := x56) (b := 1) (by kernel_rfl) rfl) ?_
      obtain ⟨q111, M⟩ := chk M
      obtain ⟨q112, M⟩ := chk M
      obtain ⟨q113, M⟩ := chk M
      obtain ⟨q114, M⟩ := chk M
      have S115 := S62.pull (F := F22) (Fr := [(is g14), (is g6)]) 1 rfl rfl
      refine lve (d := 43) rfl rfl (by kernel_rfl) (e_swap (a := x56) (b := (IntKind.i64.wrap (x56 - 1))) S115 h5 n24 h10 (by kernel_rfl) (by kernel_rfl) (by kernel_rfl) q111 q112 q113 q114) ?_
      rintro _ w116 ⟨rfl, h117, S118, K119⟩
      replace b15 := K119.blk 0 rfl b15
      replace b7 := K119.blk 1 rfl b7
      clear h5
      refine wpList_nil ?_
      refine then_n ?_
      refine wp_seq_cut (fun a133 w120 => ∃ (k135 : Nat), k135 ≤ k66 ∧ ∃ (f121 : Nat → Value) (F122 : Foot) (x123 : List Sy.Op), a133 = mk 91 f121 ∧ f121 1 = .int .i64 x11 ∧ f121 2 = .int .i64 x12 ∧ f121 3 = .pointer (some ⟨g14, 0, none⟩) ∧ f121 7 = .int .i64 x56 ∧ f121 8 = .int .i64 x21 ∧ Row st45 45 H (hp w120) F122 A2 c3 x123 ∧ w120.heap[g14]? = some (.cells #[.func (.func 48) #[] #[.pointer (some ⟨g6, 0, none⟩)], .func (.func f8) #[] a9] 78 (0, 0)) ∧ w120.heap[g6]? = some (.cells #[.slice A2 x1.length c3] 25 (0, 0)) ∧ x123.length = x1.length ∧ St (anyOf [F4, (is g6)]) H w [F122, (is g14), (is g6)] H w120 ∧ sort_partialInsertionSort_func.l4 k135 x1 x11 x12 x21 x56 x123 = some r) ?_ ?_
      · refine wp_seq ?_
        refine wp_region_lit ?_
        refine lv (d := 44) rfl rfl (by kernel_rfl) (e_move (v := .int .i64 x56) (by exact e60)) ?_
        refine lv (d := 45) rfl rfl (by kernel_rfl) (e_move (v := .int .i64 x11) (by exact e57)) ?_
        refine lv (d := 46) rfl rfl (by kernel_rfl) (e_sub (k := .i64) (a := x56) (b := x11) (by kernel_rfl) (by kernel_rfl)) ?_
        refine lv (d := 47) rfl rfl (by kernel_rfl) (e_geq (k := .i64) (a := (IntKind.i64.wrap (x56 - x11))) (b := 2) (by kernel_rfl) rfl) ?_
        refine wpList_nil ?_
        refine then_n ?_
        by_cases q136 : (IntKind.i64.wrap (x56 - x11)) ≥ 2
        · replace M := ifp q136 M
          refine cond_t rfl (bt q136 (by kernel_rfl)) ?_
          refine wp_seq ?_
          refine wp_region_lit ?_
          refine lv (d := 48) rfl rfl (by kernel_rfl) (e_move (v := .int .i64 x56) (by exact e60)) ?_
          refine lv (d := 49) rfl rfl (by kernel_rfl) (e_sub (k := .i64) (a := x56) (b := 1) (by kernel_rfl) rfl) ?_
          refine lv (d := 9) rfl rfl (by kernel_rfl) (e_assign (v := .int .i64 (IntKind.i64.wrap (x56 - 1))) (by kernel_rfl)) ?_
          refine wpList_nil ?_
          refine then_n ?_
          refine wp_block ?_
          refine wp_loop_g (fun k152 a153 w137 => ∃ (f138 : Nat → Value) (x139 : Int) (F140 : Foot) (x141 : List Sy.Op), k152 ≤ k66 ∧ a153 = mk 91 f138 ∧ f138 1 = .int .i64 x11 ∧ f138 2 = .int .i64 x12 ∧ f138 3 = .pointer (some ⟨g14, 0, none⟩) ∧ f138 7 = .int .i64 x56 ∧ f138 8 = .int .i64 x21 ∧ f138 9 = .int .i64 x139 ∧ Row st45 45 H (hp w137) F140 A2 c3 x141 ∧ w137.heap[g14]? = some (.cells #[.func (.func 48) #[] #[.pointer (some ⟨g6, 0, none⟩)], .func (.func f8) #[] a9] 78 (0, 0)) ∧ w137.heap[g6]? = some (.cells #[.slice A2 x1.length c3] 25 (0, 0)) ∧ x141.length = x1.length ∧ St (anyOf [F4, (is g6)]) H w [F140, (is g14), (is g6)] H w137 ∧ sort_partialInsertionSort_func.l5 k152 x1 x11 x12 x21 x56 x139 x141 = some r) k66 ⟨_, (IntKind.i64.wrap (x56 - 1)), F22, (swL x23 (x56).toNat ((IntKind.i64.wrap (x56 - 1))).toNat), (by omega), rfl, (by exact e57), (by exact e58), (by exact e59), (by exact e60), (by exact e61), (by kernel_rfl), h117, b15, b7, ((swL_len _ _ _).trans n24), S118, M⟩ ?_
          clear M
          rintro k152 a153 w137 ⟨f138, x139, F140, x141, z151, rfl, e143, e144, e145, e146, e147, e148, h117, b15, b7, n142, S149, M⟩
          rcases k152 with _ | k154
          · rw [sort_partialInsertionSort_func.l5] at M
            cases M
          rw [sort_partialInsertionSort_func.l5] at M
          refine wp_seq ?_
          refine wp_seq ?_
          refine wp_region_lit ?_
          refine lv (d := 50) rfl rfl (by kernel_rfl) (e_move (v := .int .i64 x139) (by exact e148)) ?_
          refine lv (d := 51) rfl rfl (by kernel_rfl) (e_geq (k := .i64) (a := x139) (b := 1) (by kernel_rfl) rfl) ?_
          refine wpList_nil ?_
          refine then_n ?_
          by_cases q155 : x139 ≥ 1
          · replace M := ifp q155 M
            refine cond_t rfl (bt q155 (by kernel_rfl)) ?_
            refine wp_skip ?_
            refine then_n ?_
            refine wp_seq ?_
            refine wp_block ?_
            refine wp_seq ?_
            refine wp_seq ?_
            refine wp_region_lit ?_
            refine lv (d := 54) rfl rfl (by kernel_rfl) (e_fieldAddr (b := g14) (off := 0) (o := 0) Try.underlying78 rfl rfl (sz := 1) (by kernel_rfl) (by decide) (by exact e145)) ?_
            refine lv (d := 55) rfl rfl (by kernel_rfl) (e_load1 (ad := ⟨g14, 0 + 0, none⟩) (v := .func (.func 48) #[] #[.pointer (some ⟨g6, 0, none⟩)]) Try.underlying64 rfl (by kernel_rfl) (blk_cell b15 rfl)) ?_
            refine lv (d := 56) rfl rfl (by kernel_rfl) (e_move (v := .int .i64 x139) (by exact e148)) ?_
            refine lv (d := 57) rfl rfl (by kernel_rfl) (e_move (v := .int .i64 x139) (by exact e148)) ?_
            refine lv (d := 58) rfl rfl (by kernel_rfl) (e_sub (k := .i64) (a := x139) (b := 1) (by kernel_rfl) rfl) ?_
            obtain ⟨t156, u157, M⟩ := bnd M
            refine lcall (d := 59) rfl rfl (by kernel_rfl) (e_callv (l := [.tmp 56, .tmp 58]) (vs := [.int .i64 x139, .int .i64 (IntKind.i64.wrap (x139 - 1))]) (cs := [.pointer (some ⟨g6, 0, none⟩)]) Try.func48 (by kernel_rfl) rfl (by kernel_rfl) (by kernel_rfl)) (by have l158 := h117.le; obtain ⟨H159, S160, E161, h162, z163⟩ := S149.frzRow h117; have S164 := S160.pull (F := (is g6)) (Fr := [(is g14)]) 1 rfl rfl; obtain ⟨H165, S166, E167, h168, z169⟩ := S164.frzBlk b7; exact (by have q_ := (impl_sortOps_c1.calls w137 H165 x139 (IntKind.i64.wrap (x139 - 1)) x141 g6 A2 c3 (h162.ext E167) l158 (by rw [show x141.length = x1.length from n142]; exact h168) S166.own0 t156 u157); (try rw [(show x141.length = x1.length from n142)] at q_); exact q_)) ?_
            rintro _ w170 ⟨rfl, C171⟩
            refine ⟨_, rfl, ?_⟩
            obtain ⟨S172, K173⟩ := S149.still C171
            replace h117 := h117.move (K173.at 0 rfl)
            replace b15 := K173.blk 1 rfl b15
            replace b7 := K173.blk 2 rfl b7
            refine lv (d := 60) rfl rfl (by kernel_rfl) (e_notv (c := t156) (by kernel_rfl)) ?_
            refine wpList_nil ?_
            refine then_n ?_
            by_cases q174 : ¬ (t156 = true)
            · replace M := ifp q174 M
              refine cond_t rfl (bt q174 (by kernel_rfl)) ?_
              refine wp_exit ?_
              refine then_e ?_
              refine inb_miss rfl ?_
              refine then_e ?_
              refine then_e ?_
              refine inb_hit ?_
              refine then_n ?_
              exact ⟨k154, (by omega), _, F140, x141, rfl, (by exact e143), (by exact e144), (by exact e145), (by exact e146), (by exact e147), h117, b15, b7, n142, S172, M⟩
            replace M := ifn q174 M
            refine cond_f rfl (bf q174 (by kernel_rfl)) ?_
            refine wp_skip ?_
            refine then_n ?_
            refine wp_region_lit ?_
            refine lv (d := 61) rfl rfl (by kernel_rfl) (e_fieldAddr (b := g14) (off := 0) (o := 1) Try.underlying78 rfl rfl (sz := 1) (by kernel_rfl) (by decide) (by exact e145)) ?_
            refine lv (d := 62) rfl rfl (by kernel_rfl) (e_load1 (ad := ⟨g14, 0 + 1, none⟩) (v := .func (.func f8) #[] a9) Try.underlying72 rfl (by kernel_rfl) (blk_cell b15 rfl)) ?_
            refine lv (d := 63) rfl rfl (by kernel_rfl) (e_move (v := .int .i64 x139) (by exact e148)) ?_
            refine lv (d := 64) rfl rfl (by kernel_rfl) (e_move (v := .int .i64 x139) (by exact e148)) ?_
            refine lv (d := 65) rfl rfl (by kernel_rfl) (e_sub (k := .i64) (a := x139) (b := 1) (by kernel_rfl) rfl) ?_
            obtain ⟨q175, M⟩ := chk M
            obtain ⟨q176, M⟩ := chk M
            obtain ⟨q177, M⟩ := chk M
            obtain ⟨q178, M⟩ := chk M
            refine lve (d := 66) rfl rfl (by kernel_rfl) (e_swap (a := x139) (b := (IntKind.i64.wrap (x139 - 1))) S172 h117 n142 h10 (by kernel_rfl) (by kernel_rfl) (by kernel_rfl) q175 q176 q177 q178) ?_
            rintro _ w179 ⟨rfl, h180, S181, K182⟩
            replace b15 := K182.blk 0 rfl b15
            replace b7 := K182.blk 1 rfl b7
            clear h117
            refine wpList_nil ?_
            refine inb_n ?_
            refine then_n ?_
            refine wp_region_lit ?_
            refine lv (d := 52) rfl rfl (by kernel_rfl) (e_move (v := .int .i64 x139) (by exact e148)) ?_
            refine lv (d := 53) rfl rfl (by kernel_rfl) (e_sub (k := .i64) (a := x139) (b := 1) (by kernel_rfl) rfl) ?_
            refine lv (d := 9) rfl rfl (by kernel_rfl) (e_assign (v := .int .i64 (IntKind.i64.wrap (x139 - 1))) (by kernel_rfl)) ?_
            refine wpList_nil ?_
            refine then_n ?_
            exact ⟨k154, (by omega), _, (IntKind.i64.wrap (x139 - 1)), F140, (swL x141 (x139).toNat ((IntKind.i64.wrap (x139 - 1))).toNat), (by omega), rfl, (by exact e143), (by exact e144), (by exact e145), (by exact e146), (by exact e147), (by kernel_rfl), h180, b15, b7, ((swL_len _ _ _).trans n142), S181, M⟩
          replace M := ifn q155 M
          refine cond_f rfl (bf q155 (by kernel_rfl)) ?_
          refine wp_exit ?_
          refine then_e ?_
          refine then_e ?_
          refine inb_hit ?_
          refine then_n ?_
          exact ⟨k154, (by omega), _, F140, x141, rfl, (by exact e143), (by exact e144), (by exact e145), (by exact e146), (by exact e147), h117, b15, b7, n142, S149, M⟩
        replace M := ifn q136 M
        refine cond_f rfl (bf q136 (by kernel_rfl)) ?_
        refine wp_skip ?_
        refine then_n ?_
        exact ⟨k66, (by omega), _, F22, (swL x23 (x56).toNat ((IntKind.i64.wrap (x56 - 1))).toNat), rfl, (by exact e57), (by exact e58), (by exact e59), (by exact e60), (by exact e61), h117, b15, b7, ((swL_len _ _ _).trans n24), S118, M⟩
      clear M
      rintro a133 w120 ⟨k135, z239, f121, F122, x123, rfl, e125, e126, e127, e128, e129, h117, b15, b7, n124, S130, M⟩
      rcases k135 with _ | k134
      · rw [sort_partialInsertionSort_func.l4] at M
        cases M
      rw [sort_partialInsertionSort_func.l4] at M
      refine wp_seq ?_
      refine wp_region_lit ?_
      refine lv (d := 67) rfl rfl (by kernel_rfl) (e_move (v := .int .i64 x12) (by exact e126)) ?_
      refine lv (d := 68) rfl rfl (by kernel_rfl) (e_move (v := .int .i64 x56) (by exact e128)) ?_
      refine lv (d := 69) rfl rfl (by kernel_rfl) (e_sub (k := .i64) (a := x12) (b := x56) (by kernel_rfl) (by kernel_rfl)) ?_
      refine lv (d := 70) rfl rfl (by kernel_rfl) (e_geq (k := .i64) (a := (IntKind.i64.wrap (x12 - x56))) (b := 2) (by kernel_rfl) rfl) ?_
      refine wpList_nil ?_
      refine then_n ?_
      by_cases q183 : (IntKind.i64.wrap (x12 - x56)) ≥ 2
      · replace M := ifp q183 M
        refine cond_t rfl (bt q183 (by kernel_rfl)) ?_
        refine wp_seq ?_
        refine wp_region_lit ?_
        refine lv (d := 71) rfl rfl (by kernel_rfl) (e_move (v := .int .i64 x56) (by exact e128)) ?_
        refine lv (d := 72) rfl rfl (by kernel_rfl) (e_add (k := .i64) (a := x56) (b := 1) (by kernel_rfl) rfl) ?_
        refine lv (d := 10) rfl rfl (by kernel_rfl) (e_assign (v := .int .i64 (IntKind.i64.wrap (x56 + 1))) (by kernel_rfl)) ?_
        refine wpList_nil ?_
        refine then_n ?_
        refine wp_block ?_
        refine wp_loop_g (fun k199 a200 w184 => ∃ (f185 : Nat → Value) (x186 : Int) (F187 : Foot) (x188 : List Sy.Op), k199 ≤ k134 ∧ a200 = mk 91 f185 ∧ f185 1 = .int .i64 x11 ∧ f185 2 = .int .i64 x12 ∧ f185 3 = .pointer (some ⟨g14, 0, none⟩) ∧ f185 7 = .int .i64 x56 ∧ f185 8 = .int .i64 x21 ∧ f185 10 = .int .i64 x186 ∧ Row st45 45 H (hp w184) F187 A2 c3 x188 ∧ w184.heap[g14]? = some (.cells #[.func (.func 48) #[] #[.pointer (some ⟨g6, 0, none⟩)], .func (.func f8) #[] a9] 78 (0, 0)) ∧ w184.heap[g6]? = some (.cells #[.slice A2 x1.length c3] 25 (0, 0)) ∧ x188.length = x1.length ∧ St (anyOf [F4, (is g6)]) H w [F187, (is g14), (is g6)] H w184 ∧ sort_partialInsertionSort_func.l6 k199 x1 x11 x12 x21 x56 x186 x188 = some r) k134 ⟨_, (IntKind.i64.wrap (x56 + 1)), F122, x123, (by omega), rfl, (by exact e125), (by exact e126), (by exact e127), (by exact e128), (by exact e129), (by kernel_rfl), h117, b15, b7, n124, S130, M⟩ ?_
        clear M
        rintro k199 a200 w184 ⟨f185, x186, F187, x188, z198, rfl, e190, e191, e192, e193, e194, e195, h117, b15, b7, n189, S196, M⟩
        rcases k199 with _ | k201
        · rw [sort_partialInsertionSort_func.l6] at M
          cases M
        rw [sort_partialInsertionSort_func.l6] at M
        refine wp_seq ?_
        refine wp_seq ?_
        refine wp_region_lit ?_
        refine lv (d := 73) rfl rfl (by kernel_rfl) (e_move (v := .int .i64 x186) (by exact e195)) ?_
        refine lv (d := 74) rfl rfl (by kernel_rfl) (e_move (v := .int .i64 x12) (by exact e191)) ?_
        refine lv (d := 75) rfl rfl (by kernel_rfl) (e_lss (k := .i64) (a := x186) (b := x12) (by kernel_rfl) (by kernel_rfl)) ?_
        refine wpList_nil ?_
        refine then_n ?_
        by_cases q202 : x186 < x12
        · replace M := ifp q202 M
          refine cond_t rfl (bt q202 (by kernel_rfl)) ?_
          refine wp_skip ?_
          refine then_n ?_
          refine wp_seq ?_
          refine wp_block ?_
          refine wp_seq ?_
          refine wp_seq ?_
          refine wp_region_lit ?_
          refine lv (d := 78) rfl rfl (by kernel_rfl) (e_fieldAddr (b := g14) (off := 0) (o := 0) Try.underlying78 rfl rfl (sz := 1) (by kernel_rfl) (by decide) (by exact e192)) ?_
          refine lv (d := 79) rfl rfl (by kernel_rfl) (e_load1 (ad := ⟨g14, 0 + 0, none⟩) (v := .func (.func 48) #[] #[.pointer (some ⟨g6, 0, none⟩)]) Try.underlying64 rfl (by kernel_rfl) (blk_cell b15 rfl)) ?_
          refine lv (d := 80) rfl rfl (by kernel_rfl) (e_move (v := .int .i64 x186) (by exact e195)) ?_
          refine lv (d := 81) rfl rfl (by kernel_rfl) (e_move (v := .int .i64 x186) (by exact e195)) ?_
          refine lv (d := 82) rfl rfl (by kernel_rfl) (e_sub (k := .i64) (a := x186) (b := 1) (by kernel_rfl) rfl) ?_
          obtain ⟨t203, u204, M⟩ := bnd M
          refine lcall (d := 83) rfl rfl (by kernel_rfl) (e_callv (l := [.tmp 80, .tmp 82]) (vs := [.int .i64 x186, .int .i64 (IntKind.i64.wrap (x186 - 1))]) (cs := [.pointer (some ⟨g6, 0, none⟩)]) Try.func48 (by kernel_rfl) rfl (by kernel_rfl) (by kernel_rfl)) (by have l205 := h117.le; obtain ⟨H206, S207, E208, h209, z210⟩ := S196.frzRow h117; have S211 := S207.pull (F := (is g6)) (Fr := [(is g14)]) 1 rfl rfl; obtain ⟨H212, S213, E214, h215, z216⟩ := S211.frzBlk b7; exact (by have q_ := (impl_sortOps_c1.calls w184 H212 x186 (IntKind.i64.wrap (x186 - 1)) x188 g6 A2 c3 (h209.ext E214) l205 (by rw [show x188.length = x1.length from n189]; exact h215) S213.own0 t203 u204); (try rw [(show x188.length = x1.length from n189)] at q_); exact q_)) ?_
          rintro _ w217 ⟨rfl, C218⟩
          refine ⟨_, rfl, ?_⟩
          obtain ⟨S219, K220⟩ := S196.still C218
          replace h117 := h117.move (K220.at 0 rfl)
          replace b15 := K220.blk 1 rfl b15
          replace b7 := K220.blk 2 rfl b7
          refine lv (d := 84) rfl rfl (by kernel_rfl) (e_notv (c := t203) (by kernel_rfl)) ?_
          refine wpList_nil ?_
          refine then_n ?_
          by_cases q221 : ¬ (t203 = true)
          · replace M := ifp q221 M
            refine cond_t rfl (bt q221 (by kernel_rfl)) ?_
            refine wp_exit ?_
            refine then_e ?_
            refine inb_miss rfl ?_
            refine then_e ?_
            refine then_e ?_
            refine inb_hit ?_
            refine inb_n ?_
            refine then_n ?_
            have S222 := S219.pull (F := (is g6)) (Fr := [F187, (is g14)]) 2 rfl rfl
            have S223 := S222.pull (F := F187) (Fr := [(is g6), (is g14)]) 1 rfl rfl
            have S224 := S223.pull (F := (is g14)) (Fr := [F187, (is g6)]) 2 rfl rfl
            exact ⟨k201, (by omega), _, x56, F187, x188, rfl, (by exact e190), (by exact e191), (by exact e192), (by exact e193), (by exact e194), b15, h117, b7, n189, S224, M⟩
          replace M := ifn q221 M
          refine cond_f rfl (bf q221 (by kernel_rfl)) ?_
          refine wp_skip ?_
          refine then_n ?_
          refine wp_region_lit ?_
          refine lv (d := 85) rfl rfl (by kernel_rfl) (e_fieldAddr (b := g14) (off := 0) (o := 1) Try.underlying78 rfl rfl (sz := 1) (by kernel_rfl) (by decide) (by exact e192)) ?_
          refine lv (d := 86) rfl rfl (by kernel_rfl) (e_load1 (ad := ⟨g14, 0 + 1, none⟩) (v := .func (.func f8) #[] a9) Try.underlying72 rfl (by kernel_rfl) (blk_cell b15 rfl)) ?_
          refine lv (d := 87) rfl rfl (by kernel_rfl) (e_move (v := .int .i64 x186) (by exact e195)) ?_
          refine lv (d := 88) rfl rfl (by kernel_rfl) (e_move (v := .int .i64 x186) (by exact e195)) ?_
          refine lv (d := 89) rfl rfl (by kernel_rfl) (e_sub (k := .i64) (a := x186) (b := 1) (by kernel_rfl) rfl) ?_
          obtain ⟨q225, M⟩ := chk M
          obtain ⟨q226, M⟩ := chk M
          obtain ⟨q227, M⟩ := chk M
          obtain ⟨q228, M⟩ := chk M
          refine lve (d := 90) rfl rfl (by kernel_rfl) (e_swap (a := x186) (b := (IntKind.i64.wrap (x186 - 1))) S219 h117 n189 h10 (by kernel_rfl) (by kernel_rfl) (by kernel_rfl) q225 q226 q227 q228) ?_
          rintro _ w229 ⟨rfl, h230, S231, K232⟩
          replace b15 := K232.blk 0 rfl b15
          replace b7 := K232.blk 1 rfl b7
          clear h117
          refine wpList_nil ?_
          refine inb_n ?_
          refine then_n ?_
          refine wp_region_lit ?_
          refine lv (d := 76) rfl rfl (by kernel_rfl) (e_move (v := .int .i64 x186) (by exact e195)) ?_
          refine lv (d := 77) rfl rfl (by kernel_rfl) (e_add (k := .i64) (a := x186) (b := 1) (by kernel_rfl) rfl) ?_
          refine lv (d := 10) rfl rfl (by kernel_rfl) (e_assign (v := .int .i64 (IntKind.i64.wrap (x186 + 1))) (by kernel_rfl)) ?_
          refine wpList_nil ?_
          refine then_n ?_
          exact ⟨k201, (by omega), _, (IntKind.i64.wrap (x186 + 1)), F187, (swL x188 (x186).toNat ((IntKind.i64.wrap (x186 - 1))).toNat), (by omega), rfl, (by exact e190), (by exact e191), (by exact e192), (by exact e193), (by exact e194), (by kernel_rfl), h230, b15, b7, ((swL_len _ _ _).trans n189), S231, M⟩
        replace M := ifn q202 M
        refine cond_f rfl (bf q202 (by kernel_rfl)) ?_
        refine wp_exit ?_
        refine then_e ?_
        refine then_e ?_
        refine inb_hit ?_
        refine inb_n ?_
        refine then_n ?_
        have S233 := S196.pull (F := (is g6)) (Fr := [F187, (is g14)]) 2 rfl rfl
        have S234 := S233.pull (F := F187) (Fr := [(is g6), (is g14)]) 1 rfl rfl
        have S235 := S234.pull (F := (is g14)) (Fr := [F187, (is g6)]) 2 rfl rfl
        exact ⟨k201, (by omega), _, x56, F187, x188, rfl, (by exact e190), (by exact e191), (by exact e192), (by exact e193), (by exact e194), b15, h117, b7, n189, S235, M⟩
      replace M := ifn q183 M
      refine cond_f rfl (bf q183 (by kernel_rfl)) ?_
      refine wp_skip ?_
      refine inb_n ?_
      refine then_n ?_
      have S236 := S130.pull (F := (is g6)) (Fr := [F122, (is g14)]) 2 rfl rfl
      have S237 := S236.pull (F := F122) (Fr := [(is g6), (is g14)]) 1 rfl rfl
      have S238 := S237.pull (F := (is g14)) (Fr := [F122, (is g6)]) 2 rfl rfl
      exact ⟨k134, (by omega), _, x56, F122, x123, rfl, (by exact e125), (by exact e126), (by exact e127), (by exact e128), (by exact e129), b15, h117, b7, n124, S238, M⟩
    clear M
    rintro a51 w37 ⟨k53, z241, f38, x39, F40, x41, rfl, e43, e44, e45, e46, e47, b15, h5, b7, n42, S48, M⟩
    rcases k53 with _ | k52
    · rw [sort_partialInsertionSort_func.l1] at M
      cases M
    rw [sort_partialInsertionSort_func.l1] at M
    refine wp_region_lit ?_
    refine lv (d := 15) rfl rfl (by kernel_rfl) (e_move (v := .int .i64 x21) (by exact e47)) ?_
    refine lv (d := 16) rfl rfl (by kernel_rfl) (e_add (k := .i64) (a := x21) (b := 1) (by kernel_rfl) rfl) ?_
    refine lv (d := 8) rfl rfl (by kernel_rfl) (e_assign (v := .int .i64 (IntKind.i64.wrap (x21 + 1))) (by kernel_rfl)) ?_
    refine wpList_nil ?_
    refine then_n ?_
    exact ⟨k52, (by omega), _, x39, (IntKind.i64.wrap (x21 + 1)), F40, x41, rfl, (by exact e43), (by exact e44), (by exact e45), (by exact e46), (by kernel_rfl), b15, h5, b7, n42, S48, M⟩
  replace M := ifn q36 M
  refine cond_f rfl (bf q36 (by kernel_rfl)) ?_
  refine wp_exit ?_
  refine then_e ?_
  refine then_e ?_
  refine inb_hit ?_
  refine then_n ?_
  refine wp_seq ?_
  refine wp_region_lit ?_
  refine lv (d := 6) rfl rfl (by kernel_rfl) (e_assign (v := .bool false) rfl) ?_
  refine wpList_nil ?_
  refine then_n ?_
  refine wp_ret ?_
  obtain rfl := Option.some.inj M
  have S242 := S30.pull (F := (is g6)) (Fr := [(is g14), F22]) 2 rfl rfl
  have S243 := S242.pull (F := F22) (Fr := [(is g6), (is g14)]) 2 rfl rfl
  have S244 := St.first (Fa := [F22, (is g6)]) (Fr := [(is g14)]) S243
  exact ret1 rfl rfl  (show _ = .bool false from (by kernel_rfl)) ⟨F22, H, rfl, n24, h5, b7, S244⟩

/-! sort_partitionEqual_func -/
mutual
def sort_partitionEqual_func.l0 : Nat → (List Sy.Op) → Int → Int → Int → (List Sy.Op) → Option (Int × (List Sy.Op))
  | 0, _, _, _, _, _ => none
  | k44 + 1, x1, x11, x30, x31, x33 => (sort_partitionEqual_func.l2 k44 x1 x11 x31 x33 x30)
def sort_partitionEqual_func.l1 : Nat → (List Sy.Op) → Int → Int → (List Sy.Op) → Int → Option (Int × (List Sy.Op))
  | 0, _, _, _, _, _ => none
  | k56 + 1, x1, x11, x31, x33, x47 => (sort_partitionEqual_func.l4 k56 x1 x11 x33 x47 x31)
def sort_partitionEqual_func.l2 : Nat → (List Sy.Op) → Int → Int → (List Sy.Op) → Int → Option (Int × (List Sy.Op))
  | 0, _, _, _, _, _ => none
  | k70 + 1, x1, x11, x31, x33, x60 => (if x60 ≤ x31 then ((impl_sortOps_c1.f x11 x60 x33).bind fun t72 => (if ¬ (t72 = true) then (sort_partitionEqual_func.l2 k70 x1 x11 x31 x33 (IntKind.i64.wrap (x60 + 1))) else (sort_partitionEqual_func.l1 k70 x1 x11 x31 x33 x60))) else (sort_partitionEqual_func.l1 k70 x1 x11 x31 x33 x60))
def sort_partitionEqual_func.l3 : Nat → (List Sy.Op) → Int → (List Sy.Op) → Int → Int → Option (Int × (List Sy.Op))
  | 0, _, _, _, _, _ => none
  | k102 + 1, x1, x11, x33, x47, x93 => (if x47 > x93 then some (x47, x33) else (if 0 ≤ x47 then (if x47 < (x1.length : Int) then (if 0 ≤ x93 then (if x93 < (x1.length : Int) then (sort_partitionEqual_func.l0 k102 x1 x11 (IntKind.i64.wrap (x47 + 1)) (IntKind.i64.wrap (x93 - 1)) (swL x33 (x47).toNat (x93).toNat)) else none) else none) else none) else none))
def sort_partitionEqual_func.l4 : Nat → (List Sy.Op) → Int → (List Sy.Op) → Int → Int → Option (Int × (List Sy.Op))
  | 0, _, _, _, _, _ => none
  | k116 + 1, x1, x11, x33, x47, x106 => (if x47 ≤ x106 then ((impl_sortOps_c1.f x11 x106 x33).bind fun t118 => (if t118 = true then (sort_partitionEqual_func.l4 k116 x1 x11 x33 x47 (IntKind.i64.wrap (x106 - 1))) else (sort_partitionEqual_func.l3 k116 x1 x11 x33 x47 x106))) else (sort_partitionEqual_func.l3 k116 x1 x11 x33 x47 x106))
end
def sort_partitionEqual_func.f (k : Nat) (x1 : List Sy.Op) (x11 : Int) (x12 : Int) (x13 : Int) : Option (Int × (List Sy.Op)) := (if 0 ≤ x11 then (if x11 < (x1.length : Int) then (if 0 ≤ x13 then (if x13 < (x1.length : Int) then (sort_partitionEqual_func.l0 k x1 x11 (IntKind.i64.wrap (x11 + 1)) (IntKind.i64.wrap (x12 - 1)) (swL x1 (x11).toNat (x13).toNat)) else none) else none) else none) else none)
theorem sort_partitionEqual_func.calls (k : Nat) (w : World) (H : Hp) (x1 : List Sy.Op) (A2 : Option Addr) (c3 : Nat) (F4 : Foot) (g6 : Nat) (f8 : FuncId) (a9 : Array Value) (x11 : Int) (x12 : Int) (x13 : Int) (h5 : Row st45 45 H (hp w) F4 A2 c3 x1) (b7 : w.heap[g6]? = some (.cells #[.slice A2 x1.length c3] 25 (0, 0))) (h10 : SwOK Try.prog st45 45 f8 a9 A2 c3 x1.length) (S : Own [F4, (is g6)] H w) (r : Int × (List Sy.Op)) (M : sort_partitionEqual_func.f k x1 x11 x12 x13 = some r) :
    Calls Try.prog 71 #[.agg #[.func (.func 48) #[] #[.pointer (some ⟨g6, 0, none⟩)], .func (.func f8) #[] a9], .int .i64 x11, .int .i64 x12, .int .i64 x13] w (fun e e_w => ∃ (F_1 : Foot) (H_ : Hp), e = .returned (.int .i64 r.1) ∧ r.2.length = x1.length ∧ Row st45 45 H_ (hp e_w) F_1 A2 c3 r.2 ∧ e_w.heap[g6]? = some (.cells #[.slice A2 x1.length c3] 25 (0, 0)) ∧ St (anyOf [F4, (is g6)]) H w [F_1, (is g6)] H_ e_w) := by
  rw [sort_partitionEqual_func.f] at M
  refine enter (l := [.agg #[.func (.func 48) #[] #[.pointer (some ⟨g6, 0, none⟩)], .func (.func f8) #[] a9], .int .i64 x11, .int .i64 x12, .int .i64 x13]) 58 Try.func71 rfl rfl rfl ?_
  have S0_ := S.st
  refine wp_seq ?_
  refine wp_region_lit ?_
  refine lve (d := 4) rfl rfl (by kernel_rfl) (new_blk (v := fun g_ => .pointer (some ⟨g_, 0, none⟩)) (cs := #[.func (.func 48) #[] #[.pointer (some ⟨g6, 0, none⟩)], .func (.func f8) #[] a9]) (t := 78) S0_ (by kernel_rfl)) ?_
  rintro _ w14 ⟨g15, rfl, b16, S17, K18⟩
  replace h5 := h5.move (K18.at 0 rfl)
  replace b7 := K18.blk 1 rfl b7
  refine lv (d := 8) rfl rfl (by kernel_rfl) (e_assign (v := .int .i64 0) rfl) ?_
  refine wpList_nil ?_
  refine then_n ?_
  refine wp_seq ?_
  refine wp_region_lit ?_
  refine lv (d := 11) rfl rfl (by kernel_rfl) (e_fieldAddr (b := g15) (off := 0) (o := 1) Try.underlying78 rfl rfl (sz := 1) (by kernel_rfl) (by decide) (by kernel_rfl)) ?_
  refine lv (d := 12) rfl rfl (by kernel_rfl) (e_load1 (ad := ⟨g15, 0 + 1, none⟩) (v := .func (.func f8) #[] a9) Try.underlying72 rfl (by kernel_rfl) (blk_cell b16 rfl)) ?_
  refine lv (d := 13) rfl rfl (by kernel_rfl) (e_move (v := .int .i64 x11) (by kernel_rfl)) ?_
  refine lv (d := 14) rfl rfl (by kernel_rfl) (e_move (v := .int .i64 x13) (by kernel_rfl)) ?_
  obtain ⟨q19, M⟩ := chk M
  obtain ⟨q20, M⟩ := chk M
  obtain ⟨q21, M⟩ := chk M
  obtain ⟨q22, M⟩ := chk M
  have S23 := S17.pull (F := F4) (Fr := [(is g15), (is g6)]) 1 rfl rfl
  refine lve (d := 15) rfl rfl (by kernel_rfl) (e_swap (a := x11) (b := x13) S23 h5 rfl h10 (by kernel_rfl) (by kernel_rfl) (by kernel_rfl) q19 q20 q21 q22) ?_
  rintro _ w24 ⟨rfl, h25, S26, K27⟩
  replace b16 := K27.blk 0 rfl b16
  replace b7 := K27.blk 1 rfl b7
  clear h5
  refine wpList_nil ?_
  refine then_n ?_
  refine wp_seq ?_
  refine wp_region_lit ?_
  refine lv (d := 16) rfl rfl (by kernel_rfl) (e_move (v := .int .i64 x11) (by kernel_rfl)) ?_
  refine lv (d := 17) rfl rfl (by kernel_rfl) (e_add (k := .i64) (a := x11) (b := 1) (by kernel_rfl) rfl) ?_
  refine lv (d := 18) rfl rfl (by kernel_rfl) (e_move (v := .int .i64 x12) (by kernel_rfl)) ?_
  refine lv (d := 19) rfl rfl (by kernel_rfl) (e_sub (k := .i64) (a := x12) (b := 1) (by kernel_rfl) rfl) ?_
  refine lv (d := 9) rfl rfl (by kernel_rfl) (e_assign (v := .int .i64 (IntKind.i64.wrap (x11 + 1))) (by kernel_rfl)) ?_
  refine lv (d := 10) rfl rfl (by kernel_rfl) (e_assign (v := .int .i64 (IntKind.i64.wrap (x12 - 1))) (by kernel_rfl)) ?_
  refine wpList_nil ?_
  refine then_n ?_
  refine wp_seq ?_
  refine wp_block ?_
  refine wp_loop_g (fun k42 a43 w28 => ∃ (f29 : Nat → Value) (x30 : Int) (x31 : Int) (F32 : Foot) (x33 : List Sy.Op), a43 = mk 58 f29 ∧ f29 1 = .int .i64 x11 ∧ f29 4 = .pointer (some ⟨g15, 0, none⟩) ∧ f29 9 = .int .i64 x30 ∧ f29 10 = .int .i64 x31 ∧ Row st45 45 H (hp w28) F32 A2 c3 x33 ∧ w28.heap[g15]? = some (.cells #[.func (.func 48) #[] #[.pointer (some ⟨g6, 0, none⟩)], .func (.func f8) #[] a9] 78 (0, 0)) ∧ w28.heap[g6]? = some (.cells #[.slice A2 x1.length c3] 25 (0, 0)) ∧ x33.length = x1.length ∧ St (anyOf [F4, (is g6)]) H w [F32, (is g15), (is g6)] H w28 ∧ sort_partitionEqual_func.l0 k42 x1 x11 x30 x31 x33 = some r) k ⟨_, (IntKind.i64.wrap (x11 + 1)), (IntKind.i64.wrap (x12 - 1)), F4, (swL x1 (x11).toNat (x13).toNat), rfl, (by kernel_rfl), (by kernel_rfl), (by kernel_rfl), (by kernel_rfl), h25, b16, b7, ((swL_len _ _ _).trans rfl), S26, M⟩ ?_
  clear M
  rintro k42 a43 w28 ⟨f29, x30, x31, F32, x33, rfl, e35, e36, e37, e38, h25, b16, b7, n34, S39, M⟩
  rcases k42 with _ | k44
  · rw [sort_partitionEqual_func.l0] at M
    cases M
  rw [sort_partitionEqual_func.l0] at M
  refine wp_block ?_
  refine wp_seq_cut (fun a55 w45 => ∃ (k57 : Nat), k57 ≤ k44 ∧ ∃ (f46 : Nat → Value) (x47 : Int), a55 = mk 58 f46 ∧ f46 1 = .int .i64 x11 ∧ f46 4 = .pointer (some ⟨g15, 0, none⟩) ∧ f46 9 = .int .i64 x47 ∧ f46 10 = .int .i64 x31 ∧ Row st45 45 H (hp w45) F32 A2 c3 x33 ∧ w45.heap[g15]? = some (.cells #[.func (.func 48) #[] #[.pointer (some ⟨g6, 0, none⟩)], .func (.func f8) #[] a9] 78 (0, 0)) ∧ w45.heap[g6]? = some (.cells #[.slice A2 x1.length c3] 25 (0, 0)) ∧ St (anyOf [F4, (is g6)]) H w [F32, (is g15), (is g6)] H w45 ∧ sort_partitionEqual_func.l1 k57 x1 x11 x31 x33 x47 = some r) ?_ ?_
  · refine wp_block ?_
    refine wp_loop_g (fun k68 a69 w58 => ∃ (f59 : Nat → Value) (x60 : Int), k68 ≤ k44 ∧ a69 = mk 58 f59 ∧ f59 1 = .int .i64 x11 ∧ f59 4 = .pointer (some ⟨g15, 0, none⟩) ∧ f59 9 = .int .i64 x60 ∧ f59 10 = .int .i64 x31 ∧ Row st45 45 H (hp w58) F32 A2 c3 x33 ∧ w58.heap[g15]? = some (.cells #[.func (.func 48) #[] #[.pointer (some ⟨g6, 0, none⟩)], .func (.func f8) #[] a9] 78 (0, 0)) ∧ w58.heap[g6]? = some (.cells #[.slice A2 x1.length c3] 25 (0, 0)) ∧ St (anyOf [F4, (is g6)]) H w [F32, (is g15), (is g6)] H w58 ∧ sort_partitionEqual_func.l2 k68 x1 x11 x31 x33 x60 = some r) k44 ⟨_, x30, (by omega), rfl, (by exact e35), (by exact e36), (by exact e37), (by exact e38), h25, b16, b7, S39, M⟩ ?_
    clear M
    rintro k68 a69 w58 ⟨f59, x60, z67, rfl, e61, e62, e63, e64, h25, b16, b7, S65, M⟩
    rcases k68 with _ | k70
    · rw [sort_partitionEqual_func.l2] at M
      cases M
    rw [sort_partitionEqual_func.l2] at M
    refine wp_seq ?_
    refine wp_seq ?_
    refine wp_region_lit ?_
    refine lv (d := 20) rfl rfl (by kernel_rfl) (e_move (v := .int .i64 x60) (by exact e63)) ?_
    refine lv (d := 21) rfl rfl (by kernel_rfl) (e_move (v := .int .i64 x31) (by exact e64)) ?_
    refine lv (d := 22) rfl rfl (by kernel_rfl) (e_leq (k := .i64) (a := x60) (b := x31) (by kernel_rfl) (by kernel_rfl)) ?_
    refine lv (d := 23) rfl rfl (by kernel_rfl) (e_move (v := .bool (decide (x60 ≤ x31))) (by kernel_rfl)) ?_
    by_cases q71 : x60 ≤ x31
    · replace M := ifp q71 M
      refine lvg (d := 24) (t := 23) rfl (by kernel_rfl) rfl (bt q71 (by kernel_rfl)) rfl (by kernel_rfl) (e_fieldAddr (b := g15) (off := 0) (o := 0) Try.underlying78 rfl rfl (sz := 1) (by kernel_rfl) (by decide) (by exact e62)) ?_
      refine lvg (d := 25) (t := 23) rfl (by kernel_rfl) rfl (bt q71 (by kernel_rfl)) rfl (by kernel_rfl) (e_load1 (ad := ⟨g15, 0 + 0, none⟩) (v := .func (.func 48) #[] #[.pointer (some ⟨g6, 0, none⟩)]) Try.underlying64 rfl (by kernel_rfl) (blk_cell b16 rfl)) ?_
      refine lvg (d := 26) (t := 23) rfl (by kernel_rfl) rfl (bt q71 (by kernel_rfl)) rfl (by kernel_rfl) (e_move (v := .int .i64 x11) (by exact e61)) ?_
      refine lvg (d := 27) (t := 23) rfl (by kernel_rfl) rfl (bt q71 (by kernel_rfl)) rfl (by kernel_rfl) (e_move (v := .int .i64 x60) (by exact e63)) ?_
      obtain ⟨t72, u73, M⟩ := bnd M
      refine lcallg (d := 28) (t := 23) rfl (by kernel_rfl) rfl (bt q71 (by kernel_rfl)) rfl (by kernel_rfl) (e_callv (l := [.tmp 26, .tmp 27]) (vs := [.int .i64 x11, .int .i64 x60]) (cs := [.pointer (some ⟨g6, 0, none⟩)]) Try.func48 (by kernel_rfl) rfl (by kernel_rfl) (by kernel_rfl)) (by have l74 := h25.le; obtain ⟨H75, S76, E77, h78, z79⟩ := S65.frzRow h25; have S80 := S76.pull (F := (is g6)) (Fr := [(is g15)]) 1 rfl rfl; obtain ⟨H81, S82, E83, h84, z85⟩ := S80.frzBlk b7; exact (by have q_ := (impl_sortOps_c1.calls w58 H81 x11 x60 x33 g6 A2 c3 (h78.ext E83) l74 (by rw [show x33.length = x1.length from n34]; exact h84) S82.own0 t72 u73); (try rw [(show x33.length = x1.length from n34)] at q_); exact q_)) ?_
      rintro _ w86 ⟨rfl, C87⟩
      refine ⟨_, rfl, ?_⟩
      obtain ⟨S88, K89⟩ := S65.still C87
      replace h25 := h25.move (K89.at 0 rfl)
      replace b16 := K89.blk 1 rfl b16
      replace b7 := K89.blk 2 rfl b7
      refine lvg (d := 29) (t := 23) rfl (by kernel_rfl) rfl (bt q71 (by kernel_rfl)) rfl (by kernel_rfl) (e_notv (c := t72) (by kernel_rfl)) ?_
      refine lv (d := 30) rfl rfl (by kernel_rfl) (e_pick_t (v := .bool (decide (¬ (t72 = true)))) (bt q71 (by kernel_rfl)) (by kernel_rfl)) ?_
      refine wpList_nil ?_
      refine then_n ?_
      by_cases q90 : ¬ (t72 = true)
      · replace M := ifp q90 M
        refine cond_t rfl (bt q90 (by kernel_rfl)) ?_
        refine wp_skip ?_
        refine then_n ?_
        refine wp_block ?_
        refine wp_region_lit ?_
        refine lv (d := 31) rfl rfl (by kernel_rfl) (e_move (v := .int .i64 x60) (by exact e63)) ?_
        refine lv (d := 32) rfl rfl (by kernel_rfl) (e_add (k := .i64) (a := x60) (b := 1) (by kernel_rfl) rfl) ?_
        refine lv (d := 9) rfl rfl (by kernel_rfl) (e_assign (v := .int .i64 (IntKind.i64.wrap (x60 + 1))) (by kernel_rfl)) ?_
        refine wpList_nil ?_
        refine inb_n ?_
        refine then_n ?_
        exact ⟨k70, (by omega), _, (IntKind.i64.wrap (x60 + 1)), (by omega), rfl, (by exact e61), (by exact e62), (by kernel_rfl), (by exact e64), h25, b16, b7, S88, M⟩
      replace M := ifn q90 M
      refine cond_f rfl (bf q90 (by kernel_rfl)) ?_
      refine wp_exit ?_
      refine then_e ?_
      refine then_e ?_
      refine inb_hit ?_
      refine then_n ?_
      exact ⟨k70, (by omega), _, x60, rfl, (by exact e61), (by exact e62), (by exact e63), (by exact e64), h25, b16, b7, S88, M⟩
    replace M := ifn q71 M
    refine lskip (t := 23) (c := false) rfl (by kernel_rfl) rfl (bf q71 (by kernel_rfl)) rfl rfl ?_
    refine lskip (t := 23) (c := false) rfl (by kernel_rfl) rfl (bf q71 (by kernel_rfl)) rfl rfl ?_
    refine lskip (t := 23) (c := false) rfl (by kernel_rfl) rfl (bf q71 (by kernel_rfl)) rfl rfl ?_
    refine lskip (t := 23) (c := false) rfl (by kernel_rfl) rfl (bf q71 (by kernel_rfl)) rfl rfl ?_
    refine lskip (t := 23) (c := false) rfl (by kernel_rfl) rfl (bf q71 (by kernel_rfl)) rfl rfl ?_
    refine lskip (t := 23) (c := false) rfl (by kernel_rfl) rfl (bf q71 (by kernel_rfl)) rfl rfl ?_
    refine lv (d := 30) rfl rfl (by kernel_rfl) (e_pick_f (v := .bool false) (bf q71 (by kernel_rfl)) rfl) ?_
    refine wpList_nil ?_
    refine then_n ?_
    refine cond_f rfl (by kernel_rfl) ?_
    refine wp_exit ?_
    refine then_e ?_
    refine then_e ?_
    refine inb_hit ?_
    refine then_n ?_
    exact ⟨k70, (by omega), _, x60, rfl, (by exact e61), (by exact e62), (by exact e63), (by exact e64), h25, b16, b7, S65, M⟩
  clear M
  rintro a55 w45 ⟨k57, z150, f46, x47, rfl, e48, e49, e50, e51, h25, b16, b7, S52, M⟩
  rcases k57 with _ | k56
  · rw [sort_partitionEqual_func.l1] at M
    cases M
  rw [sort_partitionEqual_func.l1] at M
  refine wp_seq_cut (fun a101 w91 => ∃ (k103 : Nat), k103 ≤ k56 ∧ ∃ (f92 : Nat → Value) (x93 : Int), a101 = mk 58 f92 ∧ f92 1 = .int .i64 x11 ∧ f92 4 = .pointer (some ⟨g15, 0, none⟩) ∧ f92 9 = .int .i64 x47 ∧ f92 10 = .int .i64 x93 ∧ Row st45 45 H (hp w91) F32 A2 c3 x33 ∧ w91.heap[g15]? = some (.cells #[.func (.func 48) #[] #[.pointer (some ⟨g6, 0, none⟩)], .func (.func f8) #[] a9] 78 (0, 0)) ∧ w91.heap[g6]? = some (.cells #[.slice A2 x1.length c3] 25 (0, 0)) ∧ St (anyOf [F4, (is g6)]) H w [F32, (is g15), (is g6)] H w91 ∧ sort_partitionEqual_func.l3 k103 x1 x11 x33 x47 x93 = some r) ?_ ?_
  · refine wp_block ?_
    refine wp_loop_g (fun k114 a115 w104 => ∃ (f105 : Nat → Value) (x106 : Int), k114 ≤ k56 ∧ a115 = mk 58 f105 ∧ f105 1 = .int .i64 x11 ∧ f105 4 = .pointer (some ⟨g15, 0, none⟩) ∧ f105 9 = .int .i64 x47 ∧ f105 10 = .int .i64 x106 ∧ Row st45 45 H (hp w104) F32 A2 c3 x33 ∧ w104.heap[g15]? = some (.cells #[.func (.func 48) #[] #[.pointer (some ⟨g6, 0, none⟩)], .func (.func f8) #[] a9] 78 (0, 0)) ∧ w104.heap[g6]? = some (.cells #[.slice A2 x1.length c3] 25 (0, 0)) ∧ St (anyOf [F4, (is g6)]) H w [F32, (is g15), (is g6)] H w104 ∧ sort_partitionEqual_func.l4 k114 x1 x11 x33 x47 x106 = some r) k56 ⟨_, x31, (by omega), rfl, (by exact e48), (by exact e49), (by exact e50), (by exact e51), h25, b16, b7, S52, M⟩ ?_
    clear M
    rintro k114 a115 w104 ⟨f105, x106, z113, rfl, e107, e108, e109, e110, h25, b16, b7, S111, M⟩
    rcases k114 with _ | k116
    · rw [sort_partitionEqual_func.l4] at M
      cases M
    rw [sort_partitionEqual_func.l4] at M
    refine wp_seq ?_
    refine wp_seq ?_
    refine wp_region_lit ?_
    refine lv (d := 33) rfl rfl (by kernel_rfl) (e_move (v := .int .i64 x47) (by exact e109)) ?_
    refine lv (d := 34) rfl rfl (by kernel_rfl) (e_move (v := .int .i64 x106) (by exact e110)) ?_
    refine lv (d := 35) rfl rfl (by kernel_rfl) (e_leq (k := .i64) (a := x47) (b := x106) (by kernel_rfl) (by kernel_rfl)) ?_
    refine lv (d := 36) rfl rfl (by kernel_rfl) (e_move (v := .bool (decide (x47 ≤ x106))) (by kernel_rfl)) ?_
    by_cases q117 : x47 ≤ x106
    · replace M := ifp q117 M
      refine lvg (d := 37) (t := 36) rfl (by kernel_rfl) rfl (bt q117 (by kernel_rfl)) rfl (by kernel_rfl) (e_fieldAddr (b := g15) (off := 0) (o := 0) Try.underlying78 rfl rfl (sz := 1) (by kernel_rfl) (by decide) (by exact e108)) ?_
      refine lvg (d := 38) (t := 36) rfl (by kernel_rfl) rfl (bt q117 (by kernel_rfl)) rfl (by kernel_rfl) (e_load1 (ad := ⟨g15, 0 + 0, none⟩) (v := .func (.func 48) #[] #[.pointer (some ⟨g6, 0, none⟩)]) Try.underlying64 rfl (by kernel_rfl) (blk_cell b16 rfl)) ?_
      refine lvg (d := 39) (t := 36) rfl (by kernel_rfl) rfl (bt q117 (by kernel_rfl)) rfl (by kernel_rfl) (e_move (v := .int .i64 x11) (by exact e107)) ?_
      refine lvg (d := 40) (t := 36) rfl (by kernel_rfl) rfl (bt q117 (by kernel_rfl)) rfl (by kernel_rfl) (e_move (v := .int .i64 x106) (by exact e110)) ?_
      obtain ⟨t118, u119, M⟩ := bnd M
      refine lcallg (d := 41) (t := 36) rfl (by kernel_rfl) rfl (bt q117 (by kernel_rfl)) rfl (by kernel_rfl) (e_callv (l := [.tmp 39, .tmp 40]) (vs := [.int .i64 x11, .int .i64 x106]) (cs := [.pointer (some ⟨g6, 0, none⟩)]) Try.func48 (by kernel_rfl) rfl (by kernel_rfl) (by kernel_rfl)) (by have l120 := h25.le; obtain ⟨H121, S122, E123, h124, z125⟩ := S111.frzRow h25; have S126 := S122.pull (F := (is g6)) (Fr := [(is g15)]) 1 rfl rfl; obtain ⟨H127, S128, E129, h130, z131⟩ := S126.frzBlk b7; exact (by have q_ := (impl_sortOps_c1.calls w104 H127 x11 x106 x33 g6 A2 c3 (h124.ext E129) l120 (by rw [show x33.length = x1.length from n34]; exact h130) S128.own0 t118 u119); (try rw [(show x33.length = x1.length from n34)] at q_); exact q_)) ?_
      rintro _ w132 ⟨rfl, C133⟩
      refine ⟨_, rfl, ?_⟩
      obtain ⟨S134, K135⟩ := S111.still C133
      replace h25 := h25.move (K135.at 0 rfl)
      replace b16 := K135.blk 1 rfl b16
      replace b7 := K135.blk 2 rfl b7
      refine lv (d := 42) rfl rfl (by kernel_rfl) (e_pick_t (v := .bool t118) (bt q117 (by kernel_rfl)) (by kernel_rfl)) ?_
      refine wpList_nil ?_
      refine then_n ?_
      by_cases q136 : t118 = true
      · replace M := ifp q136 M
        refine cond_t rfl (bvt q136 (by kernel_rfl)) ?_
        refine wp_skip ?_
        refine then_n ?_
        refine wp_block ?_
        refine wp_region_lit ?_
        refine lv (d := 43) rfl rfl (by kernel_rfl) (e_move (v := .int .i64 x106) (by exact e110)) ?_
        refine lv (d := 44) rfl rfl (by kernel_rfl) (e_sub (k := .i64) (a := x106) (b := 1) (by kernel_rfl) rfl) ?_
        refine lv (d := 10) rfl rfl (by kernel_rfl) (e_assign (v := .int .i64 (IntKind.i64.wrap (x106 - 1))) (by kernel_rfl)) ?_
        refine wpList_nil ?_
        refine inb_n ?_
        refine then_n ?_
        exact ⟨k116, (by omega), _, (IntKind.i64.wrap (x106 - 1)), (by omega), rfl, (by exact e107), (by exact e108), (by exact e109), (by kernel_rfl), h25, b16, b7, S134, M⟩
      replace M := ifn q136 M
      refine cond_f rfl (bvf q136 (by kernel_rfl)) ?_
      refine wp_exit ?_
      refine then_e ?_
      refine then_e ?_
      refine inb_hit ?_
      refine then_n ?_
      exact ⟨k116, (by omega), _, x106, rfl, (by exact e107), (by exact e108), (by exact e109), (by exact e110), h25, b16, b7, S134, M⟩
    replace M := ifn q117 M
    refine lskip (t := 36) (c := false) rfl (by kernel_rfl) rfl (bf q117 (by kernel_rfl)) rfl rfl ?_
    refine lskip (t := 36) (c := false) rfl (by kernel_rfl) rfl (bf q117 (by kernel_rfl)) rfl rfl ?_
    refine lskip (t := 36) (c := false) rfl (by kernel_rfl) rfl (bf q117 (by kernel_rfl)) rfl rfl ?_
    refine lskip (t := 36) (c := false) rfl (by kernel_rfl) rfl (bf q117 (by kernel_rfl)) rfl rfl ?_
    refine lskip (t := 36) (c := false) rfl (by kernel_rfl) rfl (bf q117 (by kernel_rfl)) rfl rfl ?_
    refine lv (d := 42) rfl rfl (by kernel_rfl) (e_pick_f (v := .bool false) (bf q117 (by kernel_rfl)) rfl) ?_
    refine wpList_nil ?_
    refine then_n ?_
    refine cond_f rfl (by kernel_rfl) ?_
    refine wp_exit ?_
    refine then_e ?_
    refine then_e ?_
    refine inb_hit ?_
    refine then_n ?_
    exact ⟨k116, (by omega), _, x106, rfl, (by exact e107), (by exact e108), (by exact e109), (by exact e110), h25, b16, b7, S111, M⟩
  clear M
  rintro a101 w91 ⟨k103, z149, f92, x93, rfl, e94, e95, e96, e97, h25, b16, b7, S98, M⟩
  rcases k103 with _ | k102
  · rw [sort_partitionEqual_func.l3] at M
    cases M
  rw [sort_partitionEqual_func.l3] at M
  refine wp_seq ?_
  refine wp_seq ?_
  refine wp_region_lit ?_
  refine lv (d := 45) rfl rfl (by kernel_rfl) (e_move (v := .int .i64 x47) (by exact e96)) ?_
  refine lv (d := 46) rfl rfl (by kernel_rfl) (e_move (v := .int .i64 x93) (by exact e97)) ?_
  refine lv (d := 47) rfl rfl (by kernel_rfl) (e_gtr (k := .i64) (a := x47) (b := x93) (by kernel_rfl) (by kernel_rfl)) ?_
  refine wpList_nil ?_
  refine then_n ?_
  by_cases q137 : x47 > x93
  · replace M := ifp q137 M
    refine cond_t rfl (bt q137 (by kernel_rfl)) ?_
    refine wp_exit ?_
    refine then_e ?_
    refine inb_miss rfl ?_
    refine then_e ?_
    refine inb_hit ?_
    refine then_n ?_
    refine wp_seq ?_
    refine wp_region_lit ?_
    refine lv (d := 57) rfl rfl (by kernel_rfl) (e_move (v := .int .i64 x47) (by exact e96)) ?_
    refine lv (d := 8) rfl rfl (by kernel_rfl) (e_assign (v := .int .i64 x47) (by kernel_rfl)) ?_
    refine wpList_nil ?_
    refine then_n ?_
    refine wp_ret ?_
    obtain rfl := Option.some.inj M
    have S138 := S98.pull (F := (is g6)) (Fr := [F32, (is g15)]) 2 rfl rfl
    have S139 := S138.pull (F := F32) (Fr := [(is g6), (is g15)]) 1 rfl rfl
    have S140 := St.first (Fa := [F32, (is g6)]) (Fr := [(is g15)]) S139
    exact ret1 rfl rfl  (show _ = .int .i64 x47 from (by kernel_rfl)) ⟨F32, H, rfl, n34, h25, b7, S140⟩
  replace M := ifn q137 M
  refine cond_f rfl (bf q137 (by kernel_rfl)) ?_
  refine wp_skip ?_
  refine then_n ?_
  refine wp_seq ?_
  refine wp_region_lit ?_
  refine lv (d := 48) rfl rfl (by kernel_rfl) (e_fieldAddr (b := g15) (off := 0) (o := 1) Try.underlying78 rfl rfl (sz := 1) (by kernel_rfl) (by decide) (by exact e95)) ?_
  refine lv (d := 49) rfl rfl (by kernel_rfl) (e_load1 (ad := ⟨g15, 0 + 1, none⟩) (v := .func (.func f8) #[] a9) Try.underlying72 rfl (by kernel_rfl) (blk_cell b16 rfl)) ?_
  refine lv (d := 50) rfl rfl (by kernel_rfl) (e_move (v := .int .i64 x47) (by exact e96)) ?_
  refine lv (d := 51) rfl rfl (by kernel_rfl) (e_move (v := .int .i64 x93) (by exact e97)) ?_
  obtain ⟨q141, M⟩ := chk M
  obtain ⟨q142, M⟩ := chk M
  obtain ⟨q143, M⟩ := chk M
  obtain ⟨q144, M⟩ := chk M
  refine lve (d := 52) rfl rfl (by kernel_rfl) (e_swap (a := x47) (b := x93) S98 h25 n34 h10 (by kernel_rfl) (by kernel_rfl) (by kernel_rfl) q141 q142 q143 q144) ?_
  rintro _ w145 ⟨rfl, h146, S147, K148⟩
  replace b16 := K148.blk 0 rfl b16
  replace b7 := K148.blk 1 rfl b7
  clear h25
  refine wpList_nil ?_
  refine then_n ?_
  refine wp_seq ?_
  refine wp_region_lit ?_
  refine lv (d := 53) rfl rfl (by kernel_rfl) (e_move (v := .int .i64 x47) (by exact e96)) ?_
  refine lv (d := 54) rfl rfl (by kernel_rfl) (e_add (k := .i64) (a := x47) (b := 1) (by kernel_rfl) rfl) ?_
  refine lv (d := 9) rfl rfl (by kernel_rfl) (e_assign (v := .int .i64 (IntKind.i64.wrap (x47 + 1))) (by kernel_rfl)) ?_
  refine wpList_nil ?_
  refine then_n ?_
  refine wp_region_lit ?_
  refine lv (d := 55) rfl rfl (by kernel_rfl) (e_move (v := .int .i64 x93) (by exact e97)) ?_
  refine lv (d := 56) rfl rfl (by kernel_rfl) (e_sub (k := .i64) (a := x93) (b := 1) (by kernel_rfl) rfl) ?_
  refine lv (d := 10) rfl rfl (by kernel_rfl) (e_assign (v := .int .i64 (IntKind.i64.wrap (x93 - 1))) (by kernel_rfl)) ?_
  refine wpList_nil ?_
  refine inb_n ?_
  refine then_n ?_
  exact ⟨k102, (by omega), _, (IntKind.i64.wrap (x47 + 1)), (IntKind.i64.wrap (x93 - 1)), F32, (swL x33 (x47).toNat (x93).toNat), rfl, (by exact e94), (by exact e95), (by kernel_rfl), (by kernel_rfl), h146, b16, b7, ((swL_len _ _ _).trans n34), S147, M⟩

/-! sort_partition_func -/
def sort_partition_func.l4 : Nat → (List Sy.Op) → Int → Int → (List Sy.Op) → Option (Int × Bool × (List Sy.Op))
  | 0, _, _, _, _ => none
  | k151 + 1, x1, x11, x140, x142 => (if 0 ≤ x140 then (if x140 < (x1.length : Int) then some (x140, false, (swL x142 (x140).toNat (x11).toNat)) else none) else none)
mutual
def sort_partition_func.l5 : Nat → (List Sy.Op) → Int → Int → Int → (List Sy.Op) → Option (Int × Bool × (List Sy.Op))
  | 0, _, _, _, _, _ => none
  | k169 + 1, x1, x11, x155, x156, x158 => (sort_partition_func.l7 k169 x1 x11 x156 x158 x155)
def sort_partition_func.l6 : Nat → (List Sy.Op) → Int → Int → (List Sy.Op) → Int → Option (Int × Bool × (List Sy.Op))
  | 0, _, _, _, _, _ => none
  | k181 + 1, x1, x11, x156, x158, x172 => (sort_partition_func.l9 k181 x1 x11 x158 x172 x156)
def sort_partition_func.l7 : Nat → (List Sy.Op) → Int → Int → (List Sy.Op) → Int → Option (Int × Bool × (List Sy.Op))
  | 0, _, _, _, _, _ => none
  | k195 + 1, x1, x11, x156, x158, x185 => (if x185 ≤ x156 then ((impl_sortOps_c1.f x185 x11 x158).bind fun t197 => (if t197 = true then (sort_partition_func.l7 k195 x1 x11 x156 x158 (IntKind.i64.wrap (x185 + 1))) else (sort_partition_func.l6 k195 x1 x11 x156 x158 x185))) else (sort_partition_func.l6 k195 x1 x11 x156 x158 x185))
def sort_partition_func.l8 : Nat → (List Sy.Op) → Int → (List Sy.Op) → Int → Int → Option (Int × Bool × (List Sy.Op))
  | 0, _, _, _, _, _ => none
  | k227 + 1, x1, x11, x158, x172, x218 => (if x172 > x218 then (sort_partition_func.l4 k227 x1 x11 x218 x158) else (if 0 ≤ x172 then (if x172 < (x1.length : Int) then (if 0 ≤ x218 then (if x218 < (x1.length : Int) then (sort_partition_func.l5 k227 x1 x11 (IntKind.i64.wrap (x172 + 1)) (IntKind.i64.wrap (x218 - 1)) (swL x158 (x172).toNat (x218).toNat)) else none) else none) else none) else none))
def sort_partition_func.l9 : Nat → (List Sy.Op) → Int → (List Sy.Op) → Int → Int → Option (Int × Bool × (List Sy.Op))
  | 0, _, _, _, _, _ => none
  | k241 + 1, x1, x11, x158, x172, x231 => (if x172 ≤ x231 then ((impl_sortOps_c1.f x231 x11 x158).bind fun t243 => (if ¬ (t243 = true) then (sort_partition_func.l9 k241 x1 x11 x158 x172 (IntKind.i64.wrap (x231 - 1))) else (sort_partition_func.l8 k241 x1 x11 x158 x172 x231))) else (sort_partition_func.l8 k241 x1 x11 x158 x172 x231))
end
def sort_partition_func.l2 : Nat → (List Sy.Op) → Int → Int → Int → Int → Option (Int × Bool × (List Sy.Op))
  | 0, _, _, _, _, _ => none
  | k85 + 1, x1, x11, x13, x30, x76 => (if x30 > x76 then (if 0 ≤ x76 then (if x76 < (x1.length : Int) then some (x76, true, (swL (swL x1 (x11).toNat (x13).toNat) (x76).toNat (x11).toNat)) else none) else none) else (if 0 ≤ x30 then (if x30 < (x1.length : Int) then (if 0 ≤ x76 then (if x76 < (x1.length : Int) then (sort_partition_func.l5 k85 x1 x11 (IntKind.i64.wrap (x30 + 1)) (IntKind.i64.wrap (x76 - 1)) (swL (swL x1 (x11).toNat (x13).toNat) (x30).toNat (x76).toNat)) else none) else none) else none) else none))
def sort_partition_func.l3 : Nat → (List Sy.Op) → Int → Int → Int → Int → Option (Int × Bool × (List Sy.Op))
  | 0, _, _, _, _, _ => none
  | k99 + 1, x1, x11, x13, x30, x89 => (if x30 ≤ x89 then ((impl_sortOps_c1.f x89 x11 (swL x1 (x11).toNat (x13).toNat)).bind fun t101 => (if ¬ (t101 = true) then (sort_partition_func.l3 k99 x1 x11 x13 x30 (IntKind.i64.wrap (x89 - 1))) else (sort_partition_func.l2 k99 x1 x11 x13 x30 x89))) else (sort_partition_func.l2 k99 x1 x11 x13 x30 x89))
def sort_partition_func.l0 : Nat → (List Sy.Op) → Int → Int → Int → Int → Option (Int × Bool × (List Sy.Op))
  | 0, _, _, _, _, _ => none
  | k39 + 1, x1, x11, x12, x13, x30 => (sort_partition_func.l3 k39 x1 x11 x13 x30 (IntKind.i64.wrap (x12 - 1)))
def sort_partition_func.l1 : Nat → (List Sy.Op) → Int → Int → Int → Int → Option (Int × Bool × (List Sy.Op))
  | 0, _, _, _, _, _ => none
  | k53 + 1, x1, x11, x12, x13, x43 => (if x43 ≤ (IntKind.i64.wrap (x12 - 1)) then ((impl_sortOps_c1.f x43 x11 (swL x1 (x11).toNat (x13).toNat)).bind fun t55 => (if t55 = true then (sort_partition_func.l1 k53 x1 x11 x12 x13 (IntKind.i64.wrap (x43 + 1))) else (sort_partition_func.l0 k53 x1 x11 x12 x13 x43))) else (sort_partition_func.l0 k53 x1 x11 x12 x13 x43))
def sort_partition_func.f (k : Nat) (x1 : List Sy.Op) (x11 : Int) (x12 : Int) (x13 : Int) : Option (Int × Bool × (List Sy.Op)) := (if 0 ≤ x11 then (if x11 < (x1.length : Int) then (if 0 ≤ x13 then (if x13 < (x1.length : Int) then (sort_partition_func.l1 k x1 x11 x12 x13 (IntKind.i64.wrap (x11 + 1))) else none) else none) else none) else none)
theorem sort_partition_func.calls (k : Nat) (w : World) (H : Hp) (x1 : List Sy.Op) (A2 : Option Addr) (c3 : Nat) (F4 : Foot) (g6 : Nat) (f8 : FuncId) (a9 : Array Value) (x11 : Int) (x12 : Int) (x13 : Int) (h5 : Row st45 45 H (hp w) F4 A2 c3 x1) (b7 : w.heap[g6]? = some (.cells #[.slice A2 x1.length c3] 25 (0, 0))) (h10 : SwOK Try.prog st45 45 f8 a9 A2 c3 x1.length) (S : Own [F4, (is g6)] H w) (r : Int × Bool × (List Sy.Op)) (M : sort_partition_func.f k x1 x11 x12 x13 = some r) :
    Calls Try.prog 72 #[.agg #[.func (.func 48) #[] #[.pointer (some ⟨g6, 0, none⟩)], .func (.func f8) #[] a9], .int .i64 x11, .int .i64 x12, .int .i64 x13] w (fun e e_w => ∃ (F_1 : Foot) (H_ : Hp), e = .returned (.tuple #[.int .i64 r.1, .bool r.2.1]) ∧ r.2.2.length = x1.length ∧ Row st45 45 H_ (hp e_w) F_1 A2 c3 r.2.2 ∧ e_w.heap[g6]? = some (.cells #[.slice A2 x1.length c3] 25 (0, 0)) ∧ St (anyOf [F4, (is g6)]) H w [F_1, (is g6)] H_ e_w) := by
  rw [sort_partition_func.f] at M
  refine enter (l := [.agg #[.func (.func 48) #[] #[.pointer (some ⟨g6, 0, none⟩)], .func (.func f8) #[] a9], .int .i64 x11, .int .i64 x12, .int .i64 x13]) 107 Try.func72 rfl rfl rfl ?_
  have S0_ := S.st
  refine wp_seq ?_
  refine wp_region_lit ?_
  refine lve (d := 4) rfl rfl (by kernel_rfl) (new_blk (v := fun g_ => .pointer (some ⟨g_, 0, none⟩)) (cs := #[.func (.func 48) #[] #[.pointer (some ⟨g6, 0, none⟩)], .func (.func f8) #[] a9]) (t := 78) S0_ (by kernel_rfl)) ?_
  rintro _ w14 ⟨g15, rfl, b16, S17, K18⟩
  replace h5 := h5.move (K18.at 0 rfl)
  replace b7 := K18.blk 1 rfl b7
  refine lv (d := 8) rfl rfl (by kernel_rfl) (e_assign (v := .int .i64 0) rfl) ?_
  refine lv (d := 9) rfl rfl (by kernel_rfl) (e_assign (v := .bool false) rfl) ?_
  refine wpList_nil ?_
  refine then_n ?_
  refine wp_seq ?_
  refine wp_region_lit ?_
  refine lv (d := 12) rfl rfl (by kernel_rfl) (e_fieldAddr (b := g15) (off := 0) (o := 1) Try.underlying78 rfl rfl (sz := 1) (by kernel_rfl) (by decide) (by kernel_rfl)) ?_
  refine lv (d := 13) rfl rfl (by kernel_rfl) (e_load1 (ad := ⟨g15, 0 + 1, none⟩) (v := .func (.func f8) #[] a9) Try.underlying72 rfl (by kernel_rfl) (blk_cell b16 rfl)) ?_
  refine lv (d := 14) rfl rfl (by kernel_rfl) (e_move (v := .int .i64 x11) (by kernel_rfl)) ?_
  refine lv (d := 15) rfl rfl (by kernel_rfl) (e_move (v := .int .i64 x13) (by kernel_rfl)) ?_
  obtain ⟨q19, M⟩ := chk M
  obtain ⟨q20, M⟩ := chk M
  obtain ⟨q21, M⟩ := chk M
  obtain ⟨q22, M⟩ := chk M
  have S23 := S17.pull (F := F4) (Fr := [(is g15), (is g6)]) 1 rfl rfl
  refine lve (d := 16) rfl rfl (by kernel_rfl) (e_swap (a := x11) (b := x13) S23 h5 rfl h10 (by kernel_rfl) (by kernel_rfl) (by kernel_rfl) q19 q20 q21 q22) ?_
  rintro _ w24 ⟨rfl, h25, S26, K27⟩
  replace b16 := K27.blk 0 rfl b16
  replace b7 := K27.blk 1 rfl b7
  clear h5
  refine wpList_nil ?_
  refine then_n ?_
  refine wp_seq ?_
  refine wp_region_lit ?_
  refine lv (d := 17) rfl rfl (by kernel_rfl) (e_move (v := .int .i64 x11) (by kernel_rfl)) ?_
  refine lv (d := 18) rfl rfl (by kernel_rfl) (e_add (k := .i64) (a := x11) (b := 1) (by kernel_rfl) rfl) ?_
  refine lv (d := 19) rfl rfl (by kernel_rfl) (e_move (v := .int .i64 x12) (by kernel_rfl)) ?_
  refine lv (d := 20) rfl rfl (by kernel_rfl) (e_sub (k := .i64) (a := x12) (b := 1) (by kernel_rfl) rfl) ?_
  refine lv (d := 10) rfl rfl (by kernel_rfl) (e_assign (v := .int .i64 (IntKind.i64.wrap (x11 + 1))) (by kernel_rfl)) ?_
  refine lv (d := 11) rfl rfl (by kernel_rfl) (e_assign (v := .int .i64 (IntKind.i64.wrap (x12 - 1))) (by kernel_rfl)) ?_
  refine wpList_nil ?_
  refine then_n ?_
  refine wp_seq_cut (fun a38 w28 => ∃ (k40 : Nat), ∃ (f29 : Nat → Value) (x30 : Int), a38 = mk 107 f29 ∧ f29 1 = .int .i64 x11 ∧ f29 4 = .pointer (some ⟨g15, 0, none⟩) ∧ f29 10 = .int .i64 x30 ∧ f29 11 = .int .i64 (IntKind.i64.wrap (x12 - 1)) ∧ Row st45 45 H (hp w28) F4 A2 c3 (swL x1 (x11).toNat (x13).toNat) ∧ w28.heap[g15]? = some (.cells #[.func (.func 48) #[] #[.pointer (some ⟨g6, 0, none⟩)], .func (.func f8) #[] a9] 78 (0, 0)) ∧ w28.heap[g6]? = some (.cells #[.slice A2 x1.length c3] 25 (0, 0)) ∧ St (anyOf [F4, (is g6)]) H w [F4, (is g15), (is g6)] H w28 ∧ sort_partition_func.l0 k40 x1 x11 x12 x13 x30 = some r) ?_ ?_
  · refine wp_block ?_
    refine wp_loop_g (fun k51 a52 w41 => ∃ (f42 : Nat → Value) (x43 : Int), a52 = mk 107 f42 ∧ f42 1 = .int .i64 x11 ∧ f42 4 = .pointer (some ⟨g15, 0, none⟩) ∧ f42 10 = .int .i64 x43 ∧ f42 11 = .int .i64 (IntKind.i64.wrap (x12 - 1)) ∧ Row st45 45 H (hp w41) F4 A2 c3 (swL x1 (x11).toNat (x13).toNat) ∧ w41.heap[g15]? = some (.cells #[.func (.func 48) #[] #[.pointer (some ⟨g6, 0, none⟩)], .func (.func f8) #[] a9] 78 (0, 0)) ∧ w41.heap[g6]? = some (.cells #[.slice A2 x1.length c3] 25 (0, 0)) ∧ St (anyOf [F4, (is g6)]) H w [F4, (is g15), (is g6)] H w41 ∧ sort_partition_func.l1 k51 x1 x11 x12 x13 x43 = some r) k ⟨_, (IntKind.i64.wrap (x11 + 1)), rfl, (by kernel_rfl), (by kernel_rfl), (by kernel_rfl), (by kernel_rfl), h25, b16, b7, S26, M⟩ ?_
    clear M
    rintro k51 a52 w41 ⟨f42, x43, rfl, e44, e45, e46, e47, h25, b16, b7, S48, M⟩
    rcases k51 with _ | k53
    · rw [sort_partition_func.l1] at M
      cases M
    rw [sort_partition_func.l1] at M
    refine wp_seq ?_
    refine wp_seq ?_
    refine wp_region_lit ?_
    refine lv (d := 21) rfl rfl (by kernel_rfl) (e_move (v := .int .i64 x43) (by exact e46)) ?_
    refine lv (d := 22) rfl rfl (by kernel_rfl) (e_move (v := .int .i64 (IntKind.i64.wrap (x12 - 1))) (by exact e47)) ?_
    refine lv (d := 23) rfl rfl (by kernel_rfl) (e_leq (k := .i64) (a := x43) (b := (IntKind.i64.wrap (x12 - 1))) (by kernel_rfl) (by kernel_rfl)) ?_
    refine lv (d := 24) rfl rfl (by kernel_rfl) (e_move (v := .bool (decide (x43 ≤ (IntKind.i64.wrap (x12 - 1))))) (by kernel_rfl)) ?_
    by_cases q54 : x43 ≤ (IntKind.i64.wrap (x12 - 1))
    · replace M := ifp q54 M
      refine lvg (d := 25) (t := 24) rfl (by kernel_rfl) rfl (bt q54 (by kernel_rfl)) rfl (by kernel_rfl) (e_fieldAddr (b := g15) (off := 0) (o := 0) Try.underlying78 rfl rfl (sz := 1) (by kernel_rfl) (by decide) (by exact e45)) ?_
      refine lvg (d := 26) (t := 24) rfl (by kernel_rfl) rfl (bt q54 (by kernel_rfl)) rfl (by kernel_rfl) (e_load1 (ad := ⟨g15, 0 + 0, none⟩) (v := .func (.func 48) #[] #[.pointer (some ⟨g6, 0, none⟩)]) Try.underlying64 rfl (by kernel_rfl) (blk_cell b16 rfl)) ?_
      refine lvg (d := 27) (t := 24) rfl (by kernel_rfl) rfl (bt q54 (by kernel_rfl)) rfl (by kernel_rfl) (e_move (v := .int .i64 x43) (by exact e46)) ?_
      refine lvg (d := 28) (t := 24) rfl (by kernel_rfl) rfl (bt q54 (by kernel_rfl)) rfl (by kernel_rfl) (e_move (v := .int .i64 x11) (by exact e44)) ?_
      obtain ⟨t55, u56, M⟩ := bnd M
      refine lcallg (d := 29) (t := 24) rfl (by kernel_rfl) rfl (bt q54 (by kernel_rfl)) rfl (by kernel_rfl) (e_callv (l := [.tmp 27, .tmp 28]) (vs := [.int .i64 x43, .int .i64 x11]) (cs := [.pointer (some ⟨g6, 0, none⟩)]) Try.func48 (by kernel_rfl) rfl (by kernel_rfl) (by kernel_rfl)) (by have l57 := h25.le; obtain ⟨H58, S59, E60, h61, z62⟩ := S48.frzRow h25; have S63 := S59.pull (F := (is g6)) (Fr := [(is g15)]) 1 rfl rfl; obtain ⟨H64, S65, E66, h67, z68⟩ := S63.frzBlk b7; exact (by have q_ := (impl_sortOps_c1.calls w41 H64 x43 x11 (swL x1 (x11).toNat (x13).toNat) g6 A2 c3 (h61.ext E66) l57 (by rw [show (swL x1 (x11).toNat (x13).toNat).length = x1.length from ((swL_len _ _ _).trans rfl)]; exact h67) S65.own0 t55 u56); (try rw [(show (swL x1 (x11).toNat (x13).toNat).length = x1.length from ((swL_len _ _ _).trans rfl))] at q_); exact q_)) ?_
      rintro _ w69 ⟨rfl, C70⟩
      refine ⟨_, rfl, ?_⟩
      obtain ⟨S71, K72⟩ := S48.still C70
      replace h25 := h25.move (K72.at 0 rfl)
      replace b16 := K72.blk 1 rfl b16
      replace b7 := K72.blk 2 rfl b7
      refine lv (d := 30) rfl rfl (by kernel_rfl) (e_pick_t (v := .bool t55) (bt q54 (by kernel_rfl)) (by kernel_rfl)) ?_
      refine wpList_nil ?_
      refine then_n ?_
      by_cases q73 : t55 = true
      · replace M := ifp q73 M
        refine cond_t rfl (bvt q73 (by kernel_rfl)) ?_
        refine wp_skip ?_
        refine then_n ?_
        refine wp_block ?_
        refine wp_region_lit ?_
        refine lv (d := 31) rfl rfl (by kernel_rfl) (e_move (v := .int .i64 x43) (by exact e46)) ?_
        refine lv (d := 32) rfl rfl (by kernel_rfl) (e_add (k := .i64) (a := x43) (b := 1) (by kernel_rfl) rfl) ?_
        refine lv (d := 10) rfl rfl (by kernel_rfl) (e_assign (v := .int .i64 (IntKind.i64.wrap (x43 + 1))) (by kernel_rfl)) ?_
        refine wpList_nil ?_
        refine inb_n ?_
        refine then_n ?_
        exact ⟨k53, (by omega), _, (IntKind.i64.wrap (x43 + 1)), rfl, (by exact e44), (by exact e45), (by kernel_rfl), (by exact e47), h25, b16, b7, S71, M⟩
      replace M := ifn q73 M
      refine cond_f rfl (bvf q73 (by kernel_rfl)) ?_
      refine wp_exit ?_
      refine then_e ?_
      refine then_e ?_
      refine inb_hit ?_
      refine then_n ?_
      exact ⟨k53, _, x43, rfl, (by exact e44), (by exact e45), (by exact e46), (by exact e47), h25, b16, b7, S71, M⟩
    replace M := ifn q54 M
    refine lskip (t := 24) (c := false) rfl (by kernel_rfl) rfl (bf q54 (by kernel_rfl)) rfl rfl ?_
    refine lskip (t := 24) (c := false) rfl (by kernel_rfl) rfl (bf q54 (by kernel_rfl)) rfl rfl ?_
    refine lskip (t := 24) (c := false) rfl (by kernel_rfl) rfl (bf q54 (by kernel_rfl)) rfl rfl ?_
    refine lskip (t := 24) (c := false) rfl (by kernel_rfl) rfl (bf q54 (by kernel_rfl)) rfl rfl ?_
    refine lskip (t := 24) (c := false) rfl (by kernel_rfl) rfl (bf q54 (by kernel_rfl)) rfl rfl ?_
    refine lv (d := 30) rfl rfl (by kernel_rfl) (e_pick_f (v := .bool false) (bf q54 (by kernel_rfl)) rfl) ?_
    refine wpList_nil ?_
    refine then_n ?_
    refine cond_f rfl (by kernel_rfl) ?_
    refine wp_exit ?_
    refine then_e ?_
    refine then_e ?_
    refine inb_hit ?_
    refine then_n ?_
    exact ⟨k53, _, x43, rfl, (by exact e44), (by exact e45), (by exact e46), (by exact e47), h25, b16, b7, S48, M⟩
  clear M
  rintro a38 w28 ⟨k40, f29, x30, rfl, e31, e32, e33, e34, h25, b16, b7, S35, M⟩
  rcases k40 with _ | k39
  · rw [sort_partition_func.l0] at M
    cases M
  rw [sort_partition_func.l0] at M
  refine wp_seq_cut (fun a84 w74 => ∃ (k86 : Nat), ∃ (f75 : Nat → Value) (x76 : Int), a84 = mk 107 f75 ∧ f75 1 = .int .i64 x11 ∧ f75 4 = .pointer (some ⟨g15, 0, none⟩) ∧ f75 10 = .int .i64 x30 ∧ f75 11 = .int .i64 x76 ∧ Row st45 45 H (hp w74) F4 A2 c3 (swL x1 (x11).toNat (x13).toNat) ∧ w74.heap[g15]? = some (.cells #[.func (.func 48) #[] #[.pointer (some ⟨g6, 0, none⟩)], .func (.func f8) #[] a9] 78 (0, 0)) ∧ w74.heap[g6]? = some (.cells #[.slice A2 x1.length c3] 25 (0, 0)) ∧ St (anyOf [F4, (is g6)]) H w [F4, (is g15), (is g6)] H w74 ∧ sort_partition_func.l2 k86 x1 x11 x13 x30 x76 = some r) ?_ ?_
  · refine wp_block ?_
    refine wp_loop_g (fun k97 a98 w87 => ∃ (f88 : Nat → Value) (x89 : Int), a98 = mk 107 f88 ∧ f88 1 = .int .i64 x11 ∧ f88 4 = .pointer (some ⟨g15, 0, none⟩) ∧ f88 10 = .int .i64 x30 ∧ f88 11 = .int .i64 x89 ∧ Row st45 45 H (hp w87) F4 A2 c3 (swL x1 (x11).toNat (x13).toNat) ∧ w87.heap[g15]? = some (.cells #[.func (.func 48) #[] #[.pointer (some ⟨g6, 0, none⟩)], .func (.func f8) #[] a9] 78 (0, 0)) ∧ w87.heap[g6]? = some (.cells #[.slice A2 x1.length c3] 25 (0, 0)) ∧ St (anyOf [F4, (is g6)]) H w [F4, (is g15), (is g6)] H w87 ∧ sort_partition_func.l3 k97 x1 x11 x13 x30 x89 = some r) k39 ⟨_, (IntKind.i64.wrap (x12 - 1)), rfl, (by exact e31), (by exact e32), (by exact e33), (by exact e34), h25, b16, b7, S35, M⟩ ?_
    clear M
    rintro k97 a98 w87 ⟨f88, x89, rfl, e90, e91, e92, e93, h25, b16, b7, S94, M⟩
    rcases k97 with _ | k99
    · rw [sort_partition_func.l3] at M
      cases M
    rw [sort_partition_func.l3] at M
    refine wp_seq ?_
    refine wp_seq ?_
    refine wp_region_lit ?_
    refine lv (d := 33) rfl rfl (by kernel_rfl) (e_move (v := .int .i64 x30) (by exact e92)) ?_
    refine lv (d := 34) rfl rfl (by kernel_rfl) (e_move (v := .int .i64 x89) (by exact e93)) ?_
    refine lv (d := 35) rfl rfl (by kernel_rfl) (e_leq (k := .i64) (a := x30) (b := x89) (by kernel_rfl) (by kernel_rfl)) ?_
    refine lv (d := 36) rfl rfl (by kernel_rfl) (e_move (v := .bool (decide (x30 ≤ x89))) (by kernel_rfl)) ?_
    by_cases q100 : x30 ≤ x89
    · replace M := ifp q100 M
      refine lvg (d := 37) (t := 36) rfl (by kernel_rfl) rfl (bt q100 (by kernel_rfl)) rfl (by kernel_rfl) (e_fieldAddr (b := g15) (off := 0) (o := 0) Try.underlying78 rfl rfl (sz := 1) (by kernel_rfl) (by decide) (by exact e91)) ?_
      refine lvg (d := 38) (t := 36) rfl (by kernel_rfl) rfl (bt q100 (by kernel_rfl)) rfl (by kernel_rfl) (e_load1 (ad := ⟨g15, 0 + 0, none⟩) (v := .func (.func 48) #[] #[.pointer (some ⟨g6, 0, none⟩)]) Try.underlying64 rfl (by kernel_rfl) (blk_cell b16 rfl)) ?_
      refine lvg (d := 39) (t := 36) rfl (by kernel_rfl) rfl (bt q100 (by kernel_rfl)) rfl (by kernel_rfl) (e_move (v := .int .i64 x89) (by exact e93)) ?_
      refine lvg (d := 40) (t := 36) rfl (by kernel_rfl) rfl (bt q100 (by kernel_rfl)) rfl (by kernel_rfl) (e_move (v := .int .i64 x11) (by exact e90)) ?_
      obtain ⟨t101, u102, M⟩ := bnd M
      refine lcallg (d := 41) (t := 36) rfl (by kernel_rfl) rfl (bt q100 (by kernel_rfl)) rfl (by kernel_rfl) (e_callv (l := [.tmp 39, .tmp 40]) (vs := [.int .i64 x89, .int .i64 x11]) (cs := [.pointer (some ⟨g6, 0, none⟩)]) Try.func48 (by kernel_rfl) rfl (by kernel_rfl) (by kernel_rfl)) (by have l103 := h25.le; obtain ⟨H104, S105, E106, h107, z108⟩ := S94.frzRow h25; have S109 := S105.pull (F := (is g6)) (Fr := [(is g15)]) 1 rfl rfl; obtain ⟨H110, S111, E112, h113, z114⟩ := S109.frzBlk b7; exact (by have q_ := (impl_sortOps_c1.calls w87 H110 x89 x11 (swL x1 (x11).toNat (x13).toNat) g6 A2 c3 (h107.ext E112) l103 (by rw [show (swL x1 (x11).toNat (x13).toNat).length = x1.length from ((swL_len _ _ _).trans rfl)]; exact h113) S111.own0 t101 u102); (try rw [(show (swL x1 (x11).toNat (x13).toNat).length = x1.length from ((swL_len _ _ _).trans rfl))] at q_); exact q_)) ?_
      rintro _ w115 ⟨rfl, C116⟩
      refine ⟨_, rfl, ?_⟩
      obtain ⟨S117, K118⟩ := S94.still C116
      replace h25 := h25.move (K118.at 0 rfl)
      replace b16 := K118.blk 1 rfl b16
      replace b7 := K118.blk 2 rfl b7
      refine lvg (d := 42) (t := 36) rfl (by kernel_rfl) rfl (bt q100 (by kernel_rfl)) rfl (by kernel_rfl) (e_notv (c := t101) (by kernel_rfl)) ?_
      refine lv (d := 43) rfl rfl (by kernel_rfl) (e_pick_t (v := .bool (decide (¬ (t101 = true)))) (bt q100 (by kernel_rfl)) (by kernel_rfl)) ?_
      refine wpList_nil ?_
      refine then_n ?_
      by_cases q119 : ¬ (t101 = true)
      · replace M := ifp q119 M
        refine cond_t rfl (bt q119 (by kernel_rfl)) ?_
        refine wp_skip ?_
        refine then_n ?_
        refine wp_block ?_
        refine wp_region_lit ?_
        refine lv (d := 44) rfl rfl (by kernel_rfl) (e_move (v := .int .i64 x89) (by exact e93)) ?_
        refine lv (d := 45) rfl rfl (by kernel_rfl) (e_sub (k := .i64) (a := x89) (b := 1) (by kernel_rfl) rfl) ?_
        refine lv (d := 11) rfl rfl (by kernel_rfl) (e_assign (v := .int .i64 (IntKind.i64.wrap (x89 - 1))) (by kernel_rfl)) ?_
        refine wpList_nil ?_
        refine inb_n ?_
        refine then_n ?_
        exact ⟨k99, (by omega), _, (IntKind.i64.wrap (x89 - 1)), rfl, (by exact e90), (by exact e91), (by exact e92), (by kernel_rfl), h25, b16, b7, S117, M⟩
      replace M := ifn q119 M
      refine cond_f rfl (bf q119 (by kernel_rfl)) ?_
      refine wp_exit ?_
      refine then_e ?_
      refine then_e ?_
      refine inb_hit ?_
      refine then_n ?_
      exact ⟨k99, _, x89, rfl, (by exact e90), (by exact e91), (by exact e92), (by exact e93), h25, b16, b7, S117, M⟩
    replace M := ifn q100 M
    refine lskip (t := 36) (c := false) rfl (by kernel_rfl) rfl (bf q100 (by kernel_rfl)) rfl rfl ?_
    refine lskip (t := 36) (c := false) rfl (by kernel_rfl) rfl (bf q100 (by kernel_rfl)) rfl rfl ?_
    refine lskip (t := 36) (c := false) rfl (by kernel_rfl) rfl (bf q100 (by kernel_rfl)) rfl rfl ?_
    refine lskip (t := 36) (c := false) rfl (by kernel_rfl) rfl (bf q100 (by kernel_rfl)) rfl rfl ?_
    refine lskip (t := 36) (c := false) rfl (by kernel_rfl) rfl (bf q100 (by kernel_rfl)) rfl rfl ?_
    refine lskip (t := 36) (c := false) rfl (by kernel_rfl) rfl (bf q100 (by kernel_rfl)) rfl rfl ?_
    refine lv (d := 43) rfl rfl (by kernel_rfl) (e_pick_f (v := .bool false) (bf q100 (by kernel_rfl)) rfl) ?_
    refine wpList_nil ?_
    refine then_n ?_
    refine cond_f rfl (by kernel_rfl) ?_
    refine wp_exit ?_
    refine then_e ?_
    refine then_e ?_
    refine inb_hit ?_
    refine then_n ?_
    exact ⟨k99, _, x89, rfl, (by exact e90), (by exact e91), (by exact e92), (by exact e93), h25, b16, b7, S94, M⟩
  clear M
  rintro a84 w74 ⟨k86, f75, x76, rfl, e77, e78, e79, e80, h25, b16, b7, S81, M⟩
  rcases k86 with _ | k85
  · rw [sort_partition_func.l2] at M
    cases M
  rw [sort_partition_func.l2] at M
  refine wp_seq ?_
  refine wp_seq ?_
  refine wp_region_lit ?_
  refine lv (d := 46) rfl rfl (by kernel_rfl) (e_move (v := .int .i64 x30) (by exact e79)) ?_
  refine lv (d := 47) rfl rfl (by kernel_rfl) (e_move (v := .int .i64 x76) (by exact e80)) ?_
  refine lv (d := 48) rfl rfl (by kernel_rfl) (e_gtr (k := .i64) (a := x30) (b := x76) (by kernel_rfl) (by kernel_rfl)) ?_
  refine wpList_nil ?_
  refine then_n ?_
  by_cases q120 : x30 > x76
  · replace M := ifp q120 M
    refine cond_t rfl (bt q120 (by kernel_rfl)) ?_
    refine wp_seq ?_
    refine wp_region_lit ?_
    refine lv (d := 49) rfl rfl (by kernel_rfl) (e_fieldAddr (b := g15) (off := 0) (o := 1) Try.underlying78 rfl rfl (sz := 1) (by kernel_rfl) (by decide) (by exact e78)) ?_
    refine lv (d := 50) rfl rfl (by kernel_rfl) (e_load1 (ad := ⟨g15, 0 + 1, none⟩) (v := .func (.func f8) #[] a9) Try.underlying72 rfl (by kernel_rfl) (blk_cell b16 rfl)) ?_
    refine lv (d := 51) rfl rfl (by kernel_rfl) (e_move (v := .int .i64 x76) (by exact e80)) ?_
    refine lv (d := 52) rfl rfl (by kernel_rfl) (e_move (v := .int .i64 x11) (by exact e77)) ?_
    obtain ⟨q121, M⟩ := chk M
    obtain ⟨q122, M⟩ := chk M
    refine lve (d := 53) rfl rfl (by kernel_rfl) (e_swap (a := x76) (b := x11) S81 h25 ((swL_len _ _ _).trans rfl) h10 (by kernel_rfl) (by kernel_rfl) (by kernel_rfl) q121 q122 q19 q20) ?_
    rintro _ w123 ⟨rfl, h124, S125, K126⟩
    replace b16 := K126.blk 0 rfl b16
    replace b7 := K126.blk 1 rfl b7
    clear h25
    refine wpList_nil ?_
    refine then_n ?_
    refine wp_seq ?_
    refine wp_region_lit ?_
    refine lv (d := 54) rfl rfl (by kernel_rfl) (e_move (v := .int .i64 x76) (by exact e80)) ?_
    refine lv (d := 8) rfl rfl (by kernel_rfl) (e_assign (v := .int .i64 x76) (by kernel_rfl)) ?_
    refine lv (d := 9) rfl rfl (by kernel_rfl) (e_assign (v := .bool true) rfl) ?_
    refine wpList_nil ?_
    refine then_n ?_
    refine wp_ret ?_
    refine then_r ?_
    obtain rfl := Option.some.inj M
    have S127 := S125.pull (F := (is g6)) (Fr := [F4, (is g15)]) 2 rfl rfl
    have S128 := S127.pull (F := F4) (Fr := [(is g6), (is g15)]) 1 rfl rfl
    have S129 := St.first (Fa := [F4, (is g6)]) (Fr := [(is g15)]) S128
    exact ret2 rfl rfl rfl (show _ = .int .i64 x76 from (by kernel_rfl)) (show _ = .bool true from (by kernel_rfl)) ⟨F4, H, rfl, ((swL_len _ _ _).trans ((swL_len _ _ _).trans rfl)), h124, b7, S129⟩
  replace M := ifn q120 M
  refine cond_f rfl (bf q120 (by kernel_rfl)) ?_
  refine wp_skip ?_
  refine then_n ?_
  refine wp_seq ?_
  refine wp_region_lit ?_
  refine lv (d := 55) rfl rfl (by kernel_rfl) (e_fieldAddr (b := g15) (off := 0) (o := 1) Try.underlying78 rfl rfl (sz := 1) (by kernel_rfl) (by decide) (by exact e78)) ?_
  refine lv (d := 56) rfl rfl (by kernel_rfl) (e_load1 (ad := ⟨g15, 0 + 1, none⟩) (v := .func (.func f8) #[] a9) Try.underlying72 rfl (by kernel_rfl) (blk_cell b16 rfl)) ?_
  refine lv (d := 57) rfl rfl (by kernel_rfl) (e_move (v := .int .i64 x30) (by exact e79)) ?_
  refine lv (d := 58) rfl rfl (by kernel_rfl) (e_move (v := .int .i64 x76) (by exact e80)) ?_
  obtain ⟨q130, M⟩ := chk M
  obtain ⟨q131, M⟩ := chk M
  obtain ⟨q132, M⟩ := chk M
  obtain ⟨q133, M⟩ := chk M
  refine lve (d := 59) rfl rfl (by kernel_rfl) (e_swap (a := x30) (b := x76) S81 h25 ((swL_len _ _ _).trans rfl) h10 (by kernel_rfl) (by kernel_rfl) (by kernel_rfl) q130 q131 q132 q133) ?_
  rintro _ w134 ⟨rfl, h135, S136, K137⟩
  replace b16 := K137.blk 0 rfl b16
  replace b7 := K137.blk 1 rfl b7
  clear h25
  refine wpList_nil ?_
  refine then_n ?_
  refine wp_seq ?_
  refine wp_region_lit ?_
  refine lv (d := 60) rfl rfl (by kernel_rfl) (e_move (v := .int .i64 x30) (by exact e79)) ?_
  refine lv (d := 61) rfl rfl (by kernel_rfl) (e_add (k := .i64) (a := x30) (b := 1) (by kernel_rfl) rfl) ?_
  refine lv (d := 10) rfl rfl (by kernel_rfl) (e_assign (v := .int .i64 (IntKind.i64.wrap (x30 + 1))) (by kernel_rfl)) ?_
  refine wpList_nil ?_
  refine then_n ?_
  refine wp_seq ?_
  refine wp_region_lit ?_
  refine lv (d := 62) rfl rfl (by kernel_rfl) (e_move (v := .int .i64 x76) (by exact e80)) ?_
  refine lv (d := 63) rfl rfl (by kernel_rfl) (e_sub (k := .i64) (a := x76) (b := 1) (by kernel_rfl) rfl) ?_
  refine lv (d := 11) rfl rfl (by kernel_rfl) (e_assign (v := .int .i64 (IntKind.i64.wrap (x76 - 1))) (by kernel_rfl)) ?_
  refine wpList_nil ?_
  refine then_n ?_
  refine wp_seq_cut (fun a150 w138 => ∃ (k152 : Nat), ∃ (f139 : Nat → Value) (x140 : Int) (F141 : Foot) (x142 : List Sy.Op), a150 = mk 107 f139 ∧ f139 1 = .int .i64 x11 ∧ f139 4 = .pointer (some ⟨g15, 0, none⟩) ∧ f139 11 = .int .i64 x140 ∧ Row st45 45 H (hp w138) F141 A2 c3 x142 ∧ w138.heap[g15]? = some (.cells #[.func (.func 48) #[] #[.pointer (some ⟨g6, 0, none⟩)], .func (.func f8) #[] a9] 78 (0, 0)) ∧ w138.heap[g6]? = some (.cells #[.slice A2 x1.length c3] 25 (0, 0)) ∧ x142.length = x1.length ∧ St (anyOf [F4, (is g6)]) H w [F141, (is g15), (is g6)] H w138 ∧ sort_partition_func.l4 k152 x1 x11 x140 x142 = some r) ?_ ?_
  · refine wp_block ?_
    refine wp_loop_g (fun k167 a168 w153 => ∃ (f154 : Nat → Value) (x155 : Int) (x156 : Int) (F157 : Foot) (x158 : List Sy.Op), a168 = mk 107 f154 ∧ f154 1 = .int .i64 x11 ∧ f154 4 = .pointer (some ⟨g15, 0, none⟩) ∧ f154 10 = .int .i64 x155 ∧ f154 11 = .int .i64 x156 ∧ Row st45 45 H (hp w153) F157 A2 c3 x158 ∧ w153.heap[g15]? = some (.cells #[.func (.func 48) #[] #[.pointer (some ⟨g6, 0, none⟩)], .func (.func f8) #[] a9] 78 (0, 0)) ∧ w153.heap[g6]? = some (.cells #[.slice A2 x1.length c3] 25 (0, 0)) ∧ x158.length = x1.length ∧ St (anyOf [F4, (is g6)]) H w [F157, (is g15), (is g6)] H w153 ∧ sort_partition_func.l5 k167 x1 x11 x155 x156 x158 = some r) k85 ⟨_, (IntKind.i64.wrap (x30 + 1)), (IntKind.i64.wrap (x76 - 1)), F4, (swL (swL x1 (x11).toNat (x13).toNat) (x30).toNat (x76).toNat), rfl, (by exact e77), (by exact e78), (by kernel_rfl), (by kernel_rfl), h135, b16, b7, ((swL_len _ _ _).trans ((swL_len _ _ _).trans rfl)), S136, M⟩ ?_
    clear M
    rintro k167 a168 w153 ⟨f154, x155, x156, F157, x158, rfl, e160, e161, e162, e163, h135, b16, b7, n159, S164, M⟩
    rcases k167 with _ | k169
    · rw [sort_partition_func.l5] at M
      cases M
    rw [sort_partition_func.l5] at M
    refine wp_block ?_
    refine wp_seq_cut (fun a180 w170 => ∃ (k182 : Nat), k182 ≤ k169 ∧ ∃ (f171 : Nat → Value) (x172 : Int), a180 = mk 107 f171 ∧ f171 1 = .int .i64 x11 ∧ f171 4 = .pointer (some ⟨g15, 0, none⟩) ∧ f171 10 = .int .i64 x172 ∧ f171 11 = .int .i64 x156 ∧ Row st45 45 H (hp w170) F157 A2 c3 x158 ∧ w170.heap[g15]? = some (.cells #[.func (.func 48) #[] #[.pointer (some ⟨g6, 0, none⟩)], .func (.func f8) #[] a9] 78 (0, 0)) ∧ w170.heap[g6]? = some (.cells #[.slice A2 x1.length c3] 25 (0, 0)) ∧ St (anyOf [F4, (is g6)]) H w [F157, (is g15), (is g6)] H w170 ∧ sort_partition_func.l6 k182 x1 x11 x156 x158 x172 = some r) ?_ ?_
    · refine wp_block ?_
      refine wp_loop_g (fun k193 a194 w183 => ∃ (f184 : Nat → Value) (x185 : Int), k193 ≤ k169 ∧ a194 = mk 107 f184 ∧ f184 1 = .int .i64 x11 ∧ f184 4 = .pointer (some ⟨g15, 0, none⟩) ∧ f184 10 = .int .i64 x185 ∧ f184 11 = .int .i64 x156 ∧ Row st45 45 H (hp w183) F157 A2 c3 x158 ∧ w183.heap[g15]? = some (.cells #[.func (.func 48) #[] #[.pointer (some ⟨g6, 0, none⟩)], .func (.func f8) #[] a9] 78 (0, 0)) ∧ w183.heap[g6]? = some (.cells #[.slice A2 x1.length c3] 25 (0, 0)) ∧ St (anyOf [F4, (is g6)]) H w [F157, (is g15), (is g6)] H w183 ∧ sort_partition_func.l7 k193 x1 x11 x156 x158 x185 = some r) k169 ⟨_, x155, (by omega), rfl, (by exact e160), (by exact e161), (by exact e162), (by exact e163), h135, b16, b7, S164, M⟩ ?_
      clear M
      rintro k193 a194 w183 ⟨f184, x185, z192, rfl, e186, e187, e188, e189, h135, b16, b7, S190, M⟩
      rcases k193 with _ | k195
      · rw [sort_partition_func.l7] at M
        cases M
      rw [sort_partition_func.l7] at M
      refine wp_seq ?_
      refine wp_seq ?_
      refine wp_region_lit ?_
      refine lv (d := 64) rfl rfl (by kernel_rfl) (e_move (v := .int .i64 x185) (by exact e188)) ?_
      refine lv (d := 65) rfl rfl (by kernel_rfl) (e_move (v := .int .i64 x156) (by exact e189)) ?_
      refine lv (d := 66) rfl rfl (by kernel_rfl) (e_leq (k := .i64) (a := x185) (b := x156) (by kernel_rfl) (by kernel_rfl)) ?_
      refine lv (d := 67) rfl rfl (by kernel_rfl) (e_move (v := .bool (decide (x185 ≤ x156))) (by kernel_rfl)) ?_
      by_cases q196 : x185 ≤ x156
      · replace M := ifp q196 M
        refine lvg (d := 68) (t := 67) rfl (by kernel_rfl) rfl (bt q196 (by kernel_rfl)) rfl (by kernel_rfl) (e_fieldAddr (b := g15) (off := 0) (o := 0) Try.underlying78 rfl rfl (sz := 1) (by kernel_rfl) (by decide) (by exact e187)) ?_
        refine lvg (d := 69) (t := 67) rfl (by kernel_rfl) rfl (bt q196 (by kernel_rfl)) rfl (by kernel_rfl) (e_load1 (ad := ⟨g15, 0 + 0, none⟩) (v := .func (.func 48) #[] #[.pointer (some ⟨g6, 0, none⟩)]) Try.underlying64 rfl (by kernel_rfl) (blk_cell b16 rfl)) ?_
        refine lvg (d := 70) (t := 67) rfl (by kernel_rfl) rfl (bt q196 (by kernel_rfl)) rfl (by kernel_rfl) (e_move (v := .int .i64 x185) (by exact e188)) ?_
        refine lvg (d := 71) (t := 67) rfl (by kernel_rfl) rfl (bt q196 (by kernel_rfl)) rfl (by kernel_rfl) (e_move (v := .int .i64 x11) (by exact e186)) ?_
        obtain ⟨t197, u198, M⟩ := bnd M
        refine lcallg (d := 72) (t := 67) rfl (by kernel_rfl) rfl (bt q196 (by kernel_rfl)) rfl (by kernel_rfl) (e_callv (l := [.tmp 70, .tmp 71]) (vs := [.int .i64 x185, .int .i64 x11]) (cs := [.pointer (some ⟨g6, 0, none⟩)]) Try.func48 (by kernel_rfl) rfl (by kernel_rfl) (by kernel_rfl)) (by have l199 := h135.le; obtain ⟨H200, S201, E202, h203, z204⟩ := S190.frzRow h135; have S205 := S201.pull (F := (is g6)) (Fr := [(is g15)]) 1 rfl rfl; obtain ⟨H206, S207, E208, h209, z210⟩ := S205.frzBlk b7; exact (by have q_ := (impl_sortOps_c1.calls w183 H206 x185 x11 x158 g6 A2 c3 (h203.ext E208) l199 (by rw [show x158.length = x1.length from n159]; exact h209) S207.own0 t197 u198); (try rw [(show x158.length = x1.length from n159)] at q_); exact q_)) ?_
        rintro _ w211 ⟨rfl, C212⟩
        refine ⟨_, rfl, ?_⟩
        obtain ⟨S213, K214⟩ := S190.still C212
        replace h135 := h135.move (K214.at 0 rfl)
        replace b16 := K214.blk 1 rfl b16
        replace b7 := K214.blk 2 rfl b7
        refine lv (d := 73) rfl rfl (by kernel_rfl) (e_pick_t (v := .bool t197) (bt q196 (by kernel_rfl)) (by kernel_rfl)) ?_
        refine wpList_nil ?_
        refine then_n ?_
        by_cases q215 : t197 = true
        · replace M := ifp q215 M
          refine cond_t rfl (bvt q215 (by kernel_rfl)) ?_
          refine wp_skip ?_
          refine then_n ?_
          refine wp_block ?_
          refine wp_region_lit ?_
          refine lv (d := 74) rfl rfl (by kernel_rfl) (e_move (v := .int .i64 x185) (by exact e188)) ?_
          refine lv (d := 75) rfl rfl (by kernel_rfl) (e_add (k := .i64) (a := x185) (b := 1) (by kernel_rfl) rfl) ?_
          refine lv (d := 10) rfl rfl (by kernel_rfl) (e_assign (v := .int .i64 (IntKind.i64.wrap (x185 + 1))) (by kernel_rfl)) ?_
          refine wpList_nil ?_
          refine inb_n ?_
          refine then_n ?_
          exact ⟨k195, (by omega), _, (IntKind.i64.wrap (x185 + 1)), (by omega), rfl, (by exact e186), (by exact e187), (by kernel_rfl), (by exact e189), h135, b16, b7, S213, M⟩
        replace M := ifn q215 M
        refine cond_f rfl (bvf q215 (by kernel_rfl)) ?_
        refine wp_exit ?_
        refine then_e ?_
        refine then_e ?_
        refine inb_hit ?_
        refine then_n ?_
        exact ⟨k195, (by omega), _, x185, rfl, (by exact e186), (by exact e187), (by exact e188), (by exact e189), h135, b16, b7, S213, M⟩
      replace M := ifn q196 M
      refine lskip (t := 67) (c := false) rfl (by kernel_rfl) rfl (bf q196 (by kernel_rfl)) rfl rfl ?_
      refine lskip (t := 67) (c := false) rfl (by kernel_rfl) rfl (bf q196 (by kernel_rfl)) rfl rfl ?_
      refine lskip (t := 67) (c := false) rfl (by kernel_rfl) rfl (bf q196 (by kernel_rfl)) rfl rfl ?_
      refine lskip (t := 67) (c := false) rfl (by kernel_rfl) rfl (bf q196 (by kernel_rfl)) rfl rfl ?_
      refine lskip (t := 67) (c := false) rfl (by kernel_rfl) rfl (bf q196 (by kernel_rfl)) rfl rfl ?_
      refine lv (d := 73) rfl rfl (by kernel_rfl) (e_pick_f (v := .bool false) (bf q196 (by kernel_rfl)) rfl) ?_
      refine wpList_nil ?_
      refine then_n ?_
      refine cond_f rfl (by kernel_rfl) ?_
      refine wp_exit ?_
      refine then_e ?_
      refine then_e ?_
      refine inb_hit ?_
      refine then_n ?_
      exact ⟨k195, (by omega), _, x185, rfl, (by exact e186), (by exact e187), (by exact e188), (by exact e189), h135, b16, b7, S190, M⟩
    clear M
    rintro a180 w170 ⟨k182, z272, f171, x172, rfl, e173, e174, e175, e176, h135, b16, b7, S177, M⟩
    rcases k182 with _ | k181
    · rw [sort_partition_func.l6] at M
      cases M
    rw [sort_partition_func.l6] at M
    refine wp_seq_cut (fun a226 w216 => ∃ (k228 : Nat), k228 ≤ k181 ∧ ∃ (f217 : Nat → Value) (x218 : Int), a226 = mk 107 f217 ∧ f217 1 = .int .i64 x11 ∧ f217 4 = .pointer (some ⟨g15, 0, none⟩) ∧ f217 10 = .int .i64 x172 ∧ f217 11 = .int .i64 x218 ∧ Row st45 45 H (hp w216) F157 A2 c3 x158 ∧ w216.heap[g15]? = some (.cells #[.func (.func 48) #[] #[.pointer (some ⟨g6, 0, none⟩)], .func (.func f8) #[] a9] 78 (0, 0)) ∧ w216.heap[g6]? = some (.cells #[.slice A2 x1.length c3] 25 (0, 0)) ∧ St (anyOf [F4, (is g6)]) H w [F157, (is g15), (is g6)] H w216 ∧ sort_partition_func.l8 k228 x1 x11 x158 x172 x218 = some r) ?_ ?_
    · refine wp_block ?_
      refine wp_loop_g (fun k239 a240 w229 => ∃ (f230 : Nat → Value) (x231 : Int), k239 ≤ k181 ∧ a240 = mk 107 f230 ∧ f230 1 = .int .i64 x11 ∧ f230 4 = .pointer (some ⟨g15, 0, none⟩) ∧ f230 10 = .int .i64 x172 ∧ f230 11 = .int .i64 x231 ∧ Row st45 45 H (hp w229) F157 A2 c3 x158 ∧ w229.heap[g15]? = some (.cells #[.func (.func 48) #[] #[.pointer (some ⟨g6, 0, none⟩)], .func (.func f8) #[] a9] 78 (0, 0)) ∧ w229.heap[g6]? = some (.cells #[.slice A2 x1.length c3] 25 (0, 0)) ∧ St (anyOf [F4, (is g6)]) H w [F157, (is g15), (is g6)] H w229 ∧ sort_partition_func.l9 k239 x1 x11 x158 x172 x231 = some r) k181 ⟨_, x156, (by omega), rfl, (by exact e173), (by exact e174), (by exact e175), (by exact e176), h135, b16, b7, S177, M⟩ ?_
      clear M
      rintro k239 a240 w229 ⟨f230, x231, z238, rfl, e232, e233, e234, e235, h135, b16, b7, S236, M⟩
      rcases k239 with _ | k241
      · rw [sort_partition_func.l9] at M
        cases M
      rw [sort_partition_func.l9] at M
      refine wp_seq ?_
      refine wp_seq ?_
      refine wp_region_lit ?_
      refine lv (d := 76) rfl rfl (by kernel_rfl) (e_move (v := .int .i64 x172) (by exact e234)) ?_
      refine lv (d := 77) rfl rfl (by kernel_rfl) (e_move (v := .int .i64 x231) (by exact e235)) ?_
      refine lv (d := 78) rfl rfl (by kernel_rfl) (e_leq (k := .i64) (a := x172) (b := x231) (by kernel_rfl) (by kernel_rfl)) ?_
      refine lv (d := 79) rfl rfl (by kernel_rfl) (e_move (v := .bool (decide (x172 ≤ x231))) (by kernel_rfl)) ?_
      by_cases q242 : x172 ≤ x231
      · replace M := ifp q242 M
        refine lvg (d := 80) (t := 79) rfl (by kernel_rfl) rfl (bt q242 (by kernel_rfl)) rfl (by kernel_rfl) (e_fieldAddr (b := g15) (off := 0) (o := 0) Try.underlying78 rfl rfl (sz := 1) (by kernel_rfl) (by decide) (by exact e233)) ?_
        refine lvg (d := 81) (t := 79) rfl (by kernel_rfl) rfl (bt q242 (by kernel_rfl)) rfl (by kernel_rfl) (e_load1 (ad := ⟨g15, 0 + 0, none⟩) (v := .func (.func 48) #[] #[.pointer (some ⟨g6, 0, none⟩)]) Try.underlying64 rfl (by kernel_rfl) (blk_cell b16 rfl)) ?_
        refine lvg (d := 82) (t := 79) rfl (by kernel_rfl) rfl (bt q242 (by kernel_rfl)) rfl (by kernel_rfl) (e_move (v := .int .i64 x231) (by exact e235)) ?_
        refine lvg (d := 83) (t := 79) rfl (by kernel_rfl) rfl (bt q242 (by kernel_rfl)) rfl (by kernel_rfl) (e_move (v := .int .i64 x11) (by exact e232)) ?_
        obtain ⟨t243, u244, M⟩ := bnd M
        refine lcallg (d := 84) (t := 79) rfl (by kernel_rfl) rfl (bt q242 (by kernel_rfl)) rfl (by kernel_rfl) (e_callv (l := [.tmp 82, .tmp 83]) (vs := [.int .i64 x231, .int .i64 x11]) (cs := [.pointer (some ⟨g6, 0, none⟩)]) Try.func48 (by kernel_rfl) rfl (by kernel_rfl) (by kernel_rfl)) (by have l245 := h135.le; obtain ⟨H246, S247, E248, h249, z250⟩ := S236.frzRow h135; have S251 := S247.pull (F := (is g6)) (Fr := [(is g15)]) 1 rfl rfl; obtain ⟨H252, S253, E254, h255, z256⟩ := S251.frzBlk b7; exact (by have q_ := (impl_sortOps_c1.calls w229 H252 x231 x11 x158 g6 A2 c3 (h249.ext E254) l245 (by rw [show x158.length = x1.length from n159]; exact h255) S253.own0 t243 u244); (try rw [(show x158.length = x1.length from n159)] at q_); exact q_)) ?_
        rintro _ w257 ⟨rfl, C258⟩
        refine ⟨_, rfl, ?_⟩
        obtain ⟨S259, K260⟩ := S236.still C258
        replace h135 := h135.move (K260.at 0 rfl)
        replace b16 := K260.blk 1 rfl b16
        replace b7 := K260.blk 2 rfl b7
        refine lvg (d := 85) (t := 79) rfl (by kernel_rfl) rfl (bt q242 (by kernel_rfl)) rfl (by kernel_rfl) (e_notv (c := t243) (by kernel_rfl)) ?_
        refine lv (d := 86) rfl rfl (by kernel_rfl) (e_pick_t (v := .bool (decide (¬ (t243 = true)))) (bt q242 (by kernel_rfl)) (by kernel_rfl)) ?_
        refine wpList_nil ?_
        refine then_n ?_
        by_cases q261 : ¬ (t243 = true)
        · replace M := ifp q261 M
          refine cond_t rfl (bt q261 (by kernel_rfl)) ?_
          refine wp_skip ?_
          refine then_n ?_
          refine wp_block ?_
          refine wp_region_lit ?_
          refine lv (d := 87) rfl rfl (by kernel_rfl) (e_move (v := .int .i64 x231) (by exact e235)) ?_
          refine lv (d := 88) rfl rfl (by kernel_rfl) (e_sub (k := .i64) (a := x231) (b := 1) (by kernel_rfl) rfl) ?_
          refine lv (d := 11) rfl rfl (by kernel_rfl) (e_assign (v := .int .i64 (IntKind.i64.wrap (x231 - 1))) (by kernel_rfl)) ?_
          refine wpList_nil ?_
          refine inb_n ?_
          refine then_n ?_
          exact ⟨k241, (by omega), _, (IntKind.i64.wrap (x231 - 1)), (by omega), rfl, (by exact e232), (by exact e233), (by exact e234), (by kernel_rfl), h135, b16, b7, S259, M⟩
        replace M := ifn q261 M
        refine cond_f rfl (bf q261 (by kernel_rfl)) ?_
        refine wp_exit ?_
        refine then_e ?_
        refine then_e ?_
        refine inb_hit ?_
        refine then_n ?_
        exact ⟨k241, (by omega), _, x231, rfl, (by exact e232), (by exact e233), (by exact e234), (by exact e235), h135, b16, b7, S259, M⟩
      replace M := ifn q242 M
      refine lskip (t := 79) (c := false) rfl (by kernel_rfl) rfl (bf q242 (by kernel_rfl)) rfl rfl ?_
      refine lskip (t := 79) (c := false) rfl (by kernel_rfl) rfl (bf q242 (by kernel_rfl)) rfl rfl ?_
      refine lskip (t := 79) (c := false) rfl (by kernel_rfl) rfl (bf q242 (by kernel_rfl)) rfl rfl ?_
      refine lskip (t := 79) (c := false) rfl (by kernel_rfl) rfl (bf q242 (by kernel_rfl)) rfl rfl ?_
      refine lskip (t := 79) (c := false) rfl (by kernel_rfl) rfl (bf q242 (by kernel_rfl)) rfl rfl ?_
      refine lskip (t := 79) (c := false) rfl (by kernel_rfl) rfl (bf q242 (by kernel_rfl)) rfl rfl ?_
      refine lv (d := 86) rfl rfl (by kernel_rfl) (e_pick_f (v := .bool false) (bf q242 (by kernel_rfl)) rfl) ?_
      refine wpList_nil ?_
      refine then_n ?_
      refine cond_f rfl (by kernel_rfl) ?_
      refine wp_exit ?_
      refine then_e ?_
      refine then_e ?_
      refine inb_hit ?_
      refine then_n ?_
      exact ⟨k241, (by omega), _, x231, rfl, (by exact e232), (by exact e233), (by exact e234), (by exact e235), h135, b16, b7, S236, M⟩
    clear M
    rintro a226 w216 ⟨k228, z271, f217, x218, rfl, e219, e220, e221, e222, h135, b16, b7, S223, M⟩
    rcases k228 with _ | k227
    · rw [sort_partition_func.l8] at M
      cases M
    rw [sort_partition_func.l8] at M
    refine wp_seq ?_
    refine wp_seq ?_
    refine wp_region_lit ?_
    refine lv (d := 89) rfl rfl (by kernel_rfl) (e_move (v := .int .i64 x172) (by exact e221)) ?_
    refine lv (d := 90) rfl rfl (by kernel_rfl) (e_move (v := .int .i64 x218) (by exact e222)) ?_
    refine lv (d := 91) rfl rfl (by kernel_rfl) (e_gtr (k := .i64) (a := x172) (b := x218) (by kernel_rfl) (by kernel_rfl)) ?_
    refine wpList_nil ?_
    refine then_n ?_
    by_cases q262 : x172 > x218
    · replace M := ifp q262 M
      refine cond_t rfl (bt q262 (by kernel_rfl)) ?_
      refine wp_exit ?_
      refine then_e ?_
      refine inb_miss rfl ?_
      refine then_e ?_
      refine inb_hit ?_
      refine then_n ?_
      exact ⟨k227, _, x218, F157, x158, rfl, (by exact e219), (by exact e220), (by exact e222), h135, b16, b7, n159, S223, M⟩
    replace M := ifn q262 M
    refine cond_f rfl (bf q262 (by kernel_rfl)) ?_
    refine wp_skip ?_
    refine then_n ?_
    refine wp_seq ?_
    refine wp_region_lit ?_
    refine lv (d := 92) rfl rfl (by kernel_rfl) (e_fieldAddr (b := g15) (off := 0) (o := 1) Try.underlying78 rfl rfl (sz := 1) (by kernel_rfl) (by decide) (by exact e220)) ?_
    refine lv (d := 93) rfl rfl (by kernel_rfl) (e_load1 (ad := ⟨g15, 0 + 1, none⟩) (v := .func (.func f8) #[] a9) Try.underlying72 rfl (by kernel_rfl) (blk_cell b16 rfl)) ?_
    refine lv (d := 94) rfl rfl (by kernel_rfl) (e_move (v := .int .i64 x172) (by exact e221)) ?_
    refine lv (d := 95) rfl rfl (by kernel_rfl) (e_move (v := .int .i64 x218) (by exact e222)) ?_
    obtain ⟨q263, M⟩ := chk M
    obtain ⟨q264, M⟩ := chk M
    obtain ⟨q265, M⟩ := chk M
    obtain ⟨q266, M⟩ := chk M
    refine lve (d := 96) rfl rfl (by kernel_rfl) (e_swap (a := x172) (b := x218) S223 h135 n159 h10 (by kernel_rfl) (by kernel_rfl) (by kernel_rfl) q263 q264 q265 q266) ?_
    rintro _ w267 ⟨rfl, h268, S269, K270⟩
    replace b16 := K270.blk 0 rfl b16
    replace b7 := K270.blk 1 rfl b7
    clear h135
    refine wpList_nil ?_
    refine then_n ?_
    refine wp_seq ?_
    refine wp_region_lit ?_
    refine lv (d := 97) rfl rfl (by kernel_rfl) (e_move (v := .int .i64 x172) (by exact e221)) ?_
    refine lv (d := 98) rfl rfl (by kernel_rfl) (e_add (k := .i64) (a := x172) (b := 1) (by kernel_rfl) rfl) ?_
    refine lv (d := 10) rfl rfl (by kernel_rfl) (e_assign (v := .int .i64 (IntKind.i64.wrap (x172 + 1))) (by kernel_rfl)) ?_
    refine wpList_nil ?_
    refine then_n ?_
    refine wp_region_lit ?_
    refine lv (d := 99) rfl rfl (by kernel_rfl) (e_move (v := .int .i64 x218) (by exact e222)) ?_
    refine lv (d := 100) rfl rfl (by kernel_rfl) (e_sub (k := .i64) (a := x218) (b := 1) (by kernel_rfl) rfl) ?_
    refine lv (d := 11) rfl rfl (by kernel_rfl) (e_assign (v := .int .i64 (IntKind.i64.wrap (x218 - 1))) (by kernel_rfl)) ?_
    refine wpList_nil ?_
    refine inb_n ?_
    refine then_n ?_
    exact ⟨k227, (by omega), _, (IntKind.i64.wrap (x172 + 1)), (IntKind.i64.wrap (x218 - 1)), F157, (swL x158 (x172).toNat (x218).toNat), rfl, (by exact e219), (by exact e220), (by kernel_rfl), (by kernel_rfl), h268, b16, b7, ((swL_len _ _ _).trans n159), S269, M⟩
  clear M
  rintro a150 w138 ⟨k152, f139, x140, F141, x142, rfl, e144, e145, e146, h135, b16, b7, n143, S147, M⟩
  rcases k152 with _ | k151
  · rw [sort_partition_func.l4] at M
    cases M
  rw [sort_partition_func.l4] at M
  refine wp_seq ?_
  refine wp_region_lit ?_
  refine lv (d := 101) rfl rfl (by kernel_rfl) (e_fieldAddr (b := g15) (off := 0) (o := 1) Try.underlying78 rfl rfl (sz := 1) (by kernel_rfl) (by decide) (by exact e145)) ?_
  refine lv (d := 102) rfl rfl (by kernel_rfl) (e_load1 (ad := ⟨g15, 0 + 1, none⟩) (v := .func (.func f8) #[] a9) Try.underlying72 rfl (by kernel_rfl) (blk_cell b16 rfl)) ?_
  refine lv (d := 103) rfl rfl (by kernel_rfl) (e_move (v := .int .i64 x140) (by exact e146)) ?_
  refine lv (d := 104) rfl rfl (by kernel_rfl) (e_move (v := .int .i64 x11) (by exact e144)) ?_
  obtain ⟨q273, M⟩ := chk M
  obtain ⟨q274, M⟩ := chk M
  refine lve (d := 105) rfl rfl (by kernel_rfl) (e_swap (a := x140) (b := x11) S147 h135 n143 h10 (by kernel_rfl) (by kernel_rfl) (by kernel_rfl) q273 q274 q19 q20) ?_
  rintro _ w275 ⟨rfl, h276, S277, K278⟩
  replace b16 := K278.blk 0 rfl b16
  replace b7 := K278.blk 1 rfl b7
  clear h135
  refine wpList_nil ?_
  refine then_n ?_
  refine wp_seq ?_
  refine wp_region_lit ?_
  refine lv (d := 106) rfl rfl (by kernel_rfl) (e_move (v := .int .i64 x140) (by exact e146)) ?_
  refine lv (d := 8) rfl rfl (by kernel_rfl) (e_assign (v := .int .i64 x140) (by kernel_rfl)) ?_
  refine lv (d := 9) rfl rfl (by kernel_rfl) (e_assign (v := .bool false) rfl) ?_
  refine wpList_nil ?_
  refine then_n ?_
  refine wp_ret ?_
  obtain rfl := Option.some.inj M
  have S279 := S277.pull (F := (is g6)) (Fr := [F141, (is g15)]) 2 rfl rfl
  have S280 := S279.pull (F := F141) (Fr := [(is g6), (is g15)]) 1 rfl rfl
  have S281 := St.first (Fa := [F141, (is g6)]) (Fr := [(is g15)]) S280
  exact ret2 rfl rfl rfl (show _ = .int .i64 x140 from (by kernel_rfl)) (show _ = .bool false from (by kernel_rfl)) ⟨F141, H, rfl, ((swL_len _ _ _).trans n143), h276, b7, S281⟩

/-! bits_Len64 -/
def bits_Len64.l1 (_k : Nat) (x15 : Int) (x16 : Int) : Option Int := (if x15 ≥ 256 then (if 0 ≤ ((b8 ((Int.fdiv x15 (2 ^ 8)))).toNat : Int) then (if ((b8 ((Int.fdiv x15 (2 ^ 8)))).toNat : Int) < (([0, 1, 2, 2, 3, 3, 3, 3, 4, 4, 4, 4, 4, 4, 4, 4, 5, 5, 5, 5, 5, 5, 5, 5, 5, 5, 5, 5, 5, 5, 5, 5, 6, 6, 6, 6, 6, 6, 6, 6, 6, 6, 6, 6, 6, 6, 6, 6, 6, 6, 6, 6, 6, 6, 6, 6, 6, 6, 6, 6, 6, 6, 6, 6, 7, 7, 7, 7, 7, 7, 7, 7, 7, 7, 7, 7, 7, 7, 7, 7, 7, 7, 7, 7, 7, 7, 7, 7, 7, 7, 7, 7, 7, 7, 7, 7, 7, 7, 7, 7, 7, 7, 7, 7, 7, 7, 7, 7, 7, 7, 7, 7, 7, 7, 7, 7, 7, 7, 7, 7, 7, 7, 7, 7, 7, 7, 7, 7, 8, 8, 8, 8, 8, 8, 8, 8, 8, 8, 8, 8, 8, 8, 8, 8, 8, 8, 8, 8, 8, 8, 8, 8, 8, 8, 8, 8, 8, 8, 8, 8, 8, 8, 8, 8, 8, 8, 8, 8, 8, 8, 8, 8, 8, 8, 8, 8, 8, 8, 8, 8, 8, 8, 8, 8, 8, 8, 8, 8, 8, 8, 8, 8, 8, 8, 8, 8, 8, 8, 8, 8, 8, 8, 8, 8, 8, 8, 8, 8, 8, 8, 8, 8, 8, 8, 8, 8, 8, 8, 8, 8, 8, 8, 8, 8, 8, 8, 8, 8, 8, 8, 8, 8, 8, 8, 8, 8, 8, 8, 8, 8, 8, 8, 8, 8, 8, 8, 8, 8, 8, 8, 8, 8, 8, 8, 8, 8] : List UInt8).length : Int) then some (IntKind.i64.wrap ((IntKind.i64.wrap (x16 + 8)) + ((([0, 1, 2, 2, 3, 3, 3, 3, 4, 4, 4, 4, 4, 4, 4, 4, 5, 5, 5, 5, 5, 5, 5, 5, 5, 5, 5, 5, 5, 5, 5, 5, 6, 6, 6, 6, 6, 6, 6, 6, 6, 6, 6, 6, 6, 6, 6, 6, 6, 6, 6, 6, 6, 6, 6, 6, 6, 6, 6, 6, 6, 6, 6, 6, 7, 7, 7, 7, 7, 7, 7, 7, 7, 7, 7, 7, 7, 7, 7, 7, 7, 7, 7, 7, 7, 7, 7, 7, 7, 7, 7, 7, 7, 7, 7, 7, 7, 7, 7, 7, 7, 7, 7, 7, 7, 7, 7, 7, 7, 7, 7, 7, 7, 7, 7, 7, 7, 7, 7, 7, 7, 7, 7, 7, 7, 7, 7, 7, 8, 8, 8, 8, 8, 8, 8, 8, 8, 8, 8, 8, 8, 8, 8, 8, 8, 8, 8, 8, 8, 8, 8, 8, 8, 8, 8, 8, 8, 8, 8, 8, 8, 8, 8, 8, 8, 8, 8, 8, 8, 8, 8, 8, 8, 8, 8, 8, 8, 8, 8, 8, 8, 8, 8, 8, 8, 8, 8, 8, 8, 8, 8, 8, 8, 8, 8, 8, 8, 8, 8, 8, 8, 8, 8, 8, 8, 8, 8, 8, 8, 8, 8, 8, 8, 8, 8, 8, 8, 8, 8, 8, 8, 8, 8, 8, 8, 8, 8, 8, 8, 8, 8, 8, 8, 8, 8, 8, 8, 8, 8, 8, 8, 8, 8, 8, 8, 8, 8, 8, 8, 8, 8, 8, 8, 8, 8, 8] : List UInt8).getD (((b8 ((Int.fdiv x15 (2 ^ 8)))).toNat : Int) : Int).toNat (0 : UInt8)).toNat : Int))) else none) else none) else (if 0 ≤ ((b8 (x15)).toNat : Int) then (if ((b8 (x15)).toNat : Int) < (([0, 1, 2, 2, 3, 3, 3, 3, 4, 4, 4, 4, 4, 4, 4, 4, 5, 5, 5, 5, 5, 5, 5, 5, 5, 5, 5, 5, 5, 5, 5, 5, 6, 6, 6, 6, 6, 6, 6, 6, 6, 6, 6, 6, 6, 6, 6, 6, 6, 6, 6, 6, 6, 6, 6, 6, 6, 6, 6, 6, 6, 6, 6, 6, 7, 7, 7, 7, 7, 7, 7, 7, 7, 7, 7, 7, 7, 7, 7, 7, 7, 7, 7, 7, 7, 7, 7, 7, 7, 7, 7, 7, 7, 7, 7, 7, 7, 7, 7, 7, 7, 7, 7, 7, 7, 7, 7, 7, 7, 7, 7, 7, 7, 7, 7, 7, 7, 7, 7, 7, 7, 7, 7, 7, 7, 7, 7, 7, 8, 8, 8, 8, 8, 8, 8, 8, 8, 8, 8, 8, 8, 8, 8, 8, 8, 8, 8, 8, 8, 8, 8, 8, 8, 8, 8, 8, 8, 8, 8, 8, 8, 8, 8, 8, 8, 8, 8, 8, 8, 8, 8, 8, 8, 8, 8, 8, 8, 8, 8, 8, 8, 8, 8, 8, 8, 8, 8, 8, 8, 8, 8, 8, 8, 8, 8, 8, 8, 8, 8, 8, 8, 8, 8, 8, 8, 8, 8, 8, 8, 8, 8, 8, 8, 8, 8, 8, 8, 8, 8, 8, 8, 8, 8, 8, 8, 8, 8, 8, 8, 8, 8, 8, 8, 8, 8, 8, 8, 8, 8, 8, 8, 8, 8, 8, 8, 8, 8, 8, 8, 8, 8, 8, 8, 8, 8, 8] : List UInt8).length : Int) then some (IntKind.i64.wrap (x16 + ((([0, 1, 2, 2, 3, 3, 3, 3, 4, 4, 4, 4, 4, 4, 4, 4, 5, 5, 5, 5, 5, 5, 5, 5, 5, 5, 5, 5, 5, 5, 5, 5, 6, 6, 6, 6, 6, 6, 6, 6, 6, 6, 6, 6, 6, 6, 6, 6, 6, 6, 6, 6, 6, 6, 6, 6, 6, 6, 6, 6, 6, 6, 6, 6, 7, 7, 7, 7, 7, 7, 7, 7, 7, 7, 7, 7, 7, 7, 7, 7, 7, 7, 7, 7, 7, 7, 7, 7, 7, 7, 7, 7, 7, 7, 7, 7, 7, 7, 7, 7, 7, 7, 7, 7, 7, 7, 7, 7, 7, 7, 7, 7, 7, 7, 7, 7, 7, 7, 7, 7, 7, 7, 7, 7, 7, 7, 7, 7, 8, 8, 8, 8, 8, 8, 8, 8, 8, 8, 8, 8, 8, 8, 8, 8, 8, 8, 8, 8, 8, 8, 8, 8, 8, 8, 8, 8, 8, 8, 8, 8, 8, 8, 8, 8, 8, 8, 8, 8, 8, 8, 8, 8, 8, 8, 8, 8, 8, 8, 8, 8, 8, 8, 8, 8, 8, 8, 8, 8, 8, 8, 8, 8, 8, 8, 8, 8, 8, 8, 8, 8, 8, 8, 8, 8, 8, 8, 8, 8, 8, 8, 8, 8, 8, 8, 8, 8, 8, 8, 8, 8, 8, 8, 8, 8, 8, 8, 8, 8, 8, 8, 8, 8, 8, 8, 8, 8, 8, 8, 8, 8, 8, 8, 8, 8, 8, 8, 8, 8, 8, 8, 8, 8, 8, 8, 8, 8] : List UInt8).getD (((b8 (x15)).toNat : Int) : Int).toNat (0 : UInt8)).toNat : Int))) else none) else none))
def bits_Len64.l0 (_k : Nat) (x4 : Int) (x5 : Int) : Option Int := (if x4 ≥ 65536 then (bits_Len64.l1 0 (Int.fdiv x4 (2 ^ 16)) (IntKind.i64.wrap (x5 + 16))) else (bits_Len64.l1 0 x4 x5))
def bits_Len64.f (x1 : Int) : Option Int := (if x1 ≥ 4294967296 then (bits_Len64.l0 0 (Int.fdiv x1 (2 ^ 32)) 32) else (bits_Len64.l0 0 x1 0))
theorem bits_Len64.calls (w : World) (H : Hp) (x1 : Int) (S : Own [] H w) (r : Int) (M : bits_Len64.f x1 = some r) :
    Calls Try.prog 64 #[.int .u64 x1] w (fun e e_w => e = .returned (.int .i64 r) ∧ Chg no w e_w) := by
  rw [bits_Len64.f] at M
  refine enter (l := [.int .u64 x1]) 25 Try.func64 rfl rfl rfl ?_
  have S0_ := S.st
  refine wp_seq ?_
  refine wp_region_lit ?_
  refine lv (d := 2) rfl rfl (by kernel_rfl) (e_assign (v := .int .i64 0) rfl) ?_
  refine wpList_nil ?_
  refine then_n ?_
  refine wp_seq_cut (fun a11 w2 => ∃ (f3 : Nat → Value) (x4 : Int) (x5 : Int), a11 = mk 25 f3 ∧ f3 0 = .int .u64 x4 ∧ f3 2 = .int .i64 x5 ∧ St (anyOf []) H w [] H w2 ∧ bits_Len64.l0 0 x4 x5 = some r) ?_ ?_
  · refine wp_seq ?_
    refine wp_region_lit ?_
    refine lv (d := 3) rfl rfl (by kernel_rfl) (e_move (v := .int .u64 x1) (by kernel_rfl)) ?_
    refine lv (d := 4) rfl rfl (by kernel_rfl) (e_geq (k := .u64) (a := x1) (b := 4294967296) (by kernel_rfl) rfl) ?_
    refine wpList_nil ?_
    refine then_n ?_
    by_cases q12 : x1 ≥ 4294967296
    · replace M := ifp q12 M
      refine cond_t rfl (bt q12 (by kernel_rfl)) ?_
      refine wp_seq ?_
      refine wp_region_lit ?_
      refine lv (d := 5) rfl rfl (by kernel_rfl) (e_move (v := .int .u64 x1) (by kernel_rfl)) ?_
      refine lv (d := 6) rfl rfl (by kernel_rfl) (e_shr (k := .u64) (k2 := .u64) (a := x1) (b := 32) (by kernel_rfl) rfl (by decide)) ?_
      refine lv (d := 0) rfl rfl (by kernel_rfl) (e_assign (v := .int .u64 (Int.fdiv x1 (2 ^ 32))) (by kernel_rfl)) ?_
      refine wpList_nil ?_
      refine then_n ?_
      refine wp_region_lit ?_
      refine lv (d := 2) rfl rfl (by kernel_rfl) (e_assign (v := .int .i64 32) rfl) ?_
      refine wpList_nil ?_
      refine then_n ?_
      exact ⟨_, (Int.fdiv x1 (2 ^ 32)), 32, rfl, (by kernel_rfl), (by kernel_rfl), S0_, M⟩
    replace M := ifn q12 M
    refine cond_f rfl (bf q12 (by kernel_rfl)) ?_
    refine wp_skip ?_
    refine then_n ?_
    exact ⟨_, x1, 0, rfl, (by kernel_rfl), (by kernel_rfl), S0_, M⟩
  clear M
  rintro a11 w2 ⟨f3, x4, x5, rfl, e6, e7, S8, M⟩
  rw [bits_Len64.l0] at M
  refine wp_seq_cut (fun a22 w13 => ∃ (f14 : Nat → Value) (x15 : Int) (x16 : Int), a22 = mk 25 f14 ∧ f14 0 = .int .u64 x15 ∧ f14 2 = .int .i64 x16 ∧ St (anyOf []) H w [] H w13 ∧ bits_Len64.l1 0 x15 x16 = some r) ?_ ?_
  · refine wp_seq ?_
    refine wp_region_lit ?_
    refine lv (d := 7) rfl rfl (by kernel_rfl) (e_move (v := .int .u64 x4) (by exact e6)) ?_
    refine lv (d := 8) rfl rfl (by kernel_rfl) (e_geq (k := .u64) (a := x4) (b := 65536) (by kernel_rfl) rfl) ?_
    refine wpList_nil ?_
    refine then_n ?_
    by_cases q23 : x4 ≥ 65536
    · replace M := ifp q23 M
      refine cond_t rfl (bt q23 (by kernel_rfl)) ?_
      refine wp_seq ?_
      refine wp_region_lit ?_
      refine lv (d := 9) rfl rfl (by kernel_rfl) (e_move (v := .int .u64 x4) (by exact e6)) ?_
      refine lv (d := 10) rfl rfl (by kernel_rfl) (e_shr (k := .u64) (k2 := .u64) (a := x4) (b := 16) (by kernel_rfl) rfl (by decide)) ?_
      refine lv (d := 0) rfl rfl (by kernel_rfl) (e_assign (v := .int .u64 (Int.fdiv x4 (2 ^ 16))) (by kernel_rfl)) ?_
      refine wpList_nil ?_
      refine then_n ?_
      refine wp_region_lit ?_
      refine lv (d := 11) rfl rfl (by kernel_rfl) (e_move (v := .int .i64 x5) (by exact e7)) ?_
      refine lv (d := 12) rfl rfl (by kernel_rfl) (e_add (k := .i64) (a := x5) (b := 16) (by kernel_rfl) rfl) ?_
      refine lv (d := 2) rfl rfl (by kernel_rfl) (e_assign (v := .int .i64 (IntKind.i64.wrap (x5 + 16))) (by kernel_rfl)) ?_
      refine wpList_nil ?_
      refine then_n ?_
      exact ⟨_, (Int.fdiv x4 (2 ^ 16)), (IntKind.i64.wrap (x5 + 16)), rfl, (by kernel_rfl), (by kernel_rfl), S8, M⟩
    replace M := ifn q23 M
    refine cond_f rfl (bf q23 (by kernel_rfl)) ?_
    refine wp_skip ?_
    refine then_n ?_
    exact ⟨_, x4, x5, rfl, (by exact e6), (by exact e7), S8, M⟩
  clear M
  rintro a22 w13 ⟨f14, x15, x16, rfl, e17, e18, S19, M⟩
  rw [bits_Len64.l1] at M
  refine wp_seq ?_
  refine wp_seq ?_
  refine wp_region_lit ?_
  refine lv (d := 13) rfl rfl (by kernel_rfl) (e_move (v := .int .u64 x15) (by exact e17)) ?_
  refine lv (d := 14) rfl rfl (by kernel_rfl) (e_geq (k := .u64) (a := x15) (b := 256) (by kernel_rfl) rfl) ?_
  refine wpList_nil ?_
  refine then_n ?_
  by_cases q24 : x15 ≥ 256
  · replace M := ifp q24 M
    refine cond_t rfl (bt q24 (by kernel_rfl)) ?_
    refine wp_seq ?_
    refine wp_region_lit ?_
    refine lv (d := 15) rfl rfl (by kernel_rfl) (e_move (v := .int .u64 x15) (by exact e17)) ?_
    refine lv (d := 16) rfl rfl (by kernel_rfl) (e_shr (k := .u64) (k2 := .u64) (a := x15) (b := 8) (by kernel_rfl) rfl (by decide)) ?_
    refine lv (d := 0) rfl rfl (by kernel_rfl) (e_assign (v := .int .u64 (Int.fdiv x15 (2 ^ 8))) (by kernel_rfl)) ?_
    refine wpList_nil ?_
    refine then_n ?_
    refine wp_region_lit ?_
    refine lv (d := 17) rfl rfl (by kernel_rfl) (e_move (v := .int .i64 x16) (by exact e18)) ?_
    refine lv (d := 18) rfl rfl (by kernel_rfl) (e_add (k := .i64) (a := x16) (b := 8) (by kernel_rfl) rfl) ?_
    refine lv (d := 2) rfl rfl (by kernel_rfl) (e_assign (v := .int .i64 (IntKind.i64.wrap (x16 + 8))) (by kernel_rfl)) ?_
    refine wpList_nil ?_
    refine then_n ?_
    refine wp_seq ?_
    refine wp_region_lit ?_
    refine lv (d := 19) rfl rfl (by kernel_rfl) (e_move (v := .int .i64 (IntKind.i64.wrap (x16 + 8))) (by kernel_rfl)) ?_
    refine lv (d := 20) rfl rfl (by kernel_rfl) (e_move (v := .int .u64 (Int.fdiv x15 (2 ^ 8))) (by kernel_rfl)) ?_
    refine lv (d := 21) rfl rfl (by kernel_rfl) (e_conv_i8 (k := .u64) (a := (Int.fdiv x15 (2 ^ 8))) (by kernel_rfl) Try.underlying5 (by kernel_rfl)) ?_
    obtain ⟨q25, M⟩ := chk M
    obtain ⟨q26, M⟩ := chk M
    refine lv (d := 22) rfl rfl (by kernel_rfl) (e_sindex (p := ([0, 1, 2, 2, 3, 3, 3, 3, 4, 4, 4, 4, 4, 4, 4, 4, 5, 5, 5, 5, 5, 5, 5, 5, 5, 5, 5, 5, 5, 5, 5, 5, 6, 6, 6, 6, 6, 6, 6, 6, 6, 6, 6, 6, 6, 6, 6, 6, 6, 6, 6, 6, 6, 6, 6, 6, 6, 6, 6, 6, 6, 6, 6, 6, 7, 7, 7, 7, 7, 7, 7, 7, 7, 7, 7, 7, 7, 7, 7, 7, 7, 7, 7, 7, 7, 7, 7, 7, 7, 7, 7, 7, 7, 7, 7, 7, 7, 7, 7, 7, 7, 7, 7, 7, 7, 7, 7, 7, 7, 7, 7, 7, 7, 7, 7, 7, 7, 7, 7, 7, 7, 7, 7, 7, 7, 7, 7, 7, 8, 8, 8, 8, 8, 8, 8, 8, 8, 8, 8, 8, 8, 8, 8, 8, 8, 8, 8, 8, 8, 8, 8, 8, 8, 8, 8, 8, 8, 8, 8, 8, 8, 8, 8, 8, 8, 8, 8, 8, 8, 8, 8, 8, 8, 8, 8, 8, 8, 8, 8, 8, 8, 8, 8, 8, 8, 8, 8, 8, 8, 8, 8, 8, 8, 8, 8, 8, 8, 8, 8, 8, 8, 8, 8, 8, 8, 8, 8, 8, 8, 8, 8, 8, 8, 8, 8, 8, 8, 8, 8, 8, 8, 8, 8, 8, 8, 8, 8, 8, 8, 8, 8, 8, 8, 8, 8, 8, 8, 8, 8, 8, 8, 8, 8, 8, 8, 8, 8, 8, 8, 8, 8, 8, 8, 8, 8, 8] : List UInt8)) (i := ((b8 ((Int.fdiv x15 (2 ^ 8)))).toNat : Int)) (k := .u8) Try.underlying9 rfl (by kernel_rfl) q25 q26) ?_
    refine lv (d := 23) rfl rfl (by kernel_rfl) (e_conv_8i (a := (([0, 1, 2, 2, 3, 3, 3, 3, 4, 4, 4, 4, 4, 4, 4, 4, 5, 5, 5, 5, 5, 5, 5, 5, 5, 5, 5, 5, 5, 5, 5, 5, 6, 6, 6, 6, 6, 6, 6, 6, 6, 6, 6, 6, 6, 6, 6, 6, 6, 6, 6, 6, 6, 6, 6, 6, 6, 6, 6, 6, 6, 6, 6, 6, 7, 7, 7, 7, 7, 7, 7, 7, 7, 7, 7, 7, 7, 7, 7, 7, 7, 7, 7, 7, 7, 7, 7, 7, 7, 7, 7, 7, 7, 7, 7, 7, 7, 7, 7, 7, 7, 7, 7, 7, 7, 7, 7, 7, 7, 7, 7, 7, 7, 7, 7, 7, 7, 7, 7, 7, 7, 7, 7, 7, 7, 7, 7, 7, 8, 8, 8, 8, 8, 8, 8, 8, 8, 8, 8, 8, 8, 8, 8, 8, 8, 8, 8, 8, 8, 8, 8, 8, 8, 8, 8, 8, 8, 8, 8, 8, 8, 8, 8, 8, 8, 8, 8, 8, 8, 8, 8, 8, 8, 8, 8, 8, 8, 8, 8, 8, 8, 8, 8, 8, 8, 8, 8, 8, 8, 8, 8, 8, 8, 8, 8, 8, 8, 8, 8, 8, 8, 8, 8, 8, 8, 8, 8, 8, 8, 8, 8, 8, 8, 8, 8, 8, 8, 8, 8, 8, 8, 8, 8, 8, 8, 8, 8, 8, 8, 8, 8, 8, 8, 8, 8, 8, 8, 8, 8, 8, 8, 8, 8, 8, 8, 8, 8, 8, 8, 8, 8, 8, 8, 8, 8, 8] : List UInt8).getD (((b8 ((Int.fdiv x15 (2 ^ 8)))).toNat : Int) : Int).toNat (0 : UInt8))) (by kernel_rfl) Try.underlying3 (by kernel_rfl)) ?_
    refine lv (d := 24) rfl rfl (by kernel_rfl) (e_add (k := .i64) (a := (IntKind.i64.wrap (x16 + 8))) (b := ((([0, 1, 2, 2, 3, 3, 3, 3, 4, 4, 4, 4, 4, 4, 4, 4, 5, 5, 5, 5, 5, 5, 5, 5, 5, 5, 5, 5, 5, 5, 5, 5, 6, 6, 6, 6, 6, 6, 6, 6, 6, 6, 6, 6, 6, 6, 6, 6, 6, 6, 6, 6, 6, 6, 6, 6, 6, 6, 6, 6, 6, 6, 6, 6, 7, 7, 7, 7, 7, 7, 7, 7, 7, 7, 7, 7, 7, 7, 7, 7, 7, 7, 7, 7, 7, 7, 7, 7, 7, 7, 7, 7, 7, 7, 7, 7, 7, 7, 7, 7, 7, 7, 7, 7, 7, 7, 7, 7, 7, 7, 7, 7, 7, 7, 7, 7, 7, 7, 7, 7, 7, 7, 7, 7, 7, 7, 7, 7, 8, 8, 8, 8, 8, 8, 8, 8, 8, 8, 8, 8, 8, 8, 8, 8, 8, 8, 8, 8, 8, 8, 8, 8, 8, 8, 8, 8, 8, 8, 8, 8, 8, 8, 8, 8, 8, 8, 8, 8, 8, 8, 8, 8, 8, 8, 8, 8, 8, 8, 8, 8, 8, 8, 8, 8, 8, 8, 8, 8, 8, 8, 8, 8, 8, 8, 8, 8, 8, 8, 8, 8, 8, 8, 8, 8, 8, 8, 8, 8, 8, 8, 8, 8, 8, 8, 8, 8, 8, 8, 8, 8, 8, 8, 8, 8, 8, 8, 8, 8, 8, 8, 8, 8, 8, 8, 8, 8, 8, 8, 8, 8, 8, 8, 8, 8, 8, 8, 8, 8, 8, 8, 8, 8, 8, 8, 8, 8] : List UInt8).getD (((b8 ((Int.fdiv x15 (2 ^ 8)))).toNat : Int) : Int).toNat (0 : UInt8)).toNat : Int)) (by kernel_rfl) (by kernel_rfl)) ?_
    refine lv (d := 2) rfl rfl (by kernel_rfl) (e_assign (v := .int .i64 (IntKind.i64.wrap ((IntKind.i64.wrap (x16 + 8)) + ((([0, 1, 2, 2, 3, 3, 3, 3, 4, 4, 4, 4, 4, 4, 4, 4, 5, 5, 5, 5, 5, 5, 5, 5, 5, 5, 5, 5, 5, 5, 5, 5, 6, 6, 6, 6, 6, 6, 6, 6, 6, 6, 6, 6, 6, 6, 6, 6, 6, 6, 6, 6, 6, 6, 6, 6, 6, 6, 6, 6, 6, 6, 6, 6, 7, 7, 7, 7, 7, 7, 7, 7, 7, 7, 7, 7, 7, 7, 7, 7, 7, 7, 7, 7, 7, 7, 7, 7, 7, 7, 7, 7, 7, 7, 7, 7, 7, 7, 7, 7, 7, 7, 7, 7, 7, 7, 7, 7, 7, 7, 7, 7, 7, 7, 7, 7, 7, 7, 7, 7, 7, 7, 7, 7, 7, 7, 7, 7, 8, 8, 8, 8, 8, 8, 8, 8, 8, 8, 8, 8, 8, 8, 8, 8, 8, 8, 8, 8, 8, 8, 8, 8, 8, 8, 8, 8, 8, 8, 8, 8, 8, 8, 8, 8, 8, 8, 8, 8, 8, 8, 8, 8, 8, 8, 8, 8, 8, 8, 8, 8, 8, 8, 8, 8, 8, 8, 8, 8, 8, 8, 8, 8, 8, 8, 8, 8, 8, 8, 8, 8, 8, 8, 8, 8, 8, 8, 8, 8, 8, 8, 8, 8, 8, 8, 8, 8, 8, 8, 8, 8, 8, 8, 8, 8, 8, 8, 8, 8, 8, 8, 8, 8, 8, 8, 8, 8, 8, 8, 8, 8, 8, 8, 8, 8, 8, 8, 8, 8, 8, 8, 8, 8, 8, 8, 8, 8] : List UInt8).getD (((b8 ((Int.fdiv x15 (2 ^ 8)))).toNat : Int) : Int).toNat (0 : UInt8)).toNat : Int)))) (by kernel_rfl)) ?_
    refine wpList_nil ?_
    refine then_n ?_
    refine wp_ret ?_
    obtain rfl := Option.some.inj M
    exact ret1 rfl rfl  (show _ = .int .i64 (IntKind.i64.wrap ((IntKind.i64.wrap (x16 + 8)) + ((([0, 1, 2, 2, 3, 3, 3, 3, 4, 4, 4, 4, 4, 4, 4, 4, 5, 5, 5, 5, 5, 5, 5, 5, 5, 5, 5, 5, 5, 5, 5, 5, 6, 6, 6, 6, 6, 6, 6, 6, 6, 6, 6, 6, 6, 6, 6, 6, 6, 6, 6, 6, 6, 6, 6, 6, 6, 6, 6, 6, 6, 6, 6, 6, 7, 7, 7, 7, 7, 7, 7, 7, 7, 7, 7, 7, 7, 7, 7, 7, 7, 7, 7, 7, 7, 7, 7, 7, 7, 7, 7, 7, 7, 7, 7, 7, 7, 7, 7, 7, 7, 7, 7, 7, 7, 7, 7, 7, 7, 7, 7, 7, 7, 7, 7, 7, 7, 7, 7, 7, 7, 7, 7, 7, 7, 7, 7, 7, 8, 8, 8, 8, 8, 8, 8, 8, 8, 8, 8, 8, 8, 8, 8, 8, 8, 8, 8, 8, 8, 8, 8, 8, 8, 8, 8, 8, 8, 8, 8, 8, 8, 8, 8, 8, 8, 8, 8, 8, 8, 8, 8, 8, 8, 8, 8, 8, 8, 8, 8, 8, 8, 8, 8, 8, 8, 8, 8, 8, 8, 8, 8, 8, 8, 8, 8, 8, 8, 8, 8, 8, 8, 8, 8, 8, 8, 8, 8, 8, 8, 8, 8, 8, 8, 8, 8, 8, 8, 8, 8, 8, 8, 8, 8, 8, 8, 8, 8, 8, 8, 8, 8, 8, 8, 8, 8, 8, 8, 8, 8, 8, 8, 8, 8, 8, 8, 8, 8, 8, 8, 8, 8, 8, 8, 8, 8, 8] : List UInt8).getD (((b8 ((Int.fdiv x15 (2 ^ 8)))).toNat : Int) : Int).toNat (0 : UInt8)).toNat : Int))) from (by kernel_rfl)) ⟨rfl, S19.chg⟩
  replace M := ifn q24 M
  refine cond_f rfl (bf q24 (by kernel_rfl)) ?_
  refine wp_skip ?_
  refine then_n ?_
  refine wp_seq ?_
  refine wp_region_lit ?_
  refine lv (d := 19) rfl rfl (by kernel_rfl) (e_move (v := .int .i64 x16) (by exact e18)) ?_
  refine lv (d := 20) rfl rfl (by kernel_rfl) (e_move (v := .int .u64 x15) (by exact e17)) ?_
  refine lv (d := 21) rfl rfl (by kernel_rfl) (e_conv_i8 (k := .u64) (a := x15) (by kernel_rfl) Try.underlying5 (by kernel_rfl)) ?_
  obtain ⟨q27, M⟩ := chk M
  obtain ⟨q28, M⟩ := chk M
  refine lv (d := 22) rfl rfl (by kernel_rfl) (e_sindex (p := ([0, 1, 2, 2, 3, 3, 3, 3, 4, 4, 4, 4, 4, 4, 4, 4, 5, 5, 5, 5, 5, 5, 5, 5, 5, 5, 5, 5, 5, 5, 5, 5, 6, 6, 6, 6, 6, 6, 6, 6, 6, 6, 6, 6, 6, 6, 6, 6, 6, 6, 6, 6, 6, 6, 6, 6, 6, 6, 6, 6, 6, 6, 6, 6, 7, 7, 7, 7, 7, 7, 7, 7, 7, 7, 7, 7, 7, 7, 7, 7, 7, 7, 7, 7, 7, 7, 7, 7, 7, 7, 7, 7, 7, 7, 7, 7, 7, 7, 7, 7, 7, 7, 7, 7, 7, 7, 7, 7, 7, 7, 7, 7, 7, 7, 7, 7, 7, 7, 7, 7, 7, 7, 7, 7, 7, 7, 7, 7, 8, 8, 8, 8, 8, 8, 8, 8, 8, 8, 8, 8, 8, 8, 8, 8, 8, 8, 8, 8, 8, 8, 8, 8, 8, 8, 8, 8, 8, 8, 8, 8, 8, 8, 8, 8, 8, 8, 8, 8, 8, 8, 8, 8, 8, 8, 8, 8, 8, 8, 8, 8, 8, 8, 8, 8, 8, 8, 8, 8, 8, 8, 8, 8, 8, 8, 8, 8, 8, 8, 8, 8, 8, 8, 8, 8, 8, 8, 8, 8, 8, 8, 8, 8, 8, 8, 8, 8, 8, 8, 8, 8, 8, 8, 8, 8, 8, 8, 8, 8, 8, 8, 8, 8, 8, 8, 8, 8, 8, 8, 8, 8, 8, 8, 8, 8, 8, 8, 8, 8, 8, 8, 8, 8, 8, 8, 8, 8] : List UInt8)) (i := ((b8 (x15)).toNat : Int)) (k := .u8) Try.underlying9 rfl (by kernel_rfl) q27 q28) ?_
  refine lv (d := 23) rfl rfl (by kernel_rfl) (e_conv_8i (a := (([0, 1, 2, 2, 3, 3, 3, 3, 4, 4, 4, 4, 4, 4, 4, 4, 5, 5, 5, 5, 5, 5, 5, 5, 5, 5, 5, 5, 5, 5, 5, 5, 6, 6, 6, 6, 6, 6, 6, 6, 6, 6, 6, 6, 6, 6, 6, 6, 6, 6, 6, 6, 6, 6, 6, 6, 6, 6, 6, 6, 6, 6, 6, 6, 7, 7, 7, 7, 7, 7, 7, 7, 7, 7, 7, 7, 7, 7, 7, 7, 7, 7, 7, 7, 7, 7, 7, 7, 7, 7, 7, 7, 7, 7, 7, 7, 7, 7, 7, 7, 7, 7, 7, 7, 7, 7, 7, 7, 7, 7, 7, 7, 7, 7, 7, 7, 7, 7, 7, 7, 7, 7, 7, 7, 7, 7, 7, 7, 8, 8, 8, 8, 8, 8, 8, 8, 8, 8, 8, 8, 8, 8, 8, 8, 8, 8, 8, 8, 8, 8, 8, 8, 8, 8, 8, 8, 8, 8, 8, 8, 8, 8, 8, 8, 8, 8, 8, 8, 8, 8, 8, 8, 8, 8, 8, 8, 8, 8, 8, 8, 8, 8, 8, 8, 8, 8, 8, 8, 8, 8, 8, 8, 8, 8, 8, 8, 8, 8, 8, 8, 8, 8, 8, 8, 8, 8, 8, 8, 8, 8, 8, 8, 8, 8, 8, 8, 8, 8, 8, 8, 8, 8, 8, 8, 8, 8, 8, 8, 8, 8, 8, 8, 8, 8, 8, 8, 8, 8, 8, 8, 8, 8, 8, 8, 8, 8, 8, 8, 8, 8, 8, 8, 8, 8, 8, 8] : List UInt8).getD (((b8 (x15)).toNat : Int) : Int).toNat (0 : UInt8))) (by kernel_rfl) Try.underlying3 (by kernel_rfl)) ?_
  refine lv (d := 24) rfl rfl (by kernel_rfl) (e_add (k := .i64) (a := x16) (b := ((([0, 1, 2, 2, 3, 3, 3, 3, 4, 4, 4, 4, 4, 4, 4, 4, 5, 5, 5, 5, 5, 5, 5, 5, 5, 5, 5, 5, 5, 5, 5, 5, 6, 6, 6, 6, 6, 6, 6, 6, 6, 6, 6, 6, 6, 6, 6, 6, 6, 6, 6, 6, 6, 6, 6, 6, 6, 6, 6, 6, 6, 6, 6, 6, 7, 7, 7, 7, 7, 7, 7, 7, 7, 7, 7, 7, 7, 7, 7, 7, 7, 7, 7, 7, 7, 7, 7, 7, 7, 7, 7, 7, 7, 7, 7, 7, 7, 7, 7, 7, 7, 7, 7, 7, 7, 7, 7, 7, 7, 7, 7, 7, 7, 7, 7, 7, 7, 7, 7, 7, 7, 7, 7, 7, 7, 7, 7, 7, 8, 8, 8, 8, 8, 8, 8, 8, 8, 8, 8, 8, 8, 8, 8, 8, 8, 8, 8, 8, 8, 8, 8, 8, 8, 8, 8, 8, 8, 8, 8, 8, 8, 8, 8, 8, 8, 8, 8, 8, 8, 8, 8, 8, 8, 8, 8, 8, 8, 8, 8, 8, 8, 8, 8, 8, 8, 8, 8, 8, 8, 8, 8, 8, 8, 8, 8, 8, 8, 8, 8, 8, 8, 8, 8, 8, 8, 8, 8, 8, 8, 8, 8, 8, 8, 8, 8, 8, 8, 8, 8, 8, 8, 8, 8, 8, 8, 8, 8, 8, 8, 8, 8, 8, 8, 8, 8, 8, 8, 8, 8, 8, 8, 8, 8, 8, 8, 8, 8, 8, 8, 8, 8, 8, 8, 8, 8, 8] : List UInt8).getD (((b8 (x15)).toNat : Int) : Int).toNat (0 : UInt8)).toNat : Int)) (by kernel_rfl) (by kernel_rfl)) ?_
  refine lv (d := 2) rfl rfl (by kernel_rfl) (e_assign (v := .int .i64 (IntKind.i64.wrap (x16 + ((([0, 1, 2, 2, 3, 3, 3, 3, 4, 4, 4, 4, 4, 4, 4, 4, 5, 5, 5, 5, 5, 5, 5, 5, 5, 5, 5, 5, 5, 5, 5, 5, 6, 6, 6, 6, 6, 6, 6, 6, 6, 6, 6, 6, 6, 6, 6, 6, 6, 6, 6, 6, 6, 6, 6, 6, 6, 6, 6, 6, 6, 6, 6, 6, 7, 7, 7, 7, 7, 7, 7, 7, 7, 7, 7, 7, 7, 7, 7, 7, 7, 7, 7, 7, 7, 7, 7, 7, 7, 7, 7, 7, 7, 7, 7, 7, 7, 7, 7, 7, 7, 7, 7, 7, 7, 7, 7, 7, 7, 7, 7, 7, 7, 7, 7, 7, 7, 7, 7, 7, 7, 7, 7, 7, 7, 7, 7, 7, 8, 8, 8, 8, 8, 8, 8, 8, 8, 8, 8, 8, 8, 8, 8, 8, 8, 8, 8, 8, 8, 8, 8, 8, 8, 8, 8, 8, 8, 8, 8, 8, 8, 8, 8, 8, 8, 8, 8, 8, 8, 8, 8, 8, 8, 8, 8, 8, 8, 8, 8, 8, 8, 8, 8, 8, 8, 8, 8, 8, 8, 8, 8, 8, 8, 8, 8, 8, 8, 8, 8, 8, 8, 8, 8, 8, 8, 8, 8, 8, 8, 8, 8, 8, 8, 8, 8, 8, 8, 8, 8, 8, 8, 8, 8, 8, 8, 8, 8, 8, 8, 8, 8, 8, 8, 8, 8, 8, 8, 8, 8, 8, 8, 8, 8, 8, 8, 8, 8, 8, 8, 8, 8, 8, 8, 8, 8, 8] : List UInt8).getD (((b8 (x15)).toNat : Int) : Int).toNat (0 : UInt8)).toNat : Int)))) (by kernel_rfl)) ?_
  refine wpList_nil ?_
  refine then_n ?_
  refine wp_ret ?_
  obtain rfl := Option.some.inj M
  exact ret1 rfl rfl  (show _ = .int .i64 (IntKind.i64.wrap (x16 + ((([0, 1, 2, 2, 3, 3, 3, 3, 4, 4, 4, 4, 4, 4, 4, 4, 5, 5, 5, 5, 5, 5, 5, 5, 5, 5, 5, 5, 5, 5, 5, 5, 6, 6, 6, 6, 6, 6, 6, 6, 6, 6, 6, 6, 6, 6, 6, 6, 6, 6, 6, 6, 6, 6, 6, 6, 6, 6, 6, 6, 6, 6, 6, 6, 7, 7, 7, 7, 7, 7, 7, 7, 7, 7, 7, 7, 7, 7, 7, 7, 7, 7, 7, 7, 7, 7, 7, 7, 7, 7, 7, 7, 7, 7, 7, 7, 7, 7, 7, 7, 7, 7, 7, 7, 7, 7, 7, 7, 7, 7, 7, 7, 7, 7, 7, 7, 7, 7, 7, 7, 7, 7, 7, 7, 7, 7, 7, 7, 8, 8, 8, 8, 8, 8, 8, 8, 8, 8, 8, 8, 8, 8, 8, 8, 8, 8, 8, 8, 8, 8, 8, 8, 8, 8, 8, 8, 8, 8, 8, 8, 8, 8, 8, 8, 8, 8, 8, 8, 8, 8, 8, 8, 8, 8, 8, 8, 8, 8, 8, 8, 8, 8, 8, 8, 8, 8, 8, 8, 8, 8, 8, 8, 8, 8, 8, 8, 8, 8, 8, 8, 8, 8, 8, 8, 8, 8, 8, 8, 8, 8, 8, 8, 8, 8, 8, 8, 8, 8, 8, 8, 8, 8, 8, 8, 8, 8, 8, 8, 8, 8, 8, 8, 8, 8, 8, 8, 8, 8, 8, 8, 8, 8, 8, 8, 8, 8, 8, 8, 8, 8, 8, 8, 8, 8, 8, 8] : List UInt8).getD (((b8 (x15)).toNat : Int) : Int).toNat (0 : UInt8)).toNat : Int))) from (by kernel_rfl)) ⟨rfl, S19.chg⟩

/-! bits_Len -/
def bits_Len.f (x1 : Int) : Option Int := ((bits_Len64.f x1).bind fun t2 => some t2)
theorem bits_Len.calls (w : World) (H : Hp) (x1 : Int) (S : Own [] H w) (r : Int) (M : bits_Len.f x1 = some r) :
    Calls Try.prog 52 #[.int .u64 x1] w (fun e e_w => e = .returned (.int .i64 r) ∧ Chg no w e_w) := by
  rw [bits_Len.f] at M
  refine enter (l := [.int .u64 x1]) 8 Try.func52 rfl rfl rfl ?_
  have S0_ := S.st
  refine wp_seq ?_
  refine wp_region_lit ?_
  refine lv (d := 2) rfl rfl (by kernel_rfl) (e_assign (v := .int .i64 0) rfl) ?_
  refine wpList_nil ?_
  refine then_n ?_
  refine wp_seq ?_
  refine cond_f rfl rfl ?_
  refine wp_skip ?_
  refine then_n ?_
  refine wp_seq ?_
  refine wp_region_lit ?_
  refine lv (d := 6) rfl rfl (by kernel_rfl) (e_move (v := .int .u64 x1) (by kernel_rfl)) ?_
  obtain ⟨t2, u3, M⟩ := bnd M
  refine lcall (d := 7) rfl rfl (by kernel_rfl) (e_call (l := [.tmp 6]) (vs := [.int .u64 x1]) Try.func64 (by kernel_rfl) rfl (by kernel_rfl) rfl) (bits_Len64.calls w H x1  S0_.own0 t2 u3) ?_
  rintro _ w4 ⟨rfl, C5⟩
  refine ⟨_, rfl, ?_⟩
  obtain ⟨S6, K7⟩ := S0_.still C5
  refine lv (d := 2) rfl rfl (by kernel_rfl) (e_assign (v := .int .i64 t2) (by kernel_rfl)) ?_
  refine wpList_nil ?_
  refine then_n ?_
  refine wp_ret ?_
  obtain rfl := Option.some.inj M
  exact ret1 rfl rfl  (show _ = .int .i64 t2 from (by kernel_rfl)) ⟨rfl, S6.chg⟩
end Go.Proofs.Ytminnekeekhjcaa
