import Derived.Test.YtognefkopbbdnaaUn1
namespace Go.Proofs.Ytognefkopbbdnaa
open Go.Sx Go.Sy
attribute [local irreducible] Go.wpList Go.wpStill Go.wpQuiet Go.Code.wp
set_option maxRecDepth 100000
set_option maxHeartbeats 1000000
set_option linter.unusedVariables false
set_option linter.unusedSimpArgs false

/-! impl_unify -/
mutual
def impl_unify.l0 : Nat → (List GPair) → Int → (List (Int × Tm)) → Option (Int × (List (Int × Tm)))
  | 0, _, _, _ => none
  | k38 + 1, x23, x28, x29 => (if (x23.length : Int) > 0 then (if x28 = 20000 then some (3, x29) else (if 0 ≤ (IntKind.i64.wrap ((x23.length : Int) - 1)) then (if (IntKind.i64.wrap ((x23.length : Int) - 1)) < (x23.length : Int) then (if (IntKind.i64.wrap ((x23.length : Int) - 1)) ≤ (x23.length : Int) then ((impl_walk.f k38 x29 ((x23.getD (((IntKind.i64.wrap ((x23.length : Int) - 1))).toNat) (default : GPair)).x_)).bind fun t87 => ((impl_walk.f k38 x29 ((x23.getD (((IntKind.i64.wrap ((x23.length : Int) - 1))).toNat) (default : GPair)).y_)).bind fun t100 => (if t87.kind = 0 then (if t100.kind = 0 then (if t87.n > t100.n then ((impl_bindings_set.f x29 t87.n t100).bind fun t162 => (impl_unify.l0 k38 (x23.take (((IntKind.i64.wrap ((x23.length : Int) - 1)) : Int).toNat)) (IntKind.i64.wrap (x28 + 1)) t162)) else (if t87.n < t100.n then ((impl_bindings_set.f x29 t100.n t87).bind fun t203 => (impl_unify.l0 k38 (x23.take (((IntKind.i64.wrap ((x23.length : Int) - 1)) : Int).toNat)) (IntKind.i64.wrap (x28 + 1)) t203)) else (impl_unify.l0 k38 (x23.take (((IntKind.i64.wrap ((x23.length : Int) - 1)) : Int).toNat)) (IntKind.i64.wrap (x28 + 1)) x29))) else ((impl_stands.f k38 x29 t87.n t100 []).bind fun t226 => (if t226 = true then some (5, x29) else ((impl_bindings_set.f x29 t87.n t100).bind fun t260 => (impl_unify.l0 k38 (x23.take (((IntKind.i64.wrap ((x23.length : Int) - 1)) : Int).toNat)) (IntKind.i64.wrap (x28 + 1)) t260))))) else (if t100.kind = 0 then ((impl_stands.f k38 x29 t100.n t87 []).bind fun t289 => (if t289 = true then some (5, x29) else ((impl_bindings_set.f x29 t100.n t87).bind fun t323 => (impl_unify.l0 k38 (x23.take (((IntKind.i64.wrap ((x23.length : Int) - 1)) : Int).toNat)) (IntKind.i64.wrap (x28 + 1)) t323)))) else (if t87.kind ≠ t100.kind then some (4, x29) else (if t87.n ≠ t100.n then some (4, x29) else (if t87.text ≠ t100.text then some (4, x29) else (impl_unify.l1 k38 x28 x29 t87 t100 (x23.take (((IntKind.i64.wrap ((x23.length : Int) - 1)) : Int).toNat)) (IntKind.i64.wrap ((t87.args.length : Int) - 1)))))))))) else none) else none) else none)) else some (0, x29))
def impl_unify.l1 : Nat → Int → (List (Int × Tm)) → Tm → Tm → (List GPair) → Int → Option (Int × (List (Int × Tm)))
  | 0, _, _, _, _, _, _ => none
  | k365 + 1, x28, x29, t87, t100, x348, x353 => (if x353 ≥ 0 then (if 0 ≤ x353 then (if x353 < (t87.args.length : Int) then (if x353 < (t100.args.length : Int) then (if x348.length + 1 ≤ 8796093022208 then (impl_unify.l1 k365 x28 x29 t87 t100 (x348 ++ [(⟨(t87.args.getD ((x353).toNat) (Tm.mk 0 0 [] [])), (t100.args.getD ((x353).toNat) (Tm.mk 0 0 [] []))⟩ : GPair)]) (IntKind.i64.wrap (x353 - 1))) else none) else none) else none) else none) else (impl_unify.l0 k365 x348 (IntKind.i64.wrap (x28 + 1)) x29))
end
def impl_unify.f (k : Nat) (x1 : List (Int × Tm)) (x4 : Tm) (x7 : Tm) : Option (Int × (List (Int × Tm))) := (impl_unify.l0 k [(⟨x4, x7⟩ : GPair)] 0 x1)
theorem impl_unify.calls (k : Nat) (w : World) (H : Hp) (x1 : List (Int × Tm)) (g2 : Nat) (x4 : Tm) (g5 : Nat) (x7 : Tm) (g8 : Nat) (h3 : MapO encI (node 125) H (hp w) g2 x1) (h6 : NodeR 125 H x4 (.pointer (some ⟨g5, 0, none⟩))) (h9 : NodeR 125 H x7 (.pointer (some ⟨g8, 0, none⟩))) (S : Own [(is g2)] H w) (r : Int × (List (Int × Tm))) (M : impl_unify.f k x1 x4 x7 = some r) :
    Calls Try.prog 91 #[.iface 109 (.map (some g2)), .pointer (some ⟨g5, 0, none⟩), .pointer (some ⟨g8, 0, none⟩)] w (fun e e_w => ∃ (H_ : Hp), e = .returned (.int .i64 r.1) ∧ MapO encI (node 125) H_ (hp e_w) g2 r.2 ∧ St (anyOf [(is g2)]) H w [(is g2)] H_ e_w) := by
  rw [impl_unify.f] at M
  refine enter (l := [.iface 109 (.map (some g2)), .pointer (some ⟨g5, 0, none⟩), .pointer (some ⟨g8, 0, none⟩)]) 192 Try.func91 rfl rfl rfl ?_
  have S0_ := S.st
  refine wp_seq ?_
  refine wp_region_lit ?_
  refine lv (d := 6) rfl rfl (by kernel_rfl) (e_assign (v := .int .i64 0) rfl) ?_
  refine wpList_nil ?_
  refine then_n ?_
  refine wp_seq ?_
  refine wp_region_lit ?_
  refine lv (d := 13) rfl rfl (by kernel_rfl) (e_move (v := .pointer (some ⟨g5, 0, none⟩)) (by kernel_rfl)) ?_
  refine lv (d := 14) rfl rfl (by kernel_rfl) (e_move (v := .pointer (some ⟨g8, 0, none⟩)) (by kernel_rfl)) ?_
  refine lv (d := 15) rfl rfl (by kernel_rfl) (show _ = Result.ok (Next.value (.agg #[.pointer (some ⟨g5, 0, none⟩), .pointer (some ⟨g8, 0, none⟩)])) w from by kernel_rfl) ?_
  refine lve (d := 16) rfl rfl (by kernel_rfl) (new_blk (v := fun g_ => .slice (some ⟨g_, 0, none⟩) 1 1) (cs := #[.pointer (some ⟨g5, 0, none⟩), .pointer (some ⟨g8, 0, none⟩)]) (t := 143) S0_ (by kernel_rfl)) ?_
  rintro _ w10 ⟨g11, rfl, b12, S13, K14⟩
  replace h3 := h3.move (K14.at 0 rfl)
  have S15 := S13.unit
  have S16 := S15.pull (F := (is g11)) (Fr := [no, (is g2)]) 1 rfl rfl
  obtain ⟨h17, S18⟩ := row_lit (d := st143) (xs := [(⟨x4, x7⟩ : GPair)]) S16 b12 rfl (elsO_one1 (st143_mkO (x := (⟨x4, x7⟩ : GPair)) h6 h9)) (Nat.le_of_ble_eq_true rfl)
  refine lv (d := 7) rfl rfl (by kernel_rfl) (e_assign (v := .slice (some ⟨g11, 0, none⟩) 1 1) (by kernel_rfl)) ?_
  refine wpList_nil ?_
  refine then_n ?_
  refine wp_seq ?_
  refine wp_seq ?_
  refine wp_region_lit ?_
  refine lv (d := 8) rfl rfl (by kernel_rfl) (e_assign (v := .int .i64 0) rfl) ?_
  refine wpList_nil ?_
  refine then_n ?_
  refine wp_block ?_
  have S39 := S18.pull (F := (is g2)) (Fr := [(or2 (is g11) no)]) 1 rfl rfl
  refine wp_loop_g (fun k36 a37 w19 => ∃ (f20 : Nat → Value) (H21 : Hp) (x23 : List GPair) (A24 : Option Addr) (c25 : Nat) (F26 : Foot) (x28 : Int) (x29 : List (Int × Tm)), a37 = mk 192 f20 ∧ f20 0 = .iface 109 (.map (some g2)) ∧ f20 7 = .slice A24 x23.length c25 ∧ f20 8 = .int .i64 x28 ∧ MapO encI (node 125) H21 (hp w19) g2 x29 ∧ Row st143 143 H21 (hp w19) F26 A24 c25 x23 ∧ Ext H H21 ∧ St (anyOf [(is g2)]) H w [(is g2), F26] H21 w19 ∧ impl_unify.l0 k36 x23 x28 x29 = some r) k ⟨_, H, [(⟨x4, x7⟩ : GPair)], (some ⟨g11, 0, none⟩), 1, (or2 (is g11) no), 0, x1, rfl, (by kernel_rfl), (by kernel_rfl), (by kernel_rfl), h3, h17, (Ext.refl _), S39, M⟩ ?_
  clear M
  rintro k36 a37 w19 ⟨f20, H21, x23, A24, c25, F26, x28, x29, rfl, e30, e31, e32, h3, h27, Y22, S33, M⟩
  rcases k36 with _ | k38
  · rw [impl_unify.l0] at M
    cases M
  rw [impl_unify.l0] at M
  refine wp_seq ?_
  refine wp_seq ?_
  refine wp_region_lit ?_
  refine lv (d := 17) rfl rfl (by kernel_rfl) (e_move (v := .slice A24 x23.length c25) (by exact e31)) ?_
  refine lv (d := 18) rfl rfl (by kernel_rfl) (e_len (A := A24) (n := x23.length) (c := c25) Try.underlying144 (by kernel_rfl)) ?_
  refine lv (d := 19) rfl rfl (by kernel_rfl) (e_gtr (k := .i64) (a := (x23.length : Int)) (b := 0) (by kernel_rfl) rfl) ?_
  refine wpList_nil ?_
  refine then_n ?_
  by_cases q40 : (x23.length : Int) > 0
  · replace M := ifp q40 M
    refine cond_t rfl (bt q40 (by kernel_rfl)) ?_
    refine wp_skip ?_
    refine then_n ?_
    refine wp_seq ?_
    refine wp_block ?_
    refine wp_seq ?_
    refine wp_seq ?_
    refine wp_region_lit ?_
    refine lv (d := 22) rfl rfl (by kernel_rfl) (e_move (v := .int .i64 x28) (by exact e32)) ?_
    refine lv (d := 23) rfl rfl (by kernel_rfl) (e_eql (k := .i64) (a := x28) (b := 20000) (by kernel_rfl) rfl) ?_
    refine wpList_nil ?_
    refine then_n ?_
    by_cases q41 : x28 = 20000
    · replace M := ifp q41 M
      refine cond_t rfl (bt q41 (by kernel_rfl)) ?_
      refine wp_seq ?_
      refine wp_region_lit ?_
      refine lv (d := 6) rfl rfl (by kernel_rfl) (e_assign (v := .int .i64 3) rfl) ?_
      refine wpList_nil ?_
      refine then_n ?_
      refine wp_ret ?_
      refine then_r ?_
      refine inb_r ?_
      refine then_r ?_
      refine then_r ?_
      refine inb_r ?_
      refine then_r ?_
      obtain rfl := Option.some.inj M
      have S42 := St.first (Fa := [(is g2)]) (Fr := [F26]) S33
      exact ret1 rfl rfl  (show _ = .int .i64 3 from (by kernel_rfl)) ⟨H21, rfl, h3, S42⟩
    replace M := ifn q41 M
    refine cond_f rfl (bf q41 (by kernel_rfl)) ?_
    refine wp_skip ?_
    refine then_n ?_
    refine wp_seq ?_
    refine wp_region_lit ?_
    refine lv (d := 24) rfl rfl (by kernel_rfl) (e_move (v := .slice A24 x23.length c25) (by exact e31)) ?_
    refine lv (d := 25) rfl rfl (by kernel_rfl) (e_move (v := .slice A24 x23.length c25) (by exact e31)) ?_
    refine lv (d := 26) rfl rfl (by kernel_rfl) (e_len (A := A24) (n := x23.length) (c := c25) Try.underlying144 (by kernel_rfl)) ?_
    refine lv (d := 27) rfl rfl (by kernel_rfl) (e_sub (k := .i64) (a := (x23.length : Int)) (b := 1) (by kernel_rfl) rfl) ?_
    obtain ⟨q43, M⟩ := chk M
    obtain ⟨q44, M⟩ := chk M
    obtain ⟨b45, e47⟩ := Row.addr h27 (show ((IntKind.i64.wrap ((x23.length : Int) - 1))).toNat < x23.length by omega)
    refine lv (d := 28) rfl rfl (by kernel_rfl) (e_indexAddr (b := b45) (off := 0) (n := x23.length) (c := c25) (sz := 2) (i := (IntKind.i64.wrap ((x23.length : Int) - 1))) (k := .i64) Try.underlying144 e47 (by kernel_rfl) (by kernel_rfl) (by kernel_rfl) q43 q44) ?_
    obtain ⟨y48, F49, r50, s51, k52⟩ := Row.at h27 e47 (getD_some (default : GPair) (show ((IntKind.i64.wrap ((x23.length : Int) - 1))).toNat < x23.length by omega))
    obtain ⟨g53, g55, rfl, h54, h56⟩ := st143_openO r50
    refine lv (d := 29) rfl rfl (by kernel_rfl) (e_loadS (b := b45) (off := 0 + ((IntKind.i64.wrap ((x23.length : Int) - 1)) : Int).toNat * 2) (cs := [.pointer (some ⟨g53, 0, none⟩), .pointer (some ⟨g55, 0, none⟩)]) Try.underlying143 rfl (by kernel_rfl) (by kernel_rfl) (fun j_ u_ e_ => (hpx (k52 j_ u_ e_)))) ?_
    refine lve (d := 9) rfl rfl (by kernel_rfl) (new_blk (v := fun g_ => .pointer (some ⟨g_, 0, none⟩)) (cs := #[.pointer none, .pointer none]) (t := 143) S33 (by kernel_rfl)) ?_
    rintro _ w57 ⟨g58, rfl, b59, S60, K61⟩
    replace h3 := h3.move (K61.at 0 rfl)
    replace h27 := h27.move (K61.at 1 rfl)
    refine lse rfl rfl (by kernel_rfl) (e_store (g := g58) (o := 0) (v := .agg #[.pointer (some ⟨g53, 0, none⟩), .pointer (some ⟨g55, 0, none⟩)]) (cur' := #[.pointer (some ⟨g53, 0, none⟩), .pointer (some ⟨g55, 0, none⟩)]) (vs := [.pointer (some ⟨g53, 0, none⟩), .pointer (some ⟨g55, 0, none⟩)]) S60 (by kernel_rfl) (by kernel_rfl) rfl (by kernel_rfl) b59 (Nat.le_of_ble_eq_true rfl) (List.forall_mem_cons.2 ⟨rfl, (List.forall_mem_cons.2 ⟨rfl, (fun _ h_ => by cases h_)⟩)⟩) rfl) ?_
    rintro w62 ⟨b63, S64, K65⟩
    replace h3 := h3.move (K65.at 0 rfl)
    replace h27 := h27.move (K65.at 1 rfl)
    clear b59
    refine wpList_nil ?_
    refine then_n ?_
    refine wp_seq ?_
    refine wp_region_lit ?_
    refine lv (d := 30) rfl rfl (by kernel_rfl) (e_move (v := .slice A24 x23.length c25) (by exact e31)) ?_
    refine lv (d := 31) rfl rfl (by kernel_rfl) (e_move (v := .slice A24 x23.length c25) (by exact e31)) ?_
    refine lv (d := 32) rfl rfl (by kernel_rfl) (e_len (A := A24) (n := x23.length) (c := c25) Try.underlying144 (by kernel_rfl)) ?_
    refine lv (d := 33) rfl rfl (by kernel_rfl) (e_sub (k := .i64) (a := (x23.length : Int)) (b := 1) (by kernel_rfl) rfl) ?_
    obtain ⟨q66, M⟩ := chk M
    refine lv (d := 34) rfl rfl (by kernel_rfl) (e_slice_h (xs := x23) (n := x23.length) (m := 2) (cap := c25) (A := A24) (b := (IntKind.i64.wrap ((x23.length : Int) - 1))) (k2 := .i64) Try.underlying144 (by kernel_rfl) (by kernel_rfl) (by kernel_rfl) q43 q66 (by have := h27.le; have := (rfl : x23.length = x23.length); omega) (take_len q43 q66 rfl)) ?_
    have h67 := h27.cut (n := ((IntKind.i64.wrap ((x23.length : Int) - 1)) : Int).toNat) (by have := (rfl : x23.length = x23.length); omega)
    clear h27
    refine lv (d := 7) rfl rfl (by kernel_rfl) (e_assign (v := .slice A24 ((x23.take (((IntKind.i64.wrap ((x23.length : Int) - 1)) : Int).toNat)).length) c25) (by kernel_rfl)) ?_
    refine wpList_nil ?_
    refine then_n ?_
    refine wp_seq ?_
    refine region_mix (S := (fun (L_ : Array Bool) (w_ : World) => Ext H21 (hp w_) ∧ (∀ b_, (is g58) b_ → hp w_ b_ = hp w62 b_))) (by kernel_rfl) S64 ?_
    intro w68 S69 K70 hc71
    have o72 := b63
    have hs73 : (fun (L_ : Array Bool) (w_ : World) => Ext H21 (hp w_) ∧ (∀ b_, (is g58) b_ → hp w_ b_ = hp w62 b_)) (Array.replicate 10 false) w68 := ⟨S69.inv, (fun b_ h_ => K70.at 0 rfl b_ h_)⟩
    replace b63 := K70.blk 0 rfl b63
    replace h3 := h3.move (K70.at 1 rfl)
    replace h67 := h67.move (K70.at 2 rfl)
    refine xv (i := 0) (d := 35) rfl rfl rfl (by kernel_rfl) (by kernel_rfl) (fun _ _ => Iff.rfl) hc71 hs73 (fun L_ w_ hc_ hu_ hs_ => e_move (v := .iface 109 (.map (some g2))) (by exact e30)) ?_; intro hc74 hs75
    refine xv (i := 1) (d := 36) rfl rfl rfl (by kernel_rfl) (by kernel_rfl) (fun _ _ => Iff.rfl) hc74 hs75 (fun L_ w_ hc_ hu_ hs_ => e_fieldAddr (b := g58) (off := 0) (o := 0) Try.underlying143 rfl rfl (sz := 1) (by kernel_rfl) (by decide) (by kernel_rfl)) ?_; intro hc76 hs77
    refine xv (i := 2) (d := 37) rfl rfl rfl (by kernel_rfl) (by kernel_rfl) (fun _ _ => Iff.rfl) hc76 hs77 (fun L_ w_ hc_ hu_ hs_ => e_load1 (ad := ⟨g58, 0 + 0, none⟩) (v := .pointer (some ⟨g53, 0, none⟩)) Try.underlying74 rfl (by kernel_rfl) (blk_cell ((hs_.2 _ rfl).trans o72) rfl)) ?_; intro hc78 hs79
    refine xv (i := 4) (d := 39) rfl rfl rfl (by kernel_rfl) (by kernel_rfl) (fun _ _ => Iff.rfl) hc78 hs79 (fun L_ w_ hc_ hu_ hs_ => e_move (v := .iface 109 (.map (some g2))) (by exact e30)) ?_; intro hc80 hs81
    refine xv (i := 5) (d := 40) rfl rfl rfl (by kernel_rfl) (by kernel_rfl) (fun _ _ => Iff.rfl) hc80 hs81 (fun L_ w_ hc_ hu_ hs_ => e_fieldAddr (b := g58) (off := 0) (o := 1) Try.underlying143 rfl rfl (sz := 1) (by kernel_rfl) (by decide) (by kernel_rfl)) ?_; intro hc82 hs83
    refine xv (i := 6) (d := 41) rfl rfl rfl (by kernel_rfl) (by kernel_rfl) (fun _ _ => Iff.rfl) hc82 hs83 (fun L_ w_ hc_ hu_ hs_ => e_load1 (ad := ⟨g58, 0 + 1, none⟩) (v := .pointer (some ⟨g55, 0, none⟩)) Try.underlying74 rfl (by kernel_rfl) (blk_cell ((hs_.2 _ rfl).trans o72) rfl)) ?_; intro hc84 hs85
    have S86 := S69.pull (F := (is g2)) (Fr := [(is g58), F26]) 1 rfl rfl
    obtain ⟨t87, u88, M⟩ := bnd M
    refine xone (i := 3) (by kernel_rfl) hc84 ?_
    refine yc (i := 3) rfl (wanted_none rfl _) (by kernel_rfl) (by kernel_rfl) (e_call (l := [.tmp 35, .tmp 37]) (vs := [.iface 109 (.map (some g2)), .pointer (some ⟨g53, 0, none⟩)]) Try.func119 (by kernel_rfl) rfl (by kernel_rfl) rfl) (impl_walk.calls k38 w68 H21 x29 g2 ((x23.getD (((IntKind.i64.wrap ((x23.length : Int) - 1))).toNat) (default : GPair)).x_) g53 h3 h54 (St.own' (Fa := [(is g2)]) (Fr := [(is g58), F26]) S86) t87 u88) ?_
    rintro hc95 _ w89 ⟨g93, H90, rfl, h92, h94, T91⟩
    refine ⟨_, rfl, ?_⟩
    obtain ⟨S96, K97⟩ := St.call (Fa := [(is g2)]) (Fr := [(is g58), F26]) S86 T91
    replace b63 := K97.blk 0 rfl b63
    replace h67 := h67.move (K97.at 1 rfl)
    have E98 := T91.ext
    replace h67 := h67.ext E98
    refine ⟨⟨(Ext.trans E98 S96.inv), (fun b_ h_ => (K97.at 0 rfl b_ h_).trans (hs85.2 b_ h_))⟩, fun hs99 => ?_⟩
    obtain ⟨t100, u101, M⟩ := bnd M
    refine xone (i := 7) (by kernel_rfl) hc95 ?_
    refine yc (i := 7) rfl (wanted_none rfl _) (by kernel_rfl) (by kernel_rfl) (e_call (l := [.tmp 39, .tmp 41]) (vs := [.iface 109 (.map (some g2)), .pointer (some ⟨g55, 0, none⟩)]) Try.func119 (by kernel_rfl) rfl (by kernel_rfl) rfl) (impl_walk.calls k38 w89 H90 x29 g2 ((x23.getD (((IntKind.i64.wrap ((x23.length : Int) - 1))).toNat) (default : GPair)).y_) g55 h92 (h56.ext' E98) (St.own' (Fa := [(is g2)]) (Fr := [(is g58), F26]) S96) t100 u101) ?_
    rintro hc108 _ w102 ⟨g106, H103, rfl, h105, h107, T104⟩
    refine ⟨_, rfl, ?_⟩
    obtain ⟨S109, K110⟩ := St.call (Fa := [(is g2)]) (Fr := [(is g58), F26]) S96 T104
    replace b63 := K110.blk 0 rfl b63
    replace h67 := h67.move (K110.at 1 rfl)
    have E111 := T104.ext
    replace h67 := h67.ext E111
    refine ⟨⟨(Ext.trans (E98.trans E111) S109.inv), (fun b_ h_ => (K110.at 0 rfl b_ h_).trans (hs99.2 b_ h_))⟩, fun hs112 => ?_⟩
    refine xone (i := 8) (by kernel_rfl) hc108 ?_
    refine yo (i := 8) (d := 10) rfl rfl (wanted_none rfl _) (by kernel_rfl) (by kernel_rfl) (fun _ _ => Iff.rfl) hs112 (e_assign (v := .pointer (some ⟨g93, 0, none⟩)) (by kernel_rfl)) ?_; intro hc113 hs114
    refine xone (i := 9) (by kernel_rfl) hc113 ?_
    refine yo (i := 9) (d := 11) rfl rfl (wanted_none rfl _) (by kernel_rfl) (by kernel_rfl) (fun _ _ => Iff.rfl) hs114 (e_assign (v := .pointer (some ⟨g106, 0, none⟩)) (by kernel_rfl)) ?_; intro hc115 hs116
    refine xn (by kernel_rfl) ?_ _
    refine then_n ?_
    refine wp_block ?_
    refine wp_seq ?_
    refine wp_region_lit ?_
    refine lv (d := 72) rfl rfl (by kernel_rfl) (e_move (v := .pointer (some ⟨g93, 0, none⟩)) (by kernel_rfl)) ?_
    refine lv (d := 73) rfl rfl (by kernel_rfl) (e_nilCheck (ad := ⟨g93, 0, none⟩) (by kernel_rfl)) ?_
    refine lv (d := 74) rfl rfl (by kernel_rfl) (e_fieldAddr (b := g93) (off := 0) (o := 0) Try.underlying125 rfl rfl (sz := 1) (by kernel_rfl) (by decide) (by kernel_rfl)) ?_
    obtain ⟨A117, c118, y119, q120, h121, h122, l123, h124⟩ := node_open h94
    refine lv (d := 75) rfl rfl (by kernel_rfl) (e_load1 (ad := ⟨g93, 0 + 0, none⟩) (v := .int .i64 t87.kind) Try.underlying3 rfl (by kernel_rfl) (blk_cells (S109.inv _ _ (E111 _ _ h121)) h122 0 _ rfl)) ?_
    refine lv (d := 76) rfl rfl (by kernel_rfl) (e_eql (k := .i64) (a := t87.kind) (b := 0) (by kernel_rfl) rfl) ?_
    refine lv (d := 77) rfl rfl (by kernel_rfl) (e_move (v := .bool (decide (t87.kind = 0))) (by kernel_rfl)) ?_
    by_cases q125 : t87.kind = 0
    · replace M := ifp q125 M
      refine lvg (d := 78) (t := 77) rfl (by kernel_rfl) rfl (bt q125 (by kernel_rfl)) rfl (by kernel_rfl) (e_move (v := .pointer (some ⟨g106, 0, none⟩)) (by kernel_rfl)) ?_
      refine lvg (d := 79) (t := 77) rfl (by kernel_rfl) rfl (bt q125 (by kernel_rfl)) rfl (by kernel_rfl) (e_nilCheck (ad := ⟨g106, 0, none⟩) (by kernel_rfl)) ?_
      refine lvg (d := 80) (t := 77) rfl (by kernel_rfl) rfl (bt q125 (by kernel_rfl)) rfl (by kernel_rfl) (e_fieldAddr (b := g106) (off := 0) (o := 0) Try.underlying125 rfl rfl (sz := 1) (by kernel_rfl) (by decide) (by kernel_rfl)) ?_
      obtain ⟨A126, c127, y128, q129, h130, h131, l132, h133⟩ := node_open h107
      refine lvg (d := 81) (t := 77) rfl (by kernel_rfl) rfl (bt q125 (by kernel_rfl)) rfl (by kernel_rfl) (e_load1 (ad := ⟨g106, 0 + 0, none⟩) (v := .int .i64 t100.kind) Try.underlying3 rfl (by kernel_rfl) (blk_cells (S109.inv _ _ h130) h131 0 _ rfl)) ?_
      refine lvg (d := 82) (t := 77) rfl (by kernel_rfl) rfl (bt q125 (by kernel_rfl)) rfl (by kernel_rfl) (e_eql (k := .i64) (a := t100.kind) (b := 0) (by kernel_rfl) rfl) ?_
      refine lv (d := 83) rfl rfl (by kernel_rfl) (e_pick_t (v := .bool (decide (t100.kind = 0))) (bt q125 (by kernel_rfl)) (by kernel_rfl)) ?_
      refine lv (d := 71) rfl rfl (by kernel_rfl) (e_assign (v := .bool (decide (t100.kind = 0))) (by kernel_rfl)) ?_
      refine wpList_nil ?_
      refine then_n ?_
      by_cases q134 : t100.kind = 0
      · replace M := ifp q134 M
        refine cond_t rfl (bt q134 (by kernel_rfl)) ?_
        refine wp_seq ?_
        refine region_still (by kernel_rfl) (by kernel_rfl) S109 ?_
        intro w135 S136 K137
        replace h105 := h105.move (K137.at 0 rfl)
        replace b63 := K137.blk 1 rfl b63
        replace h67 := h67.move (K137.at 2 rfl)
        refine sv (d := 84) rfl rfl (by kernel_rfl) (e_move (v := .pointer (some ⟨g93, 0, none⟩)) (by kernel_rfl)) ?_
        refine sv (d := 85) rfl rfl (by kernel_rfl) (e_nilCheck (ad := ⟨g93, 0, none⟩) (by kernel_rfl)) ?_
        refine sv (d := 86) rfl rfl (by kernel_rfl) (e_fieldAddr (b := g93) (off := 0) (o := 1) Try.underlying125 rfl rfl (sz := 1) (by kernel_rfl) (by decide) (by kernel_rfl)) ?_
        refine sv (d := 87) rfl rfl (by kernel_rfl) (e_load1 (ad := ⟨g93, 0 + 1, none⟩) (v := .int .i64 t87.n) Try.underlying3 rfl (by kernel_rfl) (blk_cells (S136.inv _ _ (E111 _ _ h121)) h122 1 _ rfl)) ?_
        refine sv (d := 88) rfl rfl (by kernel_rfl) (e_move (v := .pointer (some ⟨g106, 0, none⟩)) (by kernel_rfl)) ?_
        refine sv (d := 89) rfl rfl (by kernel_rfl) (e_nilCheck (ad := ⟨g106, 0, none⟩) (by kernel_rfl)) ?_
        refine sv (d := 90) rfl rfl (by kernel_rfl) (e_fieldAddr (b := g106) (off := 0) (o := 1) Try.underlying125 rfl rfl (sz := 1) (by kernel_rfl) (by decide) (by kernel_rfl)) ?_
        refine sv (d := 91) rfl rfl (by kernel_rfl) (e_load1 (ad := ⟨g106, 0 + 1, none⟩) (v := .int .i64 t100.n) Try.underlying3 rfl (by kernel_rfl) (blk_cells (S136.inv _ _ h130) h131 1 _ rfl)) ?_
        refine sv (d := 92) rfl rfl (by kernel_rfl) (e_gtr (k := .i64) (a := t87.n) (b := t100.n) (by kernel_rfl) (by kernel_rfl)) ?_
        refine wpStill_nil ?_
        refine then_n ?_
        by_cases q138 : t87.n > t100.n
        · replace M := ifp q138 M
          refine cond_t rfl (bt q138 (by kernel_rfl)) ?_
          refine region_mix (S := (fun (L_ : Array Bool) (w_ : World) => Ext H103 (hp w_) ∧ True)) (by kernel_rfl) S136 ?_
          intro w139 S140 K141 hc142
          have hs143 : (fun (L_ : Array Bool) (w_ : World) => Ext H103 (hp w_) ∧ True) (Array.replicate 10 false) w139 := ⟨S140.inv, trivial⟩
          replace h105 := h105.move (K141.at 0 rfl)
          replace b63 := K141.blk 1 rfl b63
          replace h67 := h67.move (K141.at 2 rfl)
          refine xv (i := 0) (d := 93) rfl rfl rfl (by kernel_rfl) (by kernel_rfl) (fun _ _ => Iff.rfl) hc142 hs143 (fun L_ w_ hc_ hu_ hs_ => e_move (v := .iface 109 (.map (some g2))) (by exact e30)) ?_; intro hc144 hs145
          refine xv (i := 1) (d := 94) rfl rfl rfl (by kernel_rfl) (by kernel_rfl) (fun _ _ => Iff.rfl) hc144 hs145 (fun L_ w_ hc_ hu_ hs_ => e_move (v := .pointer (some ⟨g93, 0, none⟩)) (by kernel_rfl)) ?_; intro hc146 hs147
          refine xv (i := 2) (d := 95) rfl rfl rfl (by kernel_rfl) (by kernel_rfl) (fun _ _ => Iff.rfl) hc146 hs147 (fun L_ w_ hc_ hu_ hs_ => e_nilCheck (ad := ⟨g93, 0, none⟩) (by kernel_rfl)) ?_; intro hc148 hs149
          refine xv (i := 3) (d := 96) rfl rfl rfl (by kernel_rfl) (by kernel_rfl) (fun _ _ => Iff.rfl) hc148 hs149 (fun L_ w_ hc_ hu_ hs_ => e_fieldAddr (b := g93) (off := 0) (o := 1) Try.underlying125 rfl rfl (sz := 1) (by kernel_rfl) (by decide) (by kernel_rfl)) ?_; intro hc150 hs151
          refine xv (i := 4) (d := 97) rfl rfl rfl (by kernel_rfl) (by kernel_rfl) (fun _ _ => Iff.rfl) hc150 hs151 (fun L_ w_ hc_ hu_ hs_ => e_load1 (ad := ⟨g93, 0 + 1, none⟩) (v := .int .i64 t87.n) Try.underlying3 rfl (by kernel_rfl) (blk_cells (hs_.1 _ _ (E111 _ _ h121)) h122 1 _ rfl)) ?_; intro hc152 hs153
          refine xv (i := 5) (d := 98) rfl rfl rfl (by kernel_rfl) (by kernel_rfl) (fun _ _ => Iff.rfl) hc152 hs153 (fun L_ w_ hc_ hu_ hs_ => e_move (v := .pointer (some ⟨g106, 0, none⟩)) (by kernel_rfl)) ?_; intro hc154 hs155
          refine xone (i := 6) (by kernel_rfl) hc154 ?_
          refine yo (i := 6) (d := 99) rfl rfl (wanted_none rfl _) (by kernel_rfl) (by kernel_rfl) (fun _ _ => Iff.rfl) hs155 (e_makeFuncM (n := "loop.example/s00095/impl.set") (v := .iface 109 (.map (some g2))) (by kernel_rfl)) ?_; intro hc156 hs157
          refine xone (i := 7) (by kernel_rfl) hc156 ?_
          refine yo (i := 7) (d := 100) rfl rfl (wanted_none rfl _) (by kernel_rfl) (by kernel_rfl) (fun _ _ => Iff.rfl) hs157 (e_nilCheckM (n := "loop.example/s00095/impl.set") (t := 109) (v := .map (some g2)) (by kernel_rfl) (by kernel_rfl)) ?_; intro hc158 hs159
          refine xone (i := 8) (by kernel_rfl) hc158 ?_
          refine yo (i := 8) (d := 101) rfl rfl (wanted_none rfl _) (by kernel_rfl) (by kernel_rfl) (fun _ _ => Iff.rfl) hs159 (e_move (v := .iface 109 (.map (some g2))) (by kernel_rfl)) ?_; intro hc160 hs161
          obtain ⟨t162, u163, M⟩ := bnd M
          refine xone (i := 9) (by kernel_rfl) hc160 ?_
          refine yc (i := 9) rfl (wanted_none rfl _) (by kernel_rfl) (by kernel_rfl) (e_invoke (f := 170) (t := 109) (n := "loop.example/s00095/impl.set") (l := [.tmp 97, .tmp 98]) (vs := [.int .i64 t87.n, .pointer (some ⟨g106, 0, none⟩)]) (by kernel_rfl) (by kernel_rfl) (by kernel_rfl)) (impl_bindings_set.calls w139 H103 x29 g2 t87.n t100 g106 h105 h107 (St.own' (Fa := [(is g2)]) (Fr := [(is g58), F26]) S140) t162 u163) ?_
          rintro hc168 _ w164 ⟨H165, rfl, h167, T166⟩
          refine ⟨_, rfl, ?_⟩
          obtain ⟨S169, K170⟩ := St.call (Fa := [(is g2)]) (Fr := [(is g58), F26]) S140 T166
          replace b63 := K170.blk 0 rfl b63
          replace h67 := h67.move (K170.at 1 rfl)
          have E171 := T166.ext
          replace h67 := h67.ext E171
          refine ⟨⟨(Ext.trans E171 S169.inv), trivial⟩, fun hs172 => ?_⟩
          refine xn (by kernel_rfl) ?_ _
          refine inb_n ?_
          refine inb_n ?_
          refine then_n ?_
          refine wp_region_lit ?_
          refine lv (d := 20) rfl rfl (by kernel_rfl) (e_move (v := .int .i64 x28) (by exact e32)) ?_
          refine lv (d := 21) rfl rfl (by kernel_rfl) (e_add (k := .i64) (a := x28) (b := 1) (by kernel_rfl) rfl) ?_
          refine lv (d := 8) rfl rfl (by kernel_rfl) (e_assign (v := .int .i64 (IntKind.i64.wrap (x28 + 1))) (by kernel_rfl)) ?_
          refine wpList_nil ?_
          refine then_n ?_
          have S173 := S169.pull (F := F26) (Fr := [(is g2), (is g58)]) 2 rfl rfl
          have S174 := S173.pull (F := (is g2)) (Fr := [F26, (is g58)]) 1 rfl rfl
          have S175 := St.first (Fa := [(is g2), F26]) (Fr := [(is g58)]) S174
          exact ⟨k38, (by omega), _, H165, (x23.take (((IntKind.i64.wrap ((x23.length : Int) - 1)) : Int).toNat)), A24, c25, F26, (IntKind.i64.wrap (x28 + 1)), t162, rfl, (by exact e30), (by kernel_rfl), (by kernel_rfl), h167, h67, (((Y22.trans E98).trans E111).trans E171), S175, M⟩
        replace M := ifn q138 M
        refine cond_f rfl (bf q138 (by kernel_rfl)) ?_
        refine wp_seq ?_
        refine region_still (by kernel_rfl) (by kernel_rfl) S136 ?_
        intro w176 S177 K178
        replace h105 := h105.move (K178.at 0 rfl)
        replace b63 := K178.blk 1 rfl b63
        replace h67 := h67.move (K178.at 2 rfl)
        refine sv (d := 103) rfl rfl (by kernel_rfl) (e_move (v := .pointer (some ⟨g93, 0, none⟩)) (by kernel_rfl)) ?_
        refine sv (d := 104) rfl rfl (by kernel_rfl) (e_nilCheck (ad := ⟨g93, 0, none⟩) (by kernel_rfl)) ?_
        refine sv (d := 105) rfl rfl (by kernel_rfl) (e_fieldAddr (b := g93) (off := 0) (o := 1) Try.underlying125 rfl rfl (sz := 1) (by kernel_rfl) (by decide) (by kernel_rfl)) ?_
        refine sv (d := 106) rfl rfl (by kernel_rfl) (e_load1 (ad := ⟨g93, 0 + 1, none⟩) (v := .int .i64 t87.n) Try.underlying3 rfl (by kernel_rfl) (blk_cells (S177.inv _ _ (E111 _ _ h121)) h122 1 _ rfl)) ?_
        refine sv (d := 107) rfl rfl (by kernel_rfl) (e_move (v := .pointer (some ⟨g106, 0, none⟩)) (by kernel_rfl)) ?_
        refine sv (d := 108) rfl rfl (by kernel_rfl) (e_nilCheck (ad := ⟨g106, 0, none⟩) (by kernel_rfl)) ?_
        refine sv (d := 109) rfl rfl (by kernel_rfl) (e_fieldAddr (b := g106) (off := 0) (o := 1) Try.underlying125 rfl rfl (sz := 1) (by kernel_rfl) (by decide) (by kernel_rfl)) ?_
        refine sv (d := 110) rfl rfl (by kernel_rfl) (e_load1 (ad := ⟨g106, 0 + 1, none⟩) (v := .int .i64 t100.n) Try.underlying3 rfl (by kernel_rfl) (blk_cells (S177.inv _ _ h130) h131 1 _ rfl)) ?_
        refine sv (d := 111) rfl rfl (by kernel_rfl) (e_lss (k := .i64) (a := t87.n) (b := t100.n) (by kernel_rfl) (by kernel_rfl)) ?_
        refine wpStill_nil ?_
        refine then_n ?_
        by_cases q179 : t87.n < t100.n
        · replace M := ifp q179 M
          refine cond_t rfl (bt q179 (by kernel_rfl)) ?_
          refine region_mix (S := (fun (L_ : Array Bool) (w_ : World) => Ext H103 (hp w_) ∧ True)) (by kernel_rfl) S177 ?_
          intro w180 S181 K182 hc183
          have hs184 : (fun (L_ : Array Bool) (w_ : World) => Ext H103 (hp w_) ∧ True) (Array.replicate 10 false) w180 := ⟨S181.inv, trivial⟩
          replace h105 := h105.move (K182.at 0 rfl)
          replace b63 := K182.blk 1 rfl b63
          replace h67 := h67.move (K182.at 2 rfl)
          refine xv (i := 0) (d := 112) rfl rfl rfl (by kernel_rfl) (by kernel_rfl) (fun _ _ => Iff.rfl) hc183 hs184 (fun L_ w_ hc_ hu_ hs_ => e_move (v := .iface 109 (.map (some g2))) (by exact e30)) ?_; intro hc185 hs186
          refine xv (i := 1) (d := 113) rfl rfl rfl (by kernel_rfl) (by kernel_rfl) (fun _ _ => Iff.rfl) hc185 hs186 (fun L_ w_ hc_ hu_ hs_ => e_move (v := .pointer (some ⟨g106, 0, none⟩)) (by kernel_rfl)) ?_; intro hc187 hs188
          refine xv (i := 2) (d := 114) rfl rfl rfl (by kernel_rfl) (by kernel_rfl) (fun _ _ => Iff.rfl) hc187 hs188 (fun L_ w_ hc_ hu_ hs_ => e_nilCheck (ad := ⟨g106, 0, none⟩) (by kernel_rfl)) ?_; intro hc189 hs190
          refine xv (i := 3) (d := 115) rfl rfl rfl (by kernel_rfl) (by kernel_rfl) (fun _ _ => Iff.rfl) hc189 hs190 (fun L_ w_ hc_ hu_ hs_ => e_fieldAddr (b := g106) (off := 0) (o := 1) Try.underlying125 rfl rfl (sz := 1) (by kernel_rfl) (by decide) (by kernel_rfl)) ?_; intro hc191 hs192
          refine xv (i := 4) (d := 116) rfl rfl rfl (by kernel_rfl) (by kernel_rfl) (fun _ _ => Iff.rfl) hc191 hs192 (fun L_ w_ hc_ hu_ hs_ => e_load1 (ad := ⟨g106, 0 + 1, none⟩) (v := .int .i64 t100.n) Try.underlying3 rfl (by kernel_rfl) (blk_cells (hs_.1 _ _ h130) h131 1 _ rfl)) ?_; intro hc193 hs194
          refine xv (i := 5) (d := 117) rfl rfl rfl (by kernel_rfl) (by kernel_rfl) (fun _ _ => Iff.rfl) hc193 hs194 (fun L_ w_ hc_ hu_ hs_ => e_move (v := .pointer (some ⟨g93, 0, none⟩)) (by kernel_rfl)) ?_; intro hc195 hs196
          refine xone (i := 6) (by kernel_rfl) hc195 ?_
          refine yo (i := 6) (d := 118) rfl rfl (wanted_none rfl _) (by kernel_rfl) (by kernel_rfl) (fun _ _ => Iff.rfl) hs196 (e_makeFuncM (n := "loop.example/s00095/impl.set") (v := .iface 109 (.map (some g2))) (by kernel_rfl)) ?_; intro hc197 hs198
          refine xone (i := 7) (by kernel_rfl) hc197 ?_
          refine yo (i := 7) (d := 119) rfl rfl (wanted_none rfl _) (by kernel_rfl) (by kernel_rfl) (fun _ _ => Iff.rfl) hs198 (e_nilCheckM (n := "loop.example/s00095/impl.set") (t := 109) (v := .map (some g2)) (by kernel_rfl) (by kernel_rfl)) ?_; intro hc199 hs200
          refine xone (i := 8) (by kernel_rfl) hc199 ?_
          refine yo (i := 8) (d := 120) rfl rfl (wanted_none rfl _) (by kernel_rfl) (by kernel_rfl) (fun _ _ => Iff.rfl) hs200 (e_move (v := .iface 109 (.map (some g2))) (by kernel_rfl)) ?_; intro hc201 hs202
          obtain ⟨t203, u204, M⟩ := bnd M
          refine xone (i := 9) (by kernel_rfl) hc201 ?_
          refine yc (i := 9) rfl (wanted_none rfl _) (by kernel_rfl) (by kernel_rfl) (e_invoke (f := 170) (t := 109) (n := "loop.example/s00095/impl.set") (l := [.tmp 116, .tmp 117]) (vs := [.int .i64 t100.n, .pointer (some ⟨g93, 0, none⟩)]) (by kernel_rfl) (by kernel_rfl) (by kernel_rfl)) (impl_bindings_set.calls w180 H103 x29 g2 t100.n t87 g93 h105 (h94.ext' E111) (St.own' (Fa := [(is g2)]) (Fr := [(is g58), F26]) S181) t203 u204) ?_
          rintro hc209 _ w205 ⟨H206, rfl, h208, T207⟩
          refine ⟨_, rfl, ?_⟩
          obtain ⟨S210, K211⟩ := St.call (Fa := [(is g2)]) (Fr := [(is g58), F26]) S181 T207
          replace b63 := K211.blk 0 rfl b63
          replace h67 := h67.move (K211.at 1 rfl)
          have E212 := T207.ext
          replace h67 := h67.ext E212
          refine ⟨⟨(Ext.trans E212 S210.inv), trivial⟩, fun hs213 => ?_⟩
          refine xn (by kernel_rfl) ?_ _
          refine inb_n ?_
          refine inb_n ?_
          refine then_n ?_
          refine wp_region_lit ?_
          refine lv (d := 20) rfl rfl (by kernel_rfl) (e_move (v := .int .i64 x28) (by exact e32)) ?_
          refine lv (d := 21) rfl rfl (by kernel_rfl) (e_add (k := .i64) (a := x28) (b := 1) (by kernel_rfl) rfl) ?_
          refine lv (d := 8) rfl rfl (by kernel_rfl) (e_assign (v := .int .i64 (IntKind.i64.wrap (x28 + 1))) (by kernel_rfl)) ?_
          refine wpList_nil ?_
          refine then_n ?_
          have S214 := S210.pull (F := F26) (Fr := [(is g2), (is g58)]) 2 rfl rfl
          have S215 := S214.pull (F := (is g2)) (Fr := [F26, (is g58)]) 1 rfl rfl
          have S216 := St.first (Fa := [(is g2), F26]) (Fr := [(is g58)]) S215
          exact ⟨k38, (by omega), _, H206, (x23.take (((IntKind.i64.wrap ((x23.length : Int) - 1)) : Int).toNat)), A24, c25, F26, (IntKind.i64.wrap (x28 + 1)), t203, rfl, (by exact e30), (by kernel_rfl), (by kernel_rfl), h208, h67, (((Y22.trans E98).trans E111).trans E212), S216, M⟩
        replace M := ifn q179 M
        refine cond_f rfl (bf q179 (by kernel_rfl)) ?_
        refine wp_skip ?_
        refine inb_n ?_
        refine inb_n ?_
        refine then_n ?_
        refine wp_region_lit ?_
        refine lv (d := 20) rfl rfl (by kernel_rfl) (e_move (v := .int .i64 x28) (by exact e32)) ?_
        refine lv (d := 21) rfl rfl (by kernel_rfl) (e_add (k := .i64) (a := x28) (b := 1) (by kernel_rfl) rfl) ?_
        refine lv (d := 8) rfl rfl (by kernel_rfl) (e_assign (v := .int .i64 (IntKind.i64.wrap (x28 + 1))) (by kernel_rfl)) ?_
        refine wpList_nil ?_
        refine then_n ?_
        have S217 := S177.pull (F := F26) (Fr := [(is g2), (is g58)]) 2 rfl rfl
        have S218 := S217.pull (F := (is g2)) (Fr := [F26, (is g58)]) 1 rfl rfl
        have S219 := St.first (Fa := [(is g2), F26]) (Fr := [(is g58)]) S218
        exact ⟨k38, (by omega), _, H103, (x23.take (((IntKind.i64.wrap ((x23.length : Int) - 1)) : Int).toNat)), A24, c25, F26, (IntKind.i64.wrap (x28 + 1)), x29, rfl, (by exact e30), (by kernel_rfl), (by kernel_rfl), h105, h67, ((Y22.trans E98).trans E111), S219, M⟩
      replace M := ifn q134 M
      refine cond_f rfl (bf q134 (by kernel_rfl)) ?_
      refine wp_seq ?_
      refine wp_region_lit ?_
      refine lv (d := 123) rfl rfl (by kernel_rfl) (e_move (v := .pointer (some ⟨g93, 0, none⟩)) (by kernel_rfl)) ?_
      refine lv (d := 124) rfl rfl (by kernel_rfl) (e_nilCheck (ad := ⟨g93, 0, none⟩) (by kernel_rfl)) ?_
      refine lv (d := 125) rfl rfl (by kernel_rfl) (e_fieldAddr (b := g93) (off := 0) (o := 0) Try.underlying125 rfl rfl (sz := 1) (by kernel_rfl) (by decide) (by kernel_rfl)) ?_
      refine lv (d := 126) rfl rfl (by kernel_rfl) (e_load1 (ad := ⟨g93, 0 + 0, none⟩) (v := .int .i64 t87.kind) Try.underlying3 rfl (by kernel_rfl) (blk_cells (S109.inv _ _ (E111 _ _ h121)) h122 0 _ rfl)) ?_
      refine lv (d := 127) rfl rfl (by kernel_rfl) (e_eql (k := .i64) (a := t87.kind) (b := 0) (by kernel_rfl) rfl) ?_
      refine lv (d := 128) rfl rfl (by kernel_rfl) (e_move (v := .bool (decide (t87.kind = 0))) (by kernel_rfl)) ?_
      refine lskip (t := 128) (c := true) rfl (by kernel_rfl) rfl (bt q125 (by kernel_rfl)) rfl rfl ?_
      refine lskip (t := 128) (c := true) rfl (by kernel_rfl) rfl (bt q125 (by kernel_rfl)) rfl rfl ?_
      refine lskip (t := 128) (c := true) rfl (by kernel_rfl) rfl (bt q125 (by kernel_rfl)) rfl rfl ?_
      refine lskip (t := 128) (c := true) rfl (by kernel_rfl) rfl (bt q125 (by kernel_rfl)) rfl rfl ?_
      refine lskip (t := 128) (c := true) rfl (by kernel_rfl) rfl (bt q125 (by kernel_rfl)) rfl rfl ?_
      refine lv (d := 134) rfl rfl (by kernel_rfl) (e_pick_t (v := .bool true) (bt q125 (by kernel_rfl)) rfl) ?_
      refine lv (d := 122) rfl rfl (by kernel_rfl) (e_assign (v := .bool true) (by kernel_rfl)) ?_
      refine wpList_nil ?_
      refine then_n ?_
      refine cond_t rfl (by kernel_rfl) ?_
      refine wp_seq ?_
      refine wp_seq ?_
      refine wp_region_lit ?_
      refine lv (d := 135) rfl rfl (by kernel_rfl) (e_move (v := .pointer (some ⟨g106, 0, none⟩)) (by kernel_rfl)) ?_
      refine lv (d := 136) rfl rfl (by kernel_rfl) (e_nilCheck (ad := ⟨g106, 0, none⟩) (by kernel_rfl)) ?_
      refine lv (d := 137) rfl rfl (by kernel_rfl) (e_fieldAddr (b := g106) (off := 0) (o := 0) Try.underlying125 rfl rfl (sz := 1) (by kernel_rfl) (by decide) (by kernel_rfl)) ?_
      refine lv (d := 138) rfl rfl (by kernel_rfl) (e_load1 (ad := ⟨g106, 0 + 0, none⟩) (v := .int .i64 t100.kind) Try.underlying3 rfl (by kernel_rfl) (blk_cells (S109.inv _ _ h130) h131 0 _ rfl)) ?_
      refine lv (d := 139) rfl rfl (by kernel_rfl) (e_eql (k := .i64) (a := t100.kind) (b := 0) (by kernel_rfl) rfl) ?_
      refine wpList_nil ?_
      refine then_n ?_
      refine cond_f rfl (bf q134 (by kernel_rfl)) ?_
      refine wp_skip ?_
      refine then_n ?_
      refine wp_seq ?_
      refine wp_seq ?_
      refine wp_region_lit ?_
      refine lv (d := 142) rfl rfl (by kernel_rfl) (e_move (v := .iface 109 (.map (some g2))) (by exact e30)) ?_
      refine lv (d := 143) rfl rfl (by kernel_rfl) (e_move (v := .pointer (some ⟨g93, 0, none⟩)) (by kernel_rfl)) ?_
      refine lv (d := 144) rfl rfl (by kernel_rfl) (e_nilCheck (ad := ⟨g93, 0, none⟩) (by kernel_rfl)) ?_
      refine lv (d := 145) rfl rfl (by kernel_rfl) (e_fieldAddr (b := g93) (off := 0) (o := 1) Try.underlying125 rfl rfl (sz := 1) (by kernel_rfl) (by decide) (by kernel_rfl)) ?_
      refine lv (d := 146) rfl rfl (by kernel_rfl) (e_load1 (ad := ⟨g93, 0 + 1, none⟩) (v := .int .i64 t87.n) Try.underlying3 rfl (by kernel_rfl) (blk_cells (S109.inv _ _ (E111 _ _ h121)) h122 1 _ rfl)) ?_
      refine lv (d := 147) rfl rfl (by kernel_rfl) (e_move (v := .pointer (some ⟨g106, 0, none⟩)) (by kernel_rfl)) ?_
      refine lve (d := 148) rfl rfl (by kernel_rfl) (e_makeMap S109 encP tBool) ?_
      rintro _ w220 ⟨g221, rfl, h222, S223, K224⟩
      replace h105 := h105.move (K224.at 0 rfl)
      replace b63 := K224.blk 1 rfl b63
      replace h67 := h67.move (K224.at 2 rfl)
      have S225 := S223.pull (F := (is g2)) (Fr := [(is g221), (is g58), F26]) 1 rfl rfl
      obtain ⟨t226, u227, M⟩ := bnd M
      refine lcall (d := 149) rfl rfl (by kernel_rfl) (e_call (l := [.tmp 142, .tmp 146, .tmp 147, .tmp 148]) (vs := [.iface 109 (.map (some g2)), .int .i64 t87.n, .pointer (some ⟨g106, 0, none⟩), .map (some g221)]) Try.func120 (by kernel_rfl) rfl (by kernel_rfl) rfl) (impl_stands.calls k38 w220 H103 x29 g2 t87.n t100 g106 [] g221 h105 h107 h222 (St.own' (Fa := [(is g2), (is g221)]) (Fr := [(is g58), F26]) S225) t226 u227) ?_
      rintro _ w228 ⟨H229, rfl, h231, T230⟩
      refine ⟨_, rfl, ?_⟩
      obtain ⟨S232, K233⟩ := St.call (Fa := [(is g2), (is g221)]) (Fr := [(is g58), F26]) S225 T230
      replace b63 := K233.blk 0 rfl b63
      replace h67 := h67.move (K233.at 1 rfl)
      have E234 := T230.ext
      replace h67 := h67.ext E234
      refine wpList_nil ?_
      refine then_n ?_
      by_cases q235 : t226 = true
      · replace M := ifp q235 M
        refine cond_t rfl (bvt q235 (by kernel_rfl)) ?_
        refine wp_seq ?_
        refine wp_region_lit ?_
        refine lv (d := 6) rfl rfl (by kernel_rfl) (e_assign (v := .int .i64 5) rfl) ?_
        refine wpList_nil ?_
        refine then_n ?_
        refine wp_ret ?_
        refine then_r ?_
        refine inb_r ?_
        refine inb_r ?_
        refine then_r ?_
        refine then_r ?_
        refine inb_r ?_
        refine then_r ?_
        obtain rfl := Option.some.inj M
        have S236 := St.first (Fa := [(is g2)]) (Fr := [(is g58), F26]) S232
        exact ret1 rfl rfl  (show _ = .int .i64 5 from (by kernel_rfl)) ⟨H229, rfl, h231, S236⟩
      replace M := ifn q235 M
      refine cond_f rfl (bvf q235 (by kernel_rfl)) ?_
      refine wp_skip ?_
      refine then_n ?_
      refine region_mix (S := (fun (L_ : Array Bool) (w_ : World) => Ext H229 (hp w_) ∧ True)) (by kernel_rfl) S232 ?_
      intro w237 S238 K239 hc240
      have hs241 : (fun (L_ : Array Bool) (w_ : World) => Ext H229 (hp w_) ∧ True) (Array.replicate 10 false) w237 := ⟨S238.inv, trivial⟩
      replace h231 := h231.move (K239.at 0 rfl)
      replace b63 := K239.blk 1 rfl b63
      replace h67 := h67.move (K239.at 2 rfl)
      refine xv (i := 0) (d := 150) rfl rfl rfl (by kernel_rfl) (by kernel_rfl) (fun _ _ => Iff.rfl) hc240 hs241 (fun L_ w_ hc_ hu_ hs_ => e_move (v := .iface 109 (.map (some g2))) (by exact e30)) ?_; intro hc242 hs243
      refine xv (i := 1) (d := 151) rfl rfl rfl (by kernel_rfl) (by kernel_rfl) (fun _ _ => Iff.rfl) hc242 hs243 (fun L_ w_ hc_ hu_ hs_ => e_move (v := .pointer (some ⟨g93, 0, none⟩)) (by kernel_rfl)) ?_; intro hc244 hs245
      refine xv (i := 2) (d := 152) rfl rfl rfl (by kernel_rfl) (by kernel_rfl) (fun _ _ => Iff.rfl) hc244 hs245 (fun L_ w_ hc_ hu_ hs_ => e_nilCheck (ad := ⟨g93, 0, none⟩) (by kernel_rfl)) ?_; intro hc246 hs247
      refine xv (i := 3) (d := 153) rfl rfl rfl (by kernel_rfl) (by kernel_rfl) (fun _ _ => Iff.rfl) hc246 hs247 (fun L_ w_ hc_ hu_ hs_ => e_fieldAddr (b := g93) (off := 0) (o := 1) Try.underlying125 rfl rfl (sz := 1) (by kernel_rfl) (by decide) (by kernel_rfl)) ?_; intro hc248 hs249
      refine xv (i := 4) (d := 154) rfl rfl rfl (by kernel_rfl) (by kernel_rfl) (fun _ _ => Iff.rfl) hc248 hs249 (fun L_ w_ hc_ hu_ hs_ => e_load1 (ad := ⟨g93, 0 + 1, none⟩) (v := .int .i64 t87.n) Try.underlying3 rfl (by kernel_rfl) (blk_cells (hs_.1 _ _ ((E111.trans E234) _ _ h121)) h122 1 _ rfl)) ?_; intro hc250 hs251
      refine xv (i := 5) (d := 155) rfl rfl rfl (by kernel_rfl) (by kernel_rfl) (fun _ _ => Iff.rfl) hc250 hs251 (fun L_ w_ hc_ hu_ hs_ => e_move (v := .pointer (some ⟨g106, 0, none⟩)) (by kernel_rfl)) ?_; intro hc252 hs253
      refine xone (i := 6) (by kernel_rfl) hc252 ?_
      refine yo (i := 6) (d := 156) rfl rfl (wanted_none rfl _) (by kernel_rfl) (by kernel_rfl) (fun _ _ => Iff.rfl) hs253 (e_makeFuncM (n := "loop.example/s00095/impl.set") (v := .iface 109 (.map (some g2))) (by kernel_rfl)) ?_; intro hc254 hs255
      refine xone (i := 7) (by kernel_rfl) hc254 ?_
      refine yo (i := 7) (d := 157) rfl rfl (wanted_none rfl _) (by kernel_rfl) (by kernel_rfl) (fun _ _ => Iff.rfl) hs255 (e_nilCheckM (n := "loop.example/s00095/impl.set") (t := 109) (v := .map (some g2)) (by kernel_rfl) (by kernel_rfl)) ?_; intro hc256 hs257
      refine xone (i := 8) (by kernel_rfl) hc256 ?_
      refine yo (i := 8) (d := 158) rfl rfl (wanted_none rfl _) (by kernel_rfl) (by kernel_rfl) (fun _ _ => Iff.rfl) hs257 (e_move (v := .iface 109 (.map (some g2))) (by kernel_rfl)) ?_; intro hc258 hs259
      obtain ⟨t260, u261, M⟩ := bnd M
      refine xone (i := 9) (by kernel_rfl) hc258 ?_
      refine yc (i := 9) rfl (wanted_none rfl _) (by kernel_rfl) (by kernel_rfl) (e_invoke (f := 170) (t := 109) (n := "loop.example/s00095/impl.set") (l := [.tmp 154, .tmp 155]) (vs := [.int .i64 t87.n, .pointer (some ⟨g106, 0, none⟩)]) (by kernel_rfl) (by kernel_rfl) (by kernel_rfl)) (impl_bindings_set.calls w237 H229 x29 g2 t87.n t100 g106 h231 (h107.ext' E234) (St.own' (Fa := [(is g2)]) (Fr := [(is g58), F26]) S238) t260 u261) ?_
      rintro hc266 _ w262 ⟨H263, rfl, h265, T264⟩
      refine ⟨_, rfl, ?_⟩
      obtain ⟨S267, K268⟩ := St.call (Fa := [(is g2)]) (Fr := [(is g58), F26]) S238 T264
      replace b63 := K268.blk 0 rfl b63
      replace h67 := h67.move (K268.at 1 rfl)
      have E269 := T264.ext
      replace h67 := h67.ext E269
      refine ⟨⟨(Ext.trans E269 S267.inv), trivial⟩, fun hs270 => ?_⟩
      refine xn (by kernel_rfl) ?_ _
      refine inb_n ?_
      refine inb_n ?_
      refine then_n ?_
      refine wp_region_lit ?_
      refine lv (d := 20) rfl rfl (by kernel_rfl) (e_move (v := .int .i64 x28) (by exact e32)) ?_
      refine lv (d := 21) rfl rfl (by kernel_rfl) (e_add (k := .i64) (a := x28) (b := 1) (by kernel_rfl) rfl) ?_
      refine lv (d := 8) rfl rfl (by kernel_rfl) (e_assign (v := .int .i64 (IntKind.i64.wrap (x28 + 1))) (by kernel_rfl)) ?_
      refine wpList_nil ?_
      refine then_n ?_
      have S271 := S267.pull (F := F26) (Fr := [(is g2), (is g58)]) 2 rfl rfl
      have S272 := S271.pull (F := (is g2)) (Fr := [F26, (is g58)]) 1 rfl rfl
      have S273 := St.first (Fa := [(is g2), F26]) (Fr := [(is g58)]) S272
      exact ⟨k38, (by omega), _, H263, (x23.take (((IntKind.i64.wrap ((x23.length : Int) - 1)) : Int).toNat)), A24, c25, F26, (IntKind.i64.wrap (x28 + 1)), t260, rfl, (by exact e30), (by kernel_rfl), (by kernel_rfl), h265, h67, ((((Y22.trans E98).trans E111).trans E234).trans E269), S273, M⟩
    replace M := ifn q125 M
    refine lskip (t := 77) (c := false) rfl (by kernel_rfl) rfl (bf q125 (by kernel_rfl)) rfl rfl ?_
    refine lskip (t := 77) (c := false) rfl (by kernel_rfl) rfl (bf q125 (by kernel_rfl)) rfl rfl ?_
    refine lskip (t := 77) (c := false) rfl (by kernel_rfl) rfl (bf q125 (by kernel_rfl)) rfl rfl ?_
    refine lskip (t := 77) (c := false) rfl (by kernel_rfl) rfl (bf q125 (by kernel_rfl)) rfl rfl ?_
    refine lskip (t := 77) (c := false) rfl (by kernel_rfl) rfl (bf q125 (by kernel_rfl)) rfl rfl ?_
    refine lv (d := 83) rfl rfl (by kernel_rfl) (e_pick_f (v := .bool false) (bf q125 (by kernel_rfl)) rfl) ?_
    refine lv (d := 71) rfl rfl (by kernel_rfl) (e_assign (v := .bool false) (by kernel_rfl)) ?_
    refine wpList_nil ?_
    refine then_n ?_
    refine cond_f rfl (by kernel_rfl) ?_
    refine wp_seq ?_
    refine wp_region_lit ?_
    refine lv (d := 123) rfl rfl (by kernel_rfl) (e_move (v := .pointer (some ⟨g93, 0, none⟩)) (by kernel_rfl)) ?_
    refine lv (d := 124) rfl rfl (by kernel_rfl) (e_nilCheck (ad := ⟨g93, 0, none⟩) (by kernel_rfl)) ?_
    refine lv (d := 125) rfl rfl (by kernel_rfl) (e_fieldAddr (b := g93) (off := 0) (o := 0) Try.underlying125 rfl rfl (sz := 1) (by kernel_rfl) (by decide) (by kernel_rfl)) ?_
    refine lv (d := 126) rfl rfl (by kernel_rfl) (e_load1 (ad := ⟨g93, 0 + 0, none⟩) (v := .int .i64 t87.kind) Try.underlying3 rfl (by kernel_rfl) (blk_cells (S109.inv _ _ (E111 _ _ h121)) h122 0 _ rfl)) ?_
    refine lv (d := 127) rfl rfl (by kernel_rfl) (e_eql (k := .i64) (a := t87.kind) (b := 0) (by kernel_rfl) rfl) ?_
    refine lv (d := 128) rfl rfl (by kernel_rfl) (e_move (v := .bool (decide (t87.kind = 0))) (by kernel_rfl)) ?_
    refine lvg (d := 129) (t := 128) rfl (by kernel_rfl) rfl (bf q125 (by kernel_rfl)) rfl (by kernel_rfl) (e_move (v := .pointer (some ⟨g106, 0, none⟩)) (by kernel_rfl)) ?_
    refine lvg (d := 130) (t := 128) rfl (by kernel_rfl) rfl (bf q125 (by kernel_rfl)) rfl (by kernel_rfl) (e_nilCheck (ad := ⟨g106, 0, none⟩) (by kernel_rfl)) ?_
    refine lvg (d := 131) (t := 128) rfl (by kernel_rfl) rfl (bf q125 (by kernel_rfl)) rfl (by kernel_rfl) (e_fieldAddr (b := g106) (off := 0) (o := 0) Try.underlying125 rfl rfl (sz := 1) (by kernel_rfl) (by decide) (by kernel_rfl)) ?_
    obtain ⟨A274, c275, y276, q277, h278, h279, l280, h281⟩ := node_open h107
    refine lvg (d := 132) (t := 128) rfl (by kernel_rfl) rfl (bf q125 (by kernel_rfl)) rfl (by kernel_rfl) (e_load1 (ad := ⟨g106, 0 + 0, none⟩) (v := .int .i64 t100.kind) Try.underlying3 rfl (by kernel_rfl) (blk_cells (S109.inv _ _ h278) h279 0 _ rfl)) ?_
    refine lvg (d := 133) (t := 128) rfl (by kernel_rfl) rfl (bf q125 (by kernel_rfl)) rfl (by kernel_rfl) (e_eql (k := .i64) (a := t100.kind) (b := 0) (by kernel_rfl) rfl) ?_
    refine lv (d := 134) rfl rfl (by kernel_rfl) (e_pick_f (v := .bool (decide (t100.kind = 0))) (bf q125 (by kernel_rfl)) (by kernel_rfl)) ?_
    refine lv (d := 122) rfl rfl (by kernel_rfl) (e_assign (v := .bool (decide (t100.kind = 0))) (by kernel_rfl)) ?_
    refine wpList_nil ?_
    refine then_n ?_
    by_cases q282 : t100.kind = 0
    · replace M := ifp q282 M
      refine cond_t rfl (bt q282 (by kernel_rfl)) ?_
      refine wp_seq ?_
      refine wp_seq ?_
      refine wp_region_lit ?_
      refine lv (d := 135) rfl rfl (by kernel_rfl) (e_move (v := .pointer (some ⟨g106, 0, none⟩)) (by kernel_rfl)) ?_
      refine lv (d := 136) rfl rfl (by kernel_rfl) (e_nilCheck (ad := ⟨g106, 0, none⟩) (by kernel_rfl)) ?_
      refine lv (d := 137) rfl rfl (by kernel_rfl) (e_fieldAddr (b := g106) (off := 0) (o := 0) Try.underlying125 rfl rfl (sz := 1) (by kernel_rfl) (by decide) (by kernel_rfl)) ?_
      refine lv (d := 138) rfl rfl (by kernel_rfl) (e_load1 (ad := ⟨g106, 0 + 0, none⟩) (v := .int .i64 t100.kind) Try.underlying3 rfl (by kernel_rfl) (blk_cells (S109.inv _ _ h278) h279 0 _ rfl)) ?_
      refine lv (d := 139) rfl rfl (by kernel_rfl) (e_eql (k := .i64) (a := t100.kind) (b := 0) (by kernel_rfl) rfl) ?_
      refine wpList_nil ?_
      refine then_n ?_
      refine cond_t rfl (bt q282 (by kernel_rfl)) ?_
      refine wp_region_lit ?_
      refine lv (d := 140) rfl rfl (by kernel_rfl) (e_move (v := .pointer (some ⟨g106, 0, none⟩)) (by kernel_rfl)) ?_
      refine lv (d := 141) rfl rfl (by kernel_rfl) (e_move (v := .pointer (some ⟨g93, 0, none⟩)) (by kernel_rfl)) ?_
      refine lv (d := 10) rfl rfl (by kernel_rfl) (e_assign (v := .pointer (some ⟨g106, 0, none⟩)) (by kernel_rfl)) ?_
      refine lv (d := 11) rfl rfl (by kernel_rfl) (e_assign (v := .pointer (some ⟨g93, 0, none⟩)) (by kernel_rfl)) ?_
      refine wpList_nil ?_
      refine then_n ?_
      refine wp_seq ?_
      refine wp_seq ?_
      refine wp_region_lit ?_
      refine lv (d := 142) rfl rfl (by kernel_rfl) (e_move (v := .iface 109 (.map (some g2))) (by exact e30)) ?_
      refine lv (d := 143) rfl rfl (by kernel_rfl) (e_move (v := .pointer (some ⟨g106, 0, none⟩)) (by kernel_rfl)) ?_
      refine lv (d := 144) rfl rfl (by kernel_rfl) (e_nilCheck (ad := ⟨g106, 0, none⟩) (by kernel_rfl)) ?_
      refine lv (d := 145) rfl rfl (by kernel_rfl) (e_fieldAddr (b := g106) (off := 0) (o := 1) Try.underlying125 rfl rfl (sz := 1) (by kernel_rfl) (by decide) (by kernel_rfl)) ?_
      refine lv (d := 146) rfl rfl (by kernel_rfl) (e_load1 (ad := ⟨g106, 0 + 1, none⟩) (v := .int .i64 t100.n) Try.underlying3 rfl (by kernel_rfl) (blk_cells (S109.inv _ _ h278) h279 1 _ rfl)) ?_
      refine lv (d := 147) rfl rfl (by kernel_rfl) (e_move (v := .pointer (some ⟨g93, 0, none⟩)) (by kernel_rfl)) ?_
      refine lve (d := 148) rfl rfl (by kernel_rfl) (e_makeMap S109 encP tBool) ?_
      rintro _ w283 ⟨g284, rfl, h285, S286, K287⟩
      replace h105 := h105.move (K287.at 0 rfl)
      replace b63 := K287.blk 1 rfl b63
      replace h67 := h67.move (K287.at 2 rfl)
      have S288 := S286.pull (F := (is g2)) (Fr := [(is g284), (is g58), F26]) 1 rfl rfl
      obtain ⟨t289, u290, M⟩ := bnd M
      refine lcall (d := 149) rfl rfl (by kernel_rfl) (e_call (l := [.tmp 142, .tmp 146, .tmp 147, .tmp 148]) (vs := [.iface 109 (.map (some g2)), .int .i64 t100.n, .pointer (some ⟨g93, 0, none⟩), .map (some g284)]) Try.func120 (by kernel_rfl) rfl (by kernel_rfl) rfl) (impl_stands.calls k38 w283 H103 x29 g2 t100.n t87 g93 [] g284 h105 (h94.ext' E111) h285 (St.own' (Fa := [(is g2), (is g284)]) (Fr := [(is g58), F26]) S288) t289 u290) ?_
      rintro _ w291 ⟨H292, rfl, h294, T293⟩
      refine ⟨_, rfl, ?_⟩
      obtain ⟨S295, K296⟩ := St.call (Fa := [(is g2), (is g284)]) (Fr := [(is g58), F26]) S288 T293
      replace b63 := K296.blk 0 rfl b63
      replace h67 := h67.move (K296.at 1 rfl)
      have E297 := T293.ext
      replace h67 := h67.ext E297
      refine wpList_nil ?_
      refine then_n ?_
      by_cases q298 : t289 = true
      · replace M := ifp q298 M
        refine cond_t rfl (bvt q298 (by kernel_rfl)) ?_
        refine wp_seq ?_
        refine wp_region_lit ?_
        refine lv (d := 6) rfl rfl (by kernel_rfl) (e_assign (v := .int .i64 5) rfl) ?_
        refine wpList_nil ?_
        refine then_n ?_
        refine wp_ret ?_
        refine then_r ?_
        refine inb_r ?_
        refine inb_r ?_
        refine then_r ?_
        refine then_r ?_
        refine inb_r ?_
        refine then_r ?_
        obtain rfl := Option.some.inj M
        have S299 := St.first (Fa := [(is g2)]) (Fr := [(is g58), F26]) S295
        exact ret1 rfl rfl  (show _ = .int .i64 5 from (by kernel_rfl)) ⟨H292, rfl, h294, S299⟩
      replace M := ifn q298 M
      refine cond_f rfl (bvf q298 (by kernel_rfl)) ?_
      refine wp_skip ?_
      refine then_n ?_
      refine region_mix (S := (fun (L_ : Array Bool) (w_ : World) => Ext H292 (hp w_) ∧ True)) (by kernel_rfl) S295 ?_
      intro w300 S301 K302 hc303
      have hs304 : (fun (L_ : Array Bool) (w_ : World) => Ext H292 (hp w_) ∧ True) (Array.replicate 10 false) w300 := ⟨S301.inv, trivial⟩
      replace h294 := h294.move (K302.at 0 rfl)
      replace b63 := K302.blk 1 rfl b63
      replace h67 := h67.move (K302.at 2 rfl)
      refine xv (i := 0) (d := 150) rfl rfl rfl (by kernel_rfl) (by kernel_rfl) (fun _ _ => Iff.rfl) hc303 hs304 (fun L_ w_ hc_ hu_ hs_ => e_move (v := .iface 109 (.map (some g2))) (by exact e30)) ?_; intro hc305 hs306
      refine xv (i := 1) (d := 151) rfl rfl rfl (by kernel_rfl) (by kernel_rfl) (fun _ _ => Iff.rfl) hc305 hs306 (fun L_ w_ hc_ hu_ hs_ => e_move (v := .pointer (some ⟨g106, 0, none⟩)) (by kernel_rfl)) ?_; intro hc307 hs308
      refine xv (i := 2) (d := 152) rfl rfl rfl (by kernel_rfl) (by kernel_rfl) (fun _ _ => Iff.rfl) hc307 hs308 (fun L_ w_ hc_ hu_ hs_ => e_nilCheck (ad := ⟨g106, 0, none⟩) (by kernel_rfl)) ?_; intro hc309 hs310
      refine xv (i := 3) (d := 153) rfl rfl rfl (by kernel_rfl) (by kernel_rfl) (fun _ _ => Iff.rfl) hc309 hs310 (fun L_ w_ hc_ hu_ hs_ => e_fieldAddr (b := g106) (off := 0) (o := 1) Try.underlying125 rfl rfl (sz := 1) (by kernel_rfl) (by decide) (by kernel_rfl)) ?_; intro hc311 hs312
      refine xv (i := 4) (d := 154) rfl rfl rfl (by kernel_rfl) (by kernel_rfl) (fun _ _ => Iff.rfl) hc311 hs312 (fun L_ w_ hc_ hu_ hs_ => e_load1 (ad := ⟨g106, 0 + 1, none⟩) (v := .int .i64 t100.n) Try.underlying3 rfl (by kernel_rfl) (blk_cells (hs_.1 _ _ (E297 _ _ h278)) h279 1 _ rfl)) ?_; intro hc313 hs314
      refine xv (i := 5) (d := 155) rfl rfl rfl (by kernel_rfl) (by kernel_rfl) (fun _ _ => Iff.rfl) hc313 hs314 (fun L_ w_ hc_ hu_ hs_ => e_move (v := .pointer (some ⟨g93, 0, none⟩)) (by kernel_rfl)) ?_; intro hc315 hs316
      refine xone (i := 6) (by kernel_rfl) hc315 ?_
      refine yo (i := 6) (d := 156) rfl rfl (wanted_none rfl _) (by kernel_rfl) (by kernel_rfl) (fun _ _ => Iff.rfl) hs316 (e_makeFuncM (n := "loop.example/s00095/impl.set") (v := .iface 109 (.map (some g2))) (by kernel_rfl)) ?_; intro hc317 hs318
      refine xone (i := 7) (by kernel_rfl) hc317 ?_
      refine yo (i := 7) (d := 157) rfl rfl (wanted_none rfl _) (by kernel_rfl) (by kernel_rfl) (fun _ _ => Iff.rfl) hs318 (e_nilCheckM (n := "loop.example/s00095/impl.set") (t := 109) (v := .map (some g2)) (by kernel_rfl) (by kernel_rfl)) ?_; intro hc319 hs320
      refine xone (i := 8) (by kernel_rfl) hc319 ?_
      refine yo (i := 8) (d := 158) rfl rfl (wanted_none rfl _) (by kernel_rfl) (by kernel_rfl) (fun _ _ => Iff.rfl) hs320 (e_move (v := .iface 109 (.map (some g2))) (by kernel_rfl)) ?_; intro hc321 hs322
      obtain ⟨t323, u324, M⟩ := bnd M
      refine xone (i := 9) (by kernel_rfl) hc321 ?_
      refine yc (i := 9) rfl (wanted_none rfl _) (by kernel_rfl) (by kernel_rfl) (e_invoke (f := 170) (t := 109) (n := "loop.example/s00095/impl.set") (l := [.tmp 154, .tmp 155]) (vs := [.int .i64 t100.n, .pointer (some ⟨g93, 0, none⟩)]) (by kernel_rfl) (by kernel_rfl) (by kernel_rfl)) (impl_bindings_set.calls w300 H292 x29 g2 t100.n t87 g93 h294 (h94.ext' (E111.trans E297)) (St.own' (Fa := [(is g2)]) (Fr := [(is g58), F26]) S301) t323 u324) ?_
      rintro hc329 _ w325 ⟨H326, rfl, h328, T327⟩
      refine ⟨_, rfl, ?_⟩
      obtain ⟨S330, K331⟩ := St.call (Fa := [(is g2)]) (Fr := [(is g58), F26]) S301 T327
      replace b63 := K331.blk 0 rfl b63
      replace h67 := h67.move (K331.at 1 rfl)
      have E332 := T327.ext
      replace h67 := h67.ext E332
      refine ⟨⟨(Ext.trans E332 S330.inv), trivial⟩, fun hs333 => ?_⟩
      refine xn (by kernel_rfl) ?_ _
      refine inb_n ?_
      refine inb_n ?_
      refine then_n ?_
      refine wp_region_lit ?_
      refine lv (d := 20) rfl rfl (by kernel_rfl) (e_move (v := .int .i64 x28) (by exact e32)) ?_
      refine lv (d := 21) rfl rfl (by kernel_rfl) (e_add (k := .i64) (a := x28) (b := 1) (by kernel_rfl) rfl) ?_
      refine lv (d := 8) rfl rfl (by kernel_rfl) (e_assign (v := .int .i64 (IntKind.i64.wrap (x28 + 1))) (by kernel_rfl)) ?_
      refine wpList_nil ?_
      refine then_n ?_
      have S334 := S330.pull (F := F26) (Fr := [(is g2), (is g58)]) 2 rfl rfl
      have S335 := S334.pull (F := (is g2)) (Fr := [F26, (is g58)]) 1 rfl rfl
      have S336 := St.first (Fa := [(is g2), F26]) (Fr := [(is g58)]) S335
      exact ⟨k38, (by omega), _, H326, (x23.take (((IntKind.i64.wrap ((x23.length : Int) - 1)) : Int).toNat)), A24, c25, F26, (IntKind.i64.wrap (x28 + 1)), t323, rfl, (by exact e30), (by kernel_rfl), (by kernel_rfl), h328, h67, ((((Y22.trans E98).trans E111).trans E297).trans E332), S336, M⟩
    replace M := ifn q282 M
    refine cond_f rfl (bf q282 (by kernel_rfl)) ?_
    refine wp_seq ?_
    refine region_still (by kernel_rfl) (by kernel_rfl) S109 ?_
    intro w337 S338 K339
    replace h105 := h105.move (K339.at 0 rfl)
    replace b63 := K339.blk 1 rfl b63
    replace h67 := h67.move (K339.at 2 rfl)
    refine sv (d := 161) rfl rfl (by kernel_rfl) (e_move (v := .pointer (some ⟨g93, 0, none⟩)) (by kernel_rfl)) ?_
    refine sv (d := 162) rfl rfl (by kernel_rfl) (e_nilCheck (ad := ⟨g93, 0, none⟩) (by kernel_rfl)) ?_
    refine sv (d := 163) rfl rfl (by kernel_rfl) (e_fieldAddr (b := g93) (off := 0) (o := 0) Try.underlying125 rfl rfl (sz := 1) (by kernel_rfl) (by decide) (by kernel_rfl)) ?_
    refine sv (d := 164) rfl rfl (by kernel_rfl) (e_load1 (ad := ⟨g93, 0 + 0, none⟩) (v := .int .i64 t87.kind) Try.underlying3 rfl (by kernel_rfl) (blk_cells (S338.inv _ _ (E111 _ _ h121)) h122 0 _ rfl)) ?_
    refine sv (d := 165) rfl rfl (by kernel_rfl) (e_move (v := .pointer (some ⟨g106, 0, none⟩)) (by kernel_rfl)) ?_
    refine sv (d := 166) rfl rfl (by kernel_rfl) (e_nilCheck (ad := ⟨g106, 0, none⟩) (by kernel_rfl)) ?_
    refine sv (d := 167) rfl rfl (by kernel_rfl) (e_fieldAddr (b := g106) (off := 0) (o := 0) Try.underlying125 rfl rfl (sz := 1) (by kernel_rfl) (by decide) (by kernel_rfl)) ?_
    refine sv (d := 168) rfl rfl (by kernel_rfl) (e_load1 (ad := ⟨g106, 0 + 0, none⟩) (v := .int .i64 t100.kind) Try.underlying3 rfl (by kernel_rfl) (blk_cells (S338.inv _ _ h278) h279 0 _ rfl)) ?_
    refine sv (d := 169) rfl rfl (by kernel_rfl) (e_neq (k := .i64) (a := t87.kind) (b := t100.kind) (by kernel_rfl) (by kernel_rfl)) ?_
    refine sv (d := 170) rfl rfl (by kernel_rfl) (e_move (v := .bool (decide (t87.kind ≠ t100.kind))) (by kernel_rfl)) ?_
    by_cases q340 : t87.kind ≠ t100.kind
    · replace M := ifp q340 M
      refine sskip (t := 170) (c := true) rfl (by kernel_rfl) rfl (bt q340 (by kernel_rfl)) rfl rfl ?_
      refine sskip (t := 170) (c := true) rfl (by kernel_rfl) rfl (bt q340 (by kernel_rfl)) rfl rfl ?_
      refine sskip (t := 170) (c := true) rfl (by kernel_rfl) rfl (bt q340 (by kernel_rfl)) rfl rfl ?_
      refine sskip (t := 170) (c := true) rfl (by kernel_rfl) rfl (bt q340 (by kernel_rfl)) rfl rfl ?_
      refine sskip (t := 170) (c := true) rfl (by kernel_rfl) rfl (bt q340 (by kernel_rfl)) rfl rfl ?_
      refine sskip (t := 170) (c := true) rfl (by kernel_rfl) rfl (bt q340 (by kernel_rfl)) rfl rfl ?_
      refine sskip (t := 170) (c := true) rfl (by kernel_rfl) rfl (bt q340 (by kernel_rfl)) rfl rfl ?_
      refine sskip (t := 170) (c := true) rfl (by kernel_rfl) rfl (bt q340 (by kernel_rfl)) rfl rfl ?_
      refine sskip (t := 170) (c := true) rfl (by kernel_rfl) rfl (bt q340 (by kernel_rfl)) rfl rfl ?_
      refine sv (d := 180) rfl rfl (by kernel_rfl) (e_pick_t (v := .bool true) (bt q340 (by kernel_rfl)) rfl) ?_
      refine sv (d := 181) rfl rfl (by kernel_rfl) (e_move (v := .bool true) (by kernel_rfl)) ?_
      refine sskip (t := 181) (c := true) rfl (by kernel_rfl) rfl (by kernel_rfl) rfl rfl ?_
      refine sskip (t := 181) (c := true) rfl (by kernel_rfl) rfl (by kernel_rfl) rfl rfl ?_
      refine sskip (t := 181) (c := true) rfl (by kernel_rfl) rfl (by kernel_rfl) rfl rfl ?_
      refine sskip (t := 181) (c := true) rfl (by kernel_rfl) rfl (by kernel_rfl) rfl rfl ?_
      refine sskip (t := 181) (c := true) rfl (by kernel_rfl) rfl (by kernel_rfl) rfl rfl ?_
      refine sskip (t := 181) (c := true) rfl (by kernel_rfl) rfl (by kernel_rfl) rfl rfl ?_
      refine sskip (t := 181) (c := true) rfl (by kernel_rfl) rfl (by kernel_rfl) rfl rfl ?_
      refine sskip (t := 181) (c := true) rfl (by kernel_rfl) rfl (by kernel_rfl) rfl rfl ?_
      refine sskip (t := 181) (c := true) rfl (by kernel_rfl) rfl (by kernel_rfl) rfl rfl ?_
      refine sv (d := 191) rfl rfl (by kernel_rfl) (e_pick_t (v := .bool true) (by kernel_rfl) rfl) ?_
      refine sv (d := 160) rfl rfl (by kernel_rfl) (e_assign (v := .bool true) (by kernel_rfl)) ?_
      refine wpStill_nil ?_
      refine then_n ?_
      refine cond_t rfl (by kernel_rfl) ?_
      refine wp_seq ?_
      refine wp_region_lit ?_
      refine lv (d := 6) rfl rfl (by kernel_rfl) (e_assign (v := .int .i64 4) rfl) ?_
      refine wpList_nil ?_
      refine then_n ?_
      refine wp_ret ?_
      refine inb_r ?_
      refine inb_r ?_
      refine then_r ?_
      refine then_r ?_
      refine inb_r ?_
      refine then_r ?_
      obtain rfl := Option.some.inj M
      have S341 := St.first (Fa := [(is g2)]) (Fr := [(is g58), F26]) S338
      exact ret1 rfl rfl  (show _ = .int .i64 4 from (by kernel_rfl)) ⟨H103, rfl, h105, S341⟩
    replace M := ifn q340 M
    refine svg (d := 171) (t := 170) rfl (by kernel_rfl) rfl (bf q340 (by kernel_rfl)) rfl (by kernel_rfl) (e_move (v := .pointer (some ⟨g93, 0, none⟩)) (by kernel_rfl)) ?_
    refine svg (d := 172) (t := 170) rfl (by kernel_rfl) rfl (bf q340 (by kernel_rfl)) rfl (by kernel_rfl) (e_nilCheck (ad := ⟨g93, 0, none⟩) (by kernel_rfl)) ?_
    refine svg (d := 173) (t := 170) rfl (by kernel_rfl) rfl (bf q340 (by kernel_rfl)) rfl (by kernel_rfl) (e_fieldAddr (b := g93) (off := 0) (o := 1) Try.underlying125 rfl rfl (sz := 1) (by kernel_rfl) (by decide) (by kernel_rfl)) ?_
    refine svg (d := 174) (t := 170) rfl (by kernel_rfl) rfl (bf q340 (by kernel_rfl)) rfl (by kernel_rfl) (e_load1 (ad := ⟨g93, 0 + 1, none⟩) (v := .int .i64 t87.n) Try.underlying3 rfl (by kernel_rfl) (blk_cells (S338.inv _ _ (E111 _ _ h121)) h122 1 _ rfl)) ?_
    refine svg (d := 175) (t := 170) rfl (by kernel_rfl) rfl (bf q340 (by kernel_rfl)) rfl (by kernel_rfl) (e_move (v := .pointer (some ⟨g106, 0, none⟩)) (by kernel_rfl)) ?_
    refine svg (d := 176) (t := 170) rfl (by kernel_rfl) rfl (bf q340 (by kernel_rfl)) rfl (by kernel_rfl) (e_nilCheck (ad := ⟨g106, 0, none⟩) (by kernel_rfl)) ?_
    refine svg (d := 177) (t := 170) rfl (by kernel_rfl) rfl (bf q340 (by kernel_rfl)) rfl (by kernel_rfl) (e_fieldAddr (b := g106) (off := 0) (o := 1) Try.underlying125 rfl rfl (sz := 1) (by kernel_rfl) (by decide) (by kernel_rfl)) ?_
    refine svg (d := 178) (t := 170) rfl (by kernel_rfl) rfl (bf q340 (by kernel_rfl)) rfl (by kernel_rfl) (e_load1 (ad := ⟨g106, 0 + 1, none⟩) (v := .int .i64 t100.n) Try.underlying3 rfl (by kernel_rfl) (blk_cells (S338.inv _ _ h278) h279 1 _ rfl)) ?_
    refine svg (d := 179) (t := 170) rfl (by kernel_rfl) rfl (bf q340 (by kernel_rfl)) rfl (by kernel_rfl) (e_neq (k := .i64) (a := t87.n) (b := t100.n) (by kernel_rfl) (by kernel_rfl)) ?_
    refine sv (d := 180) rfl rfl (by kernel_rfl) (e_pick_f (v := .bool (decide (t87.n ≠ t100.n))) (bf q340 (by kernel_rfl)) (by kernel_rfl)) ?_
    refine sv (d := 181) rfl rfl (by kernel_rfl) (e_move (v := .bool (decide (t87.n ≠ t100.n))) (by kernel_rfl)) ?_
    by_cases q342 : t87.n ≠ t100.n
    · replace M := ifp q342 M
      refine sskip (t := 181) (c := true) rfl (by kernel_rfl) rfl (bt q342 (by kernel_rfl)) rfl rfl ?_
      refine sskip (t := 181) (c := true) rfl (by kernel_rfl) rfl (bt q342 (by kernel_rfl)) rfl rfl ?_
      refine sskip (t := 181) (c := true) rfl (by kernel_rfl) rfl (bt q342 (by kernel_rfl)) rfl rfl ?_
      refine sskip (t := 181) (c := true) rfl (by kernel_rfl) rfl (bt q342 (by kernel_rfl)) rfl rfl ?_
      refine sskip (t := 181) (c := true) rfl (by kernel_rfl) rfl (bt q342 (by kernel_rfl)) rfl rfl ?_
      refine sskip (t := 181) (c := true) rfl (by kernel_rfl) rfl (bt q342 (by kernel_rfl)) rfl rfl ?_
      refine sskip (t := 181) (c := true) rfl (by kernel_rfl) rfl (bt q342 (by kernel_rfl)) rfl rfl ?_
      refine sskip (t := 181) (c := true) rfl (by kernel_rfl) rfl (bt q342 (by kernel_rfl)) rfl rfl ?_
      refine sskip (t := 181) (c := true) rfl (by kernel_rfl) rfl (bt q342 (by kernel_rfl)) rfl rfl ?_
      refine sv (d := 191) rfl rfl (by kernel_rfl) (e_pick_t (v := .bool true) (bt q342 (by kernel_rfl)) rfl) ?_
      refine sv (d := 160) rfl rfl (by kernel_rfl) (e_assign (v := .bool true) (by kernel_rfl)) ?_
      refine wpStill_nil ?_
      refine then_n ?_
      refine cond_t rfl (by kernel_rfl) ?_
      refine wp_seq ?_
      refine wp_region_lit ?_
      refine lv (d := 6) rfl rfl (by kernel_rfl) (e_assign (v := .int .i64 4) rfl) ?_
      refine wpList_nil ?_
      refine then_n ?_
      refine wp_ret ?_
      refine inb_r ?_
      refine inb_r ?_
      refine then_r ?_
      refine then_r ?_
      refine inb_r ?_
      refine then_r ?_
      obtain rfl := Option.some.inj M
      have S343 := St.first (Fa := [(is g2)]) (Fr := [(is g58), F26]) S338
      exact ret1 rfl rfl  (show _ = .int .i64 4 from (by kernel_rfl)) ⟨H103, rfl, h105, S343⟩
    replace M := ifn q342 M
    refine svg (d := 182) (t := 181) rfl (by kernel_rfl) rfl (bf q342 (by kernel_rfl)) rfl (by kernel_rfl) (e_move (v := .pointer (some ⟨g93, 0, none⟩)) (by kernel_rfl)) ?_
    refine svg (d := 183) (t := 181) rfl (by kernel_rfl) rfl (bf q342 (by kernel_rfl)) rfl (by kernel_rfl) (e_nilCheck (ad := ⟨g93, 0, none⟩) (by kernel_rfl)) ?_
    refine svg (d := 184) (t := 181) rfl (by kernel_rfl) rfl (bf q342 (by kernel_rfl)) rfl (by kernel_rfl) (e_fieldAddr (b := g93) (off := 0) (o := 2) Try.underlying125 rfl rfl (sz := 1) (by kernel_rfl) (by decide) (by kernel_rfl)) ?_
    refine svg (d := 185) (t := 181) rfl (by kernel_rfl) rfl (bf q342 (by kernel_rfl)) rfl (by kernel_rfl) (e_load1 (ad := ⟨g93, 0 + 2, none⟩) (v := str t87.text) Try.underlying9 rfl (by kernel_rfl) (blk_cells (S338.inv _ _ (E111 _ _ h121)) h122 2 _ rfl)) ?_
    refine svg (d := 186) (t := 181) rfl (by kernel_rfl) rfl (bf q342 (by kernel_rfl)) rfl (by kernel_rfl) (e_move (v := .pointer (some ⟨g106, 0, none⟩)) (by kernel_rfl)) ?_
    refine svg (d := 187) (t := 181) rfl (by kernel_rfl) rfl (bf q342 (by kernel_rfl)) rfl (by kernel_rfl) (e_nilCheck (ad := ⟨g106, 0, none⟩) (by kernel_rfl)) ?_
    refine svg (d := 188) (t := 181) rfl (by kernel_rfl) rfl (bf q342 (by kernel_rfl)) rfl (by kernel_rfl) (e_fieldAddr (b := g106) (off := 0) (o := 2) Try.underlying125 rfl rfl (sz := 1) (by kernel_rfl) (by decide) (by kernel_rfl)) ?_
    refine svg (d := 189) (t := 181) rfl (by kernel_rfl) rfl (bf q342 (by kernel_rfl)) rfl (by kernel_rfl) (e_load1 (ad := ⟨g106, 0 + 2, none⟩) (v := str t100.text) Try.underlying9 rfl (by kernel_rfl) (blk_cells (S338.inv _ _ h278) h279 2 _ rfl)) ?_
    refine svg (d := 190) (t := 181) rfl (by kernel_rfl) rfl (bf q342 (by kernel_rfl)) rfl (by kernel_rfl) (e_sneq (p := t87.text) (q := t100.text) (by kernel_rfl) (by kernel_rfl)) ?_
    refine sv (d := 191) rfl rfl (by kernel_rfl) (e_pick_f (v := .bool (decide (t87.text ≠ t100.text))) (bf q342 (by kernel_rfl)) (by kernel_rfl)) ?_
    refine sv (d := 160) rfl rfl (by kernel_rfl) (e_assign (v := .bool (decide (t87.text ≠ t100.text))) (by kernel_rfl)) ?_
    refine wpStill_nil ?_
    refine then_n ?_
    by_cases q344 : t87.text ≠ t100.text
    · replace M := ifp q344 M
      refine cond_t rfl (bt q344 (by kernel_rfl)) ?_
      refine wp_seq ?_
      refine wp_region_lit ?_
      refine lv (d := 6) rfl rfl (by kernel_rfl) (e_assign (v := .int .i64 4) rfl) ?_
      refine wpList_nil ?_
      refine then_n ?_
      refine wp_ret ?_
      refine inb_r ?_
      refine inb_r ?_
      refine then_r ?_
      refine then_r ?_
      refine inb_r ?_
      refine then_r ?_
      obtain rfl := Option.some.inj M
      have S345 := St.first (Fa := [(is g2)]) (Fr := [(is g58), F26]) S338
      exact ret1 rfl rfl  (show _ = .int .i64 4 from (by kernel_rfl)) ⟨H103, rfl, h105, S345⟩
    replace M := ifn q344 M
    refine cond_f rfl (bf q344 (by kernel_rfl)) ?_
    refine wp_seq ?_
    refine wp_region_lit ?_
    refine lv (d := 43) rfl rfl (by kernel_rfl) (e_move (v := .pointer (some ⟨g93, 0, none⟩)) (by kernel_rfl)) ?_
    refine lv (d := 44) rfl rfl (by kernel_rfl) (e_nilCheck (ad := ⟨g93, 0, none⟩) (by kernel_rfl)) ?_
    refine lv (d := 45) rfl rfl (by kernel_rfl) (e_fieldAddr (b := g93) (off := 0) (o := 3) Try.underlying125 rfl rfl (sz := 1) (by kernel_rfl) (by decide) (by kernel_rfl)) ?_
    refine lv (d := 46) rfl rfl (by kernel_rfl) (e_load1 (ad := ⟨g93, 0 + 3, none⟩) (v := .slice A117 t87.args.length c118) Try.underlying87 rfl (by kernel_rfl) (blk_cells (S338.inv _ _ (E111 _ _ h121)) h122 3 _ rfl)) ?_
    refine lv (d := 47) rfl rfl (by kernel_rfl) (e_len (A := A117) (n := t87.args.length) (c := c118) Try.underlying87 (by kernel_rfl)) ?_
    refine lv (d := 48) rfl rfl (by kernel_rfl) (e_sub (k := .i64) (a := (t87.args.length : Int)) (b := 1) (by kernel_rfl) rfl) ?_
    refine lv (d := 12) rfl rfl (by kernel_rfl) (e_assign (v := .int .i64 (IntKind.i64.wrap ((t87.args.length : Int) - 1))) (by kernel_rfl)) ?_
    refine wpList_nil ?_
    refine then_n ?_
    refine wp_block ?_
    have S366 := S338.pull (F := F26) (Fr := [(is g2), (is g58)]) 2 rfl rfl
    have S367 := S366.pull (F := (is g2)) (Fr := [F26, (is g58)]) 1 rfl rfl
    have S368 := St.first (Fa := [(is g2), F26]) (Fr := [(is g58)]) S367
    refine wp_loop_g (fun k363 a364 w346 => ∃ (f347 : Nat → Value) (x348 : List GPair) (A349 : Option Addr) (c350 : Nat) (F351 : Foot) (x353 : Int), k363 ≤ k38 ∧ a364 = mk 192 f347 ∧ f347 0 = .iface 109 (.map (some g2)) ∧ f347 7 = .slice A349 x348.length c350 ∧ f347 8 = .int .i64 x28 ∧ f347 10 = .pointer (some ⟨g93, 0, none⟩) ∧ f347 11 = .pointer (some ⟨g106, 0, none⟩) ∧ f347 12 = .int .i64 x353 ∧ MapO encI (node 125) H103 (hp w346) g2 x29 ∧ Row st143 143 H103 (hp w346) F351 A349 c350 x348 ∧ St (anyOf [(is g2)]) H w [(is g2), F351] H103 w346 ∧ impl_unify.l1 k363 x28 x29 t87 t100 x348 x353 = some r) k38 ⟨_, (x23.take (((IntKind.i64.wrap ((x23.length : Int) - 1)) : Int).toNat)), A24, c25, F26, (IntKind.i64.wrap ((t87.args.length : Int) - 1)), (by omega), rfl, (by exact e30), (by kernel_rfl), (by exact e32), (by kernel_rfl), (by kernel_rfl), (by kernel_rfl), h105, h67, S368, M⟩ ?_
    clear M
    rintro k363 a364 w346 ⟨f347, x348, A349, c350, F351, x353, z362, rfl, e354, e355, e356, e357, e358, e359, h105, h352, S360, M⟩
    rcases k363 with _ | k365
    · rw [impl_unify.l1] at M
      cases M
    rw [impl_unify.l1] at M
    refine wp_seq ?_
    refine wp_seq ?_
    refine wp_region_lit ?_
    refine lv (d := 49) rfl rfl (by kernel_rfl) (e_move (v := .int .i64 x353) (by exact e359)) ?_
    refine lv (d := 50) rfl rfl (by kernel_rfl) (e_geq (k := .i64) (a := x353) (b := 0) (by kernel_rfl) rfl) ?_
    refine wpList_nil ?_
    refine then_n ?_
    by_cases q369 : x353 ≥ 0
    · replace M := ifp q369 M
      refine cond_t rfl (bt q369 (by kernel_rfl)) ?_
      refine wp_skip ?_
      refine then_n ?_
      refine wp_seq ?_
      refine wp_block ?_
      refine region_mix (S := (fun (L_ : Array Bool) (w_ : World) => Ext H103 (hp w_) ∧ True)) (by kernel_rfl) S360 ?_
      intro w370 S371 K372 hc373
      have hs374 : (fun (L_ : Array Bool) (w_ : World) => Ext H103 (hp w_) ∧ True) (Array.replicate 19 false) w370 := ⟨S371.inv, trivial⟩
      replace h105 := h105.move (K372.at 0 rfl)
      replace h352 := h352.move (K372.at 1 rfl)
      refine xv (i := 0) (d := 53) rfl rfl rfl (by kernel_rfl) (by kernel_rfl) (fun _ _ => Iff.rfl) hc373 hs374 (fun L_ w_ hc_ hu_ hs_ => e_move (v := .slice A349 x348.length c350) (by exact e355)) ?_; intro hc375 hs376
      refine xv (i := 1) (d := 54) rfl rfl rfl (by kernel_rfl) (by kernel_rfl) (fun _ _ => Iff.rfl) hc375 hs376 (fun L_ w_ hc_ hu_ hs_ => e_move (v := .pointer (some ⟨g93, 0, none⟩)) (by exact e357)) ?_; intro hc377 hs378
      refine xv (i := 2) (d := 55) rfl rfl rfl (by kernel_rfl) (by kernel_rfl) (fun _ _ => Iff.rfl) hc377 hs378 (fun L_ w_ hc_ hu_ hs_ => e_nilCheck (ad := ⟨g93, 0, none⟩) (by kernel_rfl)) ?_; intro hc379 hs380
      refine xv (i := 3) (d := 56) rfl rfl rfl (by kernel_rfl) (by kernel_rfl) (fun _ _ => Iff.rfl) hc379 hs380 (fun L_ w_ hc_ hu_ hs_ => e_fieldAddr (b := g93) (off := 0) (o := 3) Try.underlying125 rfl rfl (sz := 1) (by kernel_rfl) (by decide) (by kernel_rfl)) ?_; intro hc381 hs382
      refine xv (i := 4) (d := 57) rfl rfl rfl (by kernel_rfl) (by kernel_rfl) (fun _ _ => Iff.rfl) hc381 hs382 (fun L_ w_ hc_ hu_ hs_ => e_load1 (ad := ⟨g93, 0 + 3, none⟩) (v := .slice A117 t87.args.length c118) Try.underlying87 rfl (by kernel_rfl) (blk_cells (hs_.1 _ _ (E111 _ _ h121)) h122 3 _ rfl)) ?_; intro hc383 hs384
      refine xv (i := 5) (d := 58) rfl rfl rfl (by kernel_rfl) (by kernel_rfl) (fun _ _ => Iff.rfl) hc383 hs384 (fun L_ w_ hc_ hu_ hs_ => e_move (v := .int .i64 x353) (by exact e359)) ?_; intro hc385 hs386
      obtain ⟨q387, M⟩ := chk M
      obtain ⟨q388, M⟩ := chk M
      obtain ⟨b389, o390, e391⟩ := Rd.addr h124 (show (x353).toNat < t87.args.length by omega)
      obtain ⟨y392, r393, k394⟩ := Rd.at h124 e391 (getD_some (Tm.mk 0 0 [] []) (show (x353).toNat < t87.args.length by omega))
      obtain ⟨v395, rfl, h396⟩ := r393
      obtain ⟨g397, rfl⟩ := node_ptr h396
      refine xv (i := 6) (d := 59) rfl rfl rfl (by kernel_rfl) (by kernel_rfl) (fun _ _ => Iff.rfl) hc385 hs386 (fun L_ w_ hc_ hu_ hs_ => e_indexAddr (b := b389) (off := o390) (n := t87.args.length) (c := c118) (sz := 1) (i := x353) (k := .i64) Try.underlying87 e391 (by kernel_rfl) (by kernel_rfl) (by kernel_rfl) q387 q388) ?_; intro hc398 hs399
      refine xv (i := 7) (d := 60) rfl rfl rfl (by kernel_rfl) (by kernel_rfl) (fun _ _ => Iff.rfl) hc398 hs399 (fun L_ w_ hc_ hu_ hs_ => e_load1 (ad := ⟨b389, o390 + (x353 : Int).toNat * 1, none⟩) (v := .pointer (some ⟨g397, 0, none⟩)) Try.underlying74 rfl (by kernel_rfl) (hpx (hs_.1.cell (E111.cell (k394 0 _ rfl))))) ?_; intro hc400 hs401
      refine xv (i := 8) (d := 61) rfl rfl rfl (by kernel_rfl) (by kernel_rfl) (fun _ _ => Iff.rfl) hc400 hs401 (fun L_ w_ hc_ hu_ hs_ => e_move (v := .pointer (some ⟨g106, 0, none⟩)) (by exact e358)) ?_; intro hc402 hs403
      refine xv (i := 9) (d := 62) rfl rfl rfl (by kernel_rfl) (by kernel_rfl) (fun _ _ => Iff.rfl) hc402 hs403 (fun L_ w_ hc_ hu_ hs_ => e_nilCheck (ad := ⟨g106, 0, none⟩) (by kernel_rfl)) ?_; intro hc404 hs405
      refine xv (i := 10) (d := 63) rfl rfl rfl (by kernel_rfl) (by kernel_rfl) (fun _ _ => Iff.rfl) hc404 hs405 (fun L_ w_ hc_ hu_ hs_ => e_fieldAddr (b := g106) (off := 0) (o := 3) Try.underlying125 rfl rfl (sz := 1) (by kernel_rfl) (by decide) (by kernel_rfl)) ?_; intro hc406 hs407
      refine xv (i := 11) (d := 64) rfl rfl rfl (by kernel_rfl) (by kernel_rfl) (fun _ _ => Iff.rfl) hc406 hs407 (fun L_ w_ hc_ hu_ hs_ => e_load1 (ad := ⟨g106, 0 + 3, none⟩) (v := .slice A274 t100.args.length c275) Try.underlying87 rfl (by kernel_rfl) (blk_cells (hs_.1 _ _ h278) h279 3 _ rfl)) ?_; intro hc408 hs409
      refine xone (i := 12) (by kernel_rfl) hc408 ?_
      refine yo (i := 12) (d := 65) rfl rfl (wanted_none rfl _) (by kernel_rfl) (by kernel_rfl) (fun _ _ => Iff.rfl) hs409 (e_move (v := .int .i64 x353) (by exact e359)) ?_; intro hc410 hs411
      obtain ⟨q412, M⟩ := chk M
      obtain ⟨b413, o414, e415⟩ := Rd.addr h281 (show (x353).toNat < t100.args.length by omega)
      obtain ⟨y416, r417, k418⟩ := Rd.at h281 e415 (getD_some (Tm.mk 0 0 [] []) (show (x353).toNat < t100.args.length by omega))
      obtain ⟨v419, rfl, h420⟩ := r417
      obtain ⟨g421, rfl⟩ := node_ptr h420
      refine xone (i := 13) (by kernel_rfl) hc410 ?_
      refine yo (i := 13) (d := 66) rfl rfl (wanted_none rfl _) (by kernel_rfl) (by kernel_rfl) (fun _ _ => Iff.rfl) hs411 (e_indexAddr (b := b413) (off := o414) (n := t100.args.length) (c := c275) (sz := 1) (i := x353) (k := .i64) Try.underlying87 e415 (by kernel_rfl) (by kernel_rfl) (by kernel_rfl) q387 q412) ?_; intro hc422 hs423
      refine xone (i := 14) (by kernel_rfl) hc422 ?_
      refine yo (i := 14) (d := 67) rfl rfl (wanted_none rfl _) (by kernel_rfl) (by kernel_rfl) (fun _ _ => Iff.rfl) hs423 (e_load1 (ad := ⟨b413, o414 + (x353 : Int).toNat * 1, none⟩) (v := .pointer (some ⟨g421, 0, none⟩)) Try.underlying74 rfl (by kernel_rfl) (hpx (S371.inv.cell (k418 0 _ rfl)))) ?_; intro hc424 hs425
      refine xone (i := 15) (by kernel_rfl) hc424 ?_
      refine yo (i := 15) (d := 68) rfl rfl (wanted_none rfl _) (by kernel_rfl) (by kernel_rfl) (fun _ _ => Iff.rfl) hs425 (show _ = Result.ok (Next.value (.agg #[.pointer (some ⟨g397, 0, none⟩), .pointer (some ⟨g421, 0, none⟩)])) w370 from by kernel_rfl) ?_; intro hc426 hs427
      refine xone (i := 16) (by kernel_rfl) hc426 ?_
      refine ye (i := 16) (d := 69) rfl rfl (wanted_none rfl _) (by kernel_rfl) (by kernel_rfl) (new_blk (v := fun g_ => .slice (some ⟨g_, 0, none⟩) 1 1) (cs := #[.pointer (some ⟨g397, 0, none⟩), .pointer (some ⟨g421, 0, none⟩)]) (t := 143) S371 (by kernel_rfl)) ?_
      rintro hc433 _ w428 ⟨g429, rfl, b430, S431, K432⟩
      replace h105 := h105.move (K432.at 0 rfl)
      replace h352 := h352.move (K432.at 1 rfl)
      refine ⟨⟨S431.inv, trivial⟩, fun hs434 => ?_⟩
      obtain ⟨q435, M⟩ := chk M
      have S436 := S431.pull (F := F351) (Fr := [(is g429), (is g2)]) 2 rfl rfl
      have S437 := S436.unit
      have S438 := S437.pull (F := F351) (Fr := [no, (is g429), (is g2)]) 1 rfl rfl
      refine xone (i := 17) (by kernel_rfl) hc433 ?_
      refine ye (i := 17) (d := 70) rfl rfl (wanted_none rfl _) (by kernel_rfl) (by kernel_rfl) (e_append (d := st143) (n := x348.length) (xs := x348) (cap := c350) (A := A349) (ys := [(⟨(t87.args.getD ((x353).toNat) (Tm.mk 0 0 [] [])), (t100.args.getD ((x353).toNat) (Tm.mk 0 0 [] []))⟩ : GPair)]) (A2 := (some ⟨g429, 0, none⟩)) (c2 := 1) (z := .agg #[.pointer none, .pointer none]) (bytes := 16) S438 Try.underlying144 (by kernel_rfl) rfl (by decide) (by kernel_rfl) rfl (by kernel_rfl) h352 (elsO_one1 (st143_mkO (x := (⟨(t87.args.getD ((x353).toNat) (Tm.mk 0 0 [] [])), (t100.args.getD ((x353).toNat) (Tm.mk 0 0 [] []))⟩ : GPair)) (h396.ext' E111) h420)) (.inr (blk_news b430 rfl)) (show (x348.length + [(⟨(t87.args.getD ((x353).toNat) (Tm.mk 0 0 [] [])), (t100.args.getD ((x353).toNat) (Tm.mk 0 0 [] []))⟩ : GPair)].length) * 16 ≤ _ by first | omega | (simp only [List.length_cons, List.length_nil]; omega)) (by decide)) ?_
      rintro hc446 _ w439 ⟨A440, c441, F442, rfl, h443, S444, K445⟩
      replace b430 := K445.blk 0 rfl b430
      replace h105 := h105.move (K445.at 1 rfl)
      refine ⟨⟨S444.inv, trivial⟩, fun hs447 => ?_⟩
      refine xone (i := 18) (by kernel_rfl) hc446 ?_
      refine yo (i := 18) (d := 7) rfl rfl (wanted_none rfl _) (by kernel_rfl) (by kernel_rfl) (fun _ _ => Iff.rfl) hs447 (e_assign (v := .slice A440 ((x348 ++ [(⟨(t87.args.getD ((x353).toNat) (Tm.mk 0 0 [] [])), (t100.args.getD ((x353).toNat) (Tm.mk 0 0 [] []))⟩ : GPair)]).length) c441) (by kernel_rfl)) ?_; intro hc448 hs449
      refine xn (by kernel_rfl) ?_ _
      refine inb_n ?_
      refine then_n ?_
      refine wp_region_lit ?_
      refine lv (d := 51) rfl rfl (by kernel_rfl) (e_move (v := .int .i64 x353) (by exact e359)) ?_
      refine lv (d := 52) rfl rfl (by kernel_rfl) (e_sub (k := .i64) (a := x353) (b := 1) (by kernel_rfl) rfl) ?_
      refine lv (d := 12) rfl rfl (by kernel_rfl) (e_assign (v := .int .i64 (IntKind.i64.wrap (x353 - 1))) (by kernel_rfl)) ?_
      refine wpList_nil ?_
      refine then_n ?_
      have S450 := S444.pull (F := (is g2)) (Fr := [F442, (is g429)]) 2 rfl rfl
      have S451 := St.first (Fa := [(is g2), F442]) (Fr := [(is g429)]) S450
      exact ⟨k365, (by omega), _, (x348 ++ [(⟨(t87.args.getD ((x353).toNat) (Tm.mk 0 0 [] [])), (t100.args.getD ((x353).toNat) (Tm.mk 0 0 [] []))⟩ : GPair)]), A440, c441, F442, (IntKind.i64.wrap (x353 - 1)), (by omega), rfl, (by exact e354), (by kernel_rfl), (by exact e356), (by exact e357), (by exact e358), (by kernel_rfl), h105, h443, S451, M⟩
    replace M := ifn q369 M
    refine cond_f rfl (bf q369 (by kernel_rfl)) ?_
    refine wp_exit ?_
    refine then_e ?_
    refine then_e ?_
    refine inb_hit ?_
    refine inb_n ?_
    refine inb_n ?_
    refine then_n ?_
    refine wp_region_lit ?_
    refine lv (d := 20) rfl rfl (by kernel_rfl) (e_move (v := .int .i64 x28) (by exact e356)) ?_
    refine lv (d := 21) rfl rfl (by kernel_rfl) (e_add (k := .i64) (a := x28) (b := 1) (by kernel_rfl) rfl) ?_
    refine lv (d := 8) rfl rfl (by kernel_rfl) (e_assign (v := .int .i64 (IntKind.i64.wrap (x28 + 1))) (by kernel_rfl)) ?_
    refine wpList_nil ?_
    refine then_n ?_
    exact ⟨k365, (by omega), _, H103, x348, A349, c350, F351, (IntKind.i64.wrap (x28 + 1)), x29, rfl, (by exact e354), (by exact e355), (by kernel_rfl), h105, h352, ((Y22.trans E98).trans E111), S360, M⟩
  replace M := ifn q40 M
  refine cond_f rfl (bf q40 (by kernel_rfl)) ?_
  refine wp_exit ?_
  refine then_e ?_
  refine then_e ?_
  refine inb_hit ?_
  refine then_n ?_
  refine wp_seq ?_
  refine wp_region_lit ?_
  refine lv (d := 6) rfl rfl (by kernel_rfl) (e_assign (v := .int .i64 0) rfl) ?_
  refine wpList_nil ?_
  refine then_n ?_
  refine wp_ret ?_
  obtain rfl := Option.some.inj M
  have S452 := St.first (Fa := [(is g2)]) (Fr := [F26]) S33
  exact ret1 rfl rfl  (show _ = .int .i64 0 from (by kernel_rfl)) ⟨H21, rfl, h3, S452⟩

/-! impl_variable -/
def impl_variable.f (x1 : Int) : Option Tm := some (Tm.mk 0 x1 ([] : List UInt8) [])
theorem impl_variable.calls (w : World) (H : Hp) (x1 : Int) (S : Own [] H w) (r : Tm) (M : impl_variable.f x1 = some r) :
    Calls Try.prog 94 #[.int .i64 x1] w (fun e e_w => ∃ (g_1 : Nat) (H_ : Hp), e = .returned (.pointer (some ⟨g_1, 0, none⟩)) ∧ NodeR 125 H_ r (.pointer (some ⟨g_1, 0, none⟩)) ∧ St (anyOf []) H w [] H_ e_w) := by
  rw [impl_variable.f] at M
  refine enter (l := [.int .i64 x1]) 6 Try.func94 rfl rfl rfl ?_
  have S0_ := S.st
  refine wp_seq ?_
  refine wp_region_lit ?_
  refine lv (d := 2) rfl rfl (by kernel_rfl) (e_assign (v := .pointer none) rfl) ?_
  refine wpList_nil ?_
  refine then_n ?_
  refine wp_seq ?_
  refine wp_region_lit ?_
  refine lv (d := 3) rfl rfl (by kernel_rfl) (e_move (v := .int .i64 x1) (by kernel_rfl)) ?_
  refine lv (d := 4) rfl rfl (by kernel_rfl) (show _ = Result.ok (Next.value (.agg #[.int .i64 0, .int .i64 x1, str ([] : List UInt8), .slice none 0 0])) w from by kernel_rfl) ?_
  refine lve (d := 5) rfl rfl (by kernel_rfl) (new_blk (v := fun g_ => .pointer (some ⟨g_, 0, none⟩)) (cs := #[.int .i64 0, .int .i64 x1, str ([] : List UInt8), .slice none 0 0]) (t := 125) S0_ (by kernel_rfl)) ?_
  rintro _ w2 ⟨g3, rfl, b4, S5, K6⟩
  refine lv (d := 2) rfl rfl (by kernel_rfl) (e_assign (v := .pointer (some ⟨g3, 0, none⟩)) (by kernel_rfl)) ?_
  refine wpList_nil ?_
  refine then_n ?_
  refine wp_ret ?_
  obtain ⟨H7, S8, E9, h10, z11⟩ := S5.frzBlk b4
  have h12 : NodeR 125 H7 (Tm.mk 0 x1 ([] : List UInt8) []) (.pointer (some ⟨g3, 0, none⟩)) := node_mk (A := none) (c := 0) h10 rfl (Nat.le_refl _) (Rd.nil _ _ _)
  obtain rfl := Option.some.inj M
  exact ret1 rfl rfl  (show _ = .pointer (some ⟨g3, 0, none⟩) from (by kernel_rfl)) ⟨g3, H7, rfl, h12, S8⟩

/-! impl_full -/
mutual
def impl_full_2.l0 : Nat → (List (Int × Tm)) → (List Cell) → Int → Tm → (List UInt8) → Option ((List Cell) × Bool)
  | 0, _, _, _, _, _ => none
  | k88 + 1, x1, x7, x12, t13, x74 => (if x7.length + 1 ≤ 3518437208883 then (impl_full_2.l1 k88 x1 x12 t13 (x7 ++ [(⟨t13.kind, t13.n, x74⟩ : Cell)]) 0) else none)
def impl_full_2.l1 : Nat → (List (Int × Tm)) → Int → Tm → (List Cell) → Int → Option ((List Cell) × Bool)
  | 0, _, _, _, _, _ => none
  | k148 + 1, x1, x12, t13, x131, x136 => (if x136 < (t13.args.length : Int) then (if 0 ≤ x136 then ((impl_full_2.f k148 x1 (t13.args.getD ((x136).toNat) (Tm.mk 0 0 [] [])) x131 x12).bind fun t164 => (if ¬ (t164.2 = true) then some ([], false) else (impl_full_2.l1 k148 x1 x12 t13 t164.1 (IntKind.i64.wrap (x136 + 1))))) else none) else some (x131, true))
def impl_full_2.f : Nat → (List (Int × Tm)) → Tm → (List Cell) → Int → Option ((List Cell) × Bool)
  | 0, _, _, _, _ => none
  | k1_ + 1, x1, x4, x7, x12 => ((impl_walk.f k1_ x1 x4).bind fun t13 => (if (x7.length : Int) ≥ x12 then some ([], false) else (if t13.kind ≥ 2 then (if t13.text.length ≤ 9223372036854775807 then (impl_full_2.l0 k1_ x1 x7 x12 t13 t13.text) else none) else (impl_full_2.l0 k1_ x1 x7 x12 t13 []))))
end
theorem impl_full_2.all : ∀ (K : Nat), (∀ (k : Nat), k < K → ∀ (w : World) (H : Hp) (x1 : List (Int × Tm)) (g2 : Nat) (x4 : Tm) (g5 : Nat) (x7 : List Cell) (A8 : Option Addr) (c9 : Nat) (F11 : Foot) (x12 : Int) (h3 : MapO encI (node 125) H (hp w) g2 x1) (h6 : NodeR 125 H x4 (.pointer (some ⟨g5, 0, none⟩))) (h10 : Row st65 65 H (hp w) F11 A8 c9 x7) (S : Own [(is g2), F11] H w) (r : (List Cell) × Bool) (M : impl_full_2.f k x1 x4 x7 x12 = some r), Calls Try.prog 93 #[.iface 109 (.map (some g2)), .pointer (some ⟨g5, 0, none⟩), .slice A8 x7.length c9, .int .i64 x12] w (fun e e_w => ∃ (A_1 : Option Addr) (c_1 : Nat) (F_1 : Foot) (H_ : Hp), e = .returned (.tuple #[.slice A_1 r.1.length c_1, .bool r.2]) ∧ MapO encI (node 125) H_ (hp e_w) g2 x1 ∧ Row st65 65 H_ (hp e_w) F_1 A_1 c_1 r.1 ∧ St (anyOf [(is g2), F11]) H w [(is g2), F_1] H_ e_w)) := by
  intro K
  induction K with
  | zero => intro k hk; omega
  | succ K ih =>
    intro k hk w H x1 g2 x4 g5 x7 A8 c9 F11 x12 h3 h6 h10 S r M
    rcases k with _ | k1_
    · rw [impl_full_2.f] at M
      cases M
    rw [impl_full_2.f] at M
    refine enter (l := [.iface 109 (.map (some g2)), .pointer (some ⟨g5, 0, none⟩), .slice A8 x7.length c9, .int .i64 x12]) 66 Try.func93 rfl rfl rfl ?_
    have S0_ := S.st
    refine wp_seq ?_
    refine wp_region_lit ?_
    refine lv (d := 8) rfl rfl (by kernel_rfl) (e_assign (v := .slice none 0 0) rfl) ?_
    refine lv (d := 9) rfl rfl (by kernel_rfl) (e_assign (v := .bool false) rfl) ?_
    refine wpList_nil ?_
    refine then_n ?_
    refine wp_seq ?_
    refine wp_region_lit ?_
    refine lv (d := 14) rfl rfl (by kernel_rfl) (e_move (v := .iface 109 (.map (some g2))) (by kernel_rfl)) ?_
    refine lv (d := 15) rfl rfl (by kernel_rfl) (e_move (v := .pointer (some ⟨g5, 0, none⟩)) (by kernel_rfl)) ?_
    obtain ⟨t13, u14, M⟩ := bnd M
    refine lcall (d := 16) rfl rfl (by kernel_rfl) (e_call (l := [.tmp 14, .tmp 15]) (vs := [.iface 109 (.map (some g2)), .pointer (some ⟨g5, 0, none⟩)]) Try.func119 (by kernel_rfl) rfl (by kernel_rfl) rfl) (impl_walk.calls k1_ w H x1 g2 x4 g5 h3 h6 (St.own' (Fa := [(is g2)]) (Fr := [F11]) S0_) t13 u14) ?_
    rintro _ w15 ⟨g19, H16, rfl, h18, h20, T17⟩
    refine ⟨_, rfl, ?_⟩
    obtain ⟨S21, K22⟩ := St.call (Fa := [(is g2)]) (Fr := [F11]) S0_ T17
    replace h10 := h10.move (K22.at 0 rfl)
    have E23 := T17.ext
    replace h10 := h10.ext E23
    refine lv (d := 1) rfl rfl (by kernel_rfl) (e_assign (v := .pointer (some ⟨g19, 0, none⟩)) (by kernel_rfl)) ?_
    refine wpList_nil ?_
    refine then_n ?_
    refine wp_seq ?_
    refine wp_seq ?_
    refine wp_region_lit ?_
    refine lv (d := 17) rfl rfl (by kernel_rfl) (e_move (v := .slice A8 x7.length c9) (by kernel_rfl)) ?_
    refine lv (d := 18) rfl rfl (by kernel_rfl) (e_len (A := A8) (n := x7.length) (c := c9) Try.underlying25 (by kernel_rfl)) ?_
    refine lv (d := 19) rfl rfl (by kernel_rfl) (e_move (v := .int .i64 x12) (by kernel_rfl)) ?_
    refine lv (d := 20) rfl rfl (by kernel_rfl) (e_geq (k := .i64) (a := (x7.length : Int)) (b := x12) (by kernel_rfl) (by kernel_rfl)) ?_
    refine wpList_nil ?_
    refine then_n ?_
    by_cases q24 : (x7.length : Int) ≥ x12
    · replace M := ifp q24 M
      refine cond_t rfl (bt q24 (by kernel_rfl)) ?_
      refine wp_seq ?_
      refine wp_region_lit ?_
      refine lv (d := 8) rfl rfl (by kernel_rfl) (e_assign (v := .slice none 0 0) rfl) ?_
      refine lv (d := 9) rfl rfl (by kernel_rfl) (e_assign (v := .bool false) rfl) ?_
      refine wpList_nil ?_
      refine then_n ?_
      refine wp_ret ?_
      refine then_r ?_
      obtain rfl := Option.some.inj M
      have S25 := S21.unit
      have S26 := S25.pull (F := (is g2)) (Fr := [no, F11]) 1 rfl rfl
      have S27 := St.first (Fa := [(is g2), no]) (Fr := [F11]) S26
      exact ret2 rfl rfl rfl (show _ = .slice none 0 0 from (by kernel_rfl)) (show _ = .bool false from (by kernel_rfl)) ⟨none, 0, no, H16, rfl, h18, (Row.nil _ _ _ _ no), S27⟩
    replace M := ifn q24 M
    refine cond_f rfl (bf q24 (by kernel_rfl)) ?_
    refine wp_skip ?_
    refine then_n ?_
    refine wp_seq ?_
    refine region_mix (S := (fun (L_ : Array Bool) (w_ : World) => Ext H16 (hp w_) ∧ True)) (by kernel_rfl) S21 ?_
    intro w28 S29 K30 hc31
    have hs32 : (fun (L_ : Array Bool) (w_ : World) => Ext H16 (hp w_) ∧ True) (Array.replicate 11 false) w28 := ⟨S29.inv, trivial⟩
    replace h18 := h18.move (K30.at 0 rfl)
    replace h10 := h10.move (K30.at 1 rfl)
    refine xv (i := 0) (d := 21) rfl rfl rfl (by kernel_rfl) (by kernel_rfl) (fun _ _ => Iff.rfl) hc31 hs32 (fun L_ w_ hc_ hu_ hs_ => e_move (v := .pointer (some ⟨g19, 0, none⟩)) (by kernel_rfl)) ?_; intro hc33 hs34
    refine xv (i := 1) (d := 22) rfl rfl rfl (by kernel_rfl) (by kernel_rfl) (fun _ _ => Iff.rfl) hc33 hs34 (fun L_ w_ hc_ hu_ hs_ => e_nilCheck (ad := ⟨g19, 0, none⟩) (by kernel_rfl)) ?_; intro hc35 hs36
    refine xv (i := 2) (d := 23) rfl rfl rfl (by kernel_rfl) (by kernel_rfl) (fun _ _ => Iff.rfl) hc35 hs36 (fun L_ w_ hc_ hu_ hs_ => e_fieldAddr (b := g19) (off := 0) (o := 0) Try.underlying125 rfl rfl (sz := 1) (by kernel_rfl) (by decide) (by kernel_rfl)) ?_; intro hc37 hs38
    obtain ⟨A39, c40, y41, q42, h43, h44, l45, h46⟩ := node_open h20
    refine xv (i := 3) (d := 24) rfl rfl rfl (by kernel_rfl) (by kernel_rfl) (fun _ _ => Iff.rfl) hc37 hs38 (fun L_ w_ hc_ hu_ hs_ => e_load1 (ad := ⟨g19, 0 + 0, none⟩) (v := .int .i64 t13.kind) Try.underlying3 rfl (by kernel_rfl) (blk_cells (hs_.1 _ _ h43) h44 0 _ rfl)) ?_; intro hc47 hs48
    refine xv (i := 4) (d := 25) rfl rfl rfl (by kernel_rfl) (by kernel_rfl) (fun _ _ => Iff.rfl) hc47 hs48 (fun L_ w_ hc_ hu_ hs_ => e_move (v := .pointer (some ⟨g19, 0, none⟩)) (by kernel_rfl)) ?_; intro hc49 hs50
    refine xv (i := 5) (d := 26) rfl rfl rfl (by kernel_rfl) (by kernel_rfl) (fun _ _ => Iff.rfl) hc49 hs50 (fun L_ w_ hc_ hu_ hs_ => e_nilCheck (ad := ⟨g19, 0, none⟩) (by kernel_rfl)) ?_; intro hc51 hs52
    refine xv (i := 6) (d := 27) rfl rfl rfl (by kernel_rfl) (by kernel_rfl) (fun _ _ => Iff.rfl) hc51 hs52 (fun L_ w_ hc_ hu_ hs_ => e_fieldAddr (b := g19) (off := 0) (o := 1) Try.underlying125 rfl rfl (sz := 1) (by kernel_rfl) (by decide) (by kernel_rfl)) ?_; intro hc53 hs54
    refine xv (i := 7) (d := 28) rfl rfl rfl (by kernel_rfl) (by kernel_rfl) (fun _ _ => Iff.rfl) hc53 hs54 (fun L_ w_ hc_ hu_ hs_ => e_load1 (ad := ⟨g19, 0 + 1, none⟩) (v := .int .i64 t13.n) Try.underlying3 rfl (by kernel_rfl) (blk_cells (hs_.1 _ _ h43) h44 1 _ rfl)) ?_; intro hc55 hs56
    refine xv (i := 8) (d := 29) rfl rfl rfl (by kernel_rfl) (by kernel_rfl) (fun _ _ => Iff.rfl) hc55 hs56 (fun L_ w_ hc_ hu_ hs_ => (show _ = Result.ok (Next.value (.agg #[.int .i64 t13.kind, .int .i64 t13.n, .slice none 0 0])) w_ from by kernel_rfl)) ?_; intro hc57 hs58
    refine xone (i := 9) (by kernel_rfl) hc57 ?_
    refine ye (i := 9) (d := 10) rfl rfl (wanted_none rfl _) (by kernel_rfl) (by kernel_rfl) (new_blk (v := fun g_ => .pointer (some ⟨g_, 0, none⟩)) (cs := #[.int .i64 0, .int .i64 0, .slice none 0 0]) (t := 65) S29 (by kernel_rfl)) ?_
    rintro hc64 _ w59 ⟨g60, rfl, b61, S62, K63⟩
    replace h18 := h18.move (K63.at 0 rfl)
    replace h10 := h10.move (K63.at 1 rfl)
    refine ⟨⟨S62.inv, trivial⟩, fun hs65 => ?_⟩
    refine xone (i := 10) (by kernel_rfl) hc64 ?_
    refine ys (i := 10) rfl rfl (wanted_none rfl _) (by kernel_rfl) (by kernel_rfl) (e_store (g := g60) (o := 0) (v := .agg #[.int .i64 t13.kind, .int .i64 t13.n, .slice none 0 0]) (cur' := #[.int .i64 t13.kind, .int .i64 t13.n, .slice none 0 0]) (vs := [.int .i64 t13.kind, .int .i64 t13.n, .slice none 0 0]) S62 (by kernel_rfl) (by kernel_rfl) rfl (by kernel_rfl) b61 (Nat.le_of_ble_eq_true rfl) (List.forall_mem_cons.2 ⟨rfl, (List.forall_mem_cons.2 ⟨rfl, (List.forall_mem_cons.2 ⟨rfl, (fun _ h_ => by cases h_)⟩)⟩)⟩) rfl) ?_
    rintro hc70 w66 ⟨b67, S68, K69⟩
    replace h18 := h18.move (K69.at 0 rfl)
    replace h10 := h10.move (K69.at 1 rfl)
    refine ⟨⟨S68.inv, trivial⟩, fun hs71 => ?_⟩
    clear b61
    refine xn (by kernel_rfl) ?_ _
    refine then_n ?_
    refine wp_seq_cut (fun a87 w72 => ∃ (k89 : Nat), k89 ≤ k1_ ∧ ∃ (f73 : Nat → Value) (x74 : List UInt8) (A75 : Option Addr) (c76 : Nat) (F77 : Foot), k89 < K ∧ a87 = mk 66 f73 ∧ f73 0 = .iface 109 (.map (some g2)) ∧ f73 1 = .pointer (some ⟨g19, 0, none⟩) ∧ f73 2 = .slice A8 x7.length c9 ∧ f73 3 = .int .i64 x12 ∧ f73 10 = .pointer (some ⟨g60, 0, none⟩) ∧ w72.heap[g60]? = some (.cells #[.int .i64 t13.kind, .int .i64 t13.n, .slice A75 x74.length c76] 65 (0, 0)) ∧ MapO encI (node 125) H16 (hp w72) g2 x1 ∧ Row st65 65 H16 (hp w72) F11 A8 c9 x7 ∧ Row tByte 5 H16 (hp w72) F77 A75 c76 x74 ∧ St (anyOf [(is g2), F11]) H w [(is g60), (is g2), F11, F77] H16 w72 ∧ impl_full_2.l0 k89 x1 x7 x12 t13 x74 = some r) ?_ ?_
    · refine wp_seq ?_
      refine wp_region_lit ?_
      refine lv (d := 30) rfl rfl (by kernel_rfl) (e_move (v := .pointer (some ⟨g19, 0, none⟩)) (by kernel_rfl)) ?_
      refine lv (d := 31) rfl rfl (by kernel_rfl) (e_nilCheck (ad := ⟨g19, 0, none⟩) (by kernel_rfl)) ?_
      refine lv (d := 32) rfl rfl (by kernel_rfl) (e_fieldAddr (b := g19) (off := 0) (o := 0) Try.underlying125 rfl rfl (sz := 1) (by kernel_rfl) (by decide) (by kernel_rfl)) ?_
      refine lv (d := 33) rfl rfl (by kernel_rfl) (e_load1 (ad := ⟨g19, 0 + 0, none⟩) (v := .int .i64 t13.kind) Try.underlying3 rfl (by kernel_rfl) (blk_cells (S68.inv _ _ h43) h44 0 _ rfl)) ?_
      refine lv (d := 34) rfl rfl (by kernel_rfl) (e_geq (k := .i64) (a := t13.kind) (b := 2) (by kernel_rfl) rfl) ?_
      refine wpList_nil ?_
      refine then_n ?_
      by_cases q90 : t13.kind ≥ 2
      · replace M := ifp q90 M
        refine cond_t rfl (bt q90 (by kernel_rfl)) ?_
        refine wp_region_lit ?_
        refine lv (d := 35) rfl rfl (by kernel_rfl) (e_move (v := .pointer (some ⟨g19, 0, none⟩)) (by kernel_rfl)) ?_
        refine lv (d := 36) rfl rfl (by kernel_rfl) (e_nilCheck (ad := ⟨g19, 0, none⟩) (by kernel_rfl)) ?_
        refine lv (d := 37) rfl rfl (by kernel_rfl) (e_fieldAddr (b := g19) (off := 0) (o := 2) Try.underlying125 rfl rfl (sz := 1) (by kernel_rfl) (by decide) (by kernel_rfl)) ?_
        refine lv (d := 38) rfl rfl (by kernel_rfl) (e_load1 (ad := ⟨g19, 0 + 2, none⟩) (v := str t13.text) Try.underlying9 rfl (by kernel_rfl) (blk_cells (S68.inv _ _ h43) h44 2 _ rfl)) ?_
        obtain ⟨q91, M⟩ := chk M
        refine lve (d := 39) rfl rfl (by kernel_rfl) (e_conv_sb (xs := t13.text) S68 Try.underlying9 Try.underlying59 Try.underlying5 (by kernel_rfl) q91) ?_
        rintro _ w92 ⟨A93, c94, F95, rfl, h96, S97, K98⟩
        replace b67 := K98.blk 0 rfl b67
        replace h18 := h18.move (K98.at 1 rfl)
        replace h10 := h10.move (K98.at 2 rfl)
        refine lv (d := 40) rfl rfl (by kernel_rfl) (e_fieldAddr (b := g60) (off := 0) (o := 2) Try.underlying65 rfl rfl (sz := 1) (by kernel_rfl) (by decide) (by kernel_rfl)) ?_
        have S99 := S97.pull (F := (is g60)) (Fr := [F95, (is g2), F11]) 1 rfl rfl
        refine lse rfl rfl (by kernel_rfl) (e_store (g := g60) (o := 0 + 2) (v := .slice A93 t13.text.length c94) (cur' := #[.int .i64 t13.kind, .int .i64 t13.n, .slice A93 t13.text.length c94]) (vs := [.slice A93 t13.text.length c94]) S99 (by kernel_rfl) (by kernel_rfl) rfl (by kernel_rfl) b67 (Nat.le_of_ble_eq_true rfl) (List.forall_mem_cons.2 ⟨rfl, (fun _ h_ => by cases h_)⟩) rfl) ?_
        rintro w100 ⟨b101, S102, K103⟩
        replace h96 := h96.move (K103.at 0 rfl)
        replace h18 := h18.move (K103.at 1 rfl)
        replace h10 := h10.move (K103.at 2 rfl)
        clear b67
        refine wpList_nil ?_
        refine then_n ?_
        have S104 := S102.pull (F := F95) (Fr := [(is g60), (is g2), F11]) 1 rfl rfl
        have S105 := S104.pull (F := F11) (Fr := [F95, (is g60), (is g2)]) 3 rfl rfl
        have S106 := S105.pull (F := (is g2)) (Fr := [F11, F95, (is g60)]) 3 rfl rfl
        have S107 := S106.pull (F := (is g60)) (Fr := [(is g2), F11, F95]) 3 rfl rfl
        exact ⟨k1_, (by omega), _, t13.text, A93, c94, F95, (by omega), rfl, (by kernel_rfl), (by kernel_rfl), (by kernel_rfl), (by kernel_rfl), (by kernel_rfl), b101, h18, h10, h96, S107, M⟩
      replace M := ifn q90 M
      refine cond_f rfl (bf q90 (by kernel_rfl)) ?_
      refine wp_skip ?_
      refine then_n ?_
      have S108 := S68.unit
      have S109 := S108.pull (F := F11) (Fr := [no, (is g60), (is g2)]) 3 rfl rfl
      have S110 := S109.pull (F := (is g2)) (Fr := [F11, no, (is g60)]) 3 rfl rfl
      have S111 := S110.pull (F := (is g60)) (Fr := [(is g2), F11, no]) 3 rfl rfl
      exact ⟨k1_, (by omega), _, [], none, 0, no, (by omega), rfl, (by kernel_rfl), (by kernel_rfl), (by kernel_rfl), (by kernel_rfl), (by kernel_rfl), b67, h18, h10, (Row.nil _ _ _ _ _), S111, M⟩
    clear M
    rintro a87 w72 ⟨k89, z181, f73, x74, A75, c76, F77, z85, rfl, e79, e80, e81, e82, e83, b67, h18, h10, h78, S84, M⟩
    rcases k89 with _ | k88
    · rw [impl_full_2.l0] at M
      cases M
    rw [impl_full_2.l0] at M
    refine wp_seq ?_
    refine wp_region_lit ?_
    refine lv (d := 41) rfl rfl (by kernel_rfl) (e_move (v := .slice A8 x7.length c9) (by exact e81)) ?_
    refine lv (d := 42) rfl rfl (by kernel_rfl) (e_loadS (b := g60) (off := 0) (cs := [.int .i64 t13.kind, .int .i64 t13.n, .slice A75 x74.length c76]) Try.underlying65 rfl (by kernel_rfl) (by exact e83) (blk_cells b67 rfl)) ?_
    refine lve (d := 43) rfl rfl (by kernel_rfl) (new_blk (v := fun g_ => .slice (some ⟨g_, 0, none⟩) 1 1) (cs := #[.int .i64 t13.kind, .int .i64 t13.n, .slice A75 x74.length c76]) (t := 65) S84 (by kernel_rfl)) ?_
    rintro _ w112 ⟨g113, rfl, b114, S115, K116⟩
    replace b67 := K116.blk 0 rfl b67
    replace h18 := h18.move (K116.at 1 rfl)
    replace h10 := h10.move (K116.at 2 rfl)
    replace h78 := h78.move (K116.at 3 rfl)
    obtain ⟨q117, M⟩ := chk M
    have S118 := S115.pull (F := F77) (Fr := [(is g113), (is g60), (is g2), F11]) 4 rfl rfl
    have S119 := S118.pull (F := F11) (Fr := [F77, (is g113), (is g60), (is g2)]) 4 rfl rfl
    refine lve (d := 44) rfl rfl (by kernel_rfl) (e_append (d := st65) (n := x7.length) (xs := x7) (cap := c9) (A := A8) (ys := [(⟨t13.kind, t13.n, x74⟩ : Cell)]) (A2 := (some ⟨g113, 0, none⟩)) (c2 := 1) (z := .agg #[.int .i64 0, .int .i64 0, .slice none 0 0]) (bytes := 40) S119 Try.underlying25 (by kernel_rfl) rfl (by decide) (by kernel_rfl) rfl (by kernel_rfl) h10 (elsO_one1 (st65_mkO (x := (⟨t13.kind, t13.n, x74⟩ : Cell)) h78)) (.inr (blk_news b114 rfl)) (show (x7.length + [(⟨t13.kind, t13.n, x74⟩ : Cell)].length) * 40 ≤ _ by first | omega | (simp only [List.length_cons, List.length_nil]; omega)) (by decide)) ?_
    rintro _ w120 ⟨A121, c122, F123, rfl, h124, S125, K126⟩
    replace b114 := K126.blk 0 rfl b114
    replace b67 := K126.blk 1 rfl b67
    replace h18 := h18.move (K126.at 2 rfl)
    refine lv (d := 2) rfl rfl (by kernel_rfl) (e_assign (v := .slice A121 ((x7 ++ [(⟨t13.kind, t13.n, x74⟩ : Cell)]).length) c122) (by kernel_rfl)) ?_
    refine wpList_nil ?_
    refine then_n ?_
    refine wp_seq ?_
    refine wp_seq ?_
    refine wp_region_lit ?_
    refine lv (d := 45) rfl rfl (by kernel_rfl) (e_move (v := .pointer (some ⟨g19, 0, none⟩)) (by exact e80)) ?_
    refine lv (d := 46) rfl rfl (by kernel_rfl) (e_nilCheck (ad := ⟨g19, 0, none⟩) (by kernel_rfl)) ?_
    refine lv (d := 47) rfl rfl (by kernel_rfl) (e_fieldAddr (b := g19) (off := 0) (o := 3) Try.underlying125 rfl rfl (sz := 1) (by kernel_rfl) (by decide) (by kernel_rfl)) ?_
    refine lv (d := 48) rfl rfl (by kernel_rfl) (e_load1 (ad := ⟨g19, 0 + 3, none⟩) (v := .slice A39 t13.args.length c40) Try.underlying87 rfl (by kernel_rfl) (blk_cells (S125.inv _ _ h43) h44 3 _ rfl)) ?_
    refine lv (d := 49) rfl rfl (by kernel_rfl) (e_len (A := A39) (n := t13.args.length) (c := c40) Try.underlying87 (by kernel_rfl)) ?_
    refine lv (d := 50) rfl rfl (by kernel_rfl) (e_move (v := .int .i64 0) rfl) ?_
    refine wpList_nil ?_
    refine then_n ?_
    refine wp_block ?_
    have S149 := S125.pull (F := (is g2)) (Fr := [F123, (is g113), (is g60)]) 3 rfl rfl
    have S150 := St.first (Fa := [(is g2), F123]) (Fr := [(is g113), (is g60)]) S149
    refine wp_loop_g (fun k146 a147 w127 => ∃ (f128 : Nat → Value) (H129 : Hp) (x131 : List Cell) (A132 : Option Addr) (c133 : Nat) (F134 : Foot) (x136 : Int), k146 < K ∧ a147 = mk 66 f128 ∧ f128 0 = .iface 109 (.map (some g2)) ∧ f128 2 = .slice A132 x131.length c133 ∧ f128 3 = .int .i64 x12 ∧ f128 48 = .slice A39 t13.args.length c40 ∧ f128 49 = .int .i64 (t13.args.length : Int) ∧ f128 50 = .int .i64 x136 ∧ MapO encI (node 125) H129 (hp w127) g2 x1 ∧ Row st65 65 H129 (hp w127) F134 A132 c133 x131 ∧ Ext H16 H129 ∧ St (anyOf [(is g2), F11]) H w [(is g2), F134] H129 w127 ∧ impl_full_2.l1 k146 x1 x12 t13 x131 x136 = some r) k88 ⟨_, H16, (x7 ++ [(⟨t13.kind, t13.n, x74⟩ : Cell)]), A121, c122, F123, 0, (by omega), rfl, (by exact e79), (by kernel_rfl), (by exact e82), (by kernel_rfl), (by kernel_rfl), (by kernel_rfl), h18, h124, (Ext.refl _), S150, M⟩ ?_
    clear M
    rintro k146 a147 w127 ⟨f128, H129, x131, A132, c133, F134, x136, z144, rfl, e137, e138, e139, e140, e141, e142, h18, h135, Y130, S143, M⟩
    rcases k146 with _ | k148
    · rw [impl_full_2.l1] at M
      cases M
    rw [impl_full_2.l1] at M
    refine wp_seq ?_
    refine wp_region_lit ?_
    refine lv (d := 51) rfl rfl (by kernel_rfl) (e_lss (k := .i64) (a := x136) (b := (t13.args.length : Int)) (by exact e142) (by exact e141)) ?_
    refine wpList_nil ?_
    refine then_n ?_
    refine wp_seq ?_
    by_cases q151 : x136 < (t13.args.length : Int)
    · replace M := ifp q151 M
      refine cond_t rfl (bt q151 (by kernel_rfl)) ?_
      refine wp_skip ?_
      refine then_n ?_
      refine wp_seq ?_
      refine wp_block ?_
      refine wp_seq ?_
      refine wp_region_lit ?_
      obtain ⟨q152, M⟩ := chk M
      obtain ⟨b153, o154, e155⟩ := Rd.addr h46 (show (x136).toNat < t13.args.length by omega)
      obtain ⟨y156, r157, k158⟩ := Rd.at h46 e155 (getD_some (Tm.mk 0 0 [] []) (show (x136).toNat < t13.args.length by omega))
      obtain ⟨v159, rfl, h160⟩ := r157
      obtain ⟨g161, rfl⟩ := node_ptr h160
      refine lv (d := 52) rfl rfl (by kernel_rfl) (e_indexAddr (b := b153) (off := o154) (n := t13.args.length) (c := c40) (sz := 1) (i := x136) (k := .i64) Try.underlying87 e155 (by kernel_rfl) (by exact e140) (by exact e142) q152 q151) ?_
      refine lv (d := 53) rfl rfl (by kernel_rfl) (e_load1 (ad := ⟨b153, o154 + (x136 : Int).toNat * 1, none⟩) (v := .pointer (some ⟨g161, 0, none⟩)) Try.underlying74 rfl (by kernel_rfl) (hpx (S143.inv.cell (Y130.cell (k158 0 _ rfl))))) ?_
      refine lv (d := 12) rfl rfl (by kernel_rfl) (e_assign (v := .pointer (some ⟨g161, 0, none⟩)) (by kernel_rfl)) ?_
      refine wpList_nil ?_
      refine then_n ?_
      refine wp_seq ?_
      refine wp_region_lit ?_
      refine lv (d := 13) rfl rfl (by kernel_rfl) (e_assign (v := .bool false) rfl) ?_
      refine wpList_nil ?_
      refine then_n ?_
      refine wp_seq ?_
      refine wp_region_lit ?_
      refine lv (d := 55) rfl rfl (by kernel_rfl) (e_move (v := .iface 109 (.map (some g2))) (by exact e137)) ?_
      refine lv (d := 56) rfl rfl (by kernel_rfl) (e_move (v := .pointer (some ⟨g161, 0, none⟩)) (by kernel_rfl)) ?_
      refine lv (d := 57) rfl rfl (by kernel_rfl) (e_move (v := .slice A132 x131.length c133) (by exact e138)) ?_
      refine lv (d := 58) rfl rfl (by kernel_rfl) (e_move (v := .int .i64 x12) (by exact e139)) ?_
      have S162 := S143.pull (F := F134) (Fr := [(is g2)]) 1 rfl rfl
      have S163 := S162.pull (F := (is g2)) (Fr := [F134]) 1 rfl rfl
      obtain ⟨t164, u165, M⟩ := bnd M
      refine lcall (d := 59) rfl rfl (by kernel_rfl) (e_call (l := [.tmp 55, .tmp 56, .tmp 57, .tmp 58]) (vs := [.iface 109 (.map (some g2)), .pointer (some ⟨g161, 0, none⟩), .slice A132 x131.length c133, .int .i64 x12]) Try.func93 (by kernel_rfl) rfl (by kernel_rfl) rfl) (ih k148 (by omega) w127 H129 x1 g2 (t13.args.getD ((x136).toNat) (Tm.mk 0 0 [] [])) g161 x131 A132 c133 F134 x12 h18 (h160.ext' Y130) h135 (St.own' (Fa := [(is g2), F134]) (Fr := []) S163) t164 u165) ?_
      rintro _ w166 ⟨A170, c171, F173, H167, rfl, h169, h172, T168⟩
      refine ⟨_, rfl, ?_⟩
      obtain ⟨S174, K175⟩ := St.call (Fa := [(is g2), F134]) (Fr := []) S163 T168
      have E176 := T168.ext
      refine lv (d := 54) rfl rfl (by kernel_rfl) (e_move (v := .tuple #[.slice A170 t164.1.length c171, .bool t164.2]) (by kernel_rfl)) ?_
      refine lv (d := 60) rfl rfl (by kernel_rfl) (e_extract (vs := #[.slice A170 t164.1.length c171, .bool t164.2]) (v := .slice A170 t164.1.length c171) (by kernel_rfl) rfl) ?_
      refine lv (d := 61) rfl rfl (by kernel_rfl) (e_extract (vs := #[.slice A170 t164.1.length c171, .bool t164.2]) (v := .bool t164.2) (by kernel_rfl) rfl) ?_
      refine lv (d := 2) rfl rfl (by kernel_rfl) (e_assign (v := .slice A170 t164.1.length c171) (by kernel_rfl)) ?_
      refine lv (d := 13) rfl rfl (by kernel_rfl) (e_assign (v := .bool t164.2) (by kernel_rfl)) ?_
      refine wpList_nil ?_
      refine then_n ?_
      refine wp_seq ?_
      refine wp_region_lit ?_
      refine lv (d := 62) rfl rfl (by kernel_rfl) (e_move (v := .bool t164.2) (by kernel_rfl)) ?_
      refine lv (d := 63) rfl rfl (by kernel_rfl) (e_notv (c := t164.2) (by kernel_rfl)) ?_
      refine wpList_nil ?_
      refine then_n ?_
      by_cases q177 : ¬ (t164.2 = true)
      · replace M := ifp q177 M
        refine cond_t rfl (bt q177 (by kernel_rfl)) ?_
        refine wp_seq ?_
        refine wp_region_lit ?_
        refine lv (d := 8) rfl rfl (by kernel_rfl) (e_assign (v := .slice none 0 0) rfl) ?_
        refine lv (d := 9) rfl rfl (by kernel_rfl) (e_assign (v := .bool false) rfl) ?_
        refine wpList_nil ?_
        refine then_n ?_
        refine wp_ret ?_
        refine inb_r ?_
        refine then_r ?_
        refine then_r ?_
        refine inb_r ?_
        refine then_r ?_
        obtain rfl := Option.some.inj M
        have S178 := S174.unit
        have S179 := S178.pull (F := (is g2)) (Fr := [no, F173]) 1 rfl rfl
        have S180 := St.first (Fa := [(is g2), no]) (Fr := [F173]) S179
        exact ret2 rfl rfl rfl (show _ = .slice none 0 0 from (by kernel_rfl)) (show _ = .bool false from (by kernel_rfl)) ⟨none, 0, no, H167, rfl, h169, (Row.nil _ _ _ _ no), S180⟩
      replace M := ifn q177 M
      refine cond_f rfl (bf q177 (by kernel_rfl)) ?_
      refine wp_skip ?_
      refine inb_n ?_
      refine then_n ?_
      refine wp_region_lit ?_
      refine lv (d := 64) rfl rfl (by kernel_rfl) (e_add (k := .i64) (a := x136) (b := 1) (by exact e142) rfl) ?_
      refine lv (d := 50) rfl rfl (by kernel_rfl) (e_move (v := .int .i64 (IntKind.i64.wrap (x136 + 1))) (by kernel_rfl)) ?_
      refine wpList_nil ?_
      refine then_n ?_
      exact ⟨k148, (by omega), _, H167, t164.1, A170, c171, F173, (IntKind.i64.wrap (x136 + 1)), (by omega), rfl, (by exact e137), (by kernel_rfl), (by exact e139), (by exact e140), (by exact e141), (by kernel_rfl), h169, h172, (Y130.trans E176), S174, M⟩
    replace M := ifn q151 M
    refine cond_f rfl (bf q151 (by kernel_rfl)) ?_
    refine wp_exit ?_
    refine then_e ?_
    refine then_e ?_
    refine inb_hit ?_
    refine then_n ?_
    refine wp_seq ?_
    refine wp_region_lit ?_
    refine lv (d := 65) rfl rfl (by kernel_rfl) (e_move (v := .slice A132 x131.length c133) (by exact e138)) ?_
    refine lv (d := 8) rfl rfl (by kernel_rfl) (e_assign (v := .slice A132 x131.length c133) (by kernel_rfl)) ?_
    refine lv (d := 9) rfl rfl (by kernel_rfl) (e_assign (v := .bool true) rfl) ?_
    refine wpList_nil ?_
    refine then_n ?_
    refine wp_ret ?_
    obtain rfl := Option.some.inj M
    exact ret2 rfl rfl rfl (show _ = .slice A132 x131.length c133 from (by kernel_rfl)) (show _ = .bool true from (by kernel_rfl)) ⟨A132, c133, F134, H129, rfl, h18, h135, S143⟩
theorem impl_full_2.calls (k : Nat) (w : World) (H : Hp) (x1 : List (Int × Tm)) (g2 : Nat) (x4 : Tm) (g5 : Nat) (x7 : List Cell) (A8 : Option Addr) (c9 : Nat) (F11 : Foot) (x12 : Int) (h3 : MapO encI (node 125) H (hp w) g2 x1) (h6 : NodeR 125 H x4 (.pointer (some ⟨g5, 0, none⟩))) (h10 : Row st65 65 H (hp w) F11 A8 c9 x7) (S : Own [(is g2), F11] H w) (r : (List Cell) × Bool) (M : impl_full_2.f k x1 x4 x7 x12 = some r) :
    Calls Try.prog 93 #[.iface 109 (.map (some g2)), .pointer (some ⟨g5, 0, none⟩), .slice A8 x7.length c9, .int .i64 x12] w (fun e e_w => ∃ (A_1 : Option Addr) (c_1 : Nat) (F_1 : Foot) (H_ : Hp), e = .returned (.tuple #[.slice A_1 r.1.length c_1, .bool r.2]) ∧ MapO encI (node 125) H_ (hp e_w) g2 x1 ∧ Row st65 65 H_ (hp e_w) F_1 A_1 c_1 r.1 ∧ St (anyOf [(is g2), F11]) H w [(is g2), F_1] H_ e_w) := (impl_full_2.all (k + 1)) k (Nat.lt_succ_self k) w H x1 g2 x4 g5 x7 A8 c9 F11 x12 h3 h6 h10 S r M

/-! impl_Unify -/
def impl_Unify.l0 : Nat → (Int × (List (Int × Tm))) → (List Binding) → Int → Option ((List Binding) × Int)
  | 0, _, _, _ => none
  | k147 + 1, t52, x131, x136 => (if x136 < ((skeys t52.2).length : Int) then (if 0 ≤ x136 then ((impl_variable.f ((skeys t52.2).getD ((x136).toNat) (0 : Int))).bind fun t156 => ((impl_full_2.f k147 t52.2 t156 [] 2000).bind fun t168 => (if ¬ (t168.2 = true) then some ([], 3) else (if x131.length + 1 ≤ 4398046511104 then (impl_Unify.l0 k147 t52 (x131 ++ [(⟨((skeys t52.2).getD ((x136).toNat) (0 : Int)), t168.1⟩ : Binding)]) (IntKind.i64.wrap (x136 + 1))) else none)))) else none) else some (x131, 0))
def impl_Unify.f (k : Nat) (x1 : List Cell) (x6 : List Cell) : Option ((List Binding) × Int) := ((impl_ValidTerm.f k x1).bind fun t11 => (if ¬ (t11 = true) then some ([], 1) else ((impl_ValidTerm.f k x6).bind fun t19 => (if ¬ (t19 = true) then some ([], 1) else ((impl_tree.f k x1).bind fun t32 => ((impl_tree.f k x6).bind fun t42 => ((impl_unify.f k [] t32 t42).bind fun t52 => (if t52.1 ≠ 0 then some ([], t52.1) else (if (t52.2.length : Int) > 1000 then some ([], 3) else (if t52.2.length ≤ 1000000 then (impl_Unify.l0 k t52 [] 0) else none))))))))))
theorem impl_Unify.calls (k : Nat) (w : World) (H : Hp) (x1 : List Cell) (A2 : Option Addr) (c3 : Nat) (x6 : List Cell) (A7 : Option Addr) (c8 : Nat) (h4 : Rd st65 H A2 x1) (l5 : x1.length ≤ c3) (h9 : Rd st65 H A7 x6) (l10 : x6.length ≤ c8) (S : Own [] H w) (r : (List Binding) × Int) (M : impl_Unify.f k x1 x6 = some r) :
    Calls Try.prog 50 #[.slice A2 x1.length c3, .slice A7 x6.length c8] w (fun e e_w => ∃ (A_1 : Option Addr) (c_1 : Nat) (F_1 : Foot) (H_ : Hp), e = .returned (.tuple #[.slice A_1 r.1.length c_1, .int .i64 r.2]) ∧ Row st63 63 H_ (hp e_w) F_1 A_1 c_1 r.1 ∧ St (anyOf []) H w [F_1] H_ e_w) := by
  rw [impl_Unify.f] at M
  refine enter (l := [.slice A2 x1.length c3, .slice A7 x6.length c8]) 73 Try.func50 rfl rfl rfl ?_
  have S0_ := S.st
  refine wp_seq ?_
  refine wp_region_lit ?_
  refine lv (d := 4) rfl rfl (by kernel_rfl) (e_assign (v := .slice none 0 0) rfl) ?_
  refine lv (d := 5) rfl rfl (by kernel_rfl) (e_assign (v := .int .i64 0) rfl) ?_
  refine wpList_nil ?_
  refine then_n ?_
  refine wp_seq ?_
  refine wp_seq ?_
  refine wp_region_lit ?_
  refine lv (d := 15) rfl rfl (by kernel_rfl) (e_move (v := .slice A2 x1.length c3) (by kernel_rfl)) ?_
  obtain ⟨t11, u12, M⟩ := bnd M
  refine lcall (d := 16) rfl rfl (by kernel_rfl) (e_call (l := [.tmp 15]) (vs := [.slice A2 x1.length c3]) Try.func17 (by kernel_rfl) rfl (by kernel_rfl) rfl) (impl_ValidTerm.calls k w H x1 A2 c3 h4 l5 S0_.own0 t11 u12) ?_
  rintro _ w13 ⟨rfl, C14⟩
  refine ⟨_, rfl, ?_⟩
  obtain ⟨S15, K16⟩ := S0_.still C14
  refine lv (d := 17) rfl rfl (by kernel_rfl) (e_notv (c := t11) (by kernel_rfl)) ?_
  refine lv (d := 18) rfl rfl (by kernel_rfl) (e_move (v := .bool (decide (¬ (t11 = true)))) (by kernel_rfl)) ?_
  by_cases q17 : ¬ (t11 = true)
  · replace M := ifp q17 M
    refine lskip (t := 18) (c := true) rfl (by kernel_rfl) rfl (bt q17 (by kernel_rfl)) rfl rfl ?_
    refine lskip (t := 18) (c := true) rfl (by kernel_rfl) rfl (bt q17 (by kernel_rfl)) rfl rfl ?_
    refine lskip (t := 18) (c := true) rfl (by kernel_rfl) rfl (bt q17 (by kernel_rfl)) rfl rfl ?_
    refine lv (d := 22) rfl rfl (by kernel_rfl) (e_pick_t (v := .bool true) (bt q17 (by kernel_rfl)) rfl) ?_
    refine wpList_nil ?_
    refine then_n ?_
    refine cond_t rfl (by kernel_rfl) ?_
    refine wp_seq ?_
    refine wp_region_lit ?_
    refine lv (d := 4) rfl rfl (by kernel_rfl) (e_assign (v := .slice none 0 0) rfl) ?_
    refine lv (d := 5) rfl rfl (by kernel_rfl) (e_assign (v := .int .i64 1) rfl) ?_
    refine wpList_nil ?_
    refine then_n ?_
    refine wp_ret ?_
    refine then_r ?_
    obtain rfl := Option.some.inj M
    have S18 := S15.unit
    exact ret2 rfl rfl rfl (show _ = .slice none 0 0 from (by kernel_rfl)) (show _ = .int .i64 1 from (by kernel_rfl)) ⟨none, 0, no, H, rfl, (Row.nil _ _ _ _ no), S18⟩
  replace M := ifn q17 M
  refine lvg (d := 19) (t := 18) rfl (by kernel_rfl) rfl (bf q17 (by kernel_rfl)) rfl (by kernel_rfl) (e_move (v := .slice A7 x6.length c8) (by kernel_rfl)) ?_
  obtain ⟨t19, u20, M⟩ := bnd M
  refine lcallg (d := 20) (t := 18) rfl (by kernel_rfl) rfl (bf q17 (by kernel_rfl)) rfl (by kernel_rfl) (e_call (l := [.tmp 19]) (vs := [.slice A7 x6.length c8]) Try.func17 (by kernel_rfl) rfl (by kernel_rfl) rfl) (impl_ValidTerm.calls k w13 H x6 A7 c8 h9 l10 S15.own0 t19 u20) ?_
  rintro _ w21 ⟨rfl, C22⟩
  refine ⟨_, rfl, ?_⟩
  obtain ⟨S23, K24⟩ := S15.still C22
  refine lvg (d := 21) (t := 18) rfl (by kernel_rfl) rfl (bf q17 (by kernel_rfl)) rfl (by kernel_rfl) (e_notv (c := t19) (by kernel_rfl)) ?_
  refine lv (d := 22) rfl rfl (by kernel_rfl) (e_pick_f (v := .bool (decide (¬ (t19 = true)))) (bf q17 (by kernel_rfl)) (by kernel_rfl)) ?_
  refine wpList_nil ?_
  refine then_n ?_
  by_cases q25 : ¬ (t19 = true)
  · replace M := ifp q25 M
    refine cond_t rfl (bt q25 (by kernel_rfl)) ?_
    refine wp_seq ?_
    refine wp_region_lit ?_
    refine lv (d := 4) rfl rfl (by kernel_rfl) (e_assign (v := .slice none 0 0) rfl) ?_
    refine lv (d := 5) rfl rfl (by kernel_rfl) (e_assign (v := .int .i64 1) rfl) ?_
    refine wpList_nil ?_
    refine then_n ?_
    refine wp_ret ?_
    refine then_r ?_
    obtain rfl := Option.some.inj M
    have S26 := S23.unit
    exact ret2 rfl rfl rfl (show _ = .slice none 0 0 from (by kernel_rfl)) (show _ = .int .i64 1 from (by kernel_rfl)) ⟨none, 0, no, H, rfl, (Row.nil _ _ _ _ no), S26⟩
  replace M := ifn q25 M
  refine cond_f rfl (bf q25 (by kernel_rfl)) ?_
  refine wp_skip ?_
  refine then_n ?_
  refine wp_seq ?_
  refine wp_region_lit ?_
  refine lve (d := 23) rfl rfl (by kernel_rfl) (e_makeMap S23 encI (node 125)) ?_
  rintro _ w27 ⟨g28, rfl, h29, S30, K31⟩
  refine lv (d := 6) rfl rfl (by kernel_rfl) (e_assign (v := .map (some g28)) (by kernel_rfl)) ?_
  refine wpList_nil ?_
  refine then_n ?_
  refine wp_seq ?_
  refine wp_seq ?_
  refine wp_region_lit ?_
  refine lv (d := 24) rfl rfl (by kernel_rfl) (e_move (v := .map (some g28)) (by kernel_rfl)) ?_
  refine lv (d := 25) rfl rfl (by kernel_rfl) (e_makeInterface (v := .map (some g28)) Try.underlying109 (by kernel_rfl)) ?_
  refine lv (d := 26) rfl rfl (by kernel_rfl) (e_move (v := .slice A2 x1.length c3) (by kernel_rfl)) ?_
  obtain ⟨t32, u33, M⟩ := bnd M
  refine lcall (d := 27) rfl rfl (by kernel_rfl) (e_call (l := [.tmp 26]) (vs := [.slice A2 x1.length c3]) Try.func62 (by kernel_rfl) rfl (by kernel_rfl) rfl) (impl_tree.calls k w27 H x1 A2 c3 h4 l5 (St.own' (Fa := []) (Fr := [(is g28)]) S30) t32 u33) ?_
  rintro _ w34 ⟨g37, H35, rfl, h38, T36⟩
  refine ⟨_, rfl, ?_⟩
  obtain ⟨S39, K40⟩ := St.call (Fa := []) (Fr := [(is g28)]) S30 T36
  replace h29 := h29.move (K40.at 0 rfl)
  have E41 := T36.ext
  replace h29 := h29.ext E41
  refine lv (d := 28) rfl rfl (by kernel_rfl) (e_move (v := .slice A7 x6.length c8) (by kernel_rfl)) ?_
  obtain ⟨t42, u43, M⟩ := bnd M
  refine lcall (d := 29) rfl rfl (by kernel_rfl) (e_call (l := [.tmp 28]) (vs := [.slice A7 x6.length c8]) Try.func62 (by kernel_rfl) rfl (by kernel_rfl) rfl) (impl_tree.calls k w34 H35 x6 A7 c8 (h9.ext E41) l10 (St.own' (Fa := []) (Fr := [(is g28)]) S39) t42 u43) ?_
  rintro _ w44 ⟨g47, H45, rfl, h48, T46⟩
  refine ⟨_, rfl, ?_⟩
  obtain ⟨S49, K50⟩ := St.call (Fa := []) (Fr := [(is g28)]) S39 T46
  replace h29 := h29.move (K50.at 0 rfl)
  have E51 := T46.ext
  replace h29 := h29.ext E51
  obtain ⟨t52, u53, M⟩ := bnd M
  refine lcall (d := 30) rfl rfl (by kernel_rfl) (e_call (l := [.tmp 25, .tmp 27, .tmp 29]) (vs := [.iface 109 (.map (some g28)), .pointer (some ⟨g37, 0, none⟩), .pointer (some ⟨g47, 0, none⟩)]) Try.func91 (by kernel_rfl) rfl (by kernel_rfl) rfl) (impl_unify.calls k w44 H45 [] g28 t32 g37 t42 g47 h29 (h38.ext' E51) h48 (St.own' (Fa := [(is g28)]) (Fr := []) S49) t52 u53) ?_
  rintro _ w54 ⟨H55, rfl, h57, T56⟩
  refine ⟨_, rfl, ?_⟩
  obtain ⟨S58, K59⟩ := St.call (Fa := [(is g28)]) (Fr := []) S49 T56
  have E60 := T56.ext
  refine lv (d := 7) rfl rfl (by kernel_rfl) (e_assign (v := .int .i64 t52.1) (by kernel_rfl)) ?_
  refine wpList_nil ?_
  refine then_n ?_
  refine wp_seq ?_
  refine wp_region_lit ?_
  refine lv (d := 31) rfl rfl (by kernel_rfl) (e_move (v := .int .i64 t52.1) (by kernel_rfl)) ?_
  refine lv (d := 32) rfl rfl (by kernel_rfl) (e_neq (k := .i64) (a := t52.1) (b := 0) (by kernel_rfl) rfl) ?_
  refine wpList_nil ?_
  refine then_n ?_
  by_cases q61 : t52.1 ≠ 0
  · replace M := ifp q61 M
    refine cond_t rfl (bt q61 (by kernel_rfl)) ?_
    refine wp_seq ?_
    refine wp_region_lit ?_
    refine lv (d := 33) rfl rfl (by kernel_rfl) (e_move (v := .int .i64 t52.1) (by kernel_rfl)) ?_
    refine lv (d := 4) rfl rfl (by kernel_rfl) (e_assign (v := .slice none 0 0) rfl) ?_
    refine lv (d := 5) rfl rfl (by kernel_rfl) (e_assign (v := .int .i64 t52.1) (by kernel_rfl)) ?_
    refine wpList_nil ?_
    refine then_n ?_
    refine wp_ret ?_
    refine then_r ?_
    obtain rfl := Option.some.inj M
    have S62 := S58.unit
    have S63 := St.first (Fa := [no]) (Fr := [(is g28)]) S62
    exact ret2 rfl rfl rfl (show _ = .slice none 0 0 from (by kernel_rfl)) (show _ = .int .i64 t52.1 from (by kernel_rfl)) ⟨none, 0, no, H55, rfl, (Row.nil _ _ _ _ no), S63⟩
  replace M := ifn q61 M
  refine cond_f rfl (bf q61 (by kernel_rfl)) ?_
  refine wp_skip ?_
  refine then_n ?_
  refine wp_seq ?_
  refine wp_seq ?_
  refine wp_region_lit ?_
  refine lv (d := 34) rfl rfl (by kernel_rfl) (e_move (v := .map (some g28)) (by kernel_rfl)) ?_
  refine lv (d := 35) rfl rfl (by kernel_rfl) (e_mapLen h57 Try.underlying109 (by kernel_rfl)) ?_
  refine lv (d := 36) rfl rfl (by kernel_rfl) (e_gtr (k := .i64) (a := (t52.2.length : Int)) (b := 1000) (by kernel_rfl) rfl) ?_
  refine wpList_nil ?_
  refine then_n ?_
  by_cases q64 : (t52.2.length : Int) > 1000
  · replace M := ifp q64 M
    refine cond_t rfl (bt q64 (by kernel_rfl)) ?_
    refine wp_seq ?_
    refine wp_region_lit ?_
    refine lv (d := 4) rfl rfl (by kernel_rfl) (e_assign (v := .slice none 0 0) rfl) ?_
    refine lv (d := 5) rfl rfl (by kernel_rfl) (e_assign (v := .int .i64 3) rfl) ?_
    refine wpList_nil ?_
    refine then_n ?_
    refine wp_ret ?_
    refine then_r ?_
    obtain rfl := Option.some.inj M
    have S65 := S58.unit
    have S66 := St.first (Fa := [no]) (Fr := [(is g28)]) S65
    exact ret2 rfl rfl rfl (show _ = .slice none 0 0 from (by kernel_rfl)) (show _ = .int .i64 3 from (by kernel_rfl)) ⟨none, 0, no, H55, rfl, (Row.nil _ _ _ _ no), S66⟩
  replace M := ifn q64 M
  refine cond_f rfl (bf q64 (by kernel_rfl)) ?_
  refine wp_skip ?_
  refine then_n ?_
  refine wp_seq ?_
  refine wp_region_lit ?_
  refine lv (d := 8) rfl rfl (by kernel_rfl) (e_assign (v := .slice none 0 0) rfl) ?_
  refine wpList_nil ?_
  refine then_n ?_
  obtain ⟨q67, M⟩ := chk M
  refine wp_seq ?_
  refine wp_seq ?_
  refine wp_region_lit ?_
  refine lv (d := 37) rfl rfl (by kernel_rfl) (e_move (v := .map (some g28)) (by kernel_rfl)) ?_
  refine lve (d := 38) rfl rfl (by kernel_rfl) (e_rangeMap S58 h57 (MapO_lt h57) Try.underlying109 (by kernel_rfl)) ?_
  rintro _ w68 ⟨g69, rfl, h70, h71, S72, K73⟩
  refine wpList_nil ?_
  refine then_n ?_
  refine wp_block ?_
  have S74 := S72.unit
  refine wp_loop_g (fun k80 a81 w82 => ∃ (f75 : Nat → Value) (A76 : Option Addr) (c77 : Nat) (F78 : Foot) (v79 : List Int), k80 = t52.2.length - v79.length ∧ a81 = mk 73 f75 ∧ f75 6 = .map (some g28) ∧ f75 38 = .pointer (some ⟨g69, 0, none⟩) ∧ f75 8 = .slice A76 v79.length c77 ∧ Row tInt 3 H55 (hp w82) F78 A76 c77 v79 ∧ Iter (node 125) H55 (hp w82) g28 t52.2 g69 v79 ∧ St (anyOf []) H w [F78, (is g69), (is g28)] H55 w82) (t52.2.length - 0) ⟨_, none, 0, no, [], rfl, rfl, (by kernel_rfl), (by kernel_rfl), (by kernel_rfl), (Row.nil _ _ _ _ _), h71, S74⟩ ?_
  rintro k80 a81 w82 ⟨f75, A76, c77, F78, v79, rfl, rfl, e83, e84, e85, h86, h87, S88⟩
  refine wp_seq ?_
  refine wp_region_lit ?_
  have S89 := S88.pull (F := (is g69)) (Fr := [F78, (is g28)]) 1 rfl rfl
  refine lve (d := 39) rfl rfl (by kernel_rfl) (e_nextKey S89 h87 h70 (by exact e84)) ?_
  rintro _ w97 (⟨⟨u90, rfl, h91⟩, rfl, h92⟩ | ⟨⟨u90, rfl, h91⟩, k93, h94, S95, K96⟩)
  rotate_left
  · clear M
    refine lv (d := 40) rfl rfl (by kernel_rfl) (e_extract (vs := u90) (v := .bool true) (by kernel_rfl) h91) ?_
    refine wpList_nil ?_
    refine then_n ?_
    refine wp_seq ?_
    refine cond_t rfl (by kernel_rfl) ?_
    refine wp_skip ?_
    refine then_n ?_
    refine wp_block ?_
    refine wp_seq ?_
    refine wp_region_lit ?_
    have h104 := h86.move (K96.at 0 rfl)
    refine lve (d := 41) rfl rfl (by kernel_rfl) (e_entryKey h94 (by exact e84)) ?_
    rintro _ _ ⟨rfl, v98, rfl⟩
    refine lv (d := 42) rfl rfl (by kernel_rfl) (e_extract (vs := #[.int .i64 k93, v98]) (v := .int .i64 k93) (by kernel_rfl) rfl) ?_
    refine lv (d := 9) rfl rfl (by kernel_rfl) (e_assign (v := .int .i64 k93) (by kernel_rfl)) ?_
    refine wpList_nil ?_
    refine then_n ?_
    refine wp_region_lit ?_
    refine lv (d := 43) rfl rfl (by kernel_rfl) (e_move (v := .slice A76 v79.length c77) (by exact e85)) ?_
    refine lv (d := 44) rfl rfl (by kernel_rfl) (e_move (v := .int .i64 k93) (by kernel_rfl)) ?_
    refine lve (d := 45) rfl rfl (by kernel_rfl) (new_blk (v := fun g_ => .slice (some ⟨g_, 0, none⟩) 1 1) (cs := #[.int .i64 k93]) (t := 3) S95 (by kernel_rfl)) ?_
    rintro _ w99 ⟨g100, rfl, b101, S102, K103⟩
    replace h104 := h104.move (K103.at 1 rfl)
    have S105 := (h94.iter.len)
    have S106 := S102.pull (F := F78) (Fr := [(is g100), (is g69), (is g28)]) 2 rfl rfl
    have S107 := (S106.unit).pull (F := F78) (Fr := [no, (is g100), (is g69), (is g28)]) 1 rfl rfl
    have lv_ : v79.length + 1 ≤ t52.2.length := by simpa using S105
    refine lve (d := 46) rfl rfl (by kernel_rfl) (e_append (d := tInt) (n := v79.length) (xs := v79) (cap := c77) (A := A76) (ys := [k93]) (A2 := (some ⟨g100, 0, none⟩)) (c2 := 1) (z := .int .i64 0) (bytes := 8) S107 Try.underlying32 (by kernel_rfl) rfl (by decide) (by kernel_rfl) rfl (by kernel_rfl) h104 (elsO_one1 rfl) (.inr (blk_news b101 rfl)) (show (v79.length + [k93].length) * 8 ≤ _ by simp only [List.length_cons, List.length_nil]; omega) (by decide)) ?_
    rintro _ w108 ⟨A109, c110, F111, rfl, h112, S113, K114⟩
    refine lv (d := 8) rfl rfl (by kernel_rfl) (e_assign (v := .slice A109 ((v79 ++ [k93]).length) c110) (by kernel_rfl)) ?_
    refine wpList_nil ?_
    refine inb_n ?_
    refine then_n ?_
    have hi_ := ((h94.move (K103.at 0 rfl) (K103.at 2 rfl)).move (K114.at 1 rfl) (K114.at 2 rfl)).iter
    have S_ := S113.pull (F := (is g100)) (Fr := [F111, (is g69), (is g28)]) 1 rfl rfl
    exact ⟨t52.2.length - (v79 ++ [k93]).length, (by simp only [List.length_append, List.length_cons, List.length_nil]; omega), _, A109, c110, F111, v79 ++ [k93], rfl, rfl, (by exact e83), (by exact e84), (by kernel_rfl), h112, hi_, S_.drop⟩
  refine lv (d := 40) rfl rfl (by kernel_rfl) (e_extract (vs := u90) (v := .bool false) (by kernel_rfl) h91) ?_
  refine wpList_nil ?_
  refine then_n ?_
  refine wp_seq ?_
  refine cond_f rfl (by kernel_rfl) ?_
  refine wp_exit ?_
  refine then_e ?_
  refine then_e ?_
  refine inb_hit ?_
  refine then_n ?_
  refine wp_seq ?_
  refine wp_region_lit ?_
  have lv_ : v79.length = t52.2.length := by have := h92.length_eq; simpa using this
  refine lv (d := 47) rfl rfl (by kernel_rfl) (e_move (v := .slice A76 v79.length c77) (by exact e85)) ?_
  refine lcall (d := 48) rfl rfl (by kernel_rfl) (e_call (l := [.tmp 47]) (vs := [.slice A76 v79.length c77]) Try.func92 (by kernel_rfl) rfl (by kernel_rfl) rfl) (sort_Ints_ok w97 H55 v79 A76 c77 F78 h86 (by omega) (St.own' (Fa := [F78]) (Fr := [(is g69), (is g28)]) S88)) ?_
  rintro _ w115 ⟨F116, H117, rfl, h118, T119⟩
  refine ⟨_, rfl, ?_⟩
  obtain ⟨S120, K121⟩ := St.call (Fa := [F78]) (Fr := [(is g69), (is g28)]) S88 T119
  have E122 := T119.ext
  have h123 := ((h87.move (K121.at 0 rfl) (K121.at 1 rfl)).ext E122).map
  have z124 : isort v79 = skeys t52.2 := skeys_perm h92
  have z125 : (skeys t52.2).length = v79.length := (skeys_len _).trans lv_.symm
  rw [z124] at h118
  rw [← z125] at e85
  have S126 := (S120.pull (F := (is g69)) (Fr := [F116, (is g28)]) 1 rfl rfl).drop
  refine wpList_nil ?_
  refine then_n ?_
  refine wp_seq ?_
  refine wp_region_lit ?_
  refine lv (d := 10) rfl rfl (by kernel_rfl) (e_assign (v := .slice none 0 0) rfl) ?_
  refine wpList_nil ?_
  refine then_n ?_
  refine wp_seq ?_
  refine wp_seq ?_
  refine wp_region_lit ?_
  refine lv (d := 49) rfl rfl (by kernel_rfl) (e_move (v := .slice A76 ((skeys t52.2).length) c77) (by exact e85)) ?_
  refine lv (d := 50) rfl rfl (by kernel_rfl) (e_len (A := A76) (n := (skeys t52.2).length) (c := c77) Try.underlying32 (by kernel_rfl)) ?_
  refine lv (d := 51) rfl rfl (by kernel_rfl) (e_move (v := .int .i64 0) rfl) ?_
  refine wpList_nil ?_
  refine then_n ?_
  refine wp_block ?_
  have S148 := S126.unit
  have S149 := S148.pull (F := (is g28)) (Fr := [no, F116]) 2 rfl rfl
  have S150 := S149.pull (F := F116) (Fr := [(is g28), no]) 2 rfl rfl
  refine wp_loop_g (fun k145 a146 w127 => ∃ (f128 : Nat → Value) (H129 : Hp) (x131 : List Binding) (A132 : Option Addr) (c133 : Nat) (F134 : Foot) (x136 : Int), a146 = mk 73 f128 ∧ f128 6 = .map (some g28) ∧ f128 10 = .slice A132 x131.length c133 ∧ f128 49 = .slice A76 ((skeys t52.2).length) c77 ∧ f128 50 = .int .i64 ((skeys t52.2).length : Int) ∧ f128 51 = .int .i64 x136 ∧ Row tInt 3 H129 (hp w127) F116 A76 c77 (skeys t52.2) ∧ MapO encI (node 125) H129 (hp w127) g28 t52.2 ∧ Row st63 63 H129 (hp w127) F134 A132 c133 x131 ∧ Ext H117 H129 ∧ St (anyOf []) H w [F116, (is g28), F134] H129 w127 ∧ impl_Unify.l0 k145 t52 x131 x136 = some r) k ⟨_, H117, [], none, 0, no, 0, rfl, (by exact e83), (by kernel_rfl), (by kernel_rfl), (by kernel_rfl), (by kernel_rfl), h118, h123, (Row.nil _ _ _ _ _), (Ext.refl _), S150, M⟩ ?_
  clear M
  rintro k145 a146 w127 ⟨f128, H129, x131, A132, c133, F134, x136, rfl, e137, e138, e139, e140, e141, h118, h123, h135, Y130, S142, M⟩
  rcases k145 with _ | k147
  · rw [impl_Unify.l0] at M
    cases M
  rw [impl_Unify.l0] at M
  refine wp_seq ?_
  refine wp_region_lit ?_
  refine lv (d := 52) rfl rfl (by kernel_rfl) (e_lss (k := .i64) (a := x136) (b := ((skeys t52.2).length : Int)) (by exact e141) (by exact e140)) ?_
  refine wpList_nil ?_
  refine then_n ?_
  refine wp_seq ?_
  by_cases q151 : x136 < ((skeys t52.2).length : Int)
  · replace M := ifp q151 M
    refine cond_t rfl (bt q151 (by kernel_rfl)) ?_
    refine wp_skip ?_
    refine then_n ?_
    refine wp_seq ?_
    refine wp_block ?_
    refine wp_seq ?_
    refine wp_region_lit ?_
    obtain ⟨q152, M⟩ := chk M
    obtain ⟨b153, e155⟩ := Row.addr h118 (show (x136).toNat < (skeys t52.2).length by omega)
    refine lv (d := 53) rfl rfl (by kernel_rfl) (e_indexAddr (b := b153) (off := 0) (n := (skeys t52.2).length) (c := c77) (sz := 1) (i := x136) (k := .i64) Try.underlying32 e155 (by kernel_rfl) (by exact e139) (by exact e141) q152 q151) ?_
    refine lv (d := 54) rfl rfl (by kernel_rfl) (e_load1 (ad := ⟨b153, 0 + (x136 : Int).toNat * 1, none⟩) (v := .int .i64 ((skeys t52.2).getD ((x136).toNat) (0 : Int))) Try.underlying3 rfl (by kernel_rfl) (hpx (Row.pick (j := 0) (u := .int .i64 ((skeys t52.2).getD ((x136).toNat) (0 : Int))) h118 e155 (getD_some (0 : Int) (show (x136).toNat < (skeys t52.2).length by omega)) (fun _ _ o_ => by rw [show _ = _ from o_]; rfl)))) ?_
    refine lv (d := 12) rfl rfl (by kernel_rfl) (e_assign (v := .int .i64 ((skeys t52.2).getD ((x136).toNat) (0 : Int))) (by kernel_rfl)) ?_
    refine wpList_nil ?_
    refine then_n ?_
    refine wp_seq ?_
    refine wp_region_lit ?_
    refine lv (d := 56) rfl rfl (by kernel_rfl) (e_move (v := .map (some g28)) (by exact e137)) ?_
    refine lv (d := 57) rfl rfl (by kernel_rfl) (e_makeInterface (v := .map (some g28)) Try.underlying109 (by kernel_rfl)) ?_
    refine lv (d := 58) rfl rfl (by kernel_rfl) (e_move (v := .int .i64 ((skeys t52.2).getD ((x136).toNat) (0 : Int))) (by kernel_rfl)) ?_
    obtain ⟨t156, u157, M⟩ := bnd M
    refine lcall (d := 59) rfl rfl (by kernel_rfl) (e_call (l := [.tmp 58]) (vs := [.int .i64 ((skeys t52.2).getD ((x136).toNat) (0 : Int))]) Try.func94 (by kernel_rfl) rfl (by kernel_rfl) rfl) (impl_variable.calls w127 H129 ((skeys t52.2).getD ((x136).toNat) (0 : Int))  (St.own' (Fa := []) (Fr := [F116, (is g28), F134]) S142) t156 u157) ?_
    rintro _ w158 ⟨g161, H159, rfl, h162, T160⟩
    refine ⟨_, rfl, ?_⟩
    obtain ⟨S163, K164⟩ := St.call (Fa := []) (Fr := [F116, (is g28), F134]) S142 T160
    replace h118 := h118.move (K164.at 0 rfl)
    replace h123 := h123.move (K164.at 1 rfl)
    replace h135 := h135.move (K164.at 2 rfl)
    have E165 := T160.ext
    replace h118 := h118.ext E165
    replace h123 := h123.ext E165
    replace h135 := h135.ext E165
    have S166 := S163.unit
    have S167 := S166.pull (F := (is g28)) (Fr := [no, F116, F134]) 2 rfl rfl
    obtain ⟨t168, u169, M⟩ := bnd M
    refine lcall (d := 60) rfl rfl (by kernel_rfl) (e_call (l := [.tmp 57, .tmp 59, .const (.slice none 0 0), .const (.int .i64 2000)]) (vs := [.iface 109 (.map (some g28)), .pointer (some ⟨g161, 0, none⟩), .slice none 0 0, .int .i64 2000]) Try.func93 (by kernel_rfl) rfl (by kernel_rfl) rfl) (impl_full_2.calls k147 w158 H159 t52.2 g28 t156 g161 [] none 0 no 2000 h123 h162 (Row.nil _ _ _ _ no) (St.own' (Fa := [(is g28), no]) (Fr := [F116, F134]) S167) t168 u169) ?_
    rintro _ w170 ⟨A174, c175, F177, H171, rfl, h173, h176, T172⟩
    refine ⟨_, rfl, ?_⟩
    obtain ⟨S178, K179⟩ := St.call (Fa := [(is g28), no]) (Fr := [F116, F134]) S167 T172
    replace h118 := h118.move (K179.at 0 rfl)
    replace h135 := h135.move (K179.at 1 rfl)
    have E180 := T172.ext
    replace h118 := h118.ext E180
    replace h135 := h135.ext E180
    refine lv (d := 55) rfl rfl (by kernel_rfl) (e_move (v := .tuple #[.slice A174 t168.1.length c175, .bool t168.2]) (by kernel_rfl)) ?_
    refine lv (d := 61) rfl rfl (by kernel_rfl) (e_extract (vs := #[.slice A174 t168.1.length c175, .bool t168.2]) (v := .slice A174 t168.1.length c175) (by kernel_rfl) rfl) ?_
    refine lv (d := 62) rfl rfl (by kernel_rfl) (e_extract (vs := #[.slice A174 t168.1.length c175, .bool t168.2]) (v := .bool t168.2) (by kernel_rfl) rfl) ?_
    refine lv (d := 13) rfl rfl (by kernel_rfl) (e_assign (v := .slice A174 t168.1.length c175) (by kernel_rfl)) ?_
    refine lv (d := 14) rfl rfl (by kernel_rfl) (e_assign (v := .bool t168.2) (by kernel_rfl)) ?_
    refine wpList_nil ?_
    refine then_n ?_
    refine wp_seq ?_
    refine wp_seq ?_
    refine wp_region_lit ?_
    refine lv (d := 63) rfl rfl (by kernel_rfl) (e_move (v := .bool t168.2) (by kernel_rfl)) ?_
    refine lv (d := 64) rfl rfl (by kernel_rfl) (e_notv (c := t168.2) (by kernel_rfl)) ?_
    refine wpList_nil ?_
    refine then_n ?_
    by_cases q181 : ¬ (t168.2 = true)
    · replace M := ifp q181 M
      refine cond_t rfl (bt q181 (by kernel_rfl)) ?_
      refine wp_seq ?_
      refine wp_region_lit ?_
      refine lv (d := 4) rfl rfl (by kernel_rfl) (e_assign (v := .slice none 0 0) rfl) ?_
      refine lv (d := 5) rfl rfl (by kernel_rfl) (e_assign (v := .int .i64 3) rfl) ?_
      refine wpList_nil ?_
      refine then_n ?_
      refine wp_ret ?_
      refine then_r ?_
      refine inb_r ?_
      refine then_r ?_
      refine then_r ?_
      refine inb_r ?_
      refine then_r ?_
      obtain rfl := Option.some.inj M
      have S182 := S178.unit
      have S183 := St.first (Fa := [no]) (Fr := [(is g28), F177, F116, F134]) S182
      exact ret2 rfl rfl rfl (show _ = .slice none 0 0 from (by kernel_rfl)) (show _ = .int .i64 3 from (by kernel_rfl)) ⟨none, 0, no, H171, rfl, (Row.nil _ _ _ _ no), S183⟩
    replace M := ifn q181 M
    refine cond_f rfl (bf q181 (by kernel_rfl)) ?_
    refine wp_skip ?_
    refine then_n ?_
    refine wp_region_lit ?_
    refine lv (d := 65) rfl rfl (by kernel_rfl) (e_move (v := .slice A132 x131.length c133) (by exact e138)) ?_
    refine lv (d := 66) rfl rfl (by kernel_rfl) (e_move (v := .int .i64 ((skeys t52.2).getD ((x136).toNat) (0 : Int))) (by kernel_rfl)) ?_
    refine lv (d := 67) rfl rfl (by kernel_rfl) (e_move (v := .slice A174 t168.1.length c175) (by kernel_rfl)) ?_
    refine lv (d := 68) rfl rfl (by kernel_rfl) (show _ = Result.ok (Next.value (.agg #[.int .i64 ((skeys t52.2).getD ((x136).toNat) (0 : Int)), .slice A174 t168.1.length c175])) w170 from by kernel_rfl) ?_
    refine lve (d := 69) rfl rfl (by kernel_rfl) (new_blk (v := fun g_ => .slice (some ⟨g_, 0, none⟩) 1 1) (cs := #[.int .i64 ((skeys t52.2).getD ((x136).toNat) (0 : Int)), .slice A174 t168.1.length c175]) (t := 63) S178 (by kernel_rfl)) ?_
    rintro _ w184 ⟨g185, rfl, b186, S187, K188⟩
    replace h173 := h173.move (K188.at 0 rfl)
    replace h176 := h176.move (K188.at 1 rfl)
    replace h118 := h118.move (K188.at 2 rfl)
    replace h135 := h135.move (K188.at 3 rfl)
    obtain ⟨q189, M⟩ := chk M
    have S190 := S187.pull (F := F177) (Fr := [(is g185), (is g28), F116, F134]) 2 rfl rfl
    have S191 := S190.pull (F := F134) (Fr := [F177, (is g185), (is g28), F116]) 4 rfl rfl
    refine lve (d := 70) rfl rfl (by kernel_rfl) (e_append (d := st63) (n := x131.length) (xs := x131) (cap := c133) (A := A132) (ys := [(⟨((skeys t52.2).getD ((x136).toNat) (0 : Int)), t168.1⟩ : Binding)]) (A2 := (some ⟨g185, 0, none⟩)) (c2 := 1) (z := .agg #[.int .i64 0, .slice none 0 0]) (bytes := 32) S191 Try.underlying52 (by kernel_rfl) rfl (by decide) (by kernel_rfl) rfl (by kernel_rfl) h135 (elsO_one1 (st63_mkO (x := (⟨((skeys t52.2).getD ((x136).toNat) (0 : Int)), t168.1⟩ : Binding)) h176)) (.inr (blk_news b186 rfl)) (show (x131.length + [(⟨((skeys t52.2).getD ((x136).toNat) (0 : Int)), t168.1⟩ : Binding)].length) * 32 ≤ _ by first | omega | (simp only [List.length_cons, List.length_nil]; omega)) (by decide)) ?_
    rintro _ w192 ⟨A193, c194, F195, rfl, h196, S197, K198⟩
    replace b186 := K198.blk 0 rfl b186
    replace h173 := h173.move (K198.at 1 rfl)
    replace h118 := h118.move (K198.at 2 rfl)
    refine lv (d := 10) rfl rfl (by kernel_rfl) (e_assign (v := .slice A193 ((x131 ++ [(⟨((skeys t52.2).getD ((x136).toNat) (0 : Int)), t168.1⟩ : Binding)]).length) c194) (by kernel_rfl)) ?_
    refine wpList_nil ?_
    refine inb_n ?_
    refine then_n ?_
    refine wp_region_lit ?_
    refine lv (d := 71) rfl rfl (by kernel_rfl) (e_add (k := .i64) (a := x136) (b := 1) (by exact e141) rfl) ?_
    refine lv (d := 51) rfl rfl (by kernel_rfl) (e_move (v := .int .i64 (IntKind.i64.wrap (x136 + 1))) (by kernel_rfl)) ?_
    refine wpList_nil ?_
    refine then_n ?_
    have S199 := S197.pull (F := (is g28)) (Fr := [F195, (is g185), F116]) 2 rfl rfl
    have S200 := S199.pull (F := F116) (Fr := [(is g28), F195, (is g185)]) 3 rfl rfl
    have S201 := St.first (Fa := [F116, (is g28), F195]) (Fr := [(is g185)]) S200
    exact ⟨k147, (by omega), _, H171, (x131 ++ [(⟨((skeys t52.2).getD ((x136).toNat) (0 : Int)), t168.1⟩ : Binding)]), A193, c194, F195, (IntKind.i64.wrap (x136 + 1)), rfl, (by exact e137), (by kernel_rfl), (by exact e139), (by exact e140), (by kernel_rfl), h118, h173, h196, ((Y130.trans E165).trans E180), S201, M⟩
  replace M := ifn q151 M
  refine cond_f rfl (bf q151 (by kernel_rfl)) ?_
  refine wp_exit ?_
  refine then_e ?_
  refine then_e ?_
  refine inb_hit ?_
  refine then_n ?_
  refine wp_seq ?_
  refine wp_region_lit ?_
  refine lv (d := 72) rfl rfl (by kernel_rfl) (e_move (v := .slice A132 x131.length c133) (by exact e138)) ?_
  refine lv (d := 4) rfl rfl (by kernel_rfl) (e_assign (v := .slice A132 x131.length c133) (by kernel_rfl)) ?_
  refine lv (d := 5) rfl rfl (by kernel_rfl) (e_assign (v := .int .i64 0) rfl) ?_
  refine wpList_nil ?_
  refine then_n ?_
  refine wp_ret ?_
  obtain rfl := Option.some.inj M
  have S202 := S142.pull (F := F134) (Fr := [F116, (is g28)]) 2 rfl rfl
  have S203 := St.first (Fa := [F134]) (Fr := [F116, (is g28)]) S202
  exact ret2 rfl rfl rfl (show _ = .slice A132 x131.length c133 from (by kernel_rfl)) (show _ = .int .i64 0 from (by kernel_rfl)) ⟨A132, c133, F134, H129, rfl, h135, S203⟩

/-! laws_eqByteS -/
def laws_eqByteS.l0 : Nat → (List UInt8) → (List UInt8) → Int → Option Bool
  | 0, _, _, _ => none
  | k23 + 1, x1, x6, x14 => (if x14 < (x1.length : Int) then (if 0 ≤ x14 then (if x14 < (x6.length : Int) then (if ((x1.getD ((x14).toNat) (0 : UInt8)).toNat : Int) ≠ ((x6.getD ((x14).toNat) (0 : UInt8)).toNat : Int) then some false else (laws_eqByteS.l0 k23 x1 x6 (IntKind.i64.wrap (x14 + 1)))) else none) else none) else some true)
def laws_eqByteS.f (k : Nat) (x1 : List UInt8) (x6 : List UInt8) : Option Bool := (if (x1.length : Int) ≠ (x6.length : Int) then some false else (laws_eqByteS.l0 k x1 x6 0))
theorem laws_eqByteS.calls (k : Nat) (w : World) (H : Hp) (x1 : List UInt8) (A2 : Option Addr) (c3 : Nat) (x6 : List UInt8) (A7 : Option Addr) (c8 : Nat) (h4 : Rd tByte H A2 x1) (l5 : x1.length ≤ c3) (h9 : Rd tByte H A7 x6) (l10 : x6.length ≤ c8) (S : Own [] H w) (r : Bool) (M : laws_eqByteS.f k x1 x6 = some r) :
    Calls Try.prog 104 #[.slice A2 x1.length c3, .slice A7 x6.length c8] w (fun e e_w => e = .returned (.bool r) ∧ Chg no w e_w) := by
  rw [laws_eqByteS.f] at M
  refine enter (l := [.slice A2 x1.length c3, .slice A7 x6.length c8]) 26 Try.func104 rfl rfl rfl ?_
  have S0_ := S.st
  refine wp_seq ?_
  refine wp_region_lit ?_
  refine lv (d := 4) rfl rfl (by kernel_rfl) (e_assign (v := .bool false) rfl) ?_
  refine wpList_nil ?_
  refine then_n ?_
  refine wp_seq ?_
  refine wp_seq ?_
  refine wp_region_lit ?_
  refine lv (d := 6) rfl rfl (by kernel_rfl) (e_move (v := .slice A2 x1.length c3) (by kernel_rfl)) ?_
  refine lv (d := 7) rfl rfl (by kernel_rfl) (e_len (A := A2) (n := x1.length) (c := c3) Try.underlying59 (by kernel_rfl)) ?_
  refine lv (d := 8) rfl rfl (by kernel_rfl) (e_move (v := .slice A7 x6.length c8) (by kernel_rfl)) ?_
  refine lv (d := 9) rfl rfl (by kernel_rfl) (e_len (A := A7) (n := x6.length) (c := c8) Try.underlying59 (by kernel_rfl)) ?_
  refine lv (d := 10) rfl rfl (by kernel_rfl) (e_neq (k := .i64) (a := (x1.length : Int)) (b := (x6.length : Int)) (by kernel_rfl) (by kernel_rfl)) ?_
  refine wpList_nil ?_
  refine then_n ?_
  by_cases q11 : (x1.length : Int) ≠ (x6.length : Int)
  · replace M := ifp q11 M
    refine cond_t rfl (bt q11 (by kernel_rfl)) ?_
    refine wp_seq ?_
    refine wp_region_lit ?_
    refine lv (d := 4) rfl rfl (by kernel_rfl) (e_assign (v := .bool false) rfl) ?_
    refine wpList_nil ?_
    refine then_n ?_
    refine wp_ret ?_
    refine then_r ?_
    obtain rfl := Option.some.inj M
    exact ret1 rfl rfl  (show _ = .bool false from (by kernel_rfl)) ⟨rfl, S0_.chg⟩
  replace M := ifn q11 M
  refine cond_f rfl (bf q11 (by kernel_rfl)) ?_
  refine wp_skip ?_
  refine then_n ?_
  refine wp_seq ?_
  refine wp_seq ?_
  refine wp_region_lit ?_
  refine lv (d := 5) rfl rfl (by kernel_rfl) (e_assign (v := .int .i64 0) rfl) ?_
  refine wpList_nil ?_
  refine then_n ?_
  refine wp_block ?_
  refine wp_loop_g (fun k21 a22 w12 => ∃ (f13 : Nat → Value) (x14 : Int), a22 = mk 26 f13 ∧ f13 0 = .slice A2 x1.length c3 ∧ f13 1 = .slice A7 x6.length c8 ∧ f13 5 = .int .i64 x14 ∧ St (anyOf []) H w [] H w12 ∧ laws_eqByteS.l0 k21 x1 x6 x14 = some r) k ⟨_, 0, rfl, (by kernel_rfl), (by kernel_rfl), (by kernel_rfl), S0_, M⟩ ?_
  clear M
  rintro k21 a22 w12 ⟨f13, x14, rfl, e15, e16, e17, S18, M⟩
  rcases k21 with _ | k23
  · rw [laws_eqByteS.l0] at M
    cases M
  rw [laws_eqByteS.l0] at M
  refine wp_seq ?_
  refine wp_seq ?_
  refine wp_region_lit ?_
  refine lv (d := 11) rfl rfl (by kernel_rfl) (e_move (v := .int .i64 x14) (by exact e17)) ?_
  refine lv (d := 12) rfl rfl (by kernel_rfl) (e_move (v := .slice A2 x1.length c3) (by exact e15)) ?_
  refine lv (d := 13) rfl rfl (by kernel_rfl) (e_len (A := A2) (n := x1.length) (c := c3) Try.underlying59 (by kernel_rfl)) ?_
  refine lv (d := 14) rfl rfl (by kernel_rfl) (e_lss (k := .i64) (a := x14) (b := (x1.length : Int)) (by kernel_rfl) (by kernel_rfl)) ?_
  refine wpList_nil ?_
  refine then_n ?_
  by_cases q24 : x14 < (x1.length : Int)
  · replace M := ifp q24 M
    refine cond_t rfl (bt q24 (by kernel_rfl)) ?_
    refine wp_skip ?_
    refine then_n ?_
    refine wp_seq ?_
    refine wp_block ?_
    refine wp_seq ?_
    refine region_still (by kernel_rfl) (by kernel_rfl) S18 ?_
    intro w25 S26 K27
    refine sv (d := 17) rfl rfl (by kernel_rfl) (e_move (v := .slice A2 x1.length c3) (by exact e15)) ?_
    refine sv (d := 18) rfl rfl (by kernel_rfl) (e_move (v := .int .i64 x14) (by exact e17)) ?_
    obtain ⟨q28, M⟩ := chk M
    obtain ⟨b29, o30, e31⟩ := Rd.addr h4 (show (x14).toNat < x1.length by omega)
    obtain ⟨y32, r33, k34⟩ := Rd.at h4 e31 (getD_some (0 : UInt8) (show (x14).toNat < x1.length by omega))
    obtain rfl := r33
    refine sv (d := 19) rfl rfl (by kernel_rfl) (e_indexAddr (b := b29) (off := o30) (n := x1.length) (c := c3) (sz := 1) (i := x14) (k := .i64) Try.underlying59 e31 (by kernel_rfl) (by kernel_rfl) (by kernel_rfl) q28 q24) ?_
    refine sv (d := 20) rfl rfl (by kernel_rfl) (e_load1 (ad := ⟨b29, o30 + (x14 : Int).toNat * 1, none⟩) (v := .int .u8 ((x1.getD ((x14).toNat) (0 : UInt8)).toNat : Int)) Try.underlying5 rfl (by kernel_rfl) (hpx (S26.inv.cell (k34 0 _ rfl)))) ?_
    refine sv (d := 21) rfl rfl (by kernel_rfl) (e_move (v := .slice A7 x6.length c8) (by exact e16)) ?_
    refine sv (d := 22) rfl rfl (by kernel_rfl) (e_move (v := .int .i64 x14) (by exact e17)) ?_
    obtain ⟨q35, M⟩ := chk M
    obtain ⟨b36, o37, e38⟩ := Rd.addr h9 (show (x14).toNat < x6.length by omega)
    obtain ⟨y39, r40, k41⟩ := Rd.at h9 e38 (getD_some (0 : UInt8) (show (x14).toNat < x6.length by omega))
    obtain rfl := r40
    refine sv (d := 23) rfl rfl (by kernel_rfl) (e_indexAddr (b := b36) (off := o37) (n := x6.length) (c := c8) (sz := 1) (i := x14) (k := .i64) Try.underlying59 e38 (by kernel_rfl) (by kernel_rfl) (by kernel_rfl) q28 q35) ?_
    refine sv (d := 24) rfl rfl (by kernel_rfl) (e_load1 (ad := ⟨b36, o37 + (x14 : Int).toNat * 1, none⟩) (v := .int .u8 ((x6.getD ((x14).toNat) (0 : UInt8)).toNat : Int)) Try.underlying5 rfl (by kernel_rfl) (hpx (S26.inv.cell (k41 0 _ rfl)))) ?_
    refine sv (d := 25) rfl rfl (by kernel_rfl) (e_neq (k := .u8) (a := ((x1.getD ((x14).toNat) (0 : UInt8)).toNat : Int)) (b := ((x6.getD ((x14).toNat) (0 : UInt8)).toNat : Int)) (by kernel_rfl) (by kernel_rfl)) ?_
    refine wpStill_nil ?_
    refine then_n ?_
    by_cases q42 : ((x1.getD ((x14).toNat) (0 : UInt8)).toNat : Int) ≠ ((x6.getD ((x14).toNat) (0 : UInt8)).toNat : Int)
    · replace M := ifp q42 M
      refine cond_t rfl (bt q42 (by kernel_rfl)) ?_
      refine wp_seq ?_
      refine wp_region_lit ?_
      refine lv (d := 4) rfl rfl (by kernel_rfl) (e_assign (v := .bool false) rfl) ?_
      refine wpList_nil ?_
      refine then_n ?_
      refine wp_ret ?_
      refine inb_r ?_
      refine then_r ?_
      refine then_r ?_
      refine inb_r ?_
      refine then_r ?_
      obtain rfl := Option.some.inj M
      exact ret1 rfl rfl  (show _ = .bool false from (by kernel_rfl)) ⟨rfl, S26.chg⟩
    replace M := ifn q42 M
    refine cond_f rfl (bf q42 (by kernel_rfl)) ?_
    refine wp_skip ?_
    refine inb_n ?_
    refine then_n ?_
    refine wp_region_lit ?_
    refine lv (d := 15) rfl rfl (by kernel_rfl) (e_move (v := .int .i64 x14) (by exact e17)) ?_
    refine lv (d := 16) rfl rfl (by kernel_rfl) (e_add (k := .i64) (a := x14) (b := 1) (by kernel_rfl) rfl) ?_
    refine lv (d := 5) rfl rfl (by kernel_rfl) (e_assign (v := .int .i64 (IntKind.i64.wrap (x14 + 1))) (by kernel_rfl)) ?_
    refine wpList_nil ?_
    refine then_n ?_
    exact ⟨k23, (by omega), _, (IntKind.i64.wrap (x14 + 1)), rfl, (by exact e15), (by exact e16), (by kernel_rfl), S26, M⟩
  replace M := ifn q24 M
  refine cond_f rfl (bf q24 (by kernel_rfl)) ?_
  refine wp_exit ?_
  refine then_e ?_
  refine then_e ?_
  refine inb_hit ?_
  refine then_n ?_
  refine wp_seq ?_
  refine wp_region_lit ?_
  refine lv (d := 4) rfl rfl (by kernel_rfl) (e_assign (v := .bool true) rfl) ?_
  refine wpList_nil ?_
  refine then_n ?_
  refine wp_ret ?_
  obtain rfl := Option.some.inj M
  exact ret1 rfl rfl  (show _ = .bool true from (by kernel_rfl)) ⟨rfl, S18.chg⟩

/-! laws_eqCell -/
def laws_eqCell.f (k : Nat) (x1 : Cell) (x6 : Cell) : Option Bool := (if x1.kind ≠ x6.kind then some false else (if x1.n ≠ x6.n then some false else ((laws_eqByteS.f k x1.text x6.text).bind fun t23 => (if ¬ (t23 = true) then some false else some true))))
theorem laws_eqCell.calls (k : Nat) (w : World) (H : Hp) (x1 : Cell) (A2 : Option Addr) (c3 : Nat) (x6 : Cell) (A7 : Option Addr) (c8 : Nat) (h4 : Rd tByte H A2 x1.text) (l5 : x1.text.length ≤ c3) (h9 : Rd tByte H A7 x6.text) (l10 : x6.text.length ≤ c8) (S : Own [] H w) (r : Bool) (M : laws_eqCell.f k x1 x6 = some r) :
    Calls Try.prog 59 #[.agg #[.int .i64 x1.kind, .int .i64 x1.n, .slice A2 x1.text.length c3], .agg #[.int .i64 x6.kind, .int .i64 x6.n, .slice A7 x6.text.length c8]] w (fun e e_w => e = .returned (.bool r) ∧ Chg no w e_w) := by
  rw [laws_eqCell.f] at M
  refine enter (l := [.agg #[.int .i64 x1.kind, .int .i64 x1.n, .slice A2 x1.text.length c3], .agg #[.int .i64 x6.kind, .int .i64 x6.n, .slice A7 x6.text.length c8]]) 21 Try.func59 rfl rfl rfl ?_
  have S0_ := S.st
  refine wp_seq ?_
  refine wp_region_lit ?_
  refine lve (d := 2) rfl rfl (by kernel_rfl) (new_blk (v := fun g_ => .pointer (some ⟨g_, 0, none⟩)) (cs := #[.int .i64 x1.kind, .int .i64 x1.n, .slice A2 x1.text.length c3]) (t := 65) S0_ (by kernel_rfl)) ?_
  rintro _ w11 ⟨g12, rfl, b13, S14, K15⟩
  refine lve (d := 3) rfl rfl (by kernel_rfl) (new_blk (v := fun g_ => .pointer (some ⟨g_, 0, none⟩)) (cs := #[.int .i64 x6.kind, .int .i64 x6.n, .slice A7 x6.text.length c8]) (t := 65) S14 (by kernel_rfl)) ?_
  rintro _ w16 ⟨g17, rfl, b18, S19, K20⟩
  replace b13 := K20.blk 0 rfl b13
  refine lv (d := 4) rfl rfl (by kernel_rfl) (e_assign (v := .bool false) rfl) ?_
  refine wpList_nil ?_
  refine then_n ?_
  refine wp_seq ?_
  refine wp_seq ?_
  refine wp_region_lit ?_
  refine lv (d := 5) rfl rfl (by kernel_rfl) (e_fieldAddr (b := g12) (off := 0) (o := 0) Try.underlying65 rfl rfl (sz := 1) (by kernel_rfl) (by decide) (by kernel_rfl)) ?_
  refine lv (d := 6) rfl rfl (by kernel_rfl) (e_load1 (ad := ⟨g12, 0 + 0, none⟩) (v := .int .i64 x1.kind) Try.underlying3 rfl (by kernel_rfl) (blk_cell b13 rfl)) ?_
  refine lv (d := 7) rfl rfl (by kernel_rfl) (e_fieldAddr (b := g17) (off := 0) (o := 0) Try.underlying65 rfl rfl (sz := 1) (by kernel_rfl) (by decide) (by kernel_rfl)) ?_
  refine lv (d := 8) rfl rfl (by kernel_rfl) (e_load1 (ad := ⟨g17, 0 + 0, none⟩) (v := .int .i64 x6.kind) Try.underlying3 rfl (by kernel_rfl) (blk_cell b18 rfl)) ?_
  refine lv (d := 9) rfl rfl (by kernel_rfl) (e_neq (k := .i64) (a := x1.kind) (b := x6.kind) (by kernel_rfl) (by kernel_rfl)) ?_
  refine wpList_nil ?_
  refine then_n ?_
  by_cases q21 : x1.kind ≠ x6.kind
  · replace M := ifp q21 M
    refine cond_t rfl (bt q21 (by kernel_rfl)) ?_
    refine wp_seq ?_
    refine wp_region_lit ?_
    refine lv (d := 4) rfl rfl (by kernel_rfl) (e_assign (v := .bool false) rfl) ?_
    refine wpList_nil ?_
    refine then_n ?_
    refine wp_ret ?_
    refine then_r ?_
    obtain rfl := Option.some.inj M
    exact ret1 rfl rfl  (show _ = .bool false from (by kernel_rfl)) ⟨rfl, S19.chg⟩
  replace M := ifn q21 M
  refine cond_f rfl (bf q21 (by kernel_rfl)) ?_
  refine wp_skip ?_
  refine then_n ?_
  refine wp_seq ?_
  refine wp_seq ?_
  refine wp_region_lit ?_
  refine lv (d := 10) rfl rfl (by kernel_rfl) (e_fieldAddr (b := g12) (off := 0) (o := 1) Try.underlying65 rfl rfl (sz := 1) (by kernel_rfl) (by decide) (by kernel_rfl)) ?_
  refine lv (d := 11) rfl rfl (by kernel_rfl) (e_load1 (ad := ⟨g12, 0 + 1, none⟩) (v := .int .i64 x1.n) Try.underlying3 rfl (by kernel_rfl) (blk_cell b13 rfl)) ?_
  refine lv (d := 12) rfl rfl (by kernel_rfl) (e_fieldAddr (b := g17) (off := 0) (o := 1) Try.underlying65 rfl rfl (sz := 1) (by kernel_rfl) (by decide) (by kernel_rfl)) ?_
  refine lv (d := 13) rfl rfl (by kernel_rfl) (e_load1 (ad := ⟨g17, 0 + 1, none⟩) (v := .int .i64 x6.n) Try.underlying3 rfl (by kernel_rfl) (blk_cell b18 rfl)) ?_
  refine lv (d := 14) rfl rfl (by kernel_rfl) (e_neq (k := .i64) (a := x1.n) (b := x6.n) (by kernel_rfl) (by kernel_rfl)) ?_
  refine wpList_nil ?_
  refine then_n ?_
  by_cases q22 : x1.n ≠ x6.n
  · replace M := ifp q22 M
    refine cond_t rfl (bt q22 (by kernel_rfl)) ?_
    refine wp_seq ?_
    refine wp_region_lit ?_
    refine lv (d := 4) rfl rfl (by kernel_rfl) (e_assign (v := .bool false) rfl) ?_
    refine wpList_nil ?_
    refine then_n ?_
    refine wp_ret ?_
    refine then_r ?_
    obtain rfl := Option.some.inj M
    exact ret1 rfl rfl  (show _ = .bool false from (by kernel_rfl)) ⟨rfl, S19.chg⟩
  replace M := ifn q22 M
  refine cond_f rfl (bf q22 (by kernel_rfl)) ?_
  refine wp_skip ?_
  refine then_n ?_
  refine wp_seq ?_
  refine wp_seq ?_
  refine wp_region_lit ?_
  refine lv (d := 15) rfl rfl (by kernel_rfl) (e_fieldAddr (b := g12) (off := 0) (o := 2) Try.underlying65 rfl rfl (sz := 1) (by kernel_rfl) (by decide) (by kernel_rfl)) ?_
  refine lv (d := 16) rfl rfl (by kernel_rfl) (e_load1 (ad := ⟨g12, 0 + 2, none⟩) (v := .slice A2 x1.text.length c3) Try.underlying59 rfl (by kernel_rfl) (blk_cell b13 rfl)) ?_
  refine lv (d := 17) rfl rfl (by kernel_rfl) (e_fieldAddr (b := g17) (off := 0) (o := 2) Try.underlying65 rfl rfl (sz := 1) (by kernel_rfl) (by decide) (by kernel_rfl)) ?_
  refine lv (d := 18) rfl rfl (by kernel_rfl) (e_load1 (ad := ⟨g17, 0 + 2, none⟩) (v := .slice A7 x6.text.length c8) Try.underlying59 rfl (by kernel_rfl) (blk_cell b18 rfl)) ?_
  obtain ⟨t23, u24, M⟩ := bnd M
  refine lcall (d := 19) rfl rfl (by kernel_rfl) (e_call (l := [.tmp 16, .tmp 18]) (vs := [.slice A2 x1.text.length c3, .slice A7 x6.text.length c8]) Try.func104 (by kernel_rfl) rfl (by kernel_rfl) rfl) (laws_eqByteS.calls k w16 H x1.text A2 c3 x6.text A7 c8 h4 l5 h9 l10 S19.own0 t23 u24) ?_
  rintro _ w25 ⟨rfl, C26⟩
  refine ⟨_, rfl, ?_⟩
  obtain ⟨S27, K28⟩ := S19.still C26
  replace b18 := K28.blk 0 rfl b18
  replace b13 := K28.blk 1 rfl b13
  refine lv (d := 20) rfl rfl (by kernel_rfl) (e_notv (c := t23) (by kernel_rfl)) ?_
  refine wpList_nil ?_
  refine then_n ?_
  by_cases q29 : ¬ (t23 = true)
  · replace M := ifp q29 M
    refine cond_t rfl (bt q29 (by kernel_rfl)) ?_
    refine wp_seq ?_
    refine wp_region_lit ?_
    refine lv (d := 4) rfl rfl (by kernel_rfl) (e_assign (v := .bool false) rfl) ?_
    refine wpList_nil ?_
    refine then_n ?_
    refine wp_ret ?_
    refine then_r ?_
    obtain rfl := Option.some.inj M
    exact ret1 rfl rfl  (show _ = .bool false from (by kernel_rfl)) ⟨rfl, S27.chg⟩
  replace M := ifn q29 M
  refine cond_f rfl (bf q29 (by kernel_rfl)) ?_
  refine wp_skip ?_
  refine then_n ?_
  refine wp_seq ?_
  refine wp_region_lit ?_
  refine lv (d := 4) rfl rfl (by kernel_rfl) (e_assign (v := .bool true) rfl) ?_
  refine wpList_nil ?_
  refine then_n ?_
  refine wp_ret ?_
  obtain rfl := Option.some.inj M
  exact ret1 rfl rfl  (show _ = .bool true from (by kernel_rfl)) ⟨rfl, S27.chg⟩

/-! laws_eqCellS -/
def laws_eqCellS.l0 : Nat → (List Cell) → (List Cell) → Int → Option Bool
  | 0, _, _, _ => none
  | k23 + 1, x1, x6, x14 => (if x14 < (x1.length : Int) then (if 0 ≤ x14 then (if x14 < (x6.length : Int) then ((laws_eqCell.f k23 (x1.getD ((x14).toNat) z65) (x6.getD ((x14).toNat) z65)).bind fun t47 => (if ¬ (t47 = true) then some false else (laws_eqCellS.l0 k23 x1 x6 (IntKind.i64.wrap (x14 + 1))))) else none) else none) else some true)
def laws_eqCellS.f (k : Nat) (x1 : List Cell) (x6 : List Cell) : Option Bool := (if (x1.length : Int) ≠ (x6.length : Int) then some false else (laws_eqCellS.l0 k x1 x6 0))
theorem laws_eqCellS.calls (k : Nat) (w : World) (H : Hp) (x1 : List Cell) (A2 : Option Addr) (c3 : Nat) (x6 : List Cell) (A7 : Option Addr) (c8 : Nat) (h4 : Rd st65 H A2 x1) (l5 : x1.length ≤ c3) (h9 : Rd st65 H A7 x6) (l10 : x6.length ≤ c8) (S : Own [] H w) (r : Bool) (M : laws_eqCellS.f k x1 x6 = some r) :
    Calls Try.prog 18 #[.slice A2 x1.length c3, .slice A7 x6.length c8] w (fun e e_w => e = .returned (.bool r) ∧ Chg no w e_w) := by
  rw [laws_eqCellS.f] at M
  refine enter (l := [.slice A2 x1.length c3, .slice A7 x6.length c8]) 27 Try.func18 rfl rfl rfl ?_
  have S0_ := S.st
  refine wp_seq ?_
  refine wp_region_lit ?_
  refine lv (d := 4) rfl rfl (by kernel_rfl) (e_assign (v := .bool false) rfl) ?_
  refine wpList_nil ?_
  refine then_n ?_
  refine wp_seq ?_
  refine wp_seq ?_
  refine wp_region_lit ?_
  refine lv (d := 6) rfl rfl (by kernel_rfl) (e_move (v := .slice A2 x1.length c3) (by kernel_rfl)) ?_
  refine lv (d := 7) rfl rfl (by kernel_rfl) (e_len (A := A2) (n := x1.length) (c := c3) Try.underlying25 (by kernel_rfl)) ?_
  refine lv (d := 8) rfl rfl (by kernel_rfl) (e_move (v := .slice A7 x6.length c8) (by kernel_rfl)) ?_
  refine lv (d := 9) rfl rfl (by kernel_rfl) (e_len (A := A7) (n := x6.length) (c := c8) Try.underlying25 (by kernel_rfl)) ?_
  refine lv (d := 10) rfl rfl (by kernel_rfl) (e_neq (k := .i64) (a := (x1.length : Int)) (b := (x6.length : Int)) (by kernel_rfl) (by kernel_rfl)) ?_
  refine wpList_nil ?_
  refine then_n ?_
  by_cases q11 : (x1.length : Int) ≠ (x6.length : Int)
  · replace M := ifp q11 M
    refine cond_t rfl (bt q11 (by kernel_rfl)) ?_
    refine wp_seq ?_
    refine wp_region_lit ?_
    refine lv (d := 4) rfl rfl (by kernel_rfl) (e_assign (v := .bool false) rfl) ?_
    refine wpList_nil ?_
    refine then_n ?_
    refine wp_ret ?_
    refine then_r ?_
    obtain rfl := Option.some.inj M
    exact ret1 rfl rfl  (show _ = .bool false from (by kernel_rfl)) ⟨rfl, S0_.chg⟩
  replace M := ifn q11 M
  refine cond_f rfl (bf q11 (by kernel_rfl)) ?_
  refine wp_skip ?_
  refine then_n ?_
  refine wp_seq ?_
  refine wp_seq ?_
  refine wp_region_lit ?_
  refine lv (d := 5) rfl rfl (by kernel_rfl) (e_assign (v := .int .i64 0) rfl) ?_
  refine wpList_nil ?_
  refine then_n ?_
  refine wp_block ?_
  refine wp_loop_g (fun k21 a22 w12 => ∃ (f13 : Nat → Value) (x14 : Int), a22 = mk 27 f13 ∧ f13 0 = .slice A2 x1.length c3 ∧ f13 1 = .slice A7 x6.length c8 ∧ f13 5 = .int .i64 x14 ∧ St (anyOf []) H w [] H w12 ∧ laws_eqCellS.l0 k21 x1 x6 x14 = some r) k ⟨_, 0, rfl, (by kernel_rfl), (by kernel_rfl), (by kernel_rfl), S0_, M⟩ ?_
  clear M
  rintro k21 a22 w12 ⟨f13, x14, rfl, e15, e16, e17, S18, M⟩
  rcases k21 with _ | k23
  · rw [laws_eqCellS.l0] at M
    cases M
  rw [laws_eqCellS.l0] at M
  refine wp_seq ?_
  refine wp_seq ?_
  refine wp_region_lit ?_
  refine lv (d := 11) rfl rfl (by kernel_rfl) (e_move (v := .int .i64 x14) (by exact e17)) ?_
  refine lv (d := 12) rfl rfl (by kernel_rfl) (e_move (v := .slice A2 x1.length c3) (by exact e15)) ?_
  refine lv (d := 13) rfl rfl (by kernel_rfl) (e_len (A := A2) (n := x1.length) (c := c3) Try.underlying25 (by kernel_rfl)) ?_
  refine lv (d := 14) rfl rfl (by kernel_rfl) (e_lss (k := .i64) (a := x14) (b := (x1.length : Int)) (by kernel_rfl) (by kernel_rfl)) ?_
  refine wpList_nil ?_
  refine then_n ?_
  by_cases q24 : x14 < (x1.length : Int)
  · replace M := ifp q24 M
    refine cond_t rfl (bt q24 (by kernel_rfl)) ?_
    refine wp_skip ?_
    refine then_n ?_
    refine wp_seq ?_
    refine wp_block ?_
    refine wp_seq ?_
    refine region_quiet (by kernel_rfl) (by kernel_rfl) ?_
    refine qv (d := 17) rfl rfl (by kernel_rfl) (fun wq_ hq_ => e_move (v := .slice A2 x1.length c3) (by exact e15)) ?_
    refine qv (d := 18) rfl rfl (by kernel_rfl) (fun wq_ hq_ => e_move (v := .int .i64 x14) (by exact e17)) ?_
    obtain ⟨q25, M⟩ := chk M
    obtain ⟨b26, o27, e28⟩ := Rd.addr h4 (show (x14).toNat < x1.length by omega)
    obtain ⟨y29, r30, k31⟩ := Rd.at h4 e28 (getD_some z65 (show (x14).toNat < x1.length by omega))
    obtain ⟨A32, c33, rfl, l34, h35⟩ := st65_open r30
    refine qv (d := 19) rfl rfl (by kernel_rfl) (fun wq_ hq_ => e_indexAddr (b := b26) (off := o27) (n := x1.length) (c := c3) (sz := 3) (i := x14) (k := .i64) Try.underlying25 e28 (by kernel_rfl) (by kernel_rfl) (by kernel_rfl) q25 q24) ?_
    refine qv (d := 20) rfl rfl (by kernel_rfl) (fun wq_ hq_ => e_loadS (b := b26) (off := o27 + (x14 : Int).toNat * 3) (cs := [.int .i64 ((x1.getD ((x14).toNat) z65).kind), .int .i64 ((x1.getD ((x14).toNat) z65).n), .slice A32 ((x1.getD ((x14).toNat) z65).text).length c33]) Try.underlying65 rfl (by kernel_rfl) (by kernel_rfl) (fun j_ u_ e_ => (hpx ((S18.still hq_).1.inv.cell (k31 j_ u_ e_))))) ?_
    refine qv (d := 21) rfl rfl (by kernel_rfl) (fun wq_ hq_ => e_move (v := .slice A7 x6.length c8) (by exact e16)) ?_
    refine qv (d := 22) rfl rfl (by kernel_rfl) (fun wq_ hq_ => e_move (v := .int .i64 x14) (by exact e17)) ?_
    obtain ⟨q36, M⟩ := chk M
    obtain ⟨b37, o38, e39⟩ := Rd.addr h9 (show (x14).toNat < x6.length by omega)
    obtain ⟨y40, r41, k42⟩ := Rd.at h9 e39 (getD_some z65 (show (x14).toNat < x6.length by omega))
    obtain ⟨A43, c44, rfl, l45, h46⟩ := st65_open r41
    refine qv (d := 23) rfl rfl (by kernel_rfl) (fun wq_ hq_ => e_indexAddr (b := b37) (off := o38) (n := x6.length) (c := c8) (sz := 3) (i := x14) (k := .i64) Try.underlying25 e39 (by kernel_rfl) (by kernel_rfl) (by kernel_rfl) q25 q36) ?_
    refine qv (d := 24) rfl rfl (by kernel_rfl) (fun wq_ hq_ => e_loadS (b := b37) (off := o38 + (x14 : Int).toNat * 3) (cs := [.int .i64 ((x6.getD ((x14).toNat) z65).kind), .int .i64 ((x6.getD ((x14).toNat) z65).n), .slice A43 ((x6.getD ((x14).toNat) z65).text).length c44]) Try.underlying65 rfl (by kernel_rfl) (by kernel_rfl) (fun j_ u_ e_ => (hpx ((S18.still hq_).1.inv.cell (k42 j_ u_ e_))))) ?_
    obtain ⟨t47, u48, M⟩ := bnd M
    refine qcall (v := .bool t47) (d := 25) rfl rfl (by kernel_rfl) (fun w_ => e_call (l := [.tmp 20, .tmp 24]) (vs := [.agg #[.int .i64 ((x1.getD ((x14).toNat) z65).kind), .int .i64 ((x1.getD ((x14).toNat) z65).n), .slice A32 ((x1.getD ((x14).toNat) z65).text).length c33], .agg #[.int .i64 ((x6.getD ((x14).toNat) z65).kind), .int .i64 ((x6.getD ((x14).toNat) z65).n), .slice A43 ((x6.getD ((x14).toNat) z65).text).length c44]]) Try.func59 (by kernel_rfl) rfl (by kernel_rfl) rfl) (fun wq_ hq_ => (by obtain ⟨S_, K_⟩ := S18.still hq_; exact (laws_eqCell.calls k23 wq_ H (x1.getD ((x14).toNat) z65) A32 c33 (x6.getD ((x14).toNat) z65) A43 c44 h35 l34 h46 l45 S_.own0 t47 u48))) ?_
    refine qv (d := 26) rfl rfl (by kernel_rfl) (fun wq_ hq_ => e_notv (c := t47) (by kernel_rfl)) ?_
    refine wpQuiet_nil ?_
    intro w49 C52
    obtain ⟨S50, K51⟩ := S18.still C52
    refine then_n ?_
    by_cases q53 : ¬ (t47 = true)
    · replace M := ifp q53 M
      refine cond_t rfl (bt q53 (by kernel_rfl)) ?_
      refine wp_seq ?_
      refine wp_region_lit ?_
      refine lv (d := 4) rfl rfl (by kernel_rfl) (e_assign (v := .bool false) rfl) ?_
      refine wpList_nil ?_
      refine then_n ?_
      refine wp_ret ?_
      refine inb_r ?_
      refine then_r ?_
      refine then_r ?_
      refine inb_r ?_
      refine then_r ?_
      obtain rfl := Option.some.inj M
      exact ret1 rfl rfl  (show _ = .bool false from (by kernel_rfl)) ⟨rfl, S50.chg⟩
    replace M := ifn q53 M
    refine cond_f rfl (bf q53 (by kernel_rfl)) ?_
    refine wp_skip ?_
    refine inb_n ?_
    refine then_n ?_
    refine wp_region_lit ?_
    refine lv (d := 15) rfl rfl (by kernel_rfl) (e_move (v := .int .i64 x14) (by exact e17)) ?_
    refine lv (d := 16) rfl rfl (by kernel_rfl) (e_add (k := .i64) (a := x14) (b := 1) (by kernel_rfl) rfl) ?_
    refine lv (d := 5) rfl rfl (by kernel_rfl) (e_assign (v := .int .i64 (IntKind.i64.wrap (x14 + 1))) (by kernel_rfl)) ?_
    refine wpList_nil ?_
    refine then_n ?_
    exact ⟨k23, (by omega), _, (IntKind.i64.wrap (x14 + 1)), rfl, (by exact e15), (by exact e16), (by kernel_rfl), S50, M⟩
  replace M := ifn q24 M
  refine cond_f rfl (bf q24 (by kernel_rfl)) ?_
  refine wp_exit ?_
  refine then_e ?_
  refine then_e ?_
  refine inb_hit ?_
  refine then_n ?_
  refine wp_seq ?_
  refine wp_region_lit ?_
  refine lv (d := 4) rfl rfl (by kernel_rfl) (e_assign (v := .bool true) rfl) ?_
  refine wpList_nil ?_
  refine then_n ?_
  refine wp_ret ?_
  obtain rfl := Option.some.inj M
  exact ret1 rfl rfl  (show _ = .bool true from (by kernel_rfl)) ⟨rfl, S18.chg⟩

/-! laws_eqBinding -/
def laws_eqBinding.f (k : Nat) (x1 : Binding) (x6 : Binding) : Option Bool := (if x1.var ≠ x6.var then some false else ((laws_eqCellS.f k x1.term x6.term).bind fun t22 => (if ¬ (t22 = true) then some false else some true)))
theorem laws_eqBinding.calls (k : Nat) (w : World) (H : Hp) (x1 : Binding) (A2 : Option Addr) (c3 : Nat) (x6 : Binding) (A7 : Option Addr) (c8 : Nat) (h4 : Rd st65 H A2 x1.term) (l5 : x1.term.length ≤ c3) (h9 : Rd st65 H A7 x6.term) (l10 : x6.term.length ≤ c8) (S : Own [] H w) (r : Bool) (M : laws_eqBinding.f k x1 x6 = some r) :
    Calls Try.prog 88 #[.agg #[.int .i64 x1.var, .slice A2 x1.term.length c3], .agg #[.int .i64 x6.var, .slice A7 x6.term.length c8]] w (fun e e_w => e = .returned (.bool r) ∧ Chg no w e_w) := by
  rw [laws_eqBinding.f] at M
  refine enter (l := [.agg #[.int .i64 x1.var, .slice A2 x1.term.length c3], .agg #[.int .i64 x6.var, .slice A7 x6.term.length c8]]) 16 Try.func88 rfl rfl rfl ?_
  have S0_ := S.st
  refine wp_seq ?_
  refine wp_region_lit ?_
  refine lve (d := 2) rfl rfl (by kernel_rfl) (new_blk (v := fun g_ => .pointer (some ⟨g_, 0, none⟩)) (cs := #[.int .i64 x1.var, .slice A2 x1.term.length c3]) (t := 63) S0_ (by kernel_rfl)) ?_
  rintro _ w11 ⟨g12, rfl, b13, S14, K15⟩
  refine lve (d := 3) rfl rfl (by kernel_rfl) (new_blk (v := fun g_ => .pointer (some ⟨g_, 0, none⟩)) (cs := #[.int .i64 x6.var, .slice A7 x6.term.length c8]) (t := 63) S14 (by kernel_rfl)) ?_
  rintro _ w16 ⟨g17, rfl, b18, S19, K20⟩
  replace b13 := K20.blk 0 rfl b13
  refine lv (d := 4) rfl rfl (by kernel_rfl) (e_assign (v := .bool false) rfl) ?_
  refine wpList_nil ?_
  refine then_n ?_
  refine wp_seq ?_
  refine wp_seq ?_
  refine wp_region_lit ?_
  refine lv (d := 5) rfl rfl (by kernel_rfl) (e_fieldAddr (b := g12) (off := 0) (o := 0) Try.underlying63 rfl rfl (sz := 1) (by kernel_rfl) (by decide) (by kernel_rfl)) ?_
  refine lv (d := 6) rfl rfl (by kernel_rfl) (e_load1 (ad := ⟨g12, 0 + 0, none⟩) (v := .int .i64 x1.var) Try.underlying3 rfl (by kernel_rfl) (blk_cell b13 rfl)) ?_
  refine lv (d := 7) rfl rfl (by kernel_rfl) (e_fieldAddr (b := g17) (off := 0) (o := 0) Try.underlying63 rfl rfl (sz := 1) (by kernel_rfl) (by decide) (by kernel_rfl)) ?_
  refine lv (d := 8) rfl rfl (by kernel_rfl) (e_load1 (ad := ⟨g17, 0 + 0, none⟩) (v := .int .i64 x6.var) Try.underlying3 rfl (by kernel_rfl) (blk_cell b18 rfl)) ?_
  refine lv (d := 9) rfl rfl (by kernel_rfl) (e_neq (k := .i64) (a := x1.var) (b := x6.var) (by kernel_rfl) (by kernel_rfl)) ?_
  refine wpList_nil ?_
  refine then_n ?_
  by_cases q21 : x1.var ≠ x6.var
  · replace M := ifp q21 M
    refine cond_t rfl (bt q21 (by kernel_rfl)) ?_
    refine wp_seq ?_
    refine wp_region_lit ?_
    refine lv (d := 4) rfl rfl (by kernel_rfl) (e_assign (v := .bool false) rfl) ?_
    refine wpList_nil ?_
    refine then_n ?_
    refine wp_ret ?_
    refine then_r ?_
    obtain rfl := Option.some.inj M
    exact ret1 rfl rfl  (show _ = .bool false from (by kernel_rfl)) ⟨rfl, S19.chg⟩
  replace M := ifn q21 M
  refine cond_f rfl (bf q21 (by kernel_rfl)) ?_
  refine wp_skip ?_
  refine then_n ?_
  refine wp_seq ?_
  refine wp_seq ?_
  refine wp_region_lit ?_
  refine lv (d := 10) rfl rfl (by kernel_rfl) (e_fieldAddr (b := g12) (off := 0) (o := 1) Try.underlying63 rfl rfl (sz := 1) (by kernel_rfl) (by decide) (by kernel_rfl)) ?_
  refine lv (d := 11) rfl rfl (by kernel_rfl) (e_load1 (ad := ⟨g12, 0 + 1, none⟩) (v := .slice A2 x1.term.length c3) Try.underlying25 rfl (by kernel_rfl) (blk_cell b13 rfl)) ?_
  refine lv (d := 12) rfl rfl (by kernel_rfl) (e_fieldAddr (b := g17) (off := 0) (o := 1) Try.underlying63 rfl rfl (sz := 1) (by kernel_rfl) (by decide) (by kernel_rfl)) ?_
  refine lv (d := 13) rfl rfl (by kernel_rfl) (e_load1 (ad := ⟨g17, 0 + 1, none⟩) (v := .slice A7 x6.term.length c8) Try.underlying25 rfl (by kernel_rfl) (blk_cell b18 rfl)) ?_
  obtain ⟨t22, u23, M⟩ := bnd M
  refine lcall (d := 14) rfl rfl (by kernel_rfl) (e_call (l := [.tmp 11, .tmp 13]) (vs := [.slice A2 x1.term.length c3, .slice A7 x6.term.length c8]) Try.func18 (by kernel_rfl) rfl (by kernel_rfl) rfl) (laws_eqCellS.calls k w16 H x1.term A2 c3 x6.term A7 c8 h4 l5 h9 l10 S19.own0 t22 u23) ?_
  rintro _ w24 ⟨rfl, C25⟩
  refine ⟨_, rfl, ?_⟩
  obtain ⟨S26, K27⟩ := S19.still C25
  replace b18 := K27.blk 0 rfl b18
  replace b13 := K27.blk 1 rfl b13
  refine lv (d := 15) rfl rfl (by kernel_rfl) (e_notv (c := t22) (by kernel_rfl)) ?_
  refine wpList_nil ?_
  refine then_n ?_
  by_cases q28 : ¬ (t22 = true)
  · replace M := ifp q28 M
    refine cond_t rfl (bt q28 (by kernel_rfl)) ?_
    refine wp_seq ?_
    refine wp_region_lit ?_
    refine lv (d := 4) rfl rfl (by kernel_rfl) (e_assign (v := .bool false) rfl) ?_
    refine wpList_nil ?_
    refine then_n ?_
    refine wp_ret ?_
    refine then_r ?_
    obtain rfl := Option.some.inj M
    exact ret1 rfl rfl  (show _ = .bool false from (by kernel_rfl)) ⟨rfl, S26.chg⟩
  replace M := ifn q28 M
  refine cond_f rfl (bf q28 (by kernel_rfl)) ?_
  refine wp_skip ?_
  refine then_n ?_
  refine wp_seq ?_
  refine wp_region_lit ?_
  refine lv (d := 4) rfl rfl (by kernel_rfl) (e_assign (v := .bool true) rfl) ?_
  refine wpList_nil ?_
  refine then_n ?_
  refine wp_ret ?_
  obtain rfl := Option.some.inj M
  exact ret1 rfl rfl  (show _ = .bool true from (by kernel_rfl)) ⟨rfl, S26.chg⟩

/-! laws_eqBindingS -/
def laws_eqBindingS.l0 : Nat → (List Binding) → (List Binding) → Int → Option Bool
  | 0, _, _, _ => none
  | k23 + 1, x1, x6, x14 => (if x14 < (x1.length : Int) then (if 0 ≤ x14 then (if x14 < (x6.length : Int) then ((laws_eqBinding.f k23 (x1.getD ((x14).toNat) z63) (x6.getD ((x14).toNat) z63)).bind fun t47 => (if ¬ (t47 = true) then some false else (laws_eqBindingS.l0 k23 x1 x6 (IntKind.i64.wrap (x14 + 1))))) else none) else none) else some true)
def laws_eqBindingS.f (k : Nat) (x1 : List Binding) (x6 : List Binding) : Option Bool := (if (x1.length : Int) ≠ (x6.length : Int) then some false else (laws_eqBindingS.l0 k x1 x6 0))
theorem laws_eqBindingS.calls (k : Nat) (w : World) (H : Hp) (x1 : List Binding) (A2 : Option Addr) (c3 : Nat) (x6 : List Binding) (A7 : Option Addr) (c8 : Nat) (h4 : Rd st63 H A2 x1) (l5 : x1.length ≤ c3) (h9 : Rd st63 H A7 x6) (l10 : x6.length ≤ c8) (S : Own [] H w) (r : Bool) (M : laws_eqBindingS.f k x1 x6 = some r) :
    Calls Try.prog 47 #[.slice A2 x1.length c3, .slice A7 x6.length c8] w (fun e e_w => e = .returned (.bool r) ∧ Chg no w e_w) := by
  rw [laws_eqBindingS.f] at M
  refine enter (l := [.slice A2 x1.length c3, .slice A7 x6.length c8]) 27 Try.func47 rfl rfl rfl ?_
  have S0_ := S.st
  refine wp_seq ?_
  refine wp_region_lit ?_
  refine lv (d := 4) rfl rfl (by kernel_rfl) (e_assign (v := .bool false) rfl) ?_
  refine wpList_nil ?_
  refine then_n ?_
  refine wp_seq ?_
  refine wp_seq ?_
  refine wp_region_lit ?_
  refine lv (d := 6) rfl rfl (by kernel_rfl) (e_move (v := .slice A2 x1.length c3) (by kernel_rfl)) ?_
  refine lv (d := 7) rfl rfl (by kernel_rfl) (e_len (A := A2) (n := x1.length) (c := c3) Try.underlying52 (by kernel_rfl)) ?_
  refine lv (d := 8) rfl rfl (by kernel_rfl) (e_move (v := .slice A7 x6.length c8) (by kernel_rfl)) ?_
  refine lv (d := 9) rfl rfl (by kernel_rfl) (e_len (A := A7) (n := x6.length) (c := c8) Try.underlying52 (by kernel_rfl)) ?_
  refine lv (d := 10) rfl rfl (by kernel_rfl) (e_neq (k := .i64) (a := (x1.length : Int)) (b := (x6.length : Int)) (by kernel_rfl) (by kernel_rfl)) ?_
  refine wpList_nil ?_
  refine then_n ?_
  by_cases q11 : (x1.length : Int) ≠ (x6.length : Int)
  · replace M := ifp q11 M
    refine cond_t rfl (bt q11 (by kernel_rfl)) ?_
    refine wp_seq ?_
    refine wp_region_lit ?_
    refine lv (d := 4) rfl rfl (by kernel_rfl) (e_assign (v := .bool false) rfl) ?_
    refine wpList_nil ?_
    refine then_n ?_
    refine wp_ret ?_
    refine then_r ?_
    obtain rfl := Option.some.inj M
    exact ret1 rfl rfl  (show _ = .bool false from (by kernel_rfl)) ⟨rfl, S0_.chg⟩
  replace M := ifn q11 M
  refine cond_f rfl (bf q11 (by kernel_rfl)) ?_
  refine wp_skip ?_
  refine then_n ?_
  refine wp_seq ?_
  refine wp_seq ?_
  refine wp_region_lit ?_
  refine lv (d := 5) rfl rfl (by kernel_rfl) (e_assign (v := .int .i64 0) rfl) ?_
  refine wpList_nil ?_
  refine then_n ?_
  refine wp_block ?_
  refine wp_loop_g (fun k21 a22 w12 => ∃ (f13 : Nat → Value) (x14 : Int), a22 = mk 27 f13 ∧ f13 0 = .slice A2 x1.length c3 ∧ f13 1 = .slice A7 x6.length c8 ∧ f13 5 = .int .i64 x14 ∧ St (anyOf []) H w [] H w12 ∧ laws_eqBindingS.l0 k21 x1 x6 x14 = some r) k ⟨_, 0, rfl, (by kernel_rfl), (by kernel_rfl), (by kernel_rfl), S0_, M⟩ ?_
  clear M
  rintro k21 a22 w12 ⟨f13, x14, rfl, e15, e16, e17, S18, M⟩
  rcases k21 with _ | k23
  · rw [laws_eqBindingS.l0] at M
    cases M
  rw [laws_eqBindingS.l0] at M
  refine wp_seq ?_
  refine wp_seq ?_
  refine wp_region_lit ?_
  refine lv (d := 11) rfl rfl (by kernel_rfl) (e_move (v := .int .i64 x14) (by exact e17)) ?_
  refine lv (d := 12) rfl rfl (by kernel_rfl) (e_move (v := .slice A2 x1.length c3) (by exact e15)) ?_
  refine lv (d := 13) rfl rfl (by kernel_rfl) (e_len (A := A2) (n := x1.length) (c := c3) Try.underlying52 (by kernel_rfl)) ?_
  refine lv (d := 14) rfl rfl (by kernel_rfl) (e_lss (k := .i64) (a := x14) (b := (x1.length : Int)) (by kernel_rfl) (by kernel_rfl)) ?_
  refine wpList_nil ?_
  refine then_n ?_
  by_cases q24 : x14 < (x1.length : Int)
  · replace M := ifp q24 M
    refine cond_t rfl (bt q24 (by kernel_rfl)) ?_
    refine wp_skip ?_
    refine then_n ?_
    refine wp_seq ?_
    refine wp_block ?_
    refine wp_seq ?_
    refine region_quiet (by kernel_rfl) (by kernel_rfl) ?_
    refine qv (d := 17) rfl rfl (by kernel_rfl) (fun wq_ hq_ => e_move (v := .slice A2 x1.length c3) (by exact e15)) ?_
    refine qv (d := 18) rfl rfl (by kernel_rfl) (fun wq_ hq_ => e_move (v := .int .i64 x14) (by exact e17)) ?_
    obtain ⟨q25, M⟩ := chk M
    obtain ⟨b26, o27, e28⟩ := Rd.addr h4 (show (x14).toNat < x1.length by omega)
    obtain ⟨y29, r30, k31⟩ := Rd.at h4 e28 (getD_some z63 (show (x14).toNat < x1.length by omega))
    obtain ⟨A32, c33, rfl, l34, h35⟩ := st63_open r30
    refine qv (d := 19) rfl rfl (by kernel_rfl) (fun wq_ hq_ => e_indexAddr (b := b26) (off := o27) (n := x1.length) (c := c3) (sz := 2) (i := x14) (k := .i64) Try.underlying52 e28 (by kernel_rfl) (by kernel_rfl) (by kernel_rfl) q25 q24) ?_
    refine qv (d := 20) rfl rfl (by kernel_rfl) (fun wq_ hq_ => e_loadS (b := b26) (off := o27 + (x14 : Int).toNat * 2) (cs := [.int .i64 ((x1.getD ((x14).toNat) z63).var), .slice A32 ((x1.getD ((x14).toNat) z63).term).length c33]) Try.underlying63 rfl (by kernel_rfl) (by kernel_rfl) (fun j_ u_ e_ => (hpx ((S18.still hq_).1.inv.cell (k31 j_ u_ e_))))) ?_
    refine qv (d := 21) rfl rfl (by kernel_rfl) (fun wq_ hq_ => e_move (v := .slice A7 x6.length c8) (by exact e16)) ?_
    refine qv (d := 22) rfl rfl (by kernel_rfl) (fun wq_ hq_ => e_move (v := .int .i64 x14) (by exact e17)) ?_
    obtain ⟨q36, M⟩ := chk M
    obtain ⟨b37, o38, e39⟩ := Rd.addr h9 (show (x14).toNat < x6.length by omega)
    obtain ⟨y40, r41, k42⟩ := Rd.at h9 e39 (getD_some z63 (show (x14).toNat < x6.length by omega))
    obtain ⟨A43, c44, rfl, l45, h46⟩ := st63_open r41
    refine qv (d := 23) rfl rfl (by kernel_rfl) (fun wq_ hq_ => e_indexAddr (b := b37) (off := o38) (n := x6.length) (c := c8) (sz := 2) (i := x14) (k := .i64) Try.underlying52 e39 (by kernel_rfl) (by kernel_rfl) (by kernel_rfl) q25 q36) ?_
    refine qv (d := 24) rfl rfl (by kernel_rfl) (fun wq_ hq_ => e_loadS (b := b37) (off := o38 + (x14 : Int).toNat * 2) (cs := [.int .i64 ((x6.getD ((x14).toNat) z63).var), .slice A43 ((x6.getD ((x14).toNat) z63).term).length c44]) Try.underlying63 rfl (by kernel_rfl) (by kernel_rfl) (fun j_ u_ e_ => (hpx ((S18.still hq_).1.inv.cell (k42 j_ u_ e_))))) ?_
    obtain ⟨t47, u48, M⟩ := bnd M
    refine qcall (v := .bool t47) (d := 25) rfl rfl (by kernel_rfl) (fun w_ => e_call (l := [.tmp 20, .tmp 24]) (vs := [.agg #[.int .i64 ((x1.getD ((x14).toNat) z63).var), .slice A32 ((x1.getD ((x14).toNat) z63).term).length c33], .agg #[.int .i64 ((x6.getD ((x14).toNat) z63).var), .slice A43 ((x6.getD ((x14).toNat) z63).term).length c44]]) Try.func88 (by kernel_rfl) rfl (by kernel_rfl) rfl) (fun wq_ hq_ => (by obtain ⟨S_, K_⟩ := S18.still hq_; exact (laws_eqBinding.calls k23 wq_ H (x1.getD ((x14).toNat) z63) A32 c33 (x6.getD ((x14).toNat) z63) A43 c44 h35 l34 h46 l45 S_.own0 t47 u48))) ?_
    refine qv (d := 26) rfl rfl (by kernel_rfl) (fun wq_ hq_ => e_notv (c := t47) (by kernel_rfl)) ?_
    refine wpQuiet_nil ?_
    intro w49 C52
    obtain ⟨S50, K51⟩ := S18.still C52
    refine then_n ?_
    by_cases q53 : ¬ (t47 = true)
    · replace M := ifp q53 M
      refine cond_t rfl (bt q53 (by kernel_rfl)) ?_
      refine wp_seq ?_
      refine wp_region_lit ?_
      refine lv (d := 4) rfl rfl (by kernel_rfl) (e_assign (v := .bool false) rfl) ?_
      refine wpList_nil ?_
      refine then_n ?_
      refine wp_ret ?_
      refine inb_r ?_
      refine then_r ?_
      refine then_r ?_
      refine inb_r ?_
      refine then_r ?_
      obtain rfl := Option.some.inj M
      exact ret1 rfl rfl  (show _ = .bool false from (by kernel_rfl)) ⟨rfl, S50.chg⟩
    replace M := ifn q53 M
    refine cond_f rfl (bf q53 (by kernel_rfl)) ?_
    refine wp_skip ?_
    refine inb_n ?_
    refine then_n ?_
    refine wp_region_lit ?_
    refine lv (d := 15) rfl rfl (by kernel_rfl) (e_move (v := .int .i64 x14) (by exact e17)) ?_
    refine lv (d := 16) rfl rfl (by kernel_rfl) (e_add (k := .i64) (a := x14) (b := 1) (by kernel_rfl) rfl) ?_
    refine lv (d := 5) rfl rfl (by kernel_rfl) (e_assign (v := .int .i64 (IntKind.i64.wrap (x14 + 1))) (by kernel_rfl)) ?_
    refine wpList_nil ?_
    refine then_n ?_
    exact ⟨k23, (by omega), _, (IntKind.i64.wrap (x14 + 1)), rfl, (by exact e15), (by exact e16), (by kernel_rfl), S50, M⟩
  replace M := ifn q24 M
  refine cond_f rfl (bf q24 (by kernel_rfl)) ?_
  refine wp_exit ?_
  refine then_e ?_
  refine then_e ?_
  refine inb_hit ?_
  refine then_n ?_
  refine wp_seq ?_
  refine wp_region_lit ?_
  refine lv (d := 4) rfl rfl (by kernel_rfl) (e_assign (v := .bool true) rfl) ?_
  refine wpList_nil ?_
  refine then_n ?_
  refine wp_ret ?_
  obtain rfl := Option.some.inj M
  exact ret1 rfl rfl  (show _ = .bool true from (by kernel_rfl)) ⟨rfl, S18.chg⟩

/-! laws_markByteS -/
def laws_markByteS_2.l0 : Nat → (List UInt8) → Int → Int → (List UInt8) → Option (Int × (List UInt8))
  | 0, _, _, _, _ => none
  | k22 + 1, x1, x9, x10, x12 => (if x10 < (x1.length : Int) then (if 0 ≤ x10 then (laws_markByteS_2.l0 k22 x1 (IntKind.i64.wrap (x9 + 1)) (IntKind.i64.wrap (x10 + 1)) (x12.set ((x10).toNat) (b8 (x9)))) else none) else some (x9, x12))
def laws_markByteS_2.f (k : Nat) (x1 : List UInt8) (x6 : Int) : Option (Int × (List UInt8)) := (laws_markByteS_2.l0 k x1 x6 0 x1)
theorem laws_markByteS_2.calls (k : Nat) (w : World) (H : Hp) (x1 : List UInt8) (A2 : Option Addr) (c3 : Nat) (F5 : Foot) (x6 : Int) (h4 : Row tByte 5 H (hp w) F5 A2 c3 x1) (S : Own [F5] H w) (r : Int × (List UInt8)) (M : laws_markByteS_2.f k x1 x6 = some r) :
    Calls Try.prog 65 #[.slice A2 x1.length c3, .int .i64 x6] w (fun e e_w => ∃ (F_1 : Foot) (H_ : Hp), e = .returned (.int .i64 r.1) ∧ r.2.length = x1.length ∧ Row tByte 5 H_ (hp e_w) F_1 A2 c3 r.2 ∧ St (anyOf [F5]) H w [F_1] H_ e_w) := by
  rw [laws_markByteS_2.f] at M
  refine enter (l := [.slice A2 x1.length c3, .int .i64 x6]) 20 Try.func65 rfl rfl rfl ?_
  have S0_ := S.st
  refine wp_seq ?_
  refine wp_region_lit ?_
  refine lv (d := 4) rfl rfl (by kernel_rfl) (e_assign (v := .int .i64 0) rfl) ?_
  refine wpList_nil ?_
  refine then_n ?_
  refine wp_seq ?_
  refine wp_seq ?_
  refine wp_region_lit ?_
  refine lv (d := 5) rfl rfl (by kernel_rfl) (e_assign (v := .int .i64 0) rfl) ?_
  refine wpList_nil ?_
  refine then_n ?_
  refine wp_block ?_
  refine wp_loop_g (fun k20 a21 w7 => ∃ (f8 : Nat → Value) (x9 : Int) (x10 : Int) (F11 : Foot) (x12 : List UInt8), a21 = mk 20 f8 ∧ f8 0 = .slice A2 x1.length c3 ∧ f8 1 = .int .i64 x9 ∧ f8 5 = .int .i64 x10 ∧ Row tByte 5 H (hp w7) F11 A2 c3 x12 ∧ x12.length = x1.length ∧ St (anyOf [F5]) H w [F11] H w7 ∧ laws_markByteS_2.l0 k20 x1 x9 x10 x12 = some r) k ⟨_, x6, 0, F5, x1, rfl, (by kernel_rfl), (by kernel_rfl), (by kernel_rfl), h4, rfl, S0_, M⟩ ?_
  clear M
  rintro k20 a21 w7 ⟨f8, x9, x10, F11, x12, rfl, e14, e15, e16, h4, n13, S17, M⟩
  rcases k20 with _ | k22
  · rw [laws_markByteS_2.l0] at M
    cases M
  rw [laws_markByteS_2.l0] at M
  refine wp_seq ?_
  refine wp_seq ?_
  refine wp_region_lit ?_
  refine lv (d := 6) rfl rfl (by kernel_rfl) (e_move (v := .int .i64 x10) (by exact e16)) ?_
  refine lv (d := 7) rfl rfl (by kernel_rfl) (e_move (v := .slice A2 x1.length c3) (by exact e14)) ?_
  refine lv (d := 8) rfl rfl (by kernel_rfl) (e_len (A := A2) (n := x1.length) (c := c3) Try.underlying59 (by kernel_rfl)) ?_
  refine lv (d := 9) rfl rfl (by kernel_rfl) (e_lss (k := .i64) (a := x10) (b := (x1.length : Int)) (by kernel_rfl) (by kernel_rfl)) ?_
  refine wpList_nil ?_
  refine then_n ?_
  by_cases q23 : x10 < (x1.length : Int)
  · replace M := ifp q23 M
    refine cond_t rfl (bt q23 (by kernel_rfl)) ?_
    refine wp_skip ?_
    refine then_n ?_
    refine wp_seq ?_
    refine wp_block ?_
    refine wp_seq ?_
    refine wp_region_lit ?_
    refine lv (d := 12) rfl rfl (by kernel_rfl) (e_move (v := .slice A2 x1.length c3) (by exact e14)) ?_
    refine lv (d := 13) rfl rfl (by kernel_rfl) (e_move (v := .int .i64 x10) (by exact e16)) ?_
    refine lv (d := 14) rfl rfl (by kernel_rfl) (e_move (v := .int .i64 x9) (by exact e15)) ?_
    refine lv (d := 15) rfl rfl (by kernel_rfl) (e_conv_i8 (k := .i64) (a := x9) (by kernel_rfl) Try.underlying5 (by kernel_rfl)) ?_
    obtain ⟨q24, M⟩ := chk M
    obtain ⟨b25, e27⟩ := Row.addr h4 (show (x10).toNat < x12.length by have : x12.length = x1.length := n13; omega)
    refine lv (d := 16) rfl rfl (by kernel_rfl) (e_indexAddr (b := b25) (off := 0) (n := x1.length) (c := c3) (sz := 1) (i := x10) (k := .i64) Try.underlying59 e27 (by kernel_rfl) (by kernel_rfl) (by kernel_rfl) q24 q23) ?_
    have S28 := S17.unit
    have S29 := S28.pull (F := F11) (Fr := [no]) 1 rfl rfl
    refine lse rfl rfl (by kernel_rfl) (e_setel (d := tByte) (b := b25) (i := (x10).toNat) (v := .int .u8 ((b8 (x9)).toNat : Int)) (vs := [.int .u8 ((b8 (x9)).toNat : Int)]) (yv := (b8 (x9))) S29 (by kernel_rfl) e27 (by kernel_rfl) rfl (by kernel_rfl) h4 (show (x10).toNat < x12.length by have : x12.length = x1.length := n13; omega) rfl) ?_
    rintro w30 ⟨F32, h31, S33, K34⟩
    clear h4
    refine wpList_nil ?_
    refine then_n ?_
    refine wp_region_lit ?_
    refine lv (d := 17) rfl rfl (by kernel_rfl) (e_move (v := .int .i64 x9) (by exact e15)) ?_
    refine lv (d := 18) rfl rfl (by kernel_rfl) (e_add (k := .i64) (a := x9) (b := 1) (by kernel_rfl) rfl) ?_
    refine lv (d := 1) rfl rfl (by kernel_rfl) (e_assign (v := .int .i64 (IntKind.i64.wrap (x9 + 1))) (by kernel_rfl)) ?_
    refine wpList_nil ?_
    refine inb_n ?_
    refine then_n ?_
    refine wp_region_lit ?_
    refine lv (d := 10) rfl rfl (by kernel_rfl) (e_move (v := .int .i64 x10) (by exact e16)) ?_
    refine lv (d := 11) rfl rfl (by kernel_rfl) (e_add (k := .i64) (a := x10) (b := 1) (by kernel_rfl) rfl) ?_
    refine lv (d := 5) rfl rfl (by kernel_rfl) (e_assign (v := .int .i64 (IntKind.i64.wrap (x10 + 1))) (by kernel_rfl)) ?_
    refine wpList_nil ?_
    refine then_n ?_
    exact ⟨k22, (by omega), _, (IntKind.i64.wrap (x9 + 1)), (IntKind.i64.wrap (x10 + 1)), F32, (x12.set ((x10).toNat) (b8 (x9))), rfl, (by exact e14), (by kernel_rfl), (by kernel_rfl), h31, (List.length_set.trans n13), S33, M⟩
  replace M := ifn q23 M
  refine cond_f rfl (bf q23 (by kernel_rfl)) ?_
  refine wp_exit ?_
  refine then_e ?_
  refine then_e ?_
  refine inb_hit ?_
  refine then_n ?_
  refine wp_seq ?_
  refine wp_region_lit ?_
  refine lv (d := 19) rfl rfl (by kernel_rfl) (e_move (v := .int .i64 x9) (by exact e15)) ?_
  refine lv (d := 4) rfl rfl (by kernel_rfl) (e_assign (v := .int .i64 x9) (by kernel_rfl)) ?_
  refine wpList_nil ?_
  refine then_n ?_
  refine wp_ret ?_
  obtain rfl := Option.some.inj M
  exact ret1 rfl rfl  (show _ = .int .i64 x9 from (by kernel_rfl)) ⟨F11, H, rfl, n13, h4, S17⟩

/-! laws_markCellS -/
def laws_markCellS_2.l0 : Nat → (List Cell) → Int → Int → (List Cell) → Option (Int × (List Cell))
  | 0, _, _, _, _ => none
  | k24 + 1, x1, x11, x12, x14 => (if x12 < (x1.length : Int) then (if 0 ≤ x12 then ((laws_markByteS_2.f k24 ((((x14.set ((x12).toNat) ({(x14.getD ((x12).toNat) z65) with kind := x11})).set ((x12).toNat) ({((x14.set ((x12).toNat) ({(x14.getD ((x12).toNat) z65) with kind := x11})).getD ((x12).toNat) z65) with n := (IntKind.i64.wrap (x11 + 1))})).getD ((x12).toNat) z65).text) (IntKind.i64.wrap ((IntKind.i64.wrap (x11 + 1)) + 1))).bind fun t71 => (laws_markCellS_2.l0 k24 x1 t71.1 (IntKind.i64.wrap (x12 + 1)) (((x14.set ((x12).toNat) ({(x14.getD ((x12).toNat) z65) with kind := x11})).set ((x12).toNat) ({((x14.set ((x12).toNat) ({(x14.getD ((x12).toNat) z65) with kind := x11})).getD ((x12).toNat) z65) with n := (IntKind.i64.wrap (x11 + 1))})).set ((x12).toNat) ({(((x14.set ((x12).toNat) ({(x14.getD ((x12).toNat) z65) with kind := x11})).set ((x12).toNat) ({((x14.set ((x12).toNat) ({(x14.getD ((x12).toNat) z65) with kind := x11})).getD ((x12).toNat) z65) with n := (IntKind.i64.wrap (x11 + 1))})).getD ((x12).toNat) z65) with text := t71.2})))) else none) else some (x11, x14))
def laws_markCellS_2.f (k : Nat) (x1 : List Cell) (x6 : Int) : Option (Int × (List Cell)) := (laws_markCellS_2.l0 k x1 x6 0 x1)
theorem laws_markCellS_2.calls (k : Nat) (w : World) (H : Hp) (x1 : List Cell) (A2 : Option Addr) (c3 : Nat) (F5 : Foot) (x6 : Int) (h4 : Row st65 65 H (hp w) F5 A2 c3 x1) (S : Own [F5] H w) (r : Int × (List Cell)) (M : laws_markCellS_2.f k x1 x6 = some r) :
    Calls Try.prog 24 #[.slice A2 x1.length c3, .int .i64 x6] w (fun e e_w => ∃ (F_1 : Foot) (H_ : Hp), e = .returned (.int .i64 r.1) ∧ r.2.length = x1.length ∧ Row st65 65 H_ (hp e_w) F_1 A2 c3 r.2 ∧ St (anyOf [F5]) H w [F_1] H_ e_w) := by
  rw [laws_markCellS_2.f] at M
  refine enter (l := [.slice A2 x1.length c3, .int .i64 x6]) 34 Try.func24 rfl rfl rfl ?_
  have S0_ := S.st
  refine wp_seq ?_
  refine wp_region_lit ?_
  refine lv (d := 4) rfl rfl (by kernel_rfl) (e_assign (v := .int .i64 0) rfl) ?_
  refine wpList_nil ?_
  refine then_n ?_
  refine wp_seq ?_
  refine wp_seq ?_
  refine wp_region_lit ?_
  refine lv (d := 5) rfl rfl (by kernel_rfl) (e_assign (v := .int .i64 0) rfl) ?_
  refine wpList_nil ?_
  refine then_n ?_
  refine wp_block ?_
  refine wp_loop_g (fun k22 a23 w7 => ∃ (f8 : Nat → Value) (H9 : Hp) (x11 : Int) (x12 : Int) (F13 : Foot) (x14 : List Cell), a23 = mk 34 f8 ∧ f8 0 = .slice A2 x1.length c3 ∧ f8 1 = .int .i64 x11 ∧ f8 5 = .int .i64 x12 ∧ Row st65 65 H9 (hp w7) F13 A2 c3 x14 ∧ x14.length = x1.length ∧ Ext H H9 ∧ St (anyOf [F5]) H w [F13] H9 w7 ∧ laws_markCellS_2.l0 k22 x1 x11 x12 x14 = some r) k ⟨_, H, x6, 0, F5, x1, rfl, (by kernel_rfl), (by kernel_rfl), (by kernel_rfl), h4, rfl, (Ext.refl _), S0_, M⟩ ?_
  clear M
  rintro k22 a23 w7 ⟨f8, H9, x11, x12, F13, x14, rfl, e16, e17, e18, h4, n15, Y10, S19, M⟩
  rcases k22 with _ | k24
  · rw [laws_markCellS_2.l0] at M
    cases M
  rw [laws_markCellS_2.l0] at M
  refine wp_seq ?_
  refine wp_seq ?_
  refine wp_region_lit ?_
  refine lv (d := 6) rfl rfl (by kernel_rfl) (e_move (v := .int .i64 x12) (by exact e18)) ?_
  refine lv (d := 7) rfl rfl (by kernel_rfl) (e_move (v := .slice A2 x1.length c3) (by exact e16)) ?_
  refine lv (d := 8) rfl rfl (by kernel_rfl) (e_len (A := A2) (n := x1.length) (c := c3) Try.underlying25 (by kernel_rfl)) ?_
  refine lv (d := 9) rfl rfl (by kernel_rfl) (e_lss (k := .i64) (a := x12) (b := (x1.length : Int)) (by kernel_rfl) (by kernel_rfl)) ?_
  refine wpList_nil ?_
  refine then_n ?_
  by_cases q25 : x12 < (x1.length : Int)
  · replace M := ifp q25 M
    refine cond_t rfl (bt q25 (by kernel_rfl)) ?_
    refine wp_skip ?_
    refine then_n ?_
    refine wp_seq ?_
    refine wp_block ?_
    refine wp_seq ?_
    refine wp_region_lit ?_
    refine lv (d := 12) rfl rfl (by kernel_rfl) (e_move (v := .slice A2 x1.length c3) (by exact e16)) ?_
    refine lv (d := 13) rfl rfl (by kernel_rfl) (e_move (v := .int .i64 x12) (by exact e18)) ?_
    refine lv (d := 14) rfl rfl (by kernel_rfl) (e_move (v := .int .i64 x11) (by exact e17)) ?_
    obtain ⟨q26, M⟩ := chk M
    obtain ⟨b27, e29⟩ := Row.addr h4 (show (x12).toNat < x14.length by have : x14.length = x1.length := n15; omega)
    refine lv (d := 15) rfl rfl (by kernel_rfl) (e_indexAddr (b := b27) (off := 0) (n := x1.length) (c := c3) (sz := 3) (i := x12) (k := .i64) Try.underlying25 e29 (by kernel_rfl) (by kernel_rfl) (by kernel_rfl) q26 q25) ?_
    refine lv (d := 16) rfl rfl (by kernel_rfl) (e_fieldAddr (b := b27) (off := 0 + (x12 : Int).toNat * 3) (o := 0) Try.underlying65 rfl rfl (sz := 1) (by kernel_rfl) (by decide) (by kernel_rfl)) ?_
    have S30 := S19.unit
    have S31 := S30.pull (F := F13) (Fr := [no]) 1 rfl rfl
    refine lse rfl rfl (by kernel_rfl) (e_setpart (d := st65) (b := b27) (i := (x12).toNat) (j := 0) (v := .int .i64 x11) (vs := [.int .i64 x11]) (yv := {(x14.getD ((x12).toNat) z65) with kind := x11}) S31 (by kernel_rfl) e29 (by kernel_rfl) rfl (by kernel_rfl) h4 (getD_some z65 (show (x12).toNat < x14.length by have : x14.length = x1.length := n15; omega)) (Nat.le_of_ble_eq_true rfl) (List.forall_mem_cons.2 ⟨rfl, (fun _ h_ => by cases h_)⟩) (fun _ _ _ o_ => st65_u0 x11 o_)) ?_
    rintro w32 ⟨F34, h33, S35, K36⟩
    clear h4
    refine wpList_nil ?_
    refine then_n ?_
    refine wp_seq ?_
    refine wp_region_lit ?_
    refine lv (d := 17) rfl rfl (by kernel_rfl) (e_move (v := .int .i64 x11) (by exact e17)) ?_
    refine lv (d := 18) rfl rfl (by kernel_rfl) (e_add (k := .i64) (a := x11) (b := 1) (by kernel_rfl) rfl) ?_
    refine lv (d := 1) rfl rfl (by kernel_rfl) (e_assign (v := .int .i64 (IntKind.i64.wrap (x11 + 1))) (by kernel_rfl)) ?_
    refine wpList_nil ?_
    refine then_n ?_
    refine wp_seq ?_
    refine wp_region_lit ?_
    refine lv (d := 19) rfl rfl (by kernel_rfl) (e_move (v := .slice A2 x1.length c3) (by exact e16)) ?_
    refine lv (d := 20) rfl rfl (by kernel_rfl) (e_move (v := .int .i64 x12) (by exact e18)) ?_
    refine lv (d := 21) rfl rfl (by kernel_rfl) (e_move (v := .int .i64 (IntKind.i64.wrap (x11 + 1))) (by kernel_rfl)) ?_
    obtain ⟨b37, e39⟩ := Row.addr h33 (show (x12).toNat < (x14.set ((x12).toNat) ({(x14.getD ((x12).toNat) z65) with kind := x11})).length by have : (x14.set ((x12).toNat) ({(x14.getD ((x12).toNat) z65) with kind := x11})).length = x1.length := (List.length_set.trans n15); omega)
    refine lv (d := 22) rfl rfl (by kernel_rfl) (e_indexAddr (b := b37) (off := 0) (n := x1.length) (c := c3) (sz := 3) (i := x12) (k := .i64) Try.underlying25 e39 (by kernel_rfl) (by kernel_rfl) (by kernel_rfl) q26 q25) ?_
    refine lv (d := 23) rfl rfl (by kernel_rfl) (e_fieldAddr (b := b37) (off := 0 + (x12 : Int).toNat * 3) (o := 1) Try.underlying65 rfl rfl (sz := 1) (by kernel_rfl) (by decide) (by kernel_rfl)) ?_
    have S40 := S35.unit
    have S41 := S40.pull (F := F34) (Fr := [no]) 1 rfl rfl
    refine lse rfl rfl (by kernel_rfl) (e_setpart (d := st65) (b := b37) (i := (x12).toNat) (j := 1) (v := .int .i64 (IntKind.i64.wrap (x11 + 1))) (vs := [.int .i64 (IntKind.i64.wrap (x11 + 1))]) (yv := {((x14.set ((x12).toNat) ({(x14.getD ((x12).toNat) z65) with kind := x11})).getD ((x12).toNat) z65) with n := (IntKind.i64.wrap (x11 + 1))}) S41 (by kernel_rfl) e39 (by kernel_rfl) rfl (by kernel_rfl) h33 (getD_some z65 (show (x12).toNat < (x14.set ((x12).toNat) ({(x14.getD ((x12).toNat) z65) with kind := x11})).length by have : (x14.set ((x12).toNat) ({(x14.getD ((x12).toNat) z65) with kind := x11})).length = x1.length := (List.length_set.trans n15); omega)) (Nat.le_of_ble_eq_true rfl) (List.forall_mem_cons.2 ⟨rfl, (fun _ h_ => by cases h_)⟩) (fun _ _ _ o_ => st65_u1 (IntKind.i64.wrap (x11 + 1)) o_)) ?_
    rintro w42 ⟨F44, h43, S45, K46⟩
    clear h33
    refine wpList_nil ?_
    refine then_n ?_
    refine wp_seq ?_
    refine wp_region_lit ?_
    refine lv (d := 24) rfl rfl (by kernel_rfl) (e_move (v := .int .i64 (IntKind.i64.wrap (x11 + 1))) (by kernel_rfl)) ?_
    refine lv (d := 25) rfl rfl (by kernel_rfl) (e_add (k := .i64) (a := (IntKind.i64.wrap (x11 + 1))) (b := 1) (by kernel_rfl) rfl) ?_
    refine lv (d := 1) rfl rfl (by kernel_rfl) (e_assign (v := .int .i64 (IntKind.i64.wrap ((IntKind.i64.wrap (x11 + 1)) + 1))) (by kernel_rfl)) ?_
    refine wpList_nil ?_
    refine then_n ?_
    refine wp_region_lit ?_
    refine lv (d := 26) rfl rfl (by kernel_rfl) (e_move (v := .slice A2 x1.length c3) (by exact e16)) ?_
    refine lv (d := 27) rfl rfl (by kernel_rfl) (e_move (v := .int .i64 x12) (by exact e18)) ?_
    obtain ⟨b47, e49⟩ := Row.addr h43 (show (x12).toNat < ((x14.set ((x12).toNat) ({(x14.getD ((x12).toNat) z65) with kind := x11})).set ((x12).toNat) ({((x14.set ((x12).toNat) ({(x14.getD ((x12).toNat) z65) with kind := x11})).getD ((x12).toNat) z65) with n := (IntKind.i64.wrap (x11 + 1))})).length by have : ((x14.set ((x12).toNat) ({(x14.getD ((x12).toNat) z65) with kind := x11})).set ((x12).toNat) ({((x14.set ((x12).toNat) ({(x14.getD ((x12).toNat) z65) with kind := x11})).getD ((x12).toNat) z65) with n := (IntKind.i64.wrap (x11 + 1))})).length = x1.length := (List.length_set.trans (List.length_set.trans n15)); omega)
    refine lv (d := 28) rfl rfl (by kernel_rfl) (e_indexAddr (b := b47) (off := 0) (n := x1.length) (c := c3) (sz := 3) (i := x12) (k := .i64) Try.underlying25 e49 (by kernel_rfl) (by kernel_rfl) (by kernel_rfl) q26 q25) ?_
    refine lv (d := 29) rfl rfl (by kernel_rfl) (e_fieldAddr (b := b47) (off := 0 + (x12 : Int).toNat * 3) (o := 2) Try.underlying65 rfl rfl (sz := 1) (by kernel_rfl) (by decide) (by kernel_rfl)) ?_
    obtain ⟨y55, F56, G57, r58, d59, s60, k61, t62⟩ := Row.lend h43 e49 (getD_some z65 (show (x12).toNat < ((x14.set ((x12).toNat) ({(x14.getD ((x12).toNat) z65) with kind := x11})).set ((x12).toNat) ({((x14.set ((x12).toNat) ({(x14.getD ((x12).toNat) z65) with kind := x11})).getD ((x12).toNat) z65) with n := (IntKind.i64.wrap (x11 + 1))})).length by have : ((x14.set ((x12).toNat) ({(x14.getD ((x12).toNat) z65) with kind := x11})).set ((x12).toNat) ({((x14.set ((x12).toNat) ({(x14.getD ((x12).toNat) z65) with kind := x11})).getD ((x12).toNat) z65) with n := (IntKind.i64.wrap (x11 + 1))})).length = x1.length := (List.length_set.trans (List.length_set.trans n15)); omega))
    obtain ⟨A63, c64, F67, rfl, h65, s66⟩ := st65_openO r58
    refine lv (d := 30) rfl rfl (by kernel_rfl) (e_load1 (ad := ⟨b47, 0 + (x12 : Int).toNat * 3 + 2, none⟩) (v := .slice A63 ((((x14.set ((x12).toNat) ({(x14.getD ((x12).toNat) z65) with kind := x11})).set ((x12).toNat) ({((x14.set ((x12).toNat) ({(x14.getD ((x12).toNat) z65) with kind := x11})).getD ((x12).toNat) z65) with n := (IntKind.i64.wrap (x11 + 1))})).getD ((x12).toNat) z65).text).length c64) Try.underlying59 rfl (by kernel_rfl) (hpx (k61 2 _ rfl))) ?_
    refine lv (d := 31) rfl rfl (by kernel_rfl) (e_move (v := .int .i64 (IntKind.i64.wrap ((IntKind.i64.wrap (x11 + 1)) + 1))) (by kernel_rfl)) ?_
    have S68 := S45.part d59 s60
    have S69 := S68.sub s66
    have q70 : ∀ b_, G57 b_ → hp w42 b_ = hp w42 b_ := fun _ _ => rfl
    obtain ⟨t71, u72, M⟩ := bnd M
    refine lcall (d := 32) rfl rfl (by kernel_rfl) (e_call (l := [.tmp 30, .tmp 31]) (vs := [.slice A63 ((((x14.set ((x12).toNat) ({(x14.getD ((x12).toNat) z65) with kind := x11})).set ((x12).toNat) ({((x14.set ((x12).toNat) ({(x14.getD ((x12).toNat) z65) with kind := x11})).getD ((x12).toNat) z65) with n := (IntKind.i64.wrap (x11 + 1))})).getD ((x12).toNat) z65).text).length c64, .int .i64 (IntKind.i64.wrap ((IntKind.i64.wrap (x11 + 1)) + 1))]) Try.func65 (by kernel_rfl) rfl (by kernel_rfl) rfl) (laws_markByteS_2.calls k24 w42 H9 ((((x14.set ((x12).toNat) ({(x14.getD ((x12).toNat) z65) with kind := x11})).set ((x12).toNat) ({((x14.set ((x12).toNat) ({(x14.getD ((x12).toNat) z65) with kind := x11})).getD ((x12).toNat) z65) with n := (IntKind.i64.wrap (x11 + 1))})).getD ((x12).toNat) z65).text) A63 c64 F67 (IntKind.i64.wrap ((IntKind.i64.wrap (x11 + 1)) + 1)) h65 (St.own' (Fa := [F67]) (Fr := [G57]) S69) t71 u72) ?_
    rintro _ w73 ⟨F77, H74, rfl, n78, h76, T75⟩
    refine ⟨_, rfl, ?_⟩
    obtain ⟨S79, K80⟩ := St.call (Fa := [F67]) (Fr := [G57]) S69 T75
    replace q70 := fun b_ h_ => (K80.at 0 rfl b_ h_).trans (q70 b_ h_)
    have E81 := T75.ext
    have S82 := S79.pull (F := G57) (Fr := [F77]) 1 rfl rfl
    have S83 := S82.pull (F := F77) (Fr := [G57]) 1 rfl rfl
    have h84 := t62 H74 (hp w73) F77 ({(((x14.set ((x12).toNat) ({(x14.getD ((x12).toNat) z65) with kind := x11})).set ((x12).toNat) ({((x14.set ((x12).toNat) ({(x14.getD ((x12).toNat) z65) with kind := x11})).getD ((x12).toNat) z65) with n := (IntKind.i64.wrap (x11 + 1))})).getD ((x12).toNat) z65) with text := t71.2} : Cell) E81 q70 (by have q_ := st65_mkO (x := {(((x14.set ((x12).toNat) ({(x14.getD ((x12).toNat) z65) with kind := x11})).set ((x12).toNat) ({((x14.set ((x12).toNat) ({(x14.getD ((x12).toNat) z65) with kind := x11})).getD ((x12).toNat) z65) with n := (IntKind.i64.wrap (x11 + 1))})).getD ((x12).toNat) z65) with text := t71.2}) h76; rw [show t71.2.length = ((((x14.set ((x12).toNat) ({(x14.getD ((x12).toNat) z65) with kind := x11})).set ((x12).toNat) ({((x14.set ((x12).toNat) ({(x14.getD ((x12).toNat) z65) with kind := x11})).getD ((x12).toNat) z65) with n := (IntKind.i64.wrap (x11 + 1))})).getD ((x12).toNat) z65).text).length from n78] at q_; exact q_) S83.dj
    have S85 := S83.join
    refine lv (d := 1) rfl rfl (by kernel_rfl) (e_assign (v := .int .i64 t71.1) (by kernel_rfl)) ?_
    refine wpList_nil ?_
    refine inb_n ?_
    refine then_n ?_
    refine wp_region_lit ?_
    refine lv (d := 10) rfl rfl (by kernel_rfl) (e_move (v := .int .i64 x12) (by exact e18)) ?_
    refine lv (d := 11) rfl rfl (by kernel_rfl) (e_add (k := .i64) (a := x12) (b := 1) (by kernel_rfl) rfl) ?_
    refine lv (d := 5) rfl rfl (by kernel_rfl) (e_assign (v := .int .i64 (IntKind.i64.wrap (x12 + 1))) (by kernel_rfl)) ?_
    refine wpList_nil ?_
    refine then_n ?_
    exact ⟨k24, (by omega), _, H74, t71.1, (IntKind.i64.wrap (x12 + 1)), (or2 F77 G57), (((x14.set ((x12).toNat) ({(x14.getD ((x12).toNat) z65) with kind := x11})).set ((x12).toNat) ({((x14.set ((x12).toNat) ({(x14.getD ((x12).toNat) z65) with kind := x11})).getD ((x12).toNat) z65) with n := (IntKind.i64.wrap (x11 + 1))})).set ((x12).toNat) ({(((x14.set ((x12).toNat) ({(x14.getD ((x12).toNat) z65) with kind := x11})).set ((x12).toNat) ({((x14.set ((x12).toNat) ({(x14.getD ((x12).toNat) z65) with kind := x11})).getD ((x12).toNat) z65) with n := (IntKind.i64.wrap (x11 + 1))})).getD ((x12).toNat) z65) with text := t71.2})), rfl, (by exact e16), (by kernel_rfl), (by kernel_rfl), h84, (List.length_set.trans (List.length_set.trans (List.length_set.trans n15))), (Y10.trans E81), S85, M⟩
  replace M := ifn q25 M
  refine cond_f rfl (bf q25 (by kernel_rfl)) ?_
  refine wp_exit ?_
  refine then_e ?_
  refine then_e ?_
  refine inb_hit ?_
  refine then_n ?_
  refine wp_seq ?_
  refine wp_region_lit ?_
  refine lv (d := 33) rfl rfl (by kernel_rfl) (e_move (v := .int .i64 x11) (by exact e17)) ?_
  refine lv (d := 4) rfl rfl (by kernel_rfl) (e_assign (v := .int .i64 x11) (by kernel_rfl)) ?_
  refine wpList_nil ?_
  refine then_n ?_
  refine wp_ret ?_
  obtain rfl := Option.some.inj M
  exact ret1 rfl rfl  (show _ = .int .i64 x11 from (by kernel_rfl)) ⟨F13, H9, rfl, n15, h4, S19⟩

/-! laws_markBindingS -/
def laws_markBindingS_2.l0 : Nat → (List Binding) → Int → Int → (List Binding) → Option (Int × (List Binding))
  | 0, _, _, _, _ => none
  | k24 + 1, x1, x11, x12, x14 => (if x12 < (x1.length : Int) then (if 0 ≤ x12 then ((laws_markCellS_2.f k24 (((x14.set ((x12).toNat) ({(x14.getD ((x12).toNat) z63) with var := x11})).getD ((x12).toNat) z63).term) (IntKind.i64.wrap (x11 + 1))).bind fun t61 => (laws_markBindingS_2.l0 k24 x1 t61.1 (IntKind.i64.wrap (x12 + 1)) ((x14.set ((x12).toNat) ({(x14.getD ((x12).toNat) z63) with var := x11})).set ((x12).toNat) ({((x14.set ((x12).toNat) ({(x14.getD ((x12).toNat) z63) with var := x11})).getD ((x12).toNat) z63) with term := t61.2})))) else none) else some (x11, x14))
def laws_markBindingS_2.f (k : Nat) (x1 : List Binding) (x6 : Int) : Option (Int × (List Binding)) := (laws_markBindingS_2.l0 k x1 x6 0 x1)
theorem laws_markBindingS_2.calls (k : Nat) (w : World) (H : Hp) (x1 : List Binding) (A2 : Option Addr) (c3 : Nat) (F5 : Foot) (x6 : Int) (h4 : Row st63 63 H (hp w) F5 A2 c3 x1) (S : Own [F5] H w) (r : Int × (List Binding)) (M : laws_markBindingS_2.f k x1 x6 = some r) :
    Calls Try.prog 48 #[.slice A2 x1.length c3, .int .i64 x6] w (fun e e_w => ∃ (F_1 : Foot) (H_ : Hp), e = .returned (.int .i64 r.1) ∧ r.2.length = x1.length ∧ Row st63 63 H_ (hp e_w) F_1 A2 c3 r.2 ∧ St (anyOf [F5]) H w [F_1] H_ e_w) := by
  rw [laws_markBindingS_2.f] at M
  refine enter (l := [.slice A2 x1.length c3, .int .i64 x6]) 27 Try.func48 rfl rfl rfl ?_
  have S0_ := S.st
  refine wp_seq ?_
  refine wp_region_lit ?_
  refine lv (d := 4) rfl rfl (by kernel_rfl) (e_assign (v := .int .i64 0) rfl) ?_
  refine wpList_nil ?_
  refine then_n ?_
  refine wp_seq ?_
  refine wp_seq ?_
  refine wp_region_lit ?_
  refine lv (d := 5) rfl rfl (by kernel_rfl) (e_assign (v := .int .i64 0) rfl) ?_
  refine wpList_nil ?_
  refine then_n ?_
  refine wp_block ?_
  refine wp_loop_g (fun k22 a23 w7 => ∃ (f8 : Nat → Value) (H9 : Hp) (x11 : Int) (x12 : Int) (F13 : Foot) (x14 : List Binding), a23 = mk 27 f8 ∧ f8 0 = .slice A2 x1.length c3 ∧ f8 1 = .int .i64 x11 ∧ f8 5 = .int .i64 x12 ∧ Row st63 63 H9 (hp w7) F13 A2 c3 x14 ∧ x14.length = x1.length ∧ Ext H H9 ∧ St (anyOf [F5]) H w [F13] H9 w7 ∧ laws_markBindingS_2.l0 k22 x1 x11 x12 x14 = some r) k ⟨_, H, x6, 0, F5, x1, rfl, (by kernel_rfl), (by kernel_rfl), (by kernel_rfl), h4, rfl, (Ext.refl _), S0_, M⟩ ?_
  clear M
  rintro k22 a23 w7 ⟨f8, H9, x11, x12, F13, x14, rfl, e16, e17, e18, h4, n15, Y10, S19, M⟩
  rcases k22 with _ | k24
  · rw [laws_markBindingS_2.l0] at M
    cases M
  rw [laws_markBindingS_2.l0] at M
  refine wp_seq ?_
  refine wp_seq ?_
  refine wp_region_lit ?_
  refine lv (d := 6) rfl rfl (by kernel_rfl) (e_move (v := .int .i64 x12) (by exact e18)) ?_
  refine lv (d := 7) rfl rfl (by kernel_rfl) (e_move (v := .slice A2 x1.length c3) (by exact e16)) ?_
  refine lv (d := 8) rfl rfl (by kernel_rfl) (e_len (A := A2) (n := x1.length) (c := c3) Try.underlying52 (by kernel_rfl)) ?_
  refine lv (d := 9) rfl rfl (by kernel_rfl) (e_lss (k := .i64) (a := x12) (b := (x1.length : Int)) (by kernel_rfl) (by kernel_rfl)) ?_
  refine wpList_nil ?_
  refine then_n ?_
  by_cases q25 : x12 < (x1.length : Int)
  · replace M := ifp q25 M
    refine cond_t rfl (bt q25 (by kernel_rfl)) ?_
    refine wp_skip ?_
    refine then_n ?_
    refine wp_seq ?_
    refine wp_block ?_
    refine wp_seq ?_
    refine wp_region_lit ?_
    refine lv (d := 12) rfl rfl (by kernel_rfl) (e_move (v := .slice A2 x1.length c3) (by exact e16)) ?_
    refine lv (d := 13) rfl rfl (by kernel_rfl) (e_move (v := .int .i64 x12) (by exact e18)) ?_
    refine lv (d := 14) rfl rfl (by kernel_rfl) (e_move (v := .int .i64 x11) (by exact e17)) ?_
    obtain ⟨q26, M⟩ := chk M
    obtain ⟨b27, e29⟩ := Row.addr h4 (show (x12).toNat < x14.length by have : x14.length = x1.length := n15; omega)
    refine lv (d := 15) rfl rfl (by kernel_rfl) (e_indexAddr (b := b27) (off := 0) (n := x1.length) (c := c3) (sz := 2) (i := x12) (k := .i64) Try.underlying52 e29 (by kernel_rfl) (by kernel_rfl) (by kernel_rfl) q26 q25) ?_
    refine lv (d := 16) rfl rfl (by kernel_rfl) (e_fieldAddr (b := b27) (off := 0 + (x12 : Int).toNat * 2) (o := 0) Try.underlying63 rfl rfl (sz := 1) (by kernel_rfl) (by decide) (by kernel_rfl)) ?_
    have S30 := S19.unit
    have S31 := S30.pull (F := F13) (Fr := [no]) 1 rfl rfl
    refine lse rfl rfl (by kernel_rfl) (e_setpart (d := st63) (b := b27) (i := (x12).toNat) (j := 0) (v := .int .i64 x11) (vs := [.int .i64 x11]) (yv := {(x14.getD ((x12).toNat) z63) with var := x11}) S31 (by kernel_rfl) e29 (by kernel_rfl) rfl (by kernel_rfl) h4 (getD_some z63 (show (x12).toNat < x14.length by have : x14.length = x1.length := n15; omega)) (Nat.le_of_ble_eq_true rfl) (List.forall_mem_cons.2 ⟨rfl, (fun _ h_ => by cases h_)⟩) (fun _ _ _ o_ => st63_u0 x11 o_)) ?_
    rintro w32 ⟨F34, h33, S35, K36⟩
    clear h4
    refine wpList_nil ?_
    refine then_n ?_
    refine wp_seq ?_
    refine wp_region_lit ?_
    refine lv (d := 17) rfl rfl (by kernel_rfl) (e_move (v := .int .i64 x11) (by exact e17)) ?_
    refine lv (d := 18) rfl rfl (by kernel_rfl) (e_add (k := .i64) (a := x11) (b := 1) (by kernel_rfl) rfl) ?_
    refine lv (d := 1) rfl rfl (by kernel_rfl) (e_assign (v := .int .i64 (IntKind.i64.wrap (x11 + 1))) (by kernel_rfl)) ?_
    refine wpList_nil ?_
    refine then_n ?_
    refine wp_region_lit ?_
    refine lv (d := 19) rfl rfl (by kernel_rfl) (e_move (v := .slice A2 x1.length c3) (by exact e16)) ?_
    refine lv (d := 20) rfl rfl (by kernel_rfl) (e_move (v := .int .i64 x12) (by exact e18)) ?_
    obtain ⟨b37, e39⟩ := Row.addr h33 (show (x12).toNat < (x14.set ((x12).toNat) ({(x14.getD ((x12).toNat) z63) with var := x11})).length by have : (x14.set ((x12).toNat) ({(x14.getD ((x12).toNat) z63) with var := x11})).length = x1.length := (List.length_set.trans n15); omega)
    refine lv (d := 21) rfl rfl (by kernel_rfl) (e_indexAddr (b := b37) (off := 0) (n := x1.length) (c := c3) (sz := 2) (i := x12) (k := .i64) Try.underlying52 e39 (by kernel_rfl) (by kernel_rfl) (by kernel_rfl) q26 q25) ?_
    refine lv (d := 22) rfl rfl (by kernel_rfl) (e_fieldAddr (b := b37) (off := 0 + (x12 : Int).toNat * 2) (o := 1) Try.underlying63 rfl rfl (sz := 1) (by kernel_rfl) (by decide) (by kernel_rfl)) ?_
    obtain ⟨y45, F46, G47, r48, d49, s50, k51, t52⟩ := Row.lend h33 e39 (getD_some z63 (show (x12).toNat < (x14.set ((x12).toNat) ({(x14.getD ((x12).toNat) z63) with var := x11})).length by have : (x14.set ((x12).toNat) ({(x14.getD ((x12).toNat) z63) with var := x11})).length = x1.length := (List.length_set.trans n15); omega))
    obtain ⟨A53, c54, F57, rfl, h55, s56⟩ := st63_openO r48
    refine lv (d := 23) rfl rfl (by kernel_rfl) (e_load1 (ad := ⟨b37, 0 + (x12 : Int).toNat * 2 + 1, none⟩) (v := .slice A53 (((x14.set ((x12).toNat) ({(x14.getD ((x12).toNat) z63) with var := x11})).getD ((x12).toNat) z63).term).length c54) Try.underlying25 rfl (by kernel_rfl) (hpx (k51 1 _ rfl))) ?_
    refine lv (d := 24) rfl rfl (by kernel_rfl) (e_move (v := .int .i64 (IntKind.i64.wrap (x11 + 1))) (by kernel_rfl)) ?_
    have S58 := S35.part d49 s50
    have S59 := S58.sub s56
    have q60 : ∀ b_, G47 b_ → hp w32 b_ = hp w32 b_ := fun _ _ => rfl
    obtain ⟨t61, u62, M⟩ := bnd M
    refine lcall (d := 25) rfl rfl (by kernel_rfl) (e_call (l := [.tmp 23, .tmp 24]) (vs := [.slice A53 (((x14.set ((x12).toNat) ({(x14.getD ((x12).toNat) z63) with var := x11})).getD ((x12).toNat) z63).term).length c54, .int .i64 (IntKind.i64.wrap (x11 + 1))]) Try.func24 (by kernel_rfl) rfl (by kernel_rfl) rfl) (laws_markCellS_2.calls k24 w32 H9 (((x14.set ((x12).toNat) ({(x14.getD ((x12).toNat) z63) with var := x11})).getD ((x12).toNat) z63).term) A53 c54 F57 (IntKind.i64.wrap (x11 + 1)) h55 (St.own' (Fa := [F57]) (Fr := [G47]) S59) t61 u62) ?_
    rintro _ w63 ⟨F67, H64, rfl, n68, h66, T65⟩
    refine ⟨_, rfl, ?_⟩
    obtain ⟨S69, K70⟩ := St.call (Fa := [F57]) (Fr := [G47]) S59 T65
    replace q60 := fun b_ h_ => (K70.at 0 rfl b_ h_).trans (q60 b_ h_)
    have E71 := T65.ext
    have S72 := S69.pull (F := G47) (Fr := [F67]) 1 rfl rfl
    have S73 := S72.pull (F := F67) (Fr := [G47]) 1 rfl rfl
    have h74 := t52 H64 (hp w63) F67 ({((x14.set ((x12).toNat) ({(x14.getD ((x12).toNat) z63) with var := x11})).getD ((x12).toNat) z63) with term := t61.2} : Binding) E71 q60 (by have q_ := st63_mkO (x := {((x14.set ((x12).toNat) ({(x14.getD ((x12).toNat) z63) with var := x11})).getD ((x12).toNat) z63) with term := t61.2}) h66; rw [show t61.2.length = (((x14.set ((x12).toNat) ({(x14.getD ((x12).toNat) z63) with var := x11})).getD ((x12).toNat) z63).term).length from n68] at q_; exact q_) S73.dj
    have S75 := S73.join
    refine lv (d := 1) rfl rfl (by kernel_rfl) (e_assign (v := .int .i64 t61.1) (by kernel_rfl)) ?_
    refine wpList_nil ?_
    refine inb_n ?_
    refine then_n ?_
    refine wp_region_lit ?_
    refine lv (d := 10) rfl rfl (by kernel_rfl) (e_move (v := .int .i64 x12) (by exact e18)) ?_
    refine lv (d := 11) rfl rfl (by kernel_rfl) (e_add (k := .i64) (a := x12) (b := 1) (by kernel_rfl) rfl) ?_
    refine lv (d := 5) rfl rfl (by kernel_rfl) (e_assign (v := .int .i64 (IntKind.i64.wrap (x12 + 1))) (by kernel_rfl)) ?_
    refine wpList_nil ?_
    refine then_n ?_
    exact ⟨k24, (by omega), _, H64, t61.1, (IntKind.i64.wrap (x12 + 1)), (or2 F67 G47), ((x14.set ((x12).toNat) ({(x14.getD ((x12).toNat) z63) with var := x11})).set ((x12).toNat) ({((x14.set ((x12).toNat) ({(x14.getD ((x12).toNat) z63) with var := x11})).getD ((x12).toNat) z63) with term := t61.2})), rfl, (by exact e16), (by kernel_rfl), (by kernel_rfl), h74, (List.length_set.trans (List.length_set.trans n15)), (Y10.trans E71), S75, M⟩
  replace M := ifn q25 M
  refine cond_f rfl (bf q25 (by kernel_rfl)) ?_
  refine wp_exit ?_
  refine then_e ?_
  refine then_e ?_
  refine inb_hit ?_
  refine then_n ?_
  refine wp_seq ?_
  refine wp_region_lit ?_
  refine lv (d := 26) rfl rfl (by kernel_rfl) (e_move (v := .int .i64 x11) (by exact e17)) ?_
  refine lv (d := 4) rfl rfl (by kernel_rfl) (e_assign (v := .int .i64 x11) (by kernel_rfl)) ?_
  refine wpList_nil ?_
  refine then_n ?_
  refine wp_ret ?_
  obtain rfl := Option.some.inj M
  exact ret1 rfl rfl  (show _ = .int .i64 x11 from (by kernel_rfl)) ⟨F13, H9, rfl, n15, h4, S19⟩

/-! laws_heldByteS -/
def laws_heldByteS.l0 : Nat → (List UInt8) → Int → Int → Option Int
  | 0, _, _, _ => none
  | k19 + 1, x1, x9, x10 => (if x10 < (x1.length : Int) then (if 0 ≤ x10 then (if ((x1.getD ((x10).toNat) (0 : UInt8)).toNat : Int) ≠ ((b8 (x9)).toNat : Int) then some (-1) else (laws_heldByteS.l0 k19 x1 (IntKind.i64.wrap (x9 + 1)) (IntKind.i64.wrap (x10 + 1)))) else none) else some x9)
def laws_heldByteS.f (k : Nat) (x1 : List UInt8) (x6 : Int) : Option Int := (laws_heldByteS.l0 k x1 x6 0)
theorem laws_heldByteS.calls (k : Nat) (w : World) (H : Hp) (x1 : List UInt8) (A2 : Option Addr) (c3 : Nat) (x6 : Int) (h4 : Rd tByte H A2 x1) (l5 : x1.length ≤ c3) (S : Own [] H w) (r : Int) (M : laws_heldByteS.f k x1 x6 = some r) :
    Calls Try.prog 69 #[.slice A2 x1.length c3, .int .i64 x6] w (fun e e_w => e = .returned (.int .i64 r) ∧ Chg no w e_w) := by
  rw [laws_heldByteS.f] at M
  refine enter (l := [.slice A2 x1.length c3, .int .i64 x6]) 22 Try.func69 rfl rfl rfl ?_
  have S0_ := S.st
  refine wp_seq ?_
  refine wp_region_lit ?_
  refine lv (d := 4) rfl rfl (by kernel_rfl) (e_assign (v := .int .i64 0) rfl) ?_
  refine wpList_nil ?_
  refine then_n ?_
  refine wp_seq ?_
  refine wp_seq ?_
  refine wp_region_lit ?_
  refine lv (d := 5) rfl rfl (by kernel_rfl) (e_assign (v := .int .i64 0) rfl) ?_
  refine wpList_nil ?_
  refine then_n ?_
  refine wp_block ?_
  refine wp_loop_g (fun k17 a18 w7 => ∃ (f8 : Nat → Value) (x9 : Int) (x10 : Int), a18 = mk 22 f8 ∧ f8 0 = .slice A2 x1.length c3 ∧ f8 1 = .int .i64 x9 ∧ f8 5 = .int .i64 x10 ∧ St (anyOf []) H w [] H w7 ∧ laws_heldByteS.l0 k17 x1 x9 x10 = some r) k ⟨_, x6, 0, rfl, (by kernel_rfl), (by kernel_rfl), (by kernel_rfl), S0_, M⟩ ?_
  clear M
  rintro k17 a18 w7 ⟨f8, x9, x10, rfl, e11, e12, e13, S14, M⟩
  rcases k17 with _ | k19
  · rw [laws_heldByteS.l0] at M
    cases M
  rw [laws_heldByteS.l0] at M
  refine wp_seq ?_
  refine wp_seq ?_
  refine wp_region_lit ?_
  refine lv (d := 6) rfl rfl (by kernel_rfl) (e_move (v := .int .i64 x10) (by exact e13)) ?_
  refine lv (d := 7) rfl rfl (by kernel_rfl) (e_move (v := .slice A2 x1.length c3) (by exact e11)) ?_
  refine lv (d := 8) rfl rfl (by kernel_rfl) (e_len (A := A2) (n := x1.length) (c := c3) Try.underlying59 (by kernel_rfl)) ?_
  refine lv (d := 9) rfl rfl (by kernel_rfl) (e_lss (k := .i64) (a := x10) (b := (x1.length : Int)) (by kernel_rfl) (by kernel_rfl)) ?_
  refine wpList_nil ?_
  refine then_n ?_
  by_cases q20 : x10 < (x1.length : Int)
  · replace M := ifp q20 M
    refine cond_t rfl (bt q20 (by kernel_rfl)) ?_
    refine wp_skip ?_
    refine then_n ?_
    refine wp_seq ?_
    refine wp_block ?_
    refine wp_seq ?_
    refine wp_seq ?_
    refine wp_region_lit ?_
    refine lv (d := 12) rfl rfl (by kernel_rfl) (e_move (v := .slice A2 x1.length c3) (by exact e11)) ?_
    refine lv (d := 13) rfl rfl (by kernel_rfl) (e_move (v := .int .i64 x10) (by exact e13)) ?_
    obtain ⟨q21, M⟩ := chk M
    obtain ⟨b22, o23, e24⟩ := Rd.addr h4 (show (x10).toNat < x1.length by omega)
    obtain ⟨y25, r26, k27⟩ := Rd.at h4 e24 (getD_some (0 : UInt8) (show (x10).toNat < x1.length by omega))
    obtain rfl := r26
    refine lv (d := 14) rfl rfl (by kernel_rfl) (e_indexAddr (b := b22) (off := o23) (n := x1.length) (c := c3) (sz := 1) (i := x10) (k := .i64) Try.underlying59 e24 (by kernel_rfl) (by kernel_rfl) (by kernel_rfl) q21 q20) ?_
    refine lv (d := 15) rfl rfl (by kernel_rfl) (e_load1 (ad := ⟨b22, o23 + (x10 : Int).toNat * 1, none⟩) (v := .int .u8 ((x1.getD ((x10).toNat) (0 : UInt8)).toNat : Int)) Try.underlying5 rfl (by kernel_rfl) (hpx (S14.inv.cell (k27 0 _ rfl)))) ?_
    refine lv (d := 16) rfl rfl (by kernel_rfl) (e_move (v := .int .i64 x9) (by exact e12)) ?_
    refine lv (d := 17) rfl rfl (by kernel_rfl) (e_conv_i8 (k := .i64) (a := x9) (by kernel_rfl) Try.underlying5 (by kernel_rfl)) ?_
    refine lv (d := 18) rfl rfl (by kernel_rfl) (e_neq (k := .u8) (a := ((x1.getD ((x10).toNat) (0 : UInt8)).toNat : Int)) (b := ((b8 (x9)).toNat : Int)) (by kernel_rfl) (by kernel_rfl)) ?_
    refine wpList_nil ?_
    refine then_n ?_
    by_cases q28 : ((x1.getD ((x10).toNat) (0 : UInt8)).toNat : Int) ≠ ((b8 (x9)).toNat : Int)
    · replace M := ifp q28 M
      refine cond_t rfl (bt q28 (by kernel_rfl)) ?_
      refine wp_seq ?_
      refine wp_region_lit ?_
      refine lv (d := 4) rfl rfl (by kernel_rfl) (e_assign (v := .int .i64 (-1)) rfl) ?_
      refine wpList_nil ?_
      refine then_n ?_
      refine wp_ret ?_
      refine then_r ?_
      refine inb_r ?_
      refine then_r ?_
      refine then_r ?_
      refine inb_r ?_
      refine then_r ?_
      obtain rfl := Option.some.inj M
      exact ret1 rfl rfl  (show _ = .int .i64 (-1) from (by kernel_rfl)) ⟨rfl, S14.chg⟩
    replace M := ifn q28 M
    refine cond_f rfl (bf q28 (by kernel_rfl)) ?_
    refine wp_skip ?_
    refine then_n ?_
    refine wp_region_lit ?_
    refine lv (d := 19) rfl rfl (by kernel_rfl) (e_move (v := .int .i64 x9) (by exact e12)) ?_
    refine lv (d := 20) rfl rfl (by kernel_rfl) (e_add (k := .i64) (a := x9) (b := 1) (by kernel_rfl) rfl) ?_
    refine lv (d := 1) rfl rfl (by kernel_rfl) (e_assign (v := .int .i64 (IntKind.i64.wrap (x9 + 1))) (by kernel_rfl)) ?_
    refine wpList_nil ?_
    refine inb_n ?_
    refine then_n ?_
    refine wp_region_lit ?_
    refine lv (d := 10) rfl rfl (by kernel_rfl) (e_move (v := .int .i64 x10) (by exact e13)) ?_
    refine lv (d := 11) rfl rfl (by kernel_rfl) (e_add (k := .i64) (a := x10) (b := 1) (by kernel_rfl) rfl) ?_
    refine lv (d := 5) rfl rfl (by kernel_rfl) (e_assign (v := .int .i64 (IntKind.i64.wrap (x10 + 1))) (by kernel_rfl)) ?_
    refine wpList_nil ?_
    refine then_n ?_
    exact ⟨k19, (by omega), _, (IntKind.i64.wrap (x9 + 1)), (IntKind.i64.wrap (x10 + 1)), rfl, (by exact e11), (by kernel_rfl), (by kernel_rfl), S14, M⟩
  replace M := ifn q20 M
  refine cond_f rfl (bf q20 (by kernel_rfl)) ?_
  refine wp_exit ?_
  refine then_e ?_
  refine then_e ?_
  refine inb_hit ?_
  refine then_n ?_
  refine wp_seq ?_
  refine wp_region_lit ?_
  refine lv (d := 21) rfl rfl (by kernel_rfl) (e_move (v := .int .i64 x9) (by exact e12)) ?_
  refine lv (d := 4) rfl rfl (by kernel_rfl) (e_assign (v := .int .i64 x9) (by kernel_rfl)) ?_
  refine wpList_nil ?_
  refine then_n ?_
  refine wp_ret ?_
  obtain rfl := Option.some.inj M
  exact ret1 rfl rfl  (show _ = .int .i64 x9 from (by kernel_rfl)) ⟨rfl, S14.chg⟩

/-! laws_heldCellS -/
def laws_heldCellS.l0 : Nat → (List Cell) → Int → Int → Option Int
  | 0, _, _, _ => none
  | k19 + 1, x1, x9, x10 => (if x10 < (x1.length : Int) then (if 0 ≤ x10 then (if ((x1.getD ((x10).toNat) z65).kind) ≠ x9 then some (-1) else (if ((x1.getD ((x10).toNat) z65).n) ≠ (IntKind.i64.wrap (x9 + 1)) then some (-1) else ((laws_heldByteS.f k19 ((x1.getD ((x10).toNat) z65).text) (IntKind.i64.wrap ((IntKind.i64.wrap (x9 + 1)) + 1))).bind fun t54 => (if t54 < 0 then some (-1) else (laws_heldCellS.l0 k19 x1 t54 (IntKind.i64.wrap (x10 + 1))))))) else none) else some x9)
def laws_heldCellS.f (k : Nat) (x1 : List Cell) (x6 : Int) : Option Int := (laws_heldCellS.l0 k x1 x6 0)
theorem laws_heldCellS.calls (k : Nat) (w : World) (H : Hp) (x1 : List Cell) (A2 : Option Addr) (c3 : Nat) (x6 : Int) (h4 : Rd st65 H A2 x1) (l5 : x1.length ≤ c3) (S : Own [] H w) (r : Int) (M : laws_heldCellS.f k x1 x6 = some r) :
    Calls Try.prog 29 #[.slice A2 x1.length c3, .int .i64 x6] w (fun e e_w => e = .returned (.int .i64 r) ∧ Chg no w e_w) := by
  rw [laws_heldCellS.f] at M
  refine enter (l := [.slice A2 x1.length c3, .int .i64 x6]) 40 Try.func29 rfl rfl rfl ?_
  have S0_ := S.st
  refine wp_seq ?_
  refine wp_region_lit ?_
  refine lv (d := 4) rfl rfl (by kernel_rfl) (e_assign (v := .int .i64 0) rfl) ?_
  refine wpList_nil ?_
  refine then_n ?_
  refine wp_seq ?_
  refine wp_seq ?_
  refine wp_region_lit ?_
  refine lv (d := 5) rfl rfl (by kernel_rfl) (e_assign (v := .int .i64 0) rfl) ?_
  refine wpList_nil ?_
  refine then_n ?_
  refine wp_block ?_
  refine wp_loop_g (fun k17 a18 w7 => ∃ (f8 : Nat → Value) (x9 : Int) (x10 : Int), a18 = mk 40 f8 ∧ f8 0 = .slice A2 x1.length c3 ∧ f8 1 = .int .i64 x9 ∧ f8 5 = .int .i64 x10 ∧ St (anyOf []) H w [] H w7 ∧ laws_heldCellS.l0 k17 x1 x9 x10 = some r) k ⟨_, x6, 0, rfl, (by kernel_rfl), (by kernel_rfl), (by kernel_rfl), S0_, M⟩ ?_
  clear M
  rintro k17 a18 w7 ⟨f8, x9, x10, rfl, e11, e12, e13, S14, M⟩
  rcases k17 with _ | k19
  · rw [laws_heldCellS.l0] at M
    cases M
  rw [laws_heldCellS.l0] at M
  refine wp_seq ?_
  refine wp_seq ?_
  refine wp_region_lit ?_
  refine lv (d := 6) rfl rfl (by kernel_rfl) (e_move (v := .int .i64 x10) (by exact e13)) ?_
  refine lv (d := 7) rfl rfl (by kernel_rfl) (e_move (v := .slice A2 x1.length c3) (by exact e11)) ?_
  refine lv (d := 8) rfl rfl (by kernel_rfl) (e_len (A := A2) (n := x1.length) (c := c3) Try.underlying25 (by kernel_rfl)) ?_
  refine lv (d := 9) rfl rfl (by kernel_rfl) (e_lss (k := .i64) (a := x10) (b := (x1.length : Int)) (by kernel_rfl) (by kernel_rfl)) ?_
  refine wpList_nil ?_
  refine then_n ?_
  by_cases q20 : x10 < (x1.length : Int)
  · replace M := ifp q20 M
    refine cond_t rfl (bt q20 (by kernel_rfl)) ?_
    refine wp_skip ?_
    refine then_n ?_
    refine wp_seq ?_
    refine wp_block ?_
    refine wp_seq ?_
    refine wp_seq ?_
    refine wp_region_lit ?_
    refine lv (d := 12) rfl rfl (by kernel_rfl) (e_move (v := .slice A2 x1.length c3) (by exact e11)) ?_
    refine lv (d := 13) rfl rfl (by kernel_rfl) (e_move (v := .int .i64 x10) (by exact e13)) ?_
    obtain ⟨q21, M⟩ := chk M
    obtain ⟨b22, o23, e24⟩ := Rd.addr h4 (show (x10).toNat < x1.length by omega)
    obtain ⟨y25, r26, k27⟩ := Rd.at h4 e24 (getD_some z65 (show (x10).toNat < x1.length by omega))
    obtain ⟨A28, c29, rfl, l30, h31⟩ := st65_open r26
    refine lv (d := 14) rfl rfl (by kernel_rfl) (e_indexAddr (b := b22) (off := o23) (n := x1.length) (c := c3) (sz := 3) (i := x10) (k := .i64) Try.underlying25 e24 (by kernel_rfl) (by kernel_rfl) (by kernel_rfl) q21 q20) ?_
    refine lv (d := 15) rfl rfl (by kernel_rfl) (e_fieldAddr (b := b22) (off := o23 + (x10 : Int).toNat * 3) (o := 0) Try.underlying65 rfl rfl (sz := 1) (by kernel_rfl) (by decide) (by kernel_rfl)) ?_
    refine lv (d := 16) rfl rfl (by kernel_rfl) (e_load1 (ad := ⟨b22, o23 + (x10 : Int).toNat * 3 + 0, none⟩) (v := .int .i64 ((x1.getD ((x10).toNat) z65).kind)) Try.underlying3 rfl (by kernel_rfl) (hpx (S14.inv.cell (k27 0 _ rfl)))) ?_
    refine lv (d := 17) rfl rfl (by kernel_rfl) (e_move (v := .int .i64 x9) (by exact e12)) ?_
    refine lv (d := 18) rfl rfl (by kernel_rfl) (e_neq (k := .i64) (a := (x1.getD ((x10).toNat) z65).kind) (b := x9) (by kernel_rfl) (by kernel_rfl)) ?_
    refine wpList_nil ?_
    refine then_n ?_
    by_cases q32 : ((x1.getD ((x10).toNat) z65).kind) ≠ x9
    · replace M := ifp q32 M
      refine cond_t rfl (bt q32 (by kernel_rfl)) ?_
      refine wp_seq ?_
      refine wp_region_lit ?_
      refine lv (d := 4) rfl rfl (by kernel_rfl) (e_assign (v := .int .i64 (-1)) rfl) ?_
      refine wpList_nil ?_
      refine then_n ?_
      refine wp_ret ?_
      refine then_r ?_
      refine inb_r ?_
      refine then_r ?_
      refine then_r ?_
      refine inb_r ?_
      refine then_r ?_
      obtain rfl := Option.some.inj M
      exact ret1 rfl rfl  (show _ = .int .i64 (-1) from (by kernel_rfl)) ⟨rfl, S14.chg⟩
    replace M := ifn q32 M
    refine cond_f rfl (bf q32 (by kernel_rfl)) ?_
    refine wp_skip ?_
    refine then_n ?_
    refine wp_seq ?_
    refine wp_region_lit ?_
    refine lv (d := 19) rfl rfl (by kernel_rfl) (e_move (v := .int .i64 x9) (by exact e12)) ?_
    refine lv (d := 20) rfl rfl (by kernel_rfl) (e_add (k := .i64) (a := x9) (b := 1) (by kernel_rfl) rfl) ?_
    refine lv (d := 1) rfl rfl (by kernel_rfl) (e_assign (v := .int .i64 (IntKind.i64.wrap (x9 + 1))) (by kernel_rfl)) ?_
    refine wpList_nil ?_
    refine then_n ?_
    refine wp_seq ?_
    refine wp_seq ?_
    refine wp_region_lit ?_
    refine lv (d := 21) rfl rfl (by kernel_rfl) (e_move (v := .slice A2 x1.length c3) (by exact e11)) ?_
    refine lv (d := 22) rfl rfl (by kernel_rfl) (e_move (v := .int .i64 x10) (by exact e13)) ?_
    obtain ⟨b33, o34, e35⟩ := Rd.addr h4 (show (x10).toNat < x1.length by omega)
    obtain ⟨y36, r37, k38⟩ := Rd.at h4 e35 (getD_some z65 (show (x10).toNat < x1.length by omega))
    obtain ⟨A39, c40, rfl, l41, h42⟩ := st65_open r37
    refine lv (d := 23) rfl rfl (by kernel_rfl) (e_indexAddr (b := b33) (off := o34) (n := x1.length) (c := c3) (sz := 3) (i := x10) (k := .i64) Try.underlying25 e35 (by kernel_rfl) (by kernel_rfl) (by kernel_rfl) q21 q20) ?_
    refine lv (d := 24) rfl rfl (by kernel_rfl) (e_fieldAddr (b := b33) (off := o34 + (x10 : Int).toNat * 3) (o := 1) Try.underlying65 rfl rfl (sz := 1) (by kernel_rfl) (by decide) (by kernel_rfl)) ?_
    refine lv (d := 25) rfl rfl (by kernel_rfl) (e_load1 (ad := ⟨b33, o34 + (x10 : Int).toNat * 3 + 1, none⟩) (v := .int .i64 ((x1.getD ((x10).toNat) z65).n)) Try.underlying3 rfl (by kernel_rfl) (hpx (S14.inv.cell (k38 1 _ rfl)))) ?_
    refine lv (d := 26) rfl rfl (by kernel_rfl) (e_move (v := .int .i64 (IntKind.i64.wrap (x9 + 1))) (by kernel_rfl)) ?_
    refine lv (d := 27) rfl rfl (by kernel_rfl) (e_neq (k := .i64) (a := (x1.getD ((x10).toNat) z65).n) (b := (IntKind.i64.wrap (x9 + 1))) (by kernel_rfl) (by kernel_rfl)) ?_
    refine wpList_nil ?_
    refine then_n ?_
    by_cases q43 : ((x1.getD ((x10).toNat) z65).n) ≠ (IntKind.i64.wrap (x9 + 1))
    · replace M := ifp q43 M
      refine cond_t rfl (bt q43 (by kernel_rfl)) ?_
      refine wp_seq ?_
      refine wp_region_lit ?_
      refine lv (d := 4) rfl rfl (by kernel_rfl) (e_assign (v := .int .i64 (-1)) rfl) ?_
      refine wpList_nil ?_
      refine then_n ?_
      refine wp_ret ?_
      refine then_r ?_
      refine inb_r ?_
      refine then_r ?_
      refine then_r ?_
      refine inb_r ?_
      refine then_r ?_
      obtain rfl := Option.some.inj M
      exact ret1 rfl rfl  (show _ = .int .i64 (-1) from (by kernel_rfl)) ⟨rfl, S14.chg⟩
    replace M := ifn q43 M
    refine cond_f rfl (bf q43 (by kernel_rfl)) ?_
    refine wp_skip ?_
    refine then_n ?_
    refine wp_seq ?_
    refine wp_region_lit ?_
    refine lv (d := 28) rfl rfl (by kernel_rfl) (e_move (v := .int .i64 (IntKind.i64.wrap (x9 + 1))) (by kernel_rfl)) ?_
    refine lv (d := 29) rfl rfl (by kernel_rfl) (e_add (k := .i64) (a := (IntKind.i64.wrap (x9 + 1))) (b := 1) (by kernel_rfl) rfl) ?_
    refine lv (d := 1) rfl rfl (by kernel_rfl) (e_assign (v := .int .i64 (IntKind.i64.wrap ((IntKind.i64.wrap (x9 + 1)) + 1))) (by kernel_rfl)) ?_
    refine wpList_nil ?_
    refine then_n ?_
    refine wp_seq ?_
    refine wp_region_lit ?_
    refine lv (d := 30) rfl rfl (by kernel_rfl) (e_move (v := .slice A2 x1.length c3) (by exact e11)) ?_
    refine lv (d := 31) rfl rfl (by kernel_rfl) (e_move (v := .int .i64 x10) (by exact e13)) ?_
    obtain ⟨b44, o45, e46⟩ := Rd.addr h4 (show (x10).toNat < x1.length by omega)
    obtain ⟨y47, r48, k49⟩ := Rd.at h4 e46 (getD_some z65 (show (x10).toNat < x1.length by omega))
    obtain ⟨A50, c51, rfl, l52, h53⟩ := st65_open r48
    refine lv (d := 32) rfl rfl (by kernel_rfl) (e_indexAddr (b := b44) (off := o45) (n := x1.length) (c := c3) (sz := 3) (i := x10) (k := .i64) Try.underlying25 e46 (by kernel_rfl) (by kernel_rfl) (by kernel_rfl) q21 q20) ?_
    refine lv (d := 33) rfl rfl (by kernel_rfl) (e_fieldAddr (b := b44) (off := o45 + (x10 : Int).toNat * 3) (o := 2) Try.underlying65 rfl rfl (sz := 1) (by kernel_rfl) (by decide) (by kernel_rfl)) ?_
    refine lv (d := 34) rfl rfl (by kernel_rfl) (e_load1 (ad := ⟨b44, o45 + (x10 : Int).toNat * 3 + 2, none⟩) (v := .slice A50 ((x1.getD ((x10).toNat) z65).text).length c51) Try.underlying59 rfl (by kernel_rfl) (hpx (S14.inv.cell (k49 2 _ rfl)))) ?_
    refine lv (d := 35) rfl rfl (by kernel_rfl) (e_move (v := .int .i64 (IntKind.i64.wrap ((IntKind.i64.wrap (x9 + 1)) + 1))) (by kernel_rfl)) ?_
    obtain ⟨t54, u55, M⟩ := bnd M
    refine lcall (d := 36) rfl rfl (by kernel_rfl) (e_call (l := [.tmp 34, .tmp 35]) (vs := [.slice A50 ((x1.getD ((x10).toNat) z65).text).length c51, .int .i64 (IntKind.i64.wrap ((IntKind.i64.wrap (x9 + 1)) + 1))]) Try.func69 (by kernel_rfl) rfl (by kernel_rfl) rfl) (laws_heldByteS.calls k19 w7 H ((x1.getD ((x10).toNat) z65).text) A50 c51 (IntKind.i64.wrap ((IntKind.i64.wrap (x9 + 1)) + 1)) h53 l52 S14.own0 t54 u55) ?_
    rintro _ w56 ⟨rfl, C57⟩
    refine ⟨_, rfl, ?_⟩
    obtain ⟨S58, K59⟩ := S14.still C57
    refine lv (d := 1) rfl rfl (by kernel_rfl) (e_assign (v := .int .i64 t54) (by kernel_rfl)) ?_
    refine wpList_nil ?_
    refine then_n ?_
    refine wp_seq ?_
    refine wp_region_lit ?_
    refine lv (d := 37) rfl rfl (by kernel_rfl) (e_move (v := .int .i64 t54) (by kernel_rfl)) ?_
    refine lv (d := 38) rfl rfl (by kernel_rfl) (e_lss (k := .i64) (a := t54) (b := 0) (by kernel_rfl) rfl) ?_
    refine wpList_nil ?_
    refine then_n ?_
    by_cases q60 : t54 < 0
    · replace M := ifp q60 M
      refine cond_t rfl (bt q60 (by kernel_rfl)) ?_
      refine wp_seq ?_
      refine wp_region_lit ?_
      refine lv (d := 4) rfl rfl (by kernel_rfl) (e_assign (v := .int .i64 (-1)) rfl) ?_
      refine wpList_nil ?_
      refine then_n ?_
      refine wp_ret ?_
      refine inb_r ?_
      refine then_r ?_
      refine then_r ?_
      refine inb_r ?_
      refine then_r ?_
      obtain rfl := Option.some.inj M
      exact ret1 rfl rfl  (show _ = .int .i64 (-1) from (by kernel_rfl)) ⟨rfl, S58.chg⟩
    replace M := ifn q60 M
    refine cond_f rfl (bf q60 (by kernel_rfl)) ?_
    refine wp_skip ?_
    refine inb_n ?_
    refine then_n ?_
    refine wp_region_lit ?_
    refine lv (d := 10) rfl rfl (by kernel_rfl) (e_move (v := .int .i64 x10) (by exact e13)) ?_
    refine lv (d := 11) rfl rfl (by kernel_rfl) (e_add (k := .i64) (a := x10) (b := 1) (by kernel_rfl) rfl) ?_
    refine lv (d := 5) rfl rfl (by kernel_rfl) (e_assign (v := .int .i64 (IntKind.i64.wrap (x10 + 1))) (by kernel_rfl)) ?_
    refine wpList_nil ?_
    refine then_n ?_
    exact ⟨k19, (by omega), _, t54, (IntKind.i64.wrap (x10 + 1)), rfl, (by exact e11), (by kernel_rfl), (by kernel_rfl), S58, M⟩
  replace M := ifn q20 M
  refine cond_f rfl (bf q20 (by kernel_rfl)) ?_
  refine wp_exit ?_
  refine then_e ?_
  refine then_e ?_
  refine inb_hit ?_
  refine then_n ?_
  refine wp_seq ?_
  refine wp_region_lit ?_
  refine lv (d := 39) rfl rfl (by kernel_rfl) (e_move (v := .int .i64 x9) (by exact e12)) ?_
  refine lv (d := 4) rfl rfl (by kernel_rfl) (e_assign (v := .int .i64 x9) (by kernel_rfl)) ?_
  refine wpList_nil ?_
  refine then_n ?_
  refine wp_ret ?_
  obtain rfl := Option.some.inj M
  exact ret1 rfl rfl  (show _ = .int .i64 x9 from (by kernel_rfl)) ⟨rfl, S14.chg⟩

/-! laws_heldBindingS -/
def laws_heldBindingS.l0 : Nat → (List Binding) → Int → Int → Option Int
  | 0, _, _, _ => none
  | k19 + 1, x1, x9, x10 => (if x10 < (x1.length : Int) then (if 0 ≤ x10 then (if ((x1.getD ((x10).toNat) z63).var) ≠ x9 then some (-1) else ((laws_heldCellS.f k19 ((x1.getD ((x10).toNat) z63).term) (IntKind.i64.wrap (x9 + 1))).bind fun t43 => (if t43 < 0 then some (-1) else (laws_heldBindingS.l0 k19 x1 t43 (IntKind.i64.wrap (x10 + 1)))))) else none) else some x9)
def laws_heldBindingS.f (k : Nat) (x1 : List Binding) (x6 : Int) : Option Int := (laws_heldBindingS.l0 k x1 x6 0)
theorem laws_heldBindingS.calls (k : Nat) (w : World) (H : Hp) (x1 : List Binding) (A2 : Option Addr) (c3 : Nat) (x6 : Int) (h4 : Rd st63 H A2 x1) (l5 : x1.length ≤ c3) (S : Own [] H w) (r : Int) (M : laws_heldBindingS.f k x1 x6 = some r) :
    Calls Try.prog 51 #[.slice A2 x1.length c3, .int .i64 x6] w (fun e e_w => e = .returned (.int .i64 r) ∧ Chg no w e_w) := by
  rw [laws_heldBindingS.f] at M
  refine enter (l := [.slice A2 x1.length c3, .int .i64 x6]) 31 Try.func51 rfl rfl rfl ?_
  have S0_ := S.st
  refine wp_seq ?_
  refine wp_region_lit ?_
  refine lv (d := 4) rfl rfl (by kernel_rfl) (e_assign (v := .int .i64 0) rfl) ?_
  refine wpList_nil ?_
  refine then_n ?_
  refine wp_seq ?_
  refine wp_seq ?_
  refine wp_region_lit ?_
  refine lv (d := 5) rfl rfl (by kernel_rfl) (e_assign (v := .int .i64 0) rfl) ?_
  refine wpList_nil ?_
  refine then_n ?_
  refine wp_block ?_
  refine wp_loop_g (fun k17 a18 w7 => ∃ (f8 : Nat → Value) (x9 : Int) (x10 : Int), a18 = mk 31 f8 ∧ f8 0 = .slice A2 x1.length c3 ∧ f8 1 = .int .i64 x9 ∧ f8 5 = .int .i64 x10 ∧ St (anyOf []) H w [] H w7 ∧ laws_heldBindingS.l0 k17 x1 x9 x10 = some r) k ⟨_, x6, 0, rfl, (by kernel_rfl), (by kernel_rfl), (by kernel_rfl), S0_, M⟩ ?_
  clear M
  rintro k17 a18 w7 ⟨f8, x9, x10, rfl, e11, e12, e13, S14, M⟩
  rcases k17 with _ | k19
  · rw [laws_heldBindingS.l0] at M
    cases M
  rw [laws_heldBindingS.l0] at M
  refine wp_seq ?_
  refine wp_seq ?_
  refine wp_region_lit ?_
  refine lv (d := 6) rfl rfl (by kernel_rfl) (e_move (v := .int .i64 x10) (by exact e13)) ?_
  refine lv (d := 7) rfl rfl (by kernel_rfl) (e_move (v := .slice A2 x1.length c3) (by exact e11)) ?_
  refine lv (d := 8) rfl rfl (by kernel_rfl) (e_len (A := A2) (n := x1.length) (c := c3) Try.underlying52 (by kernel_rfl)) ?_
  refine lv (d := 9) rfl rfl (by kernel_rfl) (e_lss (k := .i64) (a := x10) (b := (x1.length : Int)) (by kernel_rfl) (by kernel_rfl)) ?_
  refine wpList_nil ?_
  refine then_n ?_
  by_cases q20 : x10 < (x1.length : Int)
  · replace M := ifp q20 M
    refine cond_t rfl (bt q20 (by kernel_rfl)) ?_
    refine wp_skip ?_
    refine then_n ?_
    refine wp_seq ?_
    refine wp_block ?_
    refine wp_seq ?_
    refine wp_seq ?_
    refine wp_region_lit ?_
    refine lv (d := 12) rfl rfl (by kernel_rfl) (e_move (v := .slice A2 x1.length c3) (by exact e11)) ?_
    refine lv (d := 13) rfl rfl (by kernel_rfl) (e_move (v := .int .i64 x10) (by exact e13)) ?_
    obtain ⟨q21, M⟩ := chk M
    obtain ⟨b22, o23, e24⟩ := Rd.addr h4 (show (x10).toNat < x1.length by omega)
    obtain ⟨y25, r26, k27⟩ := Rd.at h4 e24 (getD_some z63 (show (x10).toNat < x1.length by omega))
    obtain ⟨A28, c29, rfl, l30, h31⟩ := st63_open r26
    refine lv (d := 14) rfl rfl (by kernel_rfl) (e_indexAddr (b := b22) (off := o23) (n := x1.length) (c := c3) (sz := 2) (i := x10) (k := .i64) Try.underlying52 e24 (by kernel_rfl) (by kernel_rfl) (by kernel_rfl) q21 q20) ?_
    refine lv (d := 15) rfl rfl (by kernel_rfl) (e_fieldAddr (b := b22) (off := o23 + (x10 : Int).toNat * 2) (o := 0) Try.underlying63 rfl rfl (sz := 1) (by kernel_rfl) (by decide) (by kernel_rfl)) ?_
    refine lv (d := 16) rfl rfl (by kernel_rfl) (e_load1 (ad := ⟨b22, o23 + (x10 : Int).toNat * 2 + 0, none⟩) (v := .int .i64 ((x1.getD ((x10).toNat) z63).var)) Try.underlying3 rfl (by kernel_rfl) (hpx (S14.inv.cell (k27 0 _ rfl)))) ?_
    refine lv (d := 17) rfl rfl (by kernel_rfl) (e_move (v := .int .i64 x9) (by exact e12)) ?_
    refine lv (d := 18) rfl rfl (by kernel_rfl) (e_neq (k := .i64) (a := (x1.getD ((x10).toNat) z63).var) (b := x9) (by kernel_rfl) (by kernel_rfl)) ?_
    refine wpList_nil ?_
    refine then_n ?_
    by_cases q32 : ((x1.getD ((x10).toNat) z63).var) ≠ x9
    · replace M := ifp q32 M
      refine cond_t rfl (bt q32 (by kernel_rfl)) ?_
      refine wp_seq ?_
      refine wp_region_lit ?_
      refine lv (d := 4) rfl rfl (by kernel_rfl) (e_assign (v := .int .i64 (-1)) rfl) ?_
      refine wpList_nil ?_
      refine then_n ?_
      refine wp_ret ?_
      refine then_r ?_
      refine inb_r ?_
      refine then_r ?_
      refine then_r ?_
      refine inb_r ?_
      refine then_r ?_
      obtain rfl := Option.some.inj M
      exact ret1 rfl rfl  (show _ = .int .i64 (-1) from (by kernel_rfl)) ⟨rfl, S14.chg⟩
    replace M := ifn q32 M
    refine cond_f rfl (bf q32 (by kernel_rfl)) ?_
    refine wp_skip ?_
    refine then_n ?_
    refine wp_seq ?_
    refine wp_region_lit ?_
    refine lv (d := 19) rfl rfl (by kernel_rfl) (e_move (v := .int .i64 x9) (by exact e12)) ?_
    refine lv (d := 20) rfl rfl (by kernel_rfl) (e_add (k := .i64) (a := x9) (b := 1) (by kernel_rfl) rfl) ?_
    refine lv (d := 1) rfl rfl (by kernel_rfl) (e_assign (v := .int .i64 (IntKind.i64.wrap (x9 + 1))) (by kernel_rfl)) ?_
    refine wpList_nil ?_
    refine then_n ?_
    refine wp_seq ?_
    refine wp_region_lit ?_
    refine lv (d := 21) rfl rfl (by kernel_rfl) (e_move (v := .slice A2 x1.length c3) (by exact e11)) ?_
    refine lv (d := 22) rfl rfl (by kernel_rfl) (e_move (v := .int .i64 x10) (by exact e13)) ?_
    obtain ⟨b33, o34, e35⟩ := Rd.addr h4 (show (x10).toNat < x1.length by omega)
    obtain ⟨y36, r37, k38⟩ := Rd.at h4 e35 (getD_some z63 (show (x10).toNat < x1.length by omega))
    obtain ⟨A39, c40, rfl, l41, h42⟩ := st63_open r37
    refine lv (d := 23) rfl rfl (by kernel_rfl) (e_indexAddr (b := b33) (off := o34) (n := x1.length) (c := c3) (sz := 2) (i := x10) (k := .i64) Try.underlying52 e35 (by kernel_rfl) (by kernel_rfl) (by kernel_rfl) q21 q20) ?_
    refine lv (d := 24) rfl rfl (by kernel_rfl) (e_fieldAddr (b := b33) (off := o34 + (x10 : Int).toNat * 2) (o := 1) Try.underlying63 rfl rfl (sz := 1) (by kernel_rfl) (by decide) (by kernel_rfl)) ?_
    refine lv (d := 25) rfl rfl (by kernel_rfl) (e_load1 (ad := ⟨b33, o34 + (x10 : Int).toNat * 2 + 1, none⟩) (v := .slice A39 ((x1.getD ((x10).toNat) z63).term).length c40) Try.underlying25 rfl (by kernel_rfl) (hpx (S14.inv.cell (k38 1 _ rfl)))) ?_
    refine lv (d := 26) rfl rfl (by kernel_rfl) (e_move (v := .int .i64 (IntKind.i64.wrap (x9 + 1))) (by kernel_rfl)) ?_
    obtain ⟨t43, u44, M⟩ := bnd M
    refine lcall (d := 27) rfl rfl (by kernel_rfl) (e_call (l := [.tmp 25, .tmp 26]) (vs := [.slice A39 ((x1.getD ((x10).toNat) z63).term).length c40, .int .i64 (IntKind.i64.wrap (x9 + 1))]) Try.func29 (by kernel_rfl) rfl (by kernel_rfl) rfl) (laws_heldCellS.calls k19 w7 H ((x1.getD ((x10).toNat) z63).term) A39 c40 (IntKind.i64.wrap (x9 + 1)) h42 l41 S14.own0 t43 u44) ?_
    rintro _ w45 ⟨rfl, C46⟩
    refine ⟨_, rfl, ?_⟩
    obtain ⟨S47, K48⟩ := S14.still C46
    refine lv (d := 1) rfl rfl (by kernel_rfl) (e_assign (v := .int .i64 t43) (by kernel_rfl)) ?_
    refine wpList_nil ?_
    refine then_n ?_
    refine wp_seq ?_
    refine wp_region_lit ?_
    refine lv (d := 28) rfl rfl (by kernel_rfl) (e_move (v := .int .i64 t43) (by kernel_rfl)) ?_
    refine lv (d := 29) rfl rfl (by kernel_rfl) (e_lss (k := .i64) (a := t43) (b := 0) (by kernel_rfl) rfl) ?_
    refine wpList_nil ?_
    refine then_n ?_
    by_cases q49 : t43 < 0
    · replace M := ifp q49 M
      refine cond_t rfl (bt q49 (by kernel_rfl)) ?_
      refine wp_seq ?_
      refine wp_region_lit ?_
      refine lv (d := 4) rfl rfl (by kernel_rfl) (e_assign (v := .int .i64 (-1)) rfl) ?_
      refine wpList_nil ?_
      refine then_n ?_
      refine wp_ret ?_
      refine inb_r ?_
      refine then_r ?_
      refine then_r ?_
      refine inb_r ?_
      refine then_r ?_
      obtain rfl := Option.some.inj M
      exact ret1 rfl rfl  (show _ = .int .i64 (-1) from (by kernel_rfl)) ⟨rfl, S47.chg⟩
    replace M := ifn q49 M
    refine cond_f rfl (bf q49 (by kernel_rfl)) ?_
    refine wp_skip ?_
    refine inb_n ?_
    refine then_n ?_
    refine wp_region_lit ?_
    refine lv (d := 10) rfl rfl (by kernel_rfl) (e_move (v := .int .i64 x10) (by exact e13)) ?_
    refine lv (d := 11) rfl rfl (by kernel_rfl) (e_add (k := .i64) (a := x10) (b := 1) (by kernel_rfl) rfl) ?_
    refine lv (d := 5) rfl rfl (by kernel_rfl) (e_assign (v := .int .i64 (IntKind.i64.wrap (x10 + 1))) (by kernel_rfl)) ?_
    refine wpList_nil ?_
    refine then_n ?_
    exact ⟨k19, (by omega), _, t43, (IntKind.i64.wrap (x10 + 1)), rfl, (by exact e11), (by kernel_rfl), (by kernel_rfl), S47, M⟩
  replace M := ifn q20 M
  refine cond_f rfl (bf q20 (by kernel_rfl)) ?_
  refine wp_exit ?_
  refine then_e ?_
  refine then_e ?_
  refine inb_hit ?_
  refine then_n ?_
  refine wp_seq ?_
  refine wp_region_lit ?_
  refine lv (d := 30) rfl rfl (by kernel_rfl) (e_move (v := .int .i64 x9) (by exact e12)) ?_
  refine lv (d := 4) rfl rfl (by kernel_rfl) (e_assign (v := .int .i64 x9) (by kernel_rfl)) ?_
  refine wpList_nil ?_
  refine then_n ?_
  refine wp_ret ?_
  obtain rfl := Option.some.inj M
  exact ret1 rfl rfl  (show _ = .int .i64 x9 from (by kernel_rfl)) ⟨rfl, S14.chg⟩
end Go.Proofs.Ytognefkopbbdnaa
