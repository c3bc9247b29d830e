import Derived.Test.YtognefkopbbdnaaWkSb1
namespace Go.Proofs.Ytognefkopbbdnaa
open Go.Sx Go.Sy
attribute [local irreducible] Go.wpList Go.wpStill Go.wpQuiet Go.Code.wp
set_option maxRecDepth 100000
set_option maxHeartbeats 1000000
set_option linter.unusedVariables false
set_option linter.unusedSimpArgs false

/-! impl_matches -/
mutual
def impl_matches.l0 : Nat → Tm → Tm → Int → (List (Int × Tm)) → Option (Bool × (List (Int × Tm)))
  | 0, _, _, _, _ => none
  | k67 + 1, x4, x7, x55, x56 => (if x55 < (x4.args.length : Int) then (if 0 ≤ x55 then (if x55 < (x7.args.length : Int) then ((impl_matches.f k67 x56 (x4.args.getD ((x55).toNat) (Tm.mk 0 0 [] [])) (x7.args.getD ((x55).toNat) (Tm.mk 0 0 [] []))).bind fun t124 => (if ¬ (t124.1 = true) then some (false, t124.2) else (impl_matches.l0 k67 x4 x7 (IntKind.i64.wrap (x55 + 1)) t124.2))) else none) else none) else some (true, x56))
def impl_matches.f : Nat → (List (Int × Tm)) → Tm → Tm → Option (Bool × (List (Int × Tm)))
  | 0, _, _, _ => none
  | k1_ + 1, x1, x4, x7 => (if x4.kind = 0 then (if (mget x1 x4.n).isSome = true then ((impl_compare.f k1_ ((mget x1 x4.n).getD (Tm.mk 0 0 [] [])) x7).bind fun t27 => some ((decide (t27 = 0)), x1)) else some (true, (mset x1 x4.n x7))) else (if x4.kind ≠ x7.kind then some (false, x1) else (if x4.n ≠ x7.n then some (false, x1) else (if x4.text ≠ x7.text then some (false, x1) else (impl_matches.l0 k1_ x4 x7 0 x1)))))
end
theorem impl_matches.all : ∀ (K : Nat), (∀ (k : Nat), k < K → ∀ (w : World) (H : Hp) (x1 : List (Int × Tm)) (g2 : Nat) (x4 : Tm) (g5 : Nat) (x7 : Tm) (g8 : Nat) (h3 : MapO encI (node 125) H (hp w) g2 x1) (h6 : NodeR 125 H x4 (.pointer (some ⟨g5, 0, none⟩))) (h9 : NodeR 125 H x7 (.pointer (some ⟨g8, 0, none⟩))) (S : Own [(is g2)] H w) (r : Bool × (List (Int × Tm))) (M : impl_matches.f k x1 x4 x7 = some r), Calls Try.prog 72 #[.map (some g2), .pointer (some ⟨g5, 0, none⟩), .pointer (some ⟨g8, 0, none⟩)] w (fun e e_w => ∃ (H_ : Hp), e = .returned (.bool r.1) ∧ MapO encI (node 125) H_ (hp e_w) g2 r.2 ∧ St (anyOf [(is g2)]) H w [(is g2)] H_ e_w)) := by
  intro K
  induction K with
  | zero => intro k hk; omega
  | succ K ih =>
    intro k hk w H x1 g2 x4 g5 x7 g8 h3 h6 h9 S r M
    rcases k with _ | k1_
    · rw [impl_matches.f] at M
      cases M
    rw [impl_matches.f] at M
    refine enter (l := [.map (some g2), .pointer (some ⟨g5, 0, none⟩), .pointer (some ⟨g8, 0, none⟩)]) 92 Try.func72 rfl rfl rfl ?_
    have S0_ := S.st
    refine wp_seq ?_
    refine wp_region_lit ?_
    refine lv (d := 6) rfl rfl (by kernel_rfl) (e_assign (v := .bool false) rfl) ?_
    refine wpList_nil ?_
    refine then_n ?_
    refine wp_seq ?_
    refine wp_seq ?_
    refine wp_region_lit ?_
    refine lv (d := 10) rfl rfl (by kernel_rfl) (e_move (v := .pointer (some ⟨g5, 0, none⟩)) (by kernel_rfl)) ?_
    refine lv (d := 11) rfl rfl (by kernel_rfl) (e_nilCheck (ad := ⟨g5, 0, none⟩) (by kernel_rfl)) ?_
    refine lv (d := 12) rfl rfl (by kernel_rfl) (e_fieldAddr (b := g5) (off := 0) (o := 0) Try.underlying125 rfl rfl (sz := 1) (by kernel_rfl) (by decide) (by kernel_rfl)) ?_
    obtain ⟨A10, c11, y12, q13, h14, h15, l16, h17⟩ := node_open h6
    refine lv (d := 13) rfl rfl (by kernel_rfl) (e_load1 (ad := ⟨g5, 0 + 0, none⟩) (v := .int .i64 x4.kind) Try.underlying3 rfl (by kernel_rfl) (blk_cells (S0_.inv _ _ h14) h15 0 _ rfl)) ?_
    refine lv (d := 14) rfl rfl (by kernel_rfl) (e_eql (k := .i64) (a := x4.kind) (b := 0) (by kernel_rfl) rfl) ?_
    refine wpList_nil ?_
    refine then_n ?_
    by_cases q18 : x4.kind = 0
    · replace M := ifp q18 M
      refine cond_t rfl (bt q18 (by kernel_rfl)) ?_
      refine wp_seq ?_
      refine wp_seq ?_
      refine wp_region_lit ?_
      refine lv (d := 16) rfl rfl (by kernel_rfl) (e_move (v := .map (some g2)) (by kernel_rfl)) ?_
      refine lv (d := 17) rfl rfl (by kernel_rfl) (e_move (v := .pointer (some ⟨g5, 0, none⟩)) (by kernel_rfl)) ?_
      refine lv (d := 18) rfl rfl (by kernel_rfl) (e_nilCheck (ad := ⟨g5, 0, none⟩) (by kernel_rfl)) ?_
      refine lv (d := 19) rfl rfl (by kernel_rfl) (e_fieldAddr (b := g5) (off := 0) (o := 1) Try.underlying125 rfl rfl (sz := 1) (by kernel_rfl) (by decide) (by kernel_rfl)) ?_
      refine lv (d := 20) rfl rfl (by kernel_rfl) (e_load1 (ad := ⟨g5, 0 + 1, none⟩) (v := .int .i64 x4.n) Try.underlying3 rfl (by kernel_rfl) (blk_cells (S0_.inv _ _ h14) h15 1 _ rfl)) ?_
      by_cases q19 : (mget x1 x4.n).isSome = true
      · replace M := ifp q19 M
        obtain ⟨v20, r21, k22⟩ := MapO.look h3 keyI (some_getD q19 (Tm.mk 0 0 [] []))
        obtain ⟨v23, e24, h25⟩ := r21
        obtain rfl := cons1 e24
        obtain ⟨g26, rfl⟩ := node_ptr h25
        refine lv (d := 21) rfl rfl (by kernel_rfl) (e_lookv (k := x4.n) k22 keyI Try.underlying83 Try.underlying3 (by kernel_rfl) (by kernel_rfl) (.pointer none) (by kernel_rfl)) ?_
        refine lv (d := 15) rfl rfl (by kernel_rfl) (e_move (v := .tuple #[.pointer (some ⟨g26, 0, none⟩), .bool true]) (by kernel_rfl)) ?_
        refine lv (d := 22) rfl rfl (by kernel_rfl) (e_extract (vs := #[.pointer (some ⟨g26, 0, none⟩), .bool true]) (v := .pointer (some ⟨g26, 0, none⟩)) (by kernel_rfl) rfl) ?_
        refine lv (d := 23) rfl rfl (by kernel_rfl) (e_extract (vs := #[.pointer (some ⟨g26, 0, none⟩), .bool true]) (v := .bool true) (by kernel_rfl) rfl) ?_
        refine lv (d := 7) rfl rfl (by kernel_rfl) (e_assign (v := .pointer (some ⟨g26, 0, none⟩)) (by kernel_rfl)) ?_
        refine lv (d := 8) rfl rfl (by kernel_rfl) (e_assign (v := .bool true) (by kernel_rfl)) ?_
        refine wpList_nil ?_
        refine then_n ?_
        refine wp_seq ?_
        refine wp_region_lit ?_
        refine lv (d := 24) rfl rfl (by kernel_rfl) (e_move (v := .bool true) (by kernel_rfl)) ?_
        refine wpList_nil ?_
        refine then_n ?_
        refine cond_t rfl (by kernel_rfl) ?_
        refine wp_seq ?_
        refine wp_region_lit ?_
        refine lv (d := 25) rfl rfl (by kernel_rfl) (e_move (v := .pointer (some ⟨g26, 0, none⟩)) (by kernel_rfl)) ?_
        refine lv (d := 26) rfl rfl (by kernel_rfl) (e_move (v := .pointer (some ⟨g8, 0, none⟩)) (by kernel_rfl)) ?_
        obtain ⟨t27, u28, M⟩ := bnd M
        refine lcall (d := 27) rfl rfl (by kernel_rfl) (e_call (l := [.tmp 25, .tmp 26]) (vs := [.pointer (some ⟨g26, 0, none⟩), .pointer (some ⟨g8, 0, none⟩)]) Try.func61 (by kernel_rfl) rfl (by kernel_rfl) rfl) (impl_compare.calls k1_ w H ((mget x1 x4.n).getD (Tm.mk 0 0 [] [])) g26 x7 g8 h25 h9 S0_.own0 t27 u28) ?_
        rintro _ w29 ⟨rfl, C30⟩
        refine ⟨_, rfl, ?_⟩
        obtain ⟨S31, K32⟩ := S0_.still C30
        replace h3 := h3.move (K32.at 0 rfl)
        refine lv (d := 28) rfl rfl (by kernel_rfl) (e_eql (k := .i64) (a := t27) (b := 0) (by kernel_rfl) rfl) ?_
        refine lv (d := 6) rfl rfl (by kernel_rfl) (e_assign (v := .bool (decide (t27 = 0))) (by kernel_rfl)) ?_
        refine wpList_nil ?_
        refine then_n ?_
        refine wp_ret ?_
        refine then_r ?_
        refine then_r ?_
        obtain rfl := Option.some.inj M
        exact ret1 rfl rfl  (show _ = .bool (decide (t27 = 0)) from (by kernel_rfl)) ⟨H, rfl, h3, S31⟩
      replace M := ifn q19 M
      refine lv (d := 21) rfl rfl (by kernel_rfl) (e_look_f (k := x4.n) h3 keyI Try.underlying83 Try.underlying3 (by kernel_rfl) (by kernel_rfl) (is_none q19) (.pointer none) (by kernel_rfl)) ?_
      refine lv (d := 15) rfl rfl (by kernel_rfl) (e_move (v := .tuple #[.pointer none, .bool false]) (by kernel_rfl)) ?_
      refine lv (d := 22) rfl rfl (by kernel_rfl) (e_extract (vs := #[.pointer none, .bool false]) (v := .pointer none) (by kernel_rfl) rfl) ?_
      refine lv (d := 23) rfl rfl (by kernel_rfl) (e_extract (vs := #[.pointer none, .bool false]) (v := .bool false) (by kernel_rfl) rfl) ?_
      refine lv (d := 7) rfl rfl (by kernel_rfl) (e_assign (v := .pointer none) (by kernel_rfl)) ?_
      refine lv (d := 8) rfl rfl (by kernel_rfl) (e_assign (v := .bool false) (by kernel_rfl)) ?_
      refine wpList_nil ?_
      refine then_n ?_
      refine wp_seq ?_
      refine wp_region_lit ?_
      refine lv (d := 24) rfl rfl (by kernel_rfl) (e_move (v := .bool false) (by kernel_rfl)) ?_
      refine wpList_nil ?_
      refine then_n ?_
      refine cond_f rfl (by kernel_rfl) ?_
      refine wp_skip ?_
      refine then_n ?_
      refine wp_seq ?_
      refine wp_region_lit ?_
      refine lv (d := 29) rfl rfl (by kernel_rfl) (e_move (v := .map (some g2)) (by kernel_rfl)) ?_
      refine lv (d := 30) rfl rfl (by kernel_rfl) (e_move (v := .pointer (some ⟨g5, 0, none⟩)) (by kernel_rfl)) ?_
      refine lv (d := 31) rfl rfl (by kernel_rfl) (e_nilCheck (ad := ⟨g5, 0, none⟩) (by kernel_rfl)) ?_
      refine lv (d := 32) rfl rfl (by kernel_rfl) (e_fieldAddr (b := g5) (off := 0) (o := 1) Try.underlying125 rfl rfl (sz := 1) (by kernel_rfl) (by decide) (by kernel_rfl)) ?_
      refine lv (d := 33) rfl rfl (by kernel_rfl) (e_load1 (ad := ⟨g5, 0 + 1, none⟩) (v := .int .i64 x4.n) Try.underlying3 rfl (by kernel_rfl) (blk_cells (S0_.inv _ _ h14) h15 1 _ rfl)) ?_
      refine lv (d := 34) rfl rfl (by kernel_rfl) (e_move (v := .pointer (some ⟨g8, 0, none⟩)) (by kernel_rfl)) ?_
      refine lse rfl rfl (by kernel_rfl) (e_mapUpdate (k := x4.n) (a := x7) S0_ h3 keyI Try.underlying83 Try.underlying3 (by kernel_rfl) (by kernel_rfl) (by kernel_rfl) ⟨_, rfl, h9⟩) ?_
      rintro w33 ⟨h34, S35, K36⟩
      clear h3
      refine wpList_nil ?_
      refine then_n ?_
      refine wp_seq ?_
      refine wp_region_lit ?_
      refine lv (d := 6) rfl rfl (by kernel_rfl) (e_assign (v := .bool true) rfl) ?_
      refine wpList_nil ?_
      refine then_n ?_
      refine wp_ret ?_
      refine then_r ?_
      obtain rfl := Option.some.inj M
      exact ret1 rfl rfl  (show _ = .bool true from (by kernel_rfl)) ⟨H, rfl, h34, S35⟩
    replace M := ifn q18 M
    refine cond_f rfl (bf q18 (by kernel_rfl)) ?_
    refine wp_skip ?_
    refine then_n ?_
    refine wp_seq ?_
    refine wp_seq ?_
    refine region_still (by kernel_rfl) (by kernel_rfl) S0_ ?_
    intro w37 S38 K39
    replace h3 := h3.move (K39.at 0 rfl)
    refine sv (d := 35) rfl rfl (by kernel_rfl) (e_move (v := .pointer (some ⟨g5, 0, none⟩)) (by kernel_rfl)) ?_
    refine sv (d := 36) rfl rfl (by kernel_rfl) (e_nilCheck (ad := ⟨g5, 0, none⟩) (by kernel_rfl)) ?_
    refine sv (d := 37) rfl rfl (by kernel_rfl) (e_fieldAddr (b := g5) (off := 0) (o := 0) Try.underlying125 rfl rfl (sz := 1) (by kernel_rfl) (by decide) (by kernel_rfl)) ?_
    refine sv (d := 38) rfl rfl (by kernel_rfl) (e_load1 (ad := ⟨g5, 0 + 0, none⟩) (v := .int .i64 x4.kind) Try.underlying3 rfl (by kernel_rfl) (blk_cells (S38.inv _ _ h14) h15 0 _ rfl)) ?_
    refine sv (d := 39) rfl rfl (by kernel_rfl) (e_move (v := .pointer (some ⟨g8, 0, none⟩)) (by kernel_rfl)) ?_
    refine sv (d := 40) rfl rfl (by kernel_rfl) (e_nilCheck (ad := ⟨g8, 0, none⟩) (by kernel_rfl)) ?_
    refine sv (d := 41) rfl rfl (by kernel_rfl) (e_fieldAddr (b := g8) (off := 0) (o := 0) Try.underlying125 rfl rfl (sz := 1) (by kernel_rfl) (by decide) (by kernel_rfl)) ?_
    obtain ⟨A40, c41, y42, q43, h44, h45, l46, h47⟩ := node_open h9
    refine sv (d := 42) rfl rfl (by kernel_rfl) (e_load1 (ad := ⟨g8, 0 + 0, none⟩) (v := .int .i64 x7.kind) Try.underlying3 rfl (by kernel_rfl) (blk_cells (S38.inv _ _ h44) h45 0 _ rfl)) ?_
    refine sv (d := 43) rfl rfl (by kernel_rfl) (e_neq (k := .i64) (a := x4.kind) (b := x7.kind) (by kernel_rfl) (by kernel_rfl)) ?_
    refine sv (d := 44) rfl rfl (by kernel_rfl) (e_move (v := .bool (decide (x4.kind ≠ x7.kind))) (by kernel_rfl)) ?_
    by_cases q48 : x4.kind ≠ x7.kind
    · replace M := ifp q48 M
      refine sskip (t := 44) (c := true) rfl (by kernel_rfl) rfl (bt q48 (by kernel_rfl)) rfl rfl ?_
      refine sskip (t := 44) (c := true) rfl (by kernel_rfl) rfl (bt q48 (by kernel_rfl)) rfl rfl ?_
      refine sskip (t := 44) (c := true) rfl (by kernel_rfl) rfl (bt q48 (by kernel_rfl)) rfl rfl ?_
      refine sskip (t := 44) (c := true) rfl (by kernel_rfl) rfl (bt q48 (by kernel_rfl)) rfl rfl ?_
      refine sskip (t := 44) (c := true) rfl (by kernel_rfl) rfl (bt q48 (by kernel_rfl)) rfl rfl ?_
      refine sskip (t := 44) (c := true) rfl (by kernel_rfl) rfl (bt q48 (by kernel_rfl)) rfl rfl ?_
      refine sskip (t := 44) (c := true) rfl (by kernel_rfl) rfl (bt q48 (by kernel_rfl)) rfl rfl ?_
      refine sskip (t := 44) (c := true) rfl (by kernel_rfl) rfl (bt q48 (by kernel_rfl)) rfl rfl ?_
      refine sskip (t := 44) (c := true) rfl (by kernel_rfl) rfl (bt q48 (by kernel_rfl)) rfl rfl ?_
      refine sv (d := 54) rfl rfl (by kernel_rfl) (e_pick_t (v := .bool true) (bt q48 (by kernel_rfl)) rfl) ?_
      refine sv (d := 55) rfl rfl (by kernel_rfl) (e_move (v := .bool true) (by kernel_rfl)) ?_
      refine sskip (t := 55) (c := true) rfl (by kernel_rfl) rfl (by kernel_rfl) rfl rfl ?_
      refine sskip (t := 55) (c := true) rfl (by kernel_rfl) rfl (by kernel_rfl) rfl rfl ?_
      refine sskip (t := 55) (c := true) rfl (by kernel_rfl) rfl (by kernel_rfl) rfl rfl ?_
      refine sskip (t := 55) (c := true) rfl (by kernel_rfl) rfl (by kernel_rfl) rfl rfl ?_
      refine sskip (t := 55) (c := true) rfl (by kernel_rfl) rfl (by kernel_rfl) rfl rfl ?_
      refine sskip (t := 55) (c := true) rfl (by kernel_rfl) rfl (by kernel_rfl) rfl rfl ?_
      refine sskip (t := 55) (c := true) rfl (by kernel_rfl) rfl (by kernel_rfl) rfl rfl ?_
      refine sskip (t := 55) (c := true) rfl (by kernel_rfl) rfl (by kernel_rfl) rfl rfl ?_
      refine sskip (t := 55) (c := true) rfl (by kernel_rfl) rfl (by kernel_rfl) rfl rfl ?_
      refine sv (d := 65) rfl rfl (by kernel_rfl) (e_pick_t (v := .bool true) (by kernel_rfl) rfl) ?_
      refine wpStill_nil ?_
      refine then_n ?_
      refine cond_t rfl (by kernel_rfl) ?_
      refine wp_seq ?_
      refine wp_region_lit ?_
      refine lv (d := 6) rfl rfl (by kernel_rfl) (e_assign (v := .bool false) rfl) ?_
      refine wpList_nil ?_
      refine then_n ?_
      refine wp_ret ?_
      refine then_r ?_
      obtain rfl := Option.some.inj M
      exact ret1 rfl rfl  (show _ = .bool false from (by kernel_rfl)) ⟨H, rfl, h3, S38⟩
    replace M := ifn q48 M
    refine svg (d := 45) (t := 44) rfl (by kernel_rfl) rfl (bf q48 (by kernel_rfl)) rfl (by kernel_rfl) (e_move (v := .pointer (some ⟨g5, 0, none⟩)) (by kernel_rfl)) ?_
    refine svg (d := 46) (t := 44) rfl (by kernel_rfl) rfl (bf q48 (by kernel_rfl)) rfl (by kernel_rfl) (e_nilCheck (ad := ⟨g5, 0, none⟩) (by kernel_rfl)) ?_
    refine svg (d := 47) (t := 44) rfl (by kernel_rfl) rfl (bf q48 (by kernel_rfl)) rfl (by kernel_rfl) (e_fieldAddr (b := g5) (off := 0) (o := 1) Try.underlying125 rfl rfl (sz := 1) (by kernel_rfl) (by decide) (by kernel_rfl)) ?_
    refine svg (d := 48) (t := 44) rfl (by kernel_rfl) rfl (bf q48 (by kernel_rfl)) rfl (by kernel_rfl) (e_load1 (ad := ⟨g5, 0 + 1, none⟩) (v := .int .i64 x4.n) Try.underlying3 rfl (by kernel_rfl) (blk_cells (S38.inv _ _ h14) h15 1 _ rfl)) ?_
    refine svg (d := 49) (t := 44) rfl (by kernel_rfl) rfl (bf q48 (by kernel_rfl)) rfl (by kernel_rfl) (e_move (v := .pointer (some ⟨g8, 0, none⟩)) (by kernel_rfl)) ?_
    refine svg (d := 50) (t := 44) rfl (by kernel_rfl) rfl (bf q48 (by kernel_rfl)) rfl (by kernel_rfl) (e_nilCheck (ad := ⟨g8, 0, none⟩) (by kernel_rfl)) ?_
    refine svg (d := 51) (t := 44) rfl (by kernel_rfl) rfl (bf q48 (by kernel_rfl)) rfl (by kernel_rfl) (e_fieldAddr (b := g8) (off := 0) (o := 1) Try.underlying125 rfl rfl (sz := 1) (by kernel_rfl) (by decide) (by kernel_rfl)) ?_
    refine svg (d := 52) (t := 44) rfl (by kernel_rfl) rfl (bf q48 (by kernel_rfl)) rfl (by kernel_rfl) (e_load1 (ad := ⟨g8, 0 + 1, none⟩) (v := .int .i64 x7.n) Try.underlying3 rfl (by kernel_rfl) (blk_cells (S38.inv _ _ h44) h45 1 _ rfl)) ?_
    refine svg (d := 53) (t := 44) rfl (by kernel_rfl) rfl (bf q48 (by kernel_rfl)) rfl (by kernel_rfl) (e_neq (k := .i64) (a := x4.n) (b := x7.n) (by kernel_rfl) (by kernel_rfl)) ?_
    refine sv (d := 54) rfl rfl (by kernel_rfl) (e_pick_f (v := .bool (decide (x4.n ≠ x7.n))) (bf q48 (by kernel_rfl)) (by kernel_rfl)) ?_
    refine sv (d := 55) rfl rfl (by kernel_rfl) (e_move (v := .bool (decide (x4.n ≠ x7.n))) (by kernel_rfl)) ?_
    by_cases q49 : x4.n ≠ x7.n
    · replace M := ifp q49 M
      refine sskip (t := 55) (c := true) rfl (by kernel_rfl) rfl (bt q49 (by kernel_rfl)) rfl rfl ?_
      refine sskip (t := 55) (c := true) rfl (by kernel_rfl) rfl (bt q49 (by kernel_rfl)) rfl rfl ?_
      refine sskip (t := 55) (c := true) rfl (by kernel_rfl) rfl (bt q49 (by kernel_rfl)) rfl rfl ?_
      refine sskip (t := 55) (c := true) rfl (by kernel_rfl) rfl (bt q49 (by kernel_rfl)) rfl rfl ?_
      refine sskip (t := 55) (c := true) rfl (by kernel_rfl) rfl (bt q49 (by kernel_rfl)) rfl rfl ?_
      refine sskip (t := 55) (c := true) rfl (by kernel_rfl) rfl (bt q49 (by kernel_rfl)) rfl rfl ?_
      refine sskip (t := 55) (c := true) rfl (by kernel_rfl) rfl (bt q49 (by kernel_rfl)) rfl rfl ?_
      refine sskip (t := 55) (c := true) rfl (by kernel_rfl) rfl (bt q49 (by kernel_rfl)) rfl rfl ?_
      refine sskip (t := 55) (c := true) rfl (by kernel_rfl) rfl (bt q49 (by kernel_rfl)) rfl rfl ?_
      refine sv (d := 65) rfl rfl (by kernel_rfl) (e_pick_t (v := .bool true) (bt q49 (by kernel_rfl)) rfl) ?_
      refine wpStill_nil ?_
      refine then_n ?_
      refine cond_t rfl (by kernel_rfl) ?_
      refine wp_seq ?_
      refine wp_region_lit ?_
      refine lv (d := 6) rfl rfl (by kernel_rfl) (e_assign (v := .bool false) rfl) ?_
      refine wpList_nil ?_
      refine then_n ?_
      refine wp_ret ?_
      refine then_r ?_
      obtain rfl := Option.some.inj M
      exact ret1 rfl rfl  (show _ = .bool false from (by kernel_rfl)) ⟨H, rfl, h3, S38⟩
    replace M := ifn q49 M
    refine svg (d := 56) (t := 55) rfl (by kernel_rfl) rfl (bf q49 (by kernel_rfl)) rfl (by kernel_rfl) (e_move (v := .pointer (some ⟨g5, 0, none⟩)) (by kernel_rfl)) ?_
    refine svg (d := 57) (t := 55) rfl (by kernel_rfl) rfl (bf q49 (by kernel_rfl)) rfl (by kernel_rfl) (e_nilCheck (ad := ⟨g5, 0, none⟩) (by kernel_rfl)) ?_
    refine svg (d := 58) (t := 55) rfl (by kernel_rfl) rfl (bf q49 (by kernel_rfl)) rfl (by kernel_rfl) (e_fieldAddr (b := g5) (off := 0) (o := 2) Try.underlying125 rfl rfl (sz := 1) (by kernel_rfl) (by decide) (by kernel_rfl)) ?_
    refine svg (d := 59) (t := 55) rfl (by kernel_rfl) rfl (bf q49 (by kernel_rfl)) rfl (by kernel_rfl) (e_load1 (ad := ⟨g5, 0 + 2, none⟩) (v := str x4.text) Try.underlying9 rfl (by kernel_rfl) (blk_cells (S38.inv _ _ h14) h15 2 _ rfl)) ?_
    refine svg (d := 60) (t := 55) rfl (by kernel_rfl) rfl (bf q49 (by kernel_rfl)) rfl (by kernel_rfl) (e_move (v := .pointer (some ⟨g8, 0, none⟩)) (by kernel_rfl)) ?_
    refine svg (d := 61) (t := 55) rfl (by kernel_rfl) rfl (bf q49 (by kernel_rfl)) rfl (by kernel_rfl) (e_nilCheck (ad := ⟨g8, 0, none⟩) (by kernel_rfl)) ?_
    refine svg (d := 62) (t := 55) rfl (by kernel_rfl) rfl (bf q49 (by kernel_rfl)) rfl (by kernel_rfl) (e_fieldAddr (b := g8) (off := 0) (o := 2) Try.underlying125 rfl rfl (sz := 1) (by kernel_rfl) (by decide) (by kernel_rfl)) ?_
    refine svg (d := 63) (t := 55) rfl (by kernel_rfl) rfl (bf q49 (by kernel_rfl)) rfl (by kernel_rfl) (e_load1 (ad := ⟨g8, 0 + 2, none⟩) (v := str x7.text) Try.underlying9 rfl (by kernel_rfl) (blk_cells (S38.inv _ _ h44) h45 2 _ rfl)) ?_
    refine svg (d := 64) (t := 55) rfl (by kernel_rfl) rfl (bf q49 (by kernel_rfl)) rfl (by kernel_rfl) (e_sneq (p := x4.text) (q := x7.text) (by kernel_rfl) (by kernel_rfl)) ?_
    refine sv (d := 65) rfl rfl (by kernel_rfl) (e_pick_f (v := .bool (decide (x4.text ≠ x7.text))) (bf q49 (by kernel_rfl)) (by kernel_rfl)) ?_
    refine wpStill_nil ?_
    refine then_n ?_
    by_cases q50 : x4.text ≠ x7.text
    · replace M := ifp q50 M
      refine cond_t rfl (bt q50 (by kernel_rfl)) ?_
      refine wp_seq ?_
      refine wp_region_lit ?_
      refine lv (d := 6) rfl rfl (by kernel_rfl) (e_assign (v := .bool false) rfl) ?_
      refine wpList_nil ?_
      refine then_n ?_
      refine wp_ret ?_
      refine then_r ?_
      obtain rfl := Option.some.inj M
      exact ret1 rfl rfl  (show _ = .bool false from (by kernel_rfl)) ⟨H, rfl, h3, S38⟩
    replace M := ifn q50 M
    refine cond_f rfl (bf q50 (by kernel_rfl)) ?_
    refine wp_skip ?_
    refine then_n ?_
    refine wp_seq ?_
    refine wp_seq ?_
    refine wp_region_lit ?_
    refine lv (d := 66) rfl rfl (by kernel_rfl) (e_move (v := .pointer (some ⟨g5, 0, none⟩)) (by kernel_rfl)) ?_
    refine lv (d := 67) rfl rfl (by kernel_rfl) (e_nilCheck (ad := ⟨g5, 0, none⟩) (by kernel_rfl)) ?_
    refine lv (d := 68) rfl rfl (by kernel_rfl) (e_fieldAddr (b := g5) (off := 0) (o := 3) Try.underlying125 rfl rfl (sz := 1) (by kernel_rfl) (by decide) (by kernel_rfl)) ?_
    refine lv (d := 69) rfl rfl (by kernel_rfl) (e_load1 (ad := ⟨g5, 0 + 3, none⟩) (v := .slice A10 x4.args.length c11) Try.underlying87 rfl (by kernel_rfl) (blk_cells (S38.inv _ _ h14) h15 3 _ rfl)) ?_
    refine lv (d := 70) rfl rfl (by kernel_rfl) (e_len (A := A10) (n := x4.args.length) (c := c11) Try.underlying87 (by kernel_rfl)) ?_
    refine lv (d := 71) rfl rfl (by kernel_rfl) (e_move (v := .int .i64 0) rfl) ?_
    refine wpList_nil ?_
    refine then_n ?_
    refine wp_block ?_
    refine wp_loop_g (fun k65 a66 w51 => ∃ (f52 : Nat → Value) (H53 : Hp) (x55 : Int) (x56 : List (Int × Tm)), k65 < K ∧ a66 = mk 92 f52 ∧ f52 0 = .map (some g2) ∧ f52 1 = .pointer (some ⟨g5, 0, none⟩) ∧ f52 2 = .pointer (some ⟨g8, 0, none⟩) ∧ f52 70 = .int .i64 (x4.args.length : Int) ∧ f52 71 = .int .i64 x55 ∧ MapO encI (node 125) H53 (hp w51) g2 x56 ∧ Ext H H53 ∧ St (anyOf [(is g2)]) H w [(is g2)] H53 w51 ∧ impl_matches.l0 k65 x4 x7 x55 x56 = some r) k1_ ⟨_, H, 0, x1, (by omega), rfl, (by kernel_rfl), (by kernel_rfl), (by kernel_rfl), (by kernel_rfl), (by kernel_rfl), h3, (Ext.refl _), S38, M⟩ ?_
    clear M
    rintro k65 a66 w51 ⟨f52, H53, x55, x56, z63, rfl, e57, e58, e59, e60, e61, h3, Y54, S62, M⟩
    rcases k65 with _ | k67
    · rw [impl_matches.l0] at M
      cases M
    rw [impl_matches.l0] at M
    refine wp_seq ?_
    refine wp_region_lit ?_
    refine lv (d := 72) rfl rfl (by kernel_rfl) (e_lss (k := .i64) (a := x55) (b := (x4.args.length : Int)) (by exact e61) (by exact e60)) ?_
    refine wpList_nil ?_
    refine then_n ?_
    refine wp_seq ?_
    by_cases q68 : x55 < (x4.args.length : Int)
    · replace M := ifp q68 M
      refine cond_t rfl (bt q68 (by kernel_rfl)) ?_
      refine wp_skip ?_
      refine then_n ?_
      refine wp_seq ?_
      refine wp_block ?_
      refine wp_seq ?_
      refine wp_region_lit ?_
      refine lv (d := 73) rfl rfl (by kernel_rfl) (e_move (v := .int .i64 x55) (by exact e61)) ?_
      refine lv (d := 9) rfl rfl (by kernel_rfl) (e_assign (v := .int .i64 x55) (by kernel_rfl)) ?_
      refine wpList_nil ?_
      refine then_n ?_
      refine wp_seq ?_
      refine region_mix (S := (fun (L_ : Array Bool) (w_ : World) => Ext H53 (hp w_) ∧ True)) (by kernel_rfl) S62 ?_
      intro w69 S70 K71 hc72
      have hs73 : (fun (L_ : Array Bool) (w_ : World) => Ext H53 (hp w_) ∧ True) (Array.replicate 17 false) w69 := ⟨S70.inv, trivial⟩
      replace h3 := h3.move (K71.at 0 rfl)
      refine xv (i := 0) (d := 74) rfl rfl rfl (by kernel_rfl) (by kernel_rfl) (fun _ _ => Iff.rfl) hc72 hs73 (fun L_ w_ hc_ hu_ hs_ => e_move (v := .map (some g2)) (by exact e57)) ?_; intro hc74 hs75
      refine xv (i := 1) (d := 75) rfl rfl rfl (by kernel_rfl) (by kernel_rfl) (fun _ _ => Iff.rfl) hc74 hs75 (fun L_ w_ hc_ hu_ hs_ => e_move (v := .pointer (some ⟨g5, 0, none⟩)) (by exact e58)) ?_; intro hc76 hs77
      refine xv (i := 2) (d := 76) rfl rfl rfl (by kernel_rfl) (by kernel_rfl) (fun _ _ => Iff.rfl) hc76 hs77 (fun L_ w_ hc_ hu_ hs_ => e_nilCheck (ad := ⟨g5, 0, none⟩) (by kernel_rfl)) ?_; intro hc78 hs79
      refine xv (i := 3) (d := 77) rfl rfl rfl (by kernel_rfl) (by kernel_rfl) (fun _ _ => Iff.rfl) hc78 hs79 (fun L_ w_ hc_ hu_ hs_ => e_fieldAddr (b := g5) (off := 0) (o := 3) Try.underlying125 rfl rfl (sz := 1) (by kernel_rfl) (by decide) (by kernel_rfl)) ?_; intro hc80 hs81
      refine xv (i := 4) (d := 78) rfl rfl rfl (by kernel_rfl) (by kernel_rfl) (fun _ _ => Iff.rfl) hc80 hs81 (fun L_ w_ hc_ hu_ hs_ => e_load1 (ad := ⟨g5, 0 + 3, none⟩) (v := .slice A10 x4.args.length c11) Try.underlying87 rfl (by kernel_rfl) (blk_cells (hs_.1 _ _ (Y54 _ _ h14)) h15 3 _ rfl)) ?_; intro hc82 hs83
      refine xv (i := 5) (d := 79) rfl rfl rfl (by kernel_rfl) (by kernel_rfl) (fun _ _ => Iff.rfl) hc82 hs83 (fun L_ w_ hc_ hu_ hs_ => e_move (v := .int .i64 x55) (by kernel_rfl)) ?_; intro hc84 hs85
      obtain ⟨q86, M⟩ := chk M
      obtain ⟨b87, o88, e89⟩ := Rd.addr h17 (show (x55).toNat < x4.args.length by omega)
      obtain ⟨y90, r91, k92⟩ := Rd.at h17 e89 (getD_some (Tm.mk 0 0 [] []) (show (x55).toNat < x4.args.length by omega))
      obtain ⟨v93, rfl, h94⟩ := r91
      obtain ⟨g95, rfl⟩ := node_ptr h94
      refine xv (i := 6) (d := 80) rfl rfl rfl (by kernel_rfl) (by kernel_rfl) (fun _ _ => Iff.rfl) hc84 hs85 (fun L_ w_ hc_ hu_ hs_ => e_indexAddr (b := b87) (off := o88) (n := x4.args.length) (c := c11) (sz := 1) (i := x55) (k := .i64) Try.underlying87 e89 (by kernel_rfl) (by kernel_rfl) (by kernel_rfl) q86 q68) ?_; intro hc96 hs97
      refine xv (i := 7) (d := 81) rfl rfl rfl (by kernel_rfl) (by kernel_rfl) (fun _ _ => Iff.rfl) hc96 hs97 (fun L_ w_ hc_ hu_ hs_ => e_load1 (ad := ⟨b87, o88 + (x55 : Int).toNat * 1, none⟩) (v := .pointer (some ⟨g95, 0, none⟩)) Try.underlying74 rfl (by kernel_rfl) (hpx (hs_.1.cell (Y54.cell (k92 0 _ rfl))))) ?_; intro hc98 hs99
      refine xv (i := 8) (d := 82) rfl rfl rfl (by kernel_rfl) (by kernel_rfl) (fun _ _ => Iff.rfl) hc98 hs99 (fun L_ w_ hc_ hu_ hs_ => e_move (v := .pointer (some ⟨g8, 0, none⟩)) (by exact e59)) ?_; intro hc100 hs101
      refine xv (i := 9) (d := 83) rfl rfl rfl (by kernel_rfl) (by kernel_rfl) (fun _ _ => Iff.rfl) hc100 hs101 (fun L_ w_ hc_ hu_ hs_ => e_nilCheck (ad := ⟨g8, 0, none⟩) (by kernel_rfl)) ?_; intro hc102 hs103
      refine xv (i := 10) (d := 84) rfl rfl rfl (by kernel_rfl) (by kernel_rfl) (fun _ _ => Iff.rfl) hc102 hs103 (fun L_ w_ hc_ hu_ hs_ => e_fieldAddr (b := g8) (off := 0) (o := 3) Try.underlying125 rfl rfl (sz := 1) (by kernel_rfl) (by decide) (by kernel_rfl)) ?_; intro hc104 hs105
      refine xv (i := 11) (d := 85) rfl rfl rfl (by kernel_rfl) (by kernel_rfl) (fun _ _ => Iff.rfl) hc104 hs105 (fun L_ w_ hc_ hu_ hs_ => e_load1 (ad := ⟨g8, 0 + 3, none⟩) (v := .slice A40 x7.args.length c41) Try.underlying87 rfl (by kernel_rfl) (blk_cells (hs_.1 _ _ (Y54 _ _ h44)) h45 3 _ rfl)) ?_; intro hc106 hs107
      refine xone (i := 12) (by kernel_rfl) hc106 ?_
      refine yo (i := 12) (d := 86) rfl rfl (wanted_none rfl _) (by kernel_rfl) (by kernel_rfl) (fun _ _ => Iff.rfl) hs107 (e_move (v := .int .i64 x55) (by kernel_rfl)) ?_; intro hc108 hs109
      obtain ⟨q110, M⟩ := chk M
      obtain ⟨b111, o112, e113⟩ := Rd.addr h47 (show (x55).toNat < x7.args.length by omega)
      obtain ⟨y114, r115, k116⟩ := Rd.at h47 e113 (getD_some (Tm.mk 0 0 [] []) (show (x55).toNat < x7.args.length by omega))
      obtain ⟨v117, rfl, h118⟩ := r115
      obtain ⟨g119, rfl⟩ := node_ptr h118
      refine xone (i := 13) (by kernel_rfl) hc108 ?_
      refine yo (i := 13) (d := 87) rfl rfl (wanted_none rfl _) (by kernel_rfl) (by kernel_rfl) (fun _ _ => Iff.rfl) hs109 (e_indexAddr (b := b111) (off := o112) (n := x7.args.length) (c := c41) (sz := 1) (i := x55) (k := .i64) Try.underlying87 e113 (by kernel_rfl) (by kernel_rfl) (by kernel_rfl) q86 q110) ?_; intro hc120 hs121
      refine xone (i := 14) (by kernel_rfl) hc120 ?_
      refine yo (i := 14) (d := 88) rfl rfl (wanted_none rfl _) (by kernel_rfl) (by kernel_rfl) (fun _ _ => Iff.rfl) hs121 (e_load1 (ad := ⟨b111, o112 + (x55 : Int).toNat * 1, none⟩) (v := .pointer (some ⟨g119, 0, none⟩)) Try.underlying74 rfl (by kernel_rfl) (hpx (S70.inv.cell (Y54.cell (k116 0 _ rfl))))) ?_; intro hc122 hs123
      obtain ⟨t124, u125, M⟩ := bnd M
      refine xone (i := 15) (by kernel_rfl) hc122 ?_
      refine yc (i := 15) rfl (wanted_none rfl _) (by kernel_rfl) (by kernel_rfl) (e_call (l := [.tmp 74, .tmp 81, .tmp 88]) (vs := [.map (some g2), .pointer (some ⟨g95, 0, none⟩), .pointer (some ⟨g119, 0, none⟩)]) Try.func72 (by kernel_rfl) rfl (by kernel_rfl) rfl) (ih k67 (by omega) w69 H53 x56 g2 (x4.args.getD ((x55).toNat) (Tm.mk 0 0 [] [])) g95 (x7.args.getD ((x55).toNat) (Tm.mk 0 0 [] [])) g119 h3 (h94.ext' Y54) (h118.ext' Y54) (St.own' (Fa := [(is g2)]) (Fr := []) S70) t124 u125) ?_
      rintro hc130 _ w126 ⟨H127, rfl, h129, T128⟩
      refine ⟨_, rfl, ?_⟩
      obtain ⟨S131, K132⟩ := St.call (Fa := [(is g2)]) (Fr := []) S70 T128
      have E133 := T128.ext
      refine ⟨⟨(Ext.trans E133 S131.inv), trivial⟩, fun hs134 => ?_⟩
      refine xone (i := 16) (by kernel_rfl) hc130 ?_
      refine yo (i := 16) (d := 90) rfl rfl (wanted_none rfl _) (by kernel_rfl) (by kernel_rfl) (fun _ _ => Iff.rfl) hs134 (e_notv (c := t124.1) (by kernel_rfl)) ?_; intro hc135 hs136
      refine xn (by kernel_rfl) ?_ _
      refine then_n ?_
      by_cases q137 : ¬ (t124.1 = true)
      · replace M := ifp q137 M
        refine cond_t rfl (bt q137 (by kernel_rfl)) ?_
        refine wp_seq ?_
        refine wp_region_lit ?_
        refine lv (d := 6) rfl rfl (by kernel_rfl) (e_assign (v := .bool false) rfl) ?_
        refine wpList_nil ?_
        refine then_n ?_
        refine wp_ret ?_
        refine inb_r ?_
        refine then_r ?_
        refine then_r ?_
        refine inb_r ?_
        refine then_r ?_
        obtain rfl := Option.some.inj M
        exact ret1 rfl rfl  (show _ = .bool false from (by kernel_rfl)) ⟨H127, rfl, h129, S131⟩
      replace M := ifn q137 M
      refine cond_f rfl (bf q137 (by kernel_rfl)) ?_
      refine wp_skip ?_
      refine inb_n ?_
      refine then_n ?_
      refine wp_region_lit ?_
      refine lv (d := 91) rfl rfl (by kernel_rfl) (e_add (k := .i64) (a := x55) (b := 1) (by exact e61) rfl) ?_
      refine lv (d := 71) rfl rfl (by kernel_rfl) (e_move (v := .int .i64 (IntKind.i64.wrap (x55 + 1))) (by kernel_rfl)) ?_
      refine wpList_nil ?_
      refine then_n ?_
      exact ⟨k67, (by omega), _, H127, (IntKind.i64.wrap (x55 + 1)), t124.2, (by omega), rfl, (by exact e57), (by exact e58), (by exact e59), (by exact e60), (by kernel_rfl), h129, (Y54.trans E133), S131, M⟩
    replace M := ifn q68 M
    refine cond_f rfl (bf q68 (by kernel_rfl)) ?_
    refine wp_exit ?_
    refine then_e ?_
    refine then_e ?_
    refine inb_hit ?_
    refine then_n ?_
    refine wp_seq ?_
    refine wp_region_lit ?_
    refine lv (d := 6) rfl rfl (by kernel_rfl) (e_assign (v := .bool true) rfl) ?_
    refine wpList_nil ?_
    refine then_n ?_
    refine wp_ret ?_
    obtain rfl := Option.some.inj M
    exact ret1 rfl rfl  (show _ = .bool true from (by kernel_rfl)) ⟨H53, rfl, h3, S62⟩
theorem impl_matches.calls (k : Nat) (w : World) (H : Hp) (x1 : List (Int × Tm)) (g2 : Nat) (x4 : Tm) (g5 : Nat) (x7 : Tm) (g8 : Nat) (h3 : MapO encI (node 125) H (hp w) g2 x1) (h6 : NodeR 125 H x4 (.pointer (some ⟨g5, 0, none⟩))) (h9 : NodeR 125 H x7 (.pointer (some ⟨g8, 0, none⟩))) (S : Own [(is g2)] H w) (r : Bool × (List (Int × Tm))) (M : impl_matches.f k x1 x4 x7 = some r) :
    Calls Try.prog 72 #[.map (some g2), .pointer (some ⟨g5, 0, none⟩), .pointer (some ⟨g8, 0, none⟩)] w (fun e e_w => ∃ (H_ : Hp), e = .returned (.bool r.1) ∧ MapO encI (node 125) H_ (hp e_w) g2 r.2 ∧ St (anyOf [(is g2)]) H w [(is g2)] H_ e_w) := (impl_matches.all (k + 1)) k (Nat.lt_succ_self k) w H x1 g2 x4 g5 x7 g8 h3 h6 h9 S r M

/-! impl_Subsumes -/
def impl_Subsumes.f (k : Nat) (x1 : List Cell) (x6 : List Cell) : Option Bool := ((impl_ValidTerm.f k x1).bind fun t11 => (if t11 = true then ((impl_ValidTerm.f k x6).bind fun t18 => (if t18 = true then ((impl_tree.f k x1).bind fun t30 => ((impl_tree.f k x6).bind fun t40 => ((impl_matches.f k [] t30 t40).bind fun t50 => some t50.1))) else some false)) else some false))
theorem impl_Subsumes.calls (k : Nat) (w : World) (H : Hp) (x1 : List Cell) (A2 : Option Addr) (c3 : Nat) (x6 : List Cell) (A7 : Option Addr) (c8 : Nat) (h4 : Rd st65 H A2 x1) (l5 : x1.length ≤ c3) (h9 : Rd st65 H A7 x6) (l10 : x6.length ≤ c8) (S : Own [] H w) (r : Bool) (M : impl_Subsumes.f k x1 x6 = some r) :
    Calls Try.prog 31 #[.slice A2 x1.length c3, .slice A7 x6.length c8] w (fun e e_w => e = .returned (.bool r) ∧ Chg no w e_w) := by
  rw [impl_Subsumes.f] at M
  refine enter (l := [.slice A2 x1.length c3, .slice A7 x6.length c8]) 19 Try.func31 rfl rfl rfl ?_
  have S0_ := S.st
  refine wp_seq ?_
  refine wp_region_lit ?_
  refine lv (d := 4) rfl rfl (by kernel_rfl) (e_assign (v := .bool false) rfl) ?_
  refine wpList_nil ?_
  refine then_n ?_
  refine wp_seq ?_
  refine wp_region_lit ?_
  refine lv (d := 5) rfl rfl (by kernel_rfl) (e_move (v := .slice A2 x1.length c3) (by kernel_rfl)) ?_
  obtain ⟨t11, u12, M⟩ := bnd M
  refine lcall (d := 6) rfl rfl (by kernel_rfl) (e_call (l := [.tmp 5]) (vs := [.slice A2 x1.length c3]) Try.func17 (by kernel_rfl) rfl (by kernel_rfl) rfl) (impl_ValidTerm.calls k w H x1 A2 c3 h4 l5 S0_.own0 t11 u12) ?_
  rintro _ w13 ⟨rfl, C14⟩
  refine ⟨_, rfl, ?_⟩
  obtain ⟨S15, K16⟩ := S0_.still C14
  refine lv (d := 7) rfl rfl (by kernel_rfl) (e_move (v := .bool t11) (by kernel_rfl)) ?_
  by_cases q17 : t11 = true
  · replace M := ifp q17 M
    refine lvg (d := 8) (t := 7) rfl (by kernel_rfl) rfl (bvt q17 (by kernel_rfl)) rfl (by kernel_rfl) (e_move (v := .slice A7 x6.length c8) (by kernel_rfl)) ?_
    obtain ⟨t18, u19, M⟩ := bnd M
    refine lcallg (d := 9) (t := 7) rfl (by kernel_rfl) rfl (bvt q17 (by kernel_rfl)) rfl (by kernel_rfl) (e_call (l := [.tmp 8]) (vs := [.slice A7 x6.length c8]) Try.func17 (by kernel_rfl) rfl (by kernel_rfl) rfl) (impl_ValidTerm.calls k w13 H x6 A7 c8 h9 l10 S15.own0 t18 u19) ?_
    rintro _ w20 ⟨rfl, C21⟩
    refine ⟨_, rfl, ?_⟩
    obtain ⟨S22, K23⟩ := S15.still C21
    refine lv (d := 10) rfl rfl (by kernel_rfl) (e_pick_t (v := .bool t18) (bvt q17 (by kernel_rfl)) (by kernel_rfl)) ?_
    refine lv (d := 11) rfl rfl (by kernel_rfl) (e_move (v := .bool t18) (by kernel_rfl)) ?_
    by_cases q24 : t18 = true
    · replace M := ifp q24 M
      refine lveg (d := 12) (wanted_t (d := 11) rfl rfl (by kernel_rfl) (bvt q24 (by kernel_rfl))) rfl (by kernel_rfl) (e_makeMap S22 encI (node 125)) ?_
      rintro _ w25 ⟨g26, rfl, h27, S28, K29⟩
      refine lvg (d := 13) (t := 11) rfl (by kernel_rfl) rfl (bvt q24 (by kernel_rfl)) rfl (by kernel_rfl) (e_move (v := .slice A2 x1.length c3) (by kernel_rfl)) ?_
      obtain ⟨t30, u31, M⟩ := bnd M
      refine lcall_w (wanted_t (d := 11) rfl rfl (by kernel_rfl) (bvt q24 (by kernel_rfl))) (by kernel_rfl) (e_call (l := [.tmp 13]) (vs := [.slice A2 x1.length c3]) Try.func62 (by kernel_rfl) rfl (by kernel_rfl) rfl) (impl_tree.calls k w25 H x1 A2 c3 h4 l5 (St.own' (Fa := []) (Fr := [(is g26)]) S28) t30 u31) ?_
      rintro _ w32 ⟨g35, H33, rfl, h36, T34⟩
      refine ⟨_, rfl, ?_⟩
      obtain ⟨S37, K38⟩ := St.call (Fa := []) (Fr := [(is g26)]) S28 T34
      replace h27 := h27.move (K38.at 0 rfl)
      have E39 := T34.ext
      replace h27 := h27.ext E39
      refine lvg (d := 15) (t := 11) rfl (by kernel_rfl) rfl (bvt q24 (by kernel_rfl)) rfl (by kernel_rfl) (e_move (v := .slice A7 x6.length c8) (by kernel_rfl)) ?_
      obtain ⟨t40, u41, M⟩ := bnd M
      refine lcall_w (wanted_t (d := 11) rfl rfl (by kernel_rfl) (bvt q24 (by kernel_rfl))) (by kernel_rfl) (e_call (l := [.tmp 15]) (vs := [.slice A7 x6.length c8]) Try.func62 (by kernel_rfl) rfl (by kernel_rfl) rfl) (impl_tree.calls k w32 H33 x6 A7 c8 (h9.ext E39) l10 (St.own' (Fa := []) (Fr := [(is g26)]) S37) t40 u41) ?_
      rintro _ w42 ⟨g45, H43, rfl, h46, T44⟩
      refine ⟨_, rfl, ?_⟩
      obtain ⟨S47, K48⟩ := St.call (Fa := []) (Fr := [(is g26)]) S37 T44
      replace h27 := h27.move (K48.at 0 rfl)
      have E49 := T44.ext
      replace h27 := h27.ext E49
      obtain ⟨t50, u51, M⟩ := bnd M
      refine lcall_w (wanted_t (d := 11) rfl rfl (by kernel_rfl) (bvt q24 (by kernel_rfl))) (by kernel_rfl) (e_call (l := [.tmp 12, .tmp 14, .tmp 16]) (vs := [.map (some g26), .pointer (some ⟨g35, 0, none⟩), .pointer (some ⟨g45, 0, none⟩)]) Try.func72 (by kernel_rfl) rfl (by kernel_rfl) rfl) (impl_matches.calls k w42 H43 [] g26 t30 g35 t40 g45 h27 (h36.ext' E49) h46 (St.own' (Fa := [(is g26)]) (Fr := []) S47) t50 u51) ?_
      rintro _ w52 ⟨H53, rfl, h55, T54⟩
      refine ⟨_, rfl, ?_⟩
      obtain ⟨S56, K57⟩ := St.call (Fa := [(is g26)]) (Fr := []) S47 T54
      have E58 := T54.ext
      refine lv (d := 18) rfl rfl (by kernel_rfl) (e_pick_t (v := .bool t50.1) (bvt q24 (by kernel_rfl)) (by kernel_rfl)) ?_
      refine lv (d := 4) rfl rfl (by kernel_rfl) (e_assign (v := .bool t50.1) (by kernel_rfl)) ?_
      refine wpList_nil ?_
      refine then_n ?_
      refine wp_ret ?_
      obtain rfl := Option.some.inj M
      exact ret1 rfl rfl  (show _ = .bool t50.1 from (by kernel_rfl)) ⟨rfl, S56.chg⟩
    replace M := ifn q24 M
    refine lskip (t := 11) (c := false) rfl (by kernel_rfl) rfl (bvf q24 (by kernel_rfl)) rfl rfl ?_
    refine lskip (t := 11) (c := false) rfl (by kernel_rfl) rfl (bvf q24 (by kernel_rfl)) rfl rfl ?_
    refine lskip (t := 11) (c := false) rfl (by kernel_rfl) rfl (bvf q24 (by kernel_rfl)) rfl rfl ?_
    refine lskip (t := 11) (c := false) rfl (by kernel_rfl) rfl (bvf q24 (by kernel_rfl)) rfl rfl ?_
    refine lskip (t := 11) (c := false) rfl (by kernel_rfl) rfl (bvf q24 (by kernel_rfl)) rfl rfl ?_
    refine lskip (t := 11) (c := false) rfl (by kernel_rfl) rfl (bvf q24 (by kernel_rfl)) rfl rfl ?_
    refine lv (d := 18) rfl rfl (by kernel_rfl) (e_pick_f (v := .bool false) (bvf q24 (by kernel_rfl)) rfl) ?_
    refine lv (d := 4) rfl rfl (by kernel_rfl) (e_assign (v := .bool false) (by kernel_rfl)) ?_
    refine wpList_nil ?_
    refine then_n ?_
    refine wp_ret ?_
    obtain rfl := Option.some.inj M
    exact ret1 rfl rfl  (show _ = .bool false from (by kernel_rfl)) ⟨rfl, S22.chg⟩
  replace M := ifn q17 M
  refine lskip (t := 7) (c := false) rfl (by kernel_rfl) rfl (bvf q17 (by kernel_rfl)) rfl rfl ?_
  refine lskip (t := 7) (c := false) rfl (by kernel_rfl) rfl (bvf q17 (by kernel_rfl)) rfl rfl ?_
  refine lv (d := 10) rfl rfl (by kernel_rfl) (e_pick_f (v := .bool false) (bvf q17 (by kernel_rfl)) rfl) ?_
  refine lv (d := 11) rfl rfl (by kernel_rfl) (e_move (v := .bool false) (by kernel_rfl)) ?_
  refine lskip (t := 11) (c := false) rfl (by kernel_rfl) rfl (by kernel_rfl) rfl rfl ?_
  refine lskip (t := 11) (c := false) rfl (by kernel_rfl) rfl (by kernel_rfl) rfl rfl ?_
  refine lskip (t := 11) (c := false) rfl (by kernel_rfl) rfl (by kernel_rfl) rfl rfl ?_
  refine lskip (t := 11) (c := false) rfl (by kernel_rfl) rfl (by kernel_rfl) rfl rfl ?_
  refine lskip (t := 11) (c := false) rfl (by kernel_rfl) rfl (by kernel_rfl) rfl rfl ?_
  refine lskip (t := 11) (c := false) rfl (by kernel_rfl) rfl (by kernel_rfl) rfl rfl ?_
  refine lv (d := 18) rfl rfl (by kernel_rfl) (e_pick_f (v := .bool false) (by kernel_rfl) rfl) ?_
  refine lv (d := 4) rfl rfl (by kernel_rfl) (e_assign (v := .bool false) (by kernel_rfl)) ?_
  refine wpList_nil ?_
  refine then_n ?_
  refine wp_ret ?_
  obtain rfl := Option.some.inj M
  exact ret1 rfl rfl  (show _ = .bool false from (by kernel_rfl)) ⟨rfl, S15.chg⟩

/-! laws_eqByteS -/
def laws_eqByteS.l0 : Nat → (List UInt8) → (List UInt8) → Int → Option Bool
  | 0, _, _, _ => none
  | k23 + 1, x1, x6, x14 => (if x14 < (x1.length : Int) then (if 0 ≤ x14 then (if x14 < (x6.length : Int) then (if ((x1.getD ((x14).toNat) (0 : UInt8)).toNat : Int) ≠ ((x6.getD ((x14).toNat) (0 : UInt8)).toNat : Int) then some false else (laws_eqByteS.l0 k23 x1 x6 (IntKind.i64.wrap (x14 + 1)))) else none) else none) else some true)
def laws_eqByteS.f (k : Nat) (x1 : List UInt8) (x6 : List UInt8) : Option Bool := (if (x1.length : Int) ≠ (x6.length : Int) then some false else (laws_eqByteS.l0 k x1 x6 0))
theorem laws_eqByteS.calls (k : Nat) (w : World) (H : Hp) (x1 : List UInt8) (A2 : Option Addr) (c3 : Nat) (x6 : List UInt8) (A7 : Option Addr) (c8 : Nat) (h4 : Rd tByte H A2 x1) (l5 : x1.length ≤ c3) (h9 : Rd tByte H A7 x6) (l10 : x6.length ≤ c8) (S : Own [] H w) (r : Bool) (M : laws_eqByteS.f k x1 x6 = some r) :
    Calls Try.prog 104 #[.slice A2 x1.length c3, .slice A7 x6.length c8] w (fun e e_w => e = .returned (.bool r) ∧ Chg no w e_w) := by
  rw [laws_eqByteS.f] at M
  refine enter (l := [.slice A2 x1.length c3, .slice A7 x6.length c8]) 26 Try.func104 rfl rfl rfl ?_
  have S0_ := S.st
  refine wp_seq ?_
  refine wp_region_lit ?_
  refine lv (d := 4) rfl rfl (by kernel_rfl) (e_assign (v := .bool false) rfl) ?_
  refine wpList_nil ?_
  refine then_n ?_
  refine wp_seq ?_
  refine wp_seq ?_
  refine wp_region_lit ?_
  refine lv (d := 6) rfl rfl (by kernel_rfl) (e_move (v := .slice A2 x1.length c3) (by kernel_rfl)) ?_
  refine lv (d := 7) rfl rfl (by kernel_rfl) (e_len (A := A2) (n := x1.length) (c := c3) Try.underlying59 (by kernel_rfl)) ?_
  refine lv (d := 8) rfl rfl (by kernel_rfl) (e_move (v := .slice A7 x6.length c8) (by kernel_rfl)) ?_
  refine lv (d := 9) rfl rfl (by kernel_rfl) (e_len (A := A7) (n := x6.length) (c := c8) Try.underlying59 (by kernel_rfl)) ?_
  refine lv (d := 10) rfl rfl (by kernel_rfl) (e_neq (k := .i64) (a := (x1.length : Int)) (b := (x6.length : Int)) (by kernel_rfl) (by kernel_rfl)) ?_
  refine wpList_nil ?_
  refine then_n ?_
  by_cases q11 : (x1.length : Int) ≠ (x6.length : Int)
  · replace M := ifp q11 M
    refine cond_t rfl (bt q11 (by kernel_rfl)) ?_
    refine wp_seq ?_
    refine wp_region_lit ?_
    refine lv (d := 4) rfl rfl (by kernel_rfl) (e_assign (v := .bool false) rfl) ?_
    refine wpList_nil ?_
    refine then_n ?_
    refine wp_ret ?_
    refine then_r ?_
    obtain rfl := Option.some.inj M
    exact ret1 rfl rfl  (show _ = .bool false from (by kernel_rfl)) ⟨rfl, S0_.chg⟩
  replace M := ifn q11 M
  refine cond_f rfl (bf q11 (by kernel_rfl)) ?_
  refine wp_skip ?_
  refine then_n ?_
  refine wp_seq ?_
  refine wp_seq ?_
  refine wp_region_lit ?_
  refine lv (d := 5) rfl rfl (by kernel_rfl) (e_assign (v := .int .i64 0) rfl) ?_
  refine wpList_nil ?_
  refine then_n ?_
  refine wp_block ?_
  refine wp_loop_g (fun k21 a22 w12 => ∃ (f13 : Nat → Value) (x14 : Int), a22 = mk 26 f13 ∧ f13 0 = .slice A2 x1.length c3 ∧ f13 1 = .slice A7 x6.length c8 ∧ f13 5 = .int .i64 x14 ∧ St (anyOf []) H w [] H w12 ∧ laws_eqByteS.l0 k21 x1 x6 x14 = some r) k ⟨_, 0, rfl, (by kernel_rfl), (by kernel_rfl), (by kernel_rfl), S0_, M⟩ ?_
  clear M
  rintro k21 a22 w12 ⟨f13, x14, rfl, e15, e16, e17, S18, M⟩
  rcases k21 with _ | k23
  · rw [laws_eqByteS.l0] at M
    cases M
  rw [laws_eqByteS.l0] at M
  refine wp_seq ?_
  refine wp_seq ?_
  refine wp_region_lit ?_
  refine lv (d := 11) rfl rfl (by kernel_rfl) (e_move (v := .int .i64 x14) (by exact e17)) ?_
  refine lv (d := 12) rfl rfl (by kernel_rfl) (e_move (v := .slice A2 x1.length c3) (by exact e15)) ?_
  refine lv (d := 13) rfl rfl (by kernel_rfl) (e_len (A := A2) (n := x1.length) (c := c3) Try.underlying59 (by kernel_rfl)) ?_
  refine lv (d := 14) rfl rfl (by kernel_rfl) (e_lss (k := .i64) (a := x14) (b := (x1.length : Int)) (by kernel_rfl) (by kernel_rfl)) ?_
  refine wpList_nil ?_
  refine then_n ?_
  by_cases q24 : x14 < (x1.length : Int)
  · replace M := ifp q24 M
    refine cond_t rfl (bt q24 (by kernel_rfl)) ?_
    refine wp_skip ?_
    refine then_n ?_
    refine wp_seq ?_
    refine wp_block ?_
    refine wp_seq ?_
    refine region_still (by kernel_rfl) (by kernel_rfl) S18 ?_
    intro w25 S26 K27
    refine sv (d := 17) rfl rfl (by kernel_rfl) (e_move (v := .slice A2 x1.length c3) (by exact e15)) ?_
    refine sv (d := 18) rfl rfl (by kernel_rfl) (e_move (v := .int .i64 x14) (by exact e17)) ?_
    obtain ⟨q28, M⟩ := chk M
    obtain ⟨b29, o30, e31⟩ := Rd.addr h4 (show (x14).toNat < x1.length by omega)
    obtain ⟨y32, r33, k34⟩ := Rd.at h4 e31 (getD_some (0 : UInt8) (show (x14).toNat < x1.length by omega))
    obtain rfl := r33
    refine sv (d := 19) rfl rfl (by kernel_rfl) (e_indexAddr (b := b29) (off := o30) (n := x1.length) (c := c3) (sz := 1) (i := x14) (k := .i64) Try.underlying59 e31 (by kernel_rfl) (by kernel_rfl) (by kernel_rfl) q28 q24) ?_
    refine sv (d := 20) rfl rfl (by kernel_rfl) (e_load1 (ad := ⟨b29, o30 + (x14 : Int).toNat * 1, none⟩) (v := .int .u8 ((x1.getD ((x14).toNat) (0 : UInt8)).toNat : Int)) Try.underlying5 rfl (by kernel_rfl) (hpx (S26.inv.cell (k34 0 _ rfl)))) ?_
    refine sv (d := 21) rfl rfl (by kernel_rfl) (e_move (v := .slice A7 x6.length c8) (by exact e16)) ?_
    refine sv (d := 22) rfl rfl (by kernel_rfl) (e_move (v := .int .i64 x14) (by exact e17)) ?_
    obtain ⟨q35, M⟩ := chk M
    obtain ⟨b36, o37, e38⟩ := Rd.addr h9 (show (x14).toNat < x6.length by omega)
    obtain ⟨y39, r40, k41⟩ := Rd.at h9 e38 (getD_some (0 : UInt8) (show (x14).toNat < x6.length by omega))
    obtain rfl := r40
    refine sv (d := 23) rfl rfl (by kernel_rfl) (e_indexAddr (b := b36) (off := o37) (n := x6.length) (c := c8) (sz := 1) (i := x14) (k := .i64) Try.underlying59 e38 (by kernel_rfl) (by kernel_rfl) (by kernel_rfl) q28 q35) ?_
    refine sv (d := 24) rfl rfl (by kernel_rfl) (e_load1 (ad := ⟨b36, o37 + (x14 : Int).toNat * 1, none⟩) (v := .int .u8 ((x6.getD ((x14).toNat) (0 : UInt8)).toNat : Int)) Try.underlying5 rfl (by kernel_rfl) (hpx (S26.inv.cell (k41 0 _ rfl)))) ?_
    refine sv (d := 25) rfl rfl (by kernel_rfl) (e_neq (k := .u8) (a := ((x1.getD ((x14).toNat) (0 : UInt8)).toNat : Int)) (b := ((x6.getD ((x14).toNat) (0 : UInt8)).toNat : Int)) (by kernel_rfl) (by kernel_rfl)) ?_
    refine wpStill_nil ?_
    refine then_n ?_
    by_cases q42 : ((x1.getD ((x14).toNat) (0 : UInt8)).toNat : Int) ≠ ((x6.getD ((x14).toNat) (0 : UInt8)).toNat : Int)
    · replace M := ifp q42 M
      refine cond_t rfl (bt q42 (by kernel_rfl)) ?_
      refine wp_seq ?_
      refine wp_region_lit ?_
      refine lv (d := 4) rfl rfl (by kernel_rfl) (e_assign (v := .bool false) rfl) ?_
      refine wpList_nil ?_
      refine then_n ?_
      refine wp_ret ?_
      refine inb_r ?_
      refine then_r ?_
      refine then_r ?_
      refine inb_r ?_
      refine then_r ?_
      obtain rfl := Option.some.inj M
      exact ret1 rfl rfl  (show _ = .bool false from (by kernel_rfl)) ⟨rfl, S26.chg⟩
    replace M := ifn q42 M
    refine cond_f rfl (bf q42 (by kernel_rfl)) ?_
    refine wp_skip ?_
    refine inb_n ?_
    refine then_n ?_
    refine wp_region_lit ?_
    refine lv (d := 15) rfl rfl (by kernel_rfl) (e_move (v := .int .i64 x14) (by exact e17)) ?_
    refine lv (d := 16) rfl rfl (by kernel_rfl) (e_add (k := .i64) (a := x14) (b := 1) (by kernel_rfl) rfl) ?_
    refine lv (d := 5) rfl rfl (by kernel_rfl) (e_assign (v := .int .i64 (IntKind.i64.wrap (x14 + 1))) (by kernel_rfl)) ?_
    refine wpList_nil ?_
    refine then_n ?_
    exact ⟨k23, (by omega), _, (IntKind.i64.wrap (x14 + 1)), rfl, (by exact e15), (by exact e16), (by kernel_rfl), S26, M⟩
  replace M := ifn q24 M
  refine cond_f rfl (bf q24 (by kernel_rfl)) ?_
  refine wp_exit ?_
  refine then_e ?_
  refine then_e ?_
  refine inb_hit ?_
  refine then_n ?_
  refine wp_seq ?_
  refine wp_region_lit ?_
  refine lv (d := 4) rfl rfl (by kernel_rfl) (e_assign (v := .bool true) rfl) ?_
  refine wpList_nil ?_
  refine then_n ?_
  refine wp_ret ?_
  obtain rfl := Option.some.inj M
  exact ret1 rfl rfl  (show _ = .bool true from (by kernel_rfl)) ⟨rfl, S18.chg⟩

/-! laws_eqCell -/
def laws_eqCell.f (k : Nat) (x1 : Cell) (x6 : Cell) : Option Bool := (if x1.kind ≠ x6.kind then some false else (if x1.n ≠ x6.n then some false else ((laws_eqByteS.f k x1.text x6.text).bind fun t23 => (if ¬ (t23 = true) then some false else some true))))
theorem laws_eqCell.calls (k : Nat) (w : World) (H : Hp) (x1 : Cell) (A2 : Option Addr) (c3 : Nat) (x6 : Cell) (A7 : Option Addr) (c8 : Nat) (h4 : Rd tByte H A2 x1.text) (l5 : x1.text.length ≤ c3) (h9 : Rd tByte H A7 x6.text) (l10 : x6.text.length ≤ c8) (S : Own [] H w) (r : Bool) (M : laws_eqCell.f k x1 x6 = some r) :
    Calls Try.prog 59 #[.agg #[.int .i64 x1.kind, .int .i64 x1.n, .slice A2 x1.text.length c3], .agg #[.int .i64 x6.kind, .int .i64 x6.n, .slice A7 x6.text.length c8]] w (fun e e_w => e = .returned (.bool r) ∧ Chg no w e_w) := by
  rw [laws_eqCell.f] at M
  refine enter (l := [.agg #[.int .i64 x1.kind, .int .i64 x1.n, .slice A2 x1.text.length c3], .agg #[.int .i64 x6.kind, .int .i64 x6.n, .slice A7 x6.text.length c8]]) 21 Try.func59 rfl rfl rfl ?_
  have S0_ := S.st
  refine wp_seq ?_
  refine wp_region_lit ?_
  refine lve (d := 2) rfl rfl (by kernel_rfl) (new_blk (v := fun g_ => .pointer (some ⟨g_, 0, none⟩)) (cs := #[.int .i64 x1.kind, .int .i64 x1.n, .slice A2 x1.text.length c3]) (t := 65) S0_ (by kernel_rfl)) ?_
  rintro _ w11 ⟨g12, rfl, b13, S14, K15⟩
  refine lve (d := 3) rfl rfl (by kernel_rfl) (new_blk (v := fun g_ => .pointer (some ⟨g_, 0, none⟩)) (cs := #[.int .i64 x6.kind, .int .i64 x6.n, .slice A7 x6.text.length c8]) (t := 65) S14 (by kernel_rfl)) ?_
  rintro _ w16 ⟨g17, rfl, b18, S19, K20⟩
  replace b13 := K20.blk 0 rfl b13
  refine lv (d := 4) rfl rfl (by kernel_rfl) (e_assign (v := .bool false) rfl) ?_
  refine wpList_nil ?_
  refine then_n ?_
  refine wp_seq ?_
  refine wp_seq ?_
  refine wp_region_lit ?_
  refine lv (d := 5) rfl rfl (by kernel_rfl) (e_fieldAddr (b := g12) (off := 0) (o := 0) Try.underlying65 rfl rfl (sz := 1) (by kernel_rfl) (by decide) (by kernel_rfl)) ?_
  refine lv (d := 6) rfl rfl (by kernel_rfl) (e_load1 (ad := ⟨g12, 0 + 0, none⟩) (v := .int .i64 x1.kind) Try.underlying3 rfl (by kernel_rfl) (blk_cell b13 rfl)) ?_
  refine lv (d := 7) rfl rfl (by kernel_rfl) (e_fieldAddr (b := g17) (off := 0) (o := 0) Try.underlying65 rfl rfl (sz := 1) (by kernel_rfl) (by decide) (by kernel_rfl)) ?_
  refine lv (d := 8) rfl rfl (by kernel_rfl) (e_load1 (ad := ⟨g17, 0 + 0, none⟩) (v := .int .i64 x6.kind) Try.underlying3 rfl (by kernel_rfl) (blk_cell b18 rfl)) ?_
  refine lv (d := 9) rfl rfl (by kernel_rfl) (e_neq (k := .i64) (a := x1.kind) (b := x6.kind) (by kernel_rfl) (by kernel_rfl)) ?_
  refine wpList_nil ?_
  refine then_n ?_
  by_cases q21 : x1.kind ≠ x6.kind
  · replace M := ifp q21 M
    refine cond_t rfl (bt q21 (by kernel_rfl)) ?_
    refine wp_seq ?_
    refine wp_region_lit ?_
    refine lv (d := 4) rfl rfl (by kernel_rfl) (e_assign (v := .bool false) rfl) ?_
    refine wpList_nil ?_
    refine then_n ?_
    refine wp_ret ?_
    refine then_r ?_
    obtain rfl := Option.some.inj M
    exact ret1 rfl rfl  (show _ = .bool false from (by kernel_rfl)) ⟨rfl, S19.chg⟩
  replace M := ifn q21 M
  refine cond_f rfl (bf q21 (by kernel_rfl)) ?_
  refine wp_skip ?_
  refine then_n ?_
  refine wp_seq ?_
  refine wp_seq ?_
  refine wp_region_lit ?_
  refine lv (d := 10) rfl rfl (by kernel_rfl) (e_fieldAddr (b := g12) (off := 0) (o := 1) Try.underlying65 rfl rfl (sz := 1) (by kernel_rfl) (by decide) (by kernel_rfl)) ?_
  refine lv (d := 11) rfl rfl (by kernel_rfl) (e_load1 (ad := ⟨g12, 0 + 1, none⟩) (v := .int .i64 x1.n) Try.underlying3 rfl (by kernel_rfl) (blk_cell b13 rfl)) ?_
  refine lv (d := 12) rfl rfl (by kernel_rfl) (e_fieldAddr (b := g17) (off := 0) (o := 1) Try.underlying65 rfl rfl (sz := 1) (by kernel_rfl) (by decide) (by kernel_rfl)) ?_
  refine lv (d := 13) rfl rfl (by kernel_rfl) (e_load1 (ad := ⟨g17, 0 + 1, none⟩) (v := .int .i64 x6.n) Try.underlying3 rfl (by kernel_rfl) (blk_cell b18 rfl)) ?_
  refine lv (d := 14) rfl rfl (by kernel_rfl) (e_neq (k := .i64) (a := x1.n) (b := x6.n) (by kernel_rfl) (by kernel_rfl)) ?_
  refine wpList_nil ?_
  refine then_n ?_
  by_cases q22 : x1.n ≠ x6.n
  · replace M := ifp q22 M
    refine cond_t rfl (bt q22 (by kernel_rfl)) ?_
    refine wp_seq ?_
    refine wp_region_lit ?_
    refine lv (d := 4) rfl rfl (by kernel_rfl) (e_assign (v := .bool false) rfl) ?_
    refine wpList_nil ?_
    refine then_n ?_
    refine wp_ret ?_
    refine then_r ?_
    obtain rfl := Option.some.inj M
    exact ret1 rfl rfl  (show _ = .bool false from (by kernel_rfl)) ⟨rfl, S19.chg⟩
  replace M := ifn q22 M
  refine cond_f rfl (bf q22 (by kernel_rfl)) ?_
  refine wp_skip ?_
  refine then_n ?_
  refine wp_seq ?_
  refine wp_seq ?_
  refine wp_region_lit ?_
  refine lv (d := 15) rfl rfl (by kernel_rfl) (e_fieldAddr (b := g12) (off := 0) (o := 2) Try.underlying65 rfl rfl (sz := 1) (by kernel_rfl) (by decide) (by kernel_rfl)) ?_
  refine lv (d := 16) rfl rfl (by kernel_rfl) (e_load1 (ad := ⟨g12, 0 + 2, none⟩) (v := .slice A2 x1.text.length c3) Try.underlying59 rfl (by kernel_rfl) (blk_cell b13 rfl)) ?_
  refine lv (d := 17) rfl rfl (by kernel_rfl) (e_fieldAddr (b := g17) (off := 0) (o := 2) Try.underlying65 rfl rfl (sz := 1) (by kernel_rfl) (by decide) (by kernel_rfl)) ?_
  refine lv (d := 18) rfl rfl (by kernel_rfl) (e_load1 (ad := ⟨g17, 0 + 2, none⟩) (v := .slice A7 x6.text.length c8) Try.underlying59 rfl (by kernel_rfl) (blk_cell b18 rfl)) ?_
  obtain ⟨t23, u24, M⟩ := bnd M
  refine lcall (d := 19) rfl rfl (by kernel_rfl) (e_call (l := [.tmp 16, .tmp 18]) (vs := [.slice A2 x1.text.length c3, .slice A7 x6.text.length c8]) Try.func104 (by kernel_rfl) rfl (by kernel_rfl) rfl) (laws_eqByteS.calls k w16 H x1.text A2 c3 x6.text A7 c8 h4 l5 h9 l10 S19.own0 t23 u24) ?_
  rintro _ w25 ⟨rfl, C26⟩
  refine ⟨_, rfl, ?_⟩
  obtain ⟨S27, K28⟩ := S19.still C26
  replace b18 := K28.blk 0 rfl b18
  replace b13 := K28.blk 1 rfl b13
  refine lv (d := 20) rfl rfl (by kernel_rfl) (e_notv (c := t23) (by kernel_rfl)) ?_
  refine wpList_nil ?_
  refine then_n ?_
  by_cases q29 : ¬ (t23 = true)
  · replace M := ifp q29 M
    refine cond_t rfl (bt q29 (by kernel_rfl)) ?_
    refine wp_seq ?_
    refine wp_region_lit ?_
    refine lv (d := 4) rfl rfl (by kernel_rfl) (e_assign (v := .bool false) rfl) ?_
    refine wpList_nil ?_
    refine then_n ?_
    refine wp_ret ?_
    refine then_r ?_
    obtain rfl := Option.some.inj M
    exact ret1 rfl rfl  (show _ = .bool false from (by kernel_rfl)) ⟨rfl, S27.chg⟩
  replace M := ifn q29 M
  refine cond_f rfl (bf q29 (by kernel_rfl)) ?_
  refine wp_skip ?_
  refine then_n ?_
  refine wp_seq ?_
  refine wp_region_lit ?_
  refine lv (d := 4) rfl rfl (by kernel_rfl) (e_assign (v := .bool true) rfl) ?_
  refine wpList_nil ?_
  refine then_n ?_
  refine wp_ret ?_
  obtain rfl := Option.some.inj M
  exact ret1 rfl rfl  (show _ = .bool true from (by kernel_rfl)) ⟨rfl, S27.chg⟩

/-! laws_eqCellS -/
def laws_eqCellS.l0 : Nat → (List Cell) → (List Cell) → Int → Option Bool
  | 0, _, _, _ => none
  | k23 + 1, x1, x6, x14 => (if x14 < (x1.length : Int) then (if 0 ≤ x14 then (if x14 < (x6.length : Int) then ((laws_eqCell.f k23 (x1.getD ((x14).toNat) z65) (x6.getD ((x14).toNat) z65)).bind fun t47 => (if ¬ (t47 = true) then some false else (laws_eqCellS.l0 k23 x1 x6 (IntKind.i64.wrap (x14 + 1))))) else none) else none) else some true)
def laws_eqCellS.f (k : Nat) (x1 : List Cell) (x6 : List Cell) : Option Bool := (if (x1.length : Int) ≠ (x6.length : Int) then some false else (laws_eqCellS.l0 k x1 x6 0))
theorem laws_eqCellS.calls (k : Nat) (w : World) (H : Hp) (x1 : List Cell) (A2 : Option Addr) (c3 : Nat) (x6 : List Cell) (A7 : Option Addr) (c8 : Nat) (h4 : Rd st65 H A2 x1) (l5 : x1.length ≤ c3) (h9 : Rd st65 H A7 x6) (l10 : x6.length ≤ c8) (S : Own [] H w) (r : Bool) (M : laws_eqCellS.f k x1 x6 = some r) :
    Calls Try.prog 18 #[.slice A2 x1.length c3, .slice A7 x6.length c8] w (fun e e_w => e = .returned (.bool r) ∧ Chg no w e_w) := by
  rw [laws_eqCellS.f] at M
  refine enter (l := [.slice A2 x1.length c3, .slice A7 x6.length c8]) 27 Try.func18 rfl rfl rfl ?_
  have S0_ := S.st
  refine wp_seq ?_
  refine wp_region_lit ?_
  refine lv (d := 4) rfl rfl (by kernel_rfl) (e_assign (v := .bool false) rfl) ?_
  refine wpList_nil ?_
  refine then_n ?_
  refine wp_seq ?_
  refine wp_seq ?_
  refine wp_region_lit ?_
  refine lv (d := 6) rfl rfl (by kernel_rfl) (e_move (v := .slice A2 x1.length c3) (by kernel_rfl)) ?_
  refine lv (d := 7) rfl rfl (by kernel_rfl) (e_len (A := A2) (n := x1.length) (c := c3) Try.underlying25 (by kernel_rfl)) ?_
  refine lv (d := 8) rfl rfl (by kernel_rfl) (e_move (v := .slice A7 x6.length c8) (by kernel_rfl)) ?_
  refine lv (d := 9) rfl rfl (by kernel_rfl) (e_len (A := A7) (n := x6.length) (c := c8) Try.underlying25 (by kernel_rfl)) ?_
  refine lv (d := 10) rfl rfl (by kernel_rfl) (e_neq (k := .i64) (a := (x1.length : Int)) (b := (x6.length : Int)) (by kernel_rfl) (by kernel_rfl)) ?_
  refine wpList_nil ?_
  refine then_n ?_
  by_cases q11 : (x1.length : Int) ≠ (x6.length : Int)
  · replace M := ifp q11 M
    refine cond_t rfl (bt q11 (by kernel_rfl)) ?_
    refine wp_seq ?_
    refine wp_region_lit ?_
    refine lv (d := 4) rfl rfl (by kernel_rfl) (e_assign (v := .bool false) rfl) ?_
    refine wpList_nil ?_
    refine then_n ?_
    refine wp_ret ?_
    refine then_r ?_
    obtain rfl := Option.some.inj M
    exact ret1 rfl rfl  (show _ = .bool false from (by kernel_rfl)) ⟨rfl, S0_.chg⟩
  replace M := ifn q11 M
  refine cond_f rfl (bf q11 (by kernel_rfl)) ?_
  refine wp_skip ?_
  refine then_n ?_
  refine wp_seq ?_
  refine wp_seq ?_
  refine wp_region_lit ?_
  refine lv (d := 5) rfl rfl (by kernel_rfl) (e_assign (v := .int .i64 0) rfl) ?_
  refine wpList_nil ?_
  refine then_n ?_
  refine wp_block ?_
  refine wp_loop_g (fun k21 a22 w12 => ∃ (f13 : Nat → Value) (x14 : Int), a22 = mk 27 f13 ∧ f13 0 = .slice A2 x1.length c3 ∧ f13 1 = .slice A7 x6.length c8 ∧ f13 5 = .int .i64 x14 ∧ St (anyOf []) H w [] H w12 ∧ laws_eqCellS.l0 k21 x1 x6 x14 = some r) k ⟨_, 0, rfl, (by kernel_rfl), (by kernel_rfl), (by kernel_rfl), S0_, M⟩ ?_
  clear M
  rintro k21 a22 w12 ⟨f13, x14, rfl, e15, e16, e17, S18, M⟩
  rcases k21 with _ | k23
  · rw [laws_eqCellS.l0] at M
    cases M
  rw [laws_eqCellS.l0] at M
  refine wp_seq ?_
  refine wp_seq ?_
  refine wp_region_lit ?_
  refine lv (d := 11) rfl rfl (by kernel_rfl) (e_move (v := .int .i64 x14) (by exact e17)) ?_
  refine lv (d := 12) rfl rfl (by kernel_rfl) (e_move (v := .slice A2 x1.length c3) (by exact e15)) ?_
  refine lv (d := 13) rfl rfl (by kernel_rfl) (e_len (A := A2) (n := x1.length) (c := c3) Try.underlying25 (by kernel_rfl)) ?_
  refine lv (d := 14) rfl rfl (by kernel_rfl) (e_lss (k := .i64) (a := x14) (b := (x1.length : Int)) (by kernel_rfl) (by kernel_rfl)) ?_
  refine wpList_nil ?_
  refine then_n ?_
  by_cases q24 : x14 < (x1.length : Int)
  · replace M := ifp q24 M
    refine cond_t rfl (bt q24 (by kernel_rfl)) ?_
    refine wp_skip ?_
    refine then_n ?_
    refine wp_seq ?_
    refine wp_block ?_
    refine wp_seq ?_
    refine region_quiet (by kernel_rfl) (by kernel_rfl) ?_
    refine qv (d := 17) rfl rfl (by kernel_rfl) (fun wq_ hq_ => e_move (v := .slice A2 x1.length c3) (by exact e15)) ?_
    refine qv (d := 18) rfl rfl (by kernel_rfl) (fun wq_ hq_ => e_move (v := .int .i64 x14) (by exact e17)) ?_
    obtain ⟨q25, M⟩ := chk M
    obtain ⟨b26, o27, e28⟩ := Rd.addr h4 (show (x14).toNat < x1.length by omega)
    obtain ⟨y29, r30, k31⟩ := Rd.at h4 e28 (getD_some z65 (show (x14).toNat < x1.length by omega))
    obtain ⟨A32, c33, rfl, l34, h35⟩ := st65_open r30
    refine qv (d := 19) rfl rfl (by kernel_rfl) (fun wq_ hq_ => e_indexAddr (b := b26) (off := o27) (n := x1.length) (c := c3) (sz := 3) (i := x14) (k := .i64) Try.underlying25 e28 (by kernel_rfl) (by kernel_rfl) (by kernel_rfl) q25 q24) ?_
    refine qv (d := 20) rfl rfl (by kernel_rfl) (fun wq_ hq_ => e_loadS (b := b26) (off := o27 + (x14 : Int).toNat * 3) (cs := [.int .i64 ((x1.getD ((x14).toNat) z65).kind), .int .i64 ((x1.getD ((x14).toNat) z65).n), .slice A32 ((x1.getD ((x14).toNat) z65).text).length c33]) Try.underlying65 rfl (by kernel_rfl) (by kernel_rfl) (fun j_ u_ e_ => (hpx ((S18.still hq_).1.inv.cell (k31 j_ u_ e_))))) ?_
    refine qv (d := 21) rfl rfl (by kernel_rfl) (fun wq_ hq_ => e_move (v := .slice A7 x6.length c8) (by exact e16)) ?_
    refine qv (d := 22) rfl rfl (by kernel_rfl) (fun wq_ hq_ => e_move (v := .int .i64 x14) (by exact e17)) ?_
    obtain ⟨q36, M⟩ := chk M
    obtain ⟨b37, o38, e39⟩ := Rd.addr h9 (show (x14).toNat < x6.length by omega)
    obtain ⟨y40, r41, k42⟩ := Rd.at h9 e39 (getD_some z65 (show (x14).toNat < x6.length by omega))
    obtain ⟨A43, c44, rfl, l45, h46⟩ := st65_open r41
    refine qv (d := 23) rfl rfl (by kernel_rfl) (fun wq_ hq_ => e_indexAddr (b := b37) (off := o38) (n := x6.length) (c := c8) (sz := 3) (i := x14) (k := .i64) Try.underlying25 e39 (by kernel_rfl) (by kernel_rfl) (by kernel_rfl) q25 q36) ?_
    refine qv (d := 24) rfl rfl (by kernel_rfl) (fun wq_ hq_ => e_loadS (b := b37) (off := o38 + (x14 : Int).toNat * 3) (cs := [.int .i64 ((x6.getD ((x14).toNat) z65).kind), .int .i64 ((x6.getD ((x14).toNat) z65).n), .slice A43 ((x6.getD ((x14).toNat) z65).text).length c44]) Try.underlying65 rfl (by kernel_rfl) (by kernel_rfl) (fun j_ u_ e_ => (hpx ((S18.still hq_).1.inv.cell (k42 j_ u_ e_))))) ?_
    obtain ⟨t47, u48, M⟩ := bnd M
    refine qcall (v := .bool t47) (d := 25) rfl rfl (by kernel_rfl) (fun w_ => e_call (l := [.tmp 20, .tmp 24]) (vs := [.agg #[.int .i64 ((x1.getD ((x14).toNat) z65).kind), .int .i64 ((x1.getD ((x14).toNat) z65).n), .slice A32 ((x1.getD ((x14).toNat) z65).text).length c33], .agg #[.int .i64 ((x6.getD ((x14).toNat) z65).kind), .int .i64 ((x6.getD ((x14).toNat) z65).n), .slice A43 ((x6.getD ((x14).toNat) z65).text).length c44]]) Try.func59 (by kernel_rfl) rfl (by kernel_rfl) rfl) (fun wq_ hq_ => (by obtain ⟨S_, K_⟩ := S18.still hq_; exact (laws_eqCell.calls k23 wq_ H (x1.getD ((x14).toNat) z65) A32 c33 (x6.getD ((x14).toNat) z65) A43 c44 h35 l34 h46 l45 S_.own0 t47 u48))) ?_
    refine qv (d := 26) rfl rfl (by kernel_rfl) (fun wq_ hq_ => e_notv (c := t47) (by kernel_rfl)) ?_
    refine wpQuiet_nil ?_
    intro w49 C52
    obtain ⟨S50, K51⟩ := S18.still C52
    refine then_n ?_
    by_cases q53 : ¬ (t47 = true)
    · replace M := ifp q53 M
      refine cond_t rfl (bt q53 (by kernel_rfl)) ?_
      refine wp_seq ?_
      refine wp_region_lit ?_
      refine lv (d := 4) rfl rfl (by kernel_rfl) (e_assign (v := .bool false) rfl) ?_
      refine wpList_nil ?_
      refine then_n ?_
      refine wp_ret ?_
      refine inb_r ?_
      refine then_r ?_
      refine then_r ?_
      refine inb_r ?_
      refine then_r ?_
      obtain rfl := Option.some.inj M
      exact ret1 rfl rfl  (show _ = .bool false from (by kernel_rfl)) ⟨rfl, S50.chg⟩
    replace M := ifn q53 M
    refine cond_f rfl (bf q53 (by kernel_rfl)) ?_
    refine wp_skip ?_
    refine inb_n ?_
    refine then_n ?_
    refine wp_region_lit ?_
    refine lv (d := 15) rfl rfl (by kernel_rfl) (e_move (v := .int .i64 x14) (by exact e17)) ?_
    refine lv (d := 16) rfl rfl (by kernel_rfl) (e_add (k := .i64) (a := x14) (b := 1) (by kernel_rfl) rfl) ?_
    refine lv (d := 5) rfl rfl (by kernel_rfl) (e_assign (v := .int .i64 (IntKind.i64.wrap (x14 + 1))) (by kernel_rfl)) ?_
    refine wpList_nil ?_
    refine then_n ?_
    exact ⟨k23, (by omega), _, (IntKind.i64.wrap (x14 + 1)), rfl, (by exact e15), (by exact e16), (by kernel_rfl), S50, M⟩
  replace M := ifn q24 M
  refine cond_f rfl (bf q24 (by kernel_rfl)) ?_
  refine wp_exit ?_
  refine then_e ?_
  refine then_e ?_
  refine inb_hit ?_
  refine then_n ?_
  refine wp_seq ?_
  refine wp_region_lit ?_
  refine lv (d := 4) rfl rfl (by kernel_rfl) (e_assign (v := .bool true) rfl) ?_
  refine wpList_nil ?_
  refine then_n ?_
  refine wp_ret ?_
  obtain rfl := Option.some.inj M
  exact ret1 rfl rfl  (show _ = .bool true from (by kernel_rfl)) ⟨rfl, S18.chg⟩

/-! laws_FnExactSubsumes -/
def laws_FnExactSubsumes.f (k : Nat) (x1 : List Cell) (x6 : List Cell) : Option Bool := ((laws_szCellS.f k x1 1048576).bind fun t11 => (if t11 < 0 then some true else ((laws_szCellS.f k x6 t11).bind fun t18 => (if t18 < 0 then some true else ((laws_toCellS.f k x1).bind fun t25 => ((laws_toCellS.f k x6).bind fun t37 => ((spec_Subsumes.f k t25 t37).bind fun t49 => ((laws_toCellS.f k x1).bind fun t68 => ((laws_toCellS.f k x6).bind fun t80 => ((impl_Subsumes.f k t68 t80).bind fun t92 => (if t92 ≠ t49 then some false else ((laws_toCellS.f k x1).bind fun t112 => ((laws_eqCellS.f k t68 t112).bind fun t124 => (if ¬ (t124 = true) then some false else ((laws_toCellS.f k x6).bind fun t144 => ((laws_eqCellS.f k t80 t144).bind fun t156 => (if ¬ (t156 = true) then some false else some true)))))))))))))))))
theorem laws_FnExactSubsumes.calls (k : Nat) (w : World) (H : Hp) (x1 : List Cell) (A2 : Option Addr) (c3 : Nat) (x6 : List Cell) (A7 : Option Addr) (c8 : Nat) (h4 : Rd st68 H A2 x1) (l5 : x1.length ≤ c3) (h9 : Rd st68 H A7 x6) (l10 : x6.length ≤ c8) (S : Own [] H w) (r : Bool) (M : laws_FnExactSubsumes.f k x1 x6 = some r) :
    Calls Try.prog 7 #[.slice A2 x1.length c3, .slice A7 x6.length c8] w (fun e e_w => e = .returned (.bool r) ∧ Chg no w e_w) := by
  rw [laws_FnExactSubsumes.f] at M
  refine enter (l := [.slice A2 x1.length c3, .slice A7 x6.length c8]) 45 Try.func7 rfl rfl rfl ?_
  have S0_ := S.st
  refine wp_seq ?_
  refine wp_region_lit ?_
  refine lv (d := 4) rfl rfl (by kernel_rfl) (e_assign (v := .bool false) rfl) ?_
  refine wpList_nil ?_
  refine then_n ?_
  refine wp_seq ?_
  refine wp_region_lit ?_
  refine lv (d := 5) rfl rfl (by kernel_rfl) (e_assign (v := .int .i64 1048576) rfl) ?_
  refine wpList_nil ?_
  refine then_n ?_
  refine wp_seq ?_
  refine wp_region_lit ?_
  refine lv (d := 10) rfl rfl (by kernel_rfl) (e_move (v := .slice A2 x1.length c3) (by kernel_rfl)) ?_
  refine lv (d := 11) rfl rfl (by kernel_rfl) (e_move (v := .int .i64 1048576) (by kernel_rfl)) ?_
  obtain ⟨t11, u12, M⟩ := bnd M
  refine lcall (d := 12) rfl rfl (by kernel_rfl) (e_call (l := [.tmp 10, .tmp 11]) (vs := [.slice A2 x1.length c3, .int .i64 1048576]) Try.func14 (by kernel_rfl) rfl (by kernel_rfl) rfl) (laws_szCellS.calls k w H x1 A2 c3 1048576 h4 l5 S0_.own0 t11 u12) ?_
  rintro _ w13 ⟨rfl, C14⟩
  refine ⟨_, rfl, ?_⟩
  obtain ⟨S15, K16⟩ := S0_.still C14
  refine lv (d := 5) rfl rfl (by kernel_rfl) (e_assign (v := .int .i64 t11) (by kernel_rfl)) ?_
  refine wpList_nil ?_
  refine then_n ?_
  refine wp_seq ?_
  refine wp_seq ?_
  refine wp_region_lit ?_
  refine lv (d := 13) rfl rfl (by kernel_rfl) (e_move (v := .int .i64 t11) (by kernel_rfl)) ?_
  refine lv (d := 14) rfl rfl (by kernel_rfl) (e_lss (k := .i64) (a := t11) (b := 0) (by kernel_rfl) rfl) ?_
  refine wpList_nil ?_
  refine then_n ?_
  by_cases q17 : t11 < 0
  · replace M := ifp q17 M
    refine cond_t rfl (bt q17 (by kernel_rfl)) ?_
    refine wp_seq ?_
    refine wp_region_lit ?_
    refine lv (d := 4) rfl rfl (by kernel_rfl) (e_assign (v := .bool true) rfl) ?_
    refine wpList_nil ?_
    refine then_n ?_
    refine wp_ret ?_
    refine then_r ?_
    obtain rfl := Option.some.inj M
    exact ret1 rfl rfl  (show _ = .bool true from (by kernel_rfl)) ⟨rfl, S15.chg⟩
  replace M := ifn q17 M
  refine cond_f rfl (bf q17 (by kernel_rfl)) ?_
  refine wp_skip ?_
  refine then_n ?_
  refine wp_seq ?_
  refine wp_region_lit ?_
  refine lv (d := 15) rfl rfl (by kernel_rfl) (e_move (v := .slice A7 x6.length c8) (by kernel_rfl)) ?_
  refine lv (d := 16) rfl rfl (by kernel_rfl) (e_move (v := .int .i64 t11) (by kernel_rfl)) ?_
  obtain ⟨t18, u19, M⟩ := bnd M
  refine lcall (d := 17) rfl rfl (by kernel_rfl) (e_call (l := [.tmp 15, .tmp 16]) (vs := [.slice A7 x6.length c8, .int .i64 t11]) Try.func14 (by kernel_rfl) rfl (by kernel_rfl) rfl) (laws_szCellS.calls k w13 H x6 A7 c8 t11 h9 l10 S15.own0 t18 u19) ?_
  rintro _ w20 ⟨rfl, C21⟩
  refine ⟨_, rfl, ?_⟩
  obtain ⟨S22, K23⟩ := S15.still C21
  refine lv (d := 5) rfl rfl (by kernel_rfl) (e_assign (v := .int .i64 t18) (by kernel_rfl)) ?_
  refine wpList_nil ?_
  refine then_n ?_
  refine wp_seq ?_
  refine wp_seq ?_
  refine wp_region_lit ?_
  refine lv (d := 18) rfl rfl (by kernel_rfl) (e_move (v := .int .i64 t18) (by kernel_rfl)) ?_
  refine lv (d := 19) rfl rfl (by kernel_rfl) (e_lss (k := .i64) (a := t18) (b := 0) (by kernel_rfl) rfl) ?_
  refine wpList_nil ?_
  refine then_n ?_
  by_cases q24 : t18 < 0
  · replace M := ifp q24 M
    refine cond_t rfl (bt q24 (by kernel_rfl)) ?_
    refine wp_seq ?_
    refine wp_region_lit ?_
    refine lv (d := 4) rfl rfl (by kernel_rfl) (e_assign (v := .bool true) rfl) ?_
    refine wpList_nil ?_
    refine then_n ?_
    refine wp_ret ?_
    refine then_r ?_
    obtain rfl := Option.some.inj M
    exact ret1 rfl rfl  (show _ = .bool true from (by kernel_rfl)) ⟨rfl, S22.chg⟩
  replace M := ifn q24 M
  refine cond_f rfl (bf q24 (by kernel_rfl)) ?_
  refine wp_skip ?_
  refine then_n ?_
  refine wp_seq ?_
  refine wp_region_lit ?_
  refine lv (d := 20) rfl rfl (by kernel_rfl) (e_move (v := .slice A2 x1.length c3) (by kernel_rfl)) ?_
  obtain ⟨t25, u26, M⟩ := bnd M
  refine lcall (d := 21) rfl rfl (by kernel_rfl) (e_call (l := [.tmp 20]) (vs := [.slice A2 x1.length c3]) Try.func16 (by kernel_rfl) rfl (by kernel_rfl) rfl) (laws_toCellS.calls k w20 H x1 A2 c3 h4 l5 (St.own' (Fa := []) (Fr := []) S22) t25 u26) ?_
  rintro _ w27 ⟨A30, c31, F33, H28, rfl, h32, T29⟩
  refine ⟨_, rfl, ?_⟩
  obtain ⟨S34, K35⟩ := St.call (Fa := []) (Fr := []) S22 T29
  have E36 := T29.ext
  refine lv (d := 22) rfl rfl (by kernel_rfl) (e_move (v := .slice A7 x6.length c8) (by kernel_rfl)) ?_
  obtain ⟨t37, u38, M⟩ := bnd M
  refine lcall (d := 23) rfl rfl (by kernel_rfl) (e_call (l := [.tmp 22]) (vs := [.slice A7 x6.length c8]) Try.func16 (by kernel_rfl) rfl (by kernel_rfl) rfl) (laws_toCellS.calls k w27 H28 x6 A7 c8 (h9.ext E36) l10 (St.own' (Fa := []) (Fr := [F33]) S34) t37 u38) ?_
  rintro _ w39 ⟨A42, c43, F45, H40, rfl, h44, T41⟩
  refine ⟨_, rfl, ?_⟩
  obtain ⟨S46, K47⟩ := St.call (Fa := []) (Fr := [F33]) S34 T41
  replace h32 := h32.move (K47.at 0 rfl)
  have E48 := T41.ext
  replace h32 := h32.ext E48
  obtain ⟨t49, u50, M⟩ := bnd M
  refine lcall (d := 24) rfl rfl (by kernel_rfl) (e_call (l := [.tmp 21, .tmp 23]) (vs := [.slice A30 t25.length c31, .slice A42 t37.length c43]) Try.func30 (by kernel_rfl) rfl (by kernel_rfl) rfl) (by have l51 := h32.le; have S52 := S46.pull (F := F33) (Fr := [F45]) 1 rfl rfl; obtain ⟨H53, S54, E55, h56, z57⟩ := S52.frzRow h32; replace h44 := h44.ext E55; have l58 := h44.le; obtain ⟨H59, S60, E61, h62, z63⟩ := S54.frzRow h44; exact (spec_Subsumes.calls k w39 H59 t25 A30 c31 t37 A42 c43 (h56.ext E61) l51 h62 l58 S60.own0 t49 u50)) ?_
  rintro _ w64 ⟨rfl, C65⟩
  refine ⟨_, rfl, ?_⟩
  obtain ⟨S66, K67⟩ := S46.still C65
  replace h44 := h44.move (K67.at 0 rfl)
  replace h32 := h32.move (K67.at 1 rfl)
  refine lv (d := 6) rfl rfl (by kernel_rfl) (e_assign (v := .bool t49) (by kernel_rfl)) ?_
  refine wpList_nil ?_
  refine then_n ?_
  refine wp_seq ?_
  refine wp_region_lit ?_
  refine lv (d := 25) rfl rfl (by kernel_rfl) (e_move (v := .slice A2 x1.length c3) (by kernel_rfl)) ?_
  obtain ⟨t68, u69, M⟩ := bnd M
  refine lcall (d := 26) rfl rfl (by kernel_rfl) (e_call (l := [.tmp 25]) (vs := [.slice A2 x1.length c3]) Try.func16 (by kernel_rfl) rfl (by kernel_rfl) rfl) (laws_toCellS.calls k w64 H40 x1 A2 c3 (h4.ext (E36.trans E48)) l5 (St.own' (Fa := []) (Fr := [F45, F33]) S66) t68 u69) ?_
  rintro _ w70 ⟨A73, c74, F76, H71, rfl, h75, T72⟩
  refine ⟨_, rfl, ?_⟩
  obtain ⟨S77, K78⟩ := St.call (Fa := []) (Fr := [F45, F33]) S66 T72
  replace h44 := h44.move (K78.at 0 rfl)
  replace h32 := h32.move (K78.at 1 rfl)
  have E79 := T72.ext
  replace h44 := h44.ext E79
  replace h32 := h32.ext E79
  refine lv (d := 7) rfl rfl (by kernel_rfl) (e_assign (v := .slice A73 t68.length c74) (by kernel_rfl)) ?_
  refine wpList_nil ?_
  refine then_n ?_
  refine wp_seq ?_
  refine wp_region_lit ?_
  refine lv (d := 27) rfl rfl (by kernel_rfl) (e_move (v := .slice A7 x6.length c8) (by kernel_rfl)) ?_
  obtain ⟨t80, u81, M⟩ := bnd M
  refine lcall (d := 28) rfl rfl (by kernel_rfl) (e_call (l := [.tmp 27]) (vs := [.slice A7 x6.length c8]) Try.func16 (by kernel_rfl) rfl (by kernel_rfl) rfl) (laws_toCellS.calls k w70 H71 x6 A7 c8 (h9.ext ((E36.trans E48).trans E79)) l10 (St.own' (Fa := []) (Fr := [F76, F45, F33]) S77) t80 u81) ?_
  rintro _ w82 ⟨A85, c86, F88, H83, rfl, h87, T84⟩
  refine ⟨_, rfl, ?_⟩
  obtain ⟨S89, K90⟩ := St.call (Fa := []) (Fr := [F76, F45, F33]) S77 T84
  replace h75 := h75.move (K90.at 0 rfl)
  replace h44 := h44.move (K90.at 1 rfl)
  replace h32 := h32.move (K90.at 2 rfl)
  have E91 := T84.ext
  replace h75 := h75.ext E91
  replace h44 := h44.ext E91
  replace h32 := h32.ext E91
  refine lv (d := 8) rfl rfl (by kernel_rfl) (e_assign (v := .slice A85 t80.length c86) (by kernel_rfl)) ?_
  refine wpList_nil ?_
  refine then_n ?_
  refine wp_seq ?_
  refine wp_region_lit ?_
  refine lv (d := 29) rfl rfl (by kernel_rfl) (e_move (v := .slice A73 t68.length c74) (by kernel_rfl)) ?_
  refine lv (d := 30) rfl rfl (by kernel_rfl) (e_move (v := .slice A85 t80.length c86) (by kernel_rfl)) ?_
  obtain ⟨t92, u93, M⟩ := bnd M
  refine lcall (d := 31) rfl rfl (by kernel_rfl) (e_call (l := [.tmp 29, .tmp 30]) (vs := [.slice A73 t68.length c74, .slice A85 t80.length c86]) Try.func31 (by kernel_rfl) rfl (by kernel_rfl) rfl) (by have l94 := h75.le; have S95 := S89.pull (F := F76) (Fr := [F88, F45, F33]) 1 rfl rfl; obtain ⟨H96, S97, E98, h99, z100⟩ := S95.frzRow h75; replace h87 := h87.ext E98; replace h44 := h44.ext E98; replace h32 := h32.ext E98; have l101 := h87.le; obtain ⟨H102, S103, E104, h105, z106⟩ := S97.frzRow h87; replace h44 := h44.ext E104; replace h32 := h32.ext E104; exact (impl_Subsumes.calls k w82 H102 t68 A73 c74 t80 A85 c86 (h99.ext E104) l94 h105 l101 S103.own0 t92 u93)) ?_
  rintro _ w107 ⟨rfl, C108⟩
  refine ⟨_, rfl, ?_⟩
  obtain ⟨S109, K110⟩ := S89.still C108
  replace h87 := h87.move (K110.at 0 rfl)
  replace h75 := h75.move (K110.at 1 rfl)
  replace h44 := h44.move (K110.at 2 rfl)
  replace h32 := h32.move (K110.at 3 rfl)
  refine lv (d := 9) rfl rfl (by kernel_rfl) (e_assign (v := .bool t92) (by kernel_rfl)) ?_
  refine wpList_nil ?_
  refine then_n ?_
  refine wp_seq ?_
  refine wp_seq ?_
  refine wp_region_lit ?_
  refine lv (d := 32) rfl rfl (by kernel_rfl) (e_move (v := .bool t92) (by kernel_rfl)) ?_
  refine lv (d := 33) rfl rfl (by kernel_rfl) (e_move (v := .bool t49) (by kernel_rfl)) ?_
  refine lv (d := 34) rfl rfl (by kernel_rfl) (e_bneq (p := t92) (q := t49) Try.underlying4 (by kernel_rfl) (by kernel_rfl)) ?_
  refine wpList_nil ?_
  refine then_n ?_
  by_cases q111 : t92 ≠ t49
  · replace M := ifp q111 M
    refine cond_t rfl (bt q111 (by kernel_rfl)) ?_
    refine wp_seq ?_
    refine wp_region_lit ?_
    refine lv (d := 4) rfl rfl (by kernel_rfl) (e_assign (v := .bool false) rfl) ?_
    refine wpList_nil ?_
    refine then_n ?_
    refine wp_ret ?_
    refine then_r ?_
    obtain rfl := Option.some.inj M
    exact ret1 rfl rfl  (show _ = .bool false from (by kernel_rfl)) ⟨rfl, S109.chg⟩
  replace M := ifn q111 M
  refine cond_f rfl (bf q111 (by kernel_rfl)) ?_
  refine wp_skip ?_
  refine then_n ?_
  refine wp_seq ?_
  refine wp_seq ?_
  refine wp_region_lit ?_
  refine lv (d := 35) rfl rfl (by kernel_rfl) (e_move (v := .slice A73 t68.length c74) (by kernel_rfl)) ?_
  refine lv (d := 36) rfl rfl (by kernel_rfl) (e_move (v := .slice A2 x1.length c3) (by kernel_rfl)) ?_
  obtain ⟨t112, u113, M⟩ := bnd M
  refine lcall (d := 37) rfl rfl (by kernel_rfl) (e_call (l := [.tmp 36]) (vs := [.slice A2 x1.length c3]) Try.func16 (by kernel_rfl) rfl (by kernel_rfl) rfl) (laws_toCellS.calls k w107 H83 x1 A2 c3 (h4.ext (((E36.trans E48).trans E79).trans E91)) l5 (St.own' (Fa := []) (Fr := [F88, F76, F45, F33]) S109) t112 u113) ?_
  rintro _ w114 ⟨A117, c118, F120, H115, rfl, h119, T116⟩
  refine ⟨_, rfl, ?_⟩
  obtain ⟨S121, K122⟩ := St.call (Fa := []) (Fr := [F88, F76, F45, F33]) S109 T116
  replace h87 := h87.move (K122.at 0 rfl)
  replace h75 := h75.move (K122.at 1 rfl)
  replace h44 := h44.move (K122.at 2 rfl)
  replace h32 := h32.move (K122.at 3 rfl)
  have E123 := T116.ext
  replace h87 := h87.ext E123
  replace h75 := h75.ext E123
  replace h44 := h44.ext E123
  replace h32 := h32.ext E123
  obtain ⟨t124, u125, M⟩ := bnd M
  refine lcall (d := 38) rfl rfl (by kernel_rfl) (e_call (l := [.tmp 35, .tmp 37]) (vs := [.slice A73 t68.length c74, .slice A117 t112.length c118]) Try.func18 (by kernel_rfl) rfl (by kernel_rfl) rfl) (by have l126 := h75.le; have S127 := S121.pull (F := F76) (Fr := [F120, F88, F45, F33]) 2 rfl rfl; obtain ⟨H128, S129, E130, h131, z132⟩ := S127.frzRow h75; replace h119 := h119.ext E130; replace h87 := h87.ext E130; replace h44 := h44.ext E130; replace h32 := h32.ext E130; have l133 := h119.le; obtain ⟨H134, S135, E136, h137, z138⟩ := S129.frzRow h119; replace h87 := h87.ext E136; replace h44 := h44.ext E136; replace h32 := h32.ext E136; exact (laws_eqCellS.calls k w114 H134 t68 A73 c74 t112 A117 c118 (h131.ext E136) l126 h137 l133 S135.own0 t124 u125)) ?_
  rintro _ w139 ⟨rfl, C140⟩
  refine ⟨_, rfl, ?_⟩
  obtain ⟨S141, K142⟩ := S121.still C140
  replace h119 := h119.move (K142.at 0 rfl)
  replace h87 := h87.move (K142.at 1 rfl)
  replace h75 := h75.move (K142.at 2 rfl)
  replace h44 := h44.move (K142.at 3 rfl)
  replace h32 := h32.move (K142.at 4 rfl)
  refine lv (d := 39) rfl rfl (by kernel_rfl) (e_notv (c := t124) (by kernel_rfl)) ?_
  refine wpList_nil ?_
  refine then_n ?_
  by_cases q143 : ¬ (t124 = true)
  · replace M := ifp q143 M
    refine cond_t rfl (bt q143 (by kernel_rfl)) ?_
    refine wp_seq ?_
    refine wp_region_lit ?_
    refine lv (d := 4) rfl rfl (by kernel_rfl) (e_assign (v := .bool false) rfl) ?_
    refine wpList_nil ?_
    refine then_n ?_
    refine wp_ret ?_
    refine then_r ?_
    obtain rfl := Option.some.inj M
    exact ret1 rfl rfl  (show _ = .bool false from (by kernel_rfl)) ⟨rfl, S141.chg⟩
  replace M := ifn q143 M
  refine cond_f rfl (bf q143 (by kernel_rfl)) ?_
  refine wp_skip ?_
  refine then_n ?_
  refine wp_seq ?_
  refine wp_seq ?_
  refine wp_region_lit ?_
  refine lv (d := 40) rfl rfl (by kernel_rfl) (e_move (v := .slice A85 t80.length c86) (by kernel_rfl)) ?_
  refine lv (d := 41) rfl rfl (by kernel_rfl) (e_move (v := .slice A7 x6.length c8) (by kernel_rfl)) ?_
  obtain ⟨t144, u145, M⟩ := bnd M
  refine lcall (d := 42) rfl rfl (by kernel_rfl) (e_call (l := [.tmp 41]) (vs := [.slice A7 x6.length c8]) Try.func16 (by kernel_rfl) rfl (by kernel_rfl) rfl) (laws_toCellS.calls k w139 H115 x6 A7 c8 (h9.ext ((((E36.trans E48).trans E79).trans E91).trans E123)) l10 (St.own' (Fa := []) (Fr := [F120, F88, F76, F45, F33]) S141) t144 u145) ?_
  rintro _ w146 ⟨A149, c150, F152, H147, rfl, h151, T148⟩
  refine ⟨_, rfl, ?_⟩
  obtain ⟨S153, K154⟩ := St.call (Fa := []) (Fr := [F120, F88, F76, F45, F33]) S141 T148
  replace h119 := h119.move (K154.at 0 rfl)
  replace h87 := h87.move (K154.at 1 rfl)
  replace h75 := h75.move (K154.at 2 rfl)
  replace h44 := h44.move (K154.at 3 rfl)
  replace h32 := h32.move (K154.at 4 rfl)
  have E155 := T148.ext
  replace h119 := h119.ext E155
  replace h87 := h87.ext E155
  replace h75 := h75.ext E155
  replace h44 := h44.ext E155
  replace h32 := h32.ext E155
  obtain ⟨t156, u157, M⟩ := bnd M
  refine lcall (d := 43) rfl rfl (by kernel_rfl) (e_call (l := [.tmp 40, .tmp 42]) (vs := [.slice A85 t80.length c86, .slice A149 t144.length c150]) Try.func18 (by kernel_rfl) rfl (by kernel_rfl) rfl) (by have l158 := h87.le; have S159 := S153.pull (F := F88) (Fr := [F152, F120, F76, F45, F33]) 2 rfl rfl; obtain ⟨H160, S161, E162, h163, z164⟩ := S159.frzRow h87; replace h151 := h151.ext E162; replace h119 := h119.ext E162; replace h75 := h75.ext E162; replace h44 := h44.ext E162; replace h32 := h32.ext E162; have l165 := h151.le; obtain ⟨H166, S167, E168, h169, z170⟩ := S161.frzRow h151; replace h119 := h119.ext E168; replace h75 := h75.ext E168; replace h44 := h44.ext E168; replace h32 := h32.ext E168; exact (laws_eqCellS.calls k w146 H166 t80 A85 c86 t144 A149 c150 (h163.ext E168) l158 h169 l165 S167.own0 t156 u157)) ?_
  rintro _ w171 ⟨rfl, C172⟩
  refine ⟨_, rfl, ?_⟩
  obtain ⟨S173, K174⟩ := S153.still C172
  replace h151 := h151.move (K174.at 0 rfl)
  replace h119 := h119.move (K174.at 1 rfl)
  replace h87 := h87.move (K174.at 2 rfl)
  replace h75 := h75.move (K174.at 3 rfl)
  replace h44 := h44.move (K174.at 4 rfl)
  replace h32 := h32.move (K174.at 5 rfl)
  refine lv (d := 44) rfl rfl (by kernel_rfl) (e_notv (c := t156) (by kernel_rfl)) ?_
  refine wpList_nil ?_
  refine then_n ?_
  by_cases q175 : ¬ (t156 = true)
  · replace M := ifp q175 M
    refine cond_t rfl (bt q175 (by kernel_rfl)) ?_
    refine wp_seq ?_
    refine wp_region_lit ?_
    refine lv (d := 4) rfl rfl (by kernel_rfl) (e_assign (v := .bool false) rfl) ?_
    refine wpList_nil ?_
    refine then_n ?_
    refine wp_ret ?_
    refine then_r ?_
    obtain rfl := Option.some.inj M
    exact ret1 rfl rfl  (show _ = .bool false from (by kernel_rfl)) ⟨rfl, S173.chg⟩
  replace M := ifn q175 M
  refine cond_f rfl (bf q175 (by kernel_rfl)) ?_
  refine wp_skip ?_
  refine then_n ?_
  refine wp_seq ?_
  refine wp_region_lit ?_
  refine lv (d := 4) rfl rfl (by kernel_rfl) (e_assign (v := .bool true) rfl) ?_
  refine wpList_nil ?_
  refine then_n ?_
  refine wp_ret ?_
  obtain rfl := Option.some.inj M
  exact ret1 rfl rfl  (show _ = .bool true from (by kernel_rfl)) ⟨rfl, S173.chg⟩
end Go.Proofs.Ytognefkopbbdnaa
