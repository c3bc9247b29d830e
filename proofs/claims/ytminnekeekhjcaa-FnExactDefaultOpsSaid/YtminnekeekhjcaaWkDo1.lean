import Derived.Test.YtminnekeekhjcaaProg
import Derived.Test.YtminnekeekhjcaaSo
import Derived.Test.YtminnekeekhjcaaY18
namespace Go.Proofs.Ytminnekeekhjcaa
open Go.Sx Go.Sy
attribute [local irreducible] Go.wpList Go.wpStill Go.wpQuiet Go.Code.wp
set_option maxRecDepth 100000
set_option maxHeartbeats 1000000
set_option linter.unusedVariables false
set_option linter.unusedSimpArgs false

/-! spec_l3words -/
def spec_l3words.l0 : Nat → (List UInt8) → (List (List UInt8)) → (List UInt8) → Int → Option (List (List UInt8))
  | 0, _, _, _, _ => none
  | k20 + 1, x1, x4, x9, x10 => (if x10 ≤ (x1.length : Int) then (if x10 = (x1.length : Int) then (if x9 ≠ ([] : List UInt8) then (if x4.length + 1 ≤ 8796093022208 then (spec_l3words.l0 k20 x1 (x4 ++ [x9]) ([] : List UInt8) (IntKind.i64.wrap (x10 + 1))) else none) else (spec_l3words.l0 k20 x1 x4 ([] : List UInt8) (IntKind.i64.wrap (x10 + 1)))) else (if 0 ≤ x10 then (if x10 < (x1.length : Int) then (if ((x1.getD (x10 : Int).toNat (0 : UInt8)).toNat : Int) = 32 then (if x9 ≠ ([] : List UInt8) then (if x4.length + 1 ≤ 8796093022208 then (spec_l3words.l0 k20 x1 (x4 ++ [x9]) ([] : List UInt8) (IntKind.i64.wrap (x10 + 1))) else none) else (spec_l3words.l0 k20 x1 x4 ([] : List UInt8) (IntKind.i64.wrap (x10 + 1)))) else (if x10 ≤ (IntKind.i64.wrap (x10 + 1)) then (if (IntKind.i64.wrap (x10 + 1)) ≤ (x1.length : Int) then (if x9.length + ((x1.drop (x10 : Int).toNat).take (((IntKind.i64.wrap (x10 + 1)) : Int).toNat - (x10 : Int).toNat)).length ≤ 9223372036854775807 then (spec_l3words.l0 k20 x1 x4 (x9 ++ ((x1.drop (x10 : Int).toNat).take (((IntKind.i64.wrap (x10 + 1)) : Int).toNat - (x10 : Int).toNat))) (IntKind.i64.wrap (x10 + 1))) else none) else none) else none)) else none) else none)) else some x4)
def spec_l3words.f (k : Nat) (x1 : List UInt8) : Option (List (List UInt8)) := (spec_l3words.l0 k x1 [] ([] : List UInt8) 0)
theorem spec_l3words.calls (k : Nat) (w : World) (H : Hp) (x1 : List UInt8) (S : Own [] H w) (r : List (List UInt8)) (M : spec_l3words.f k x1 = some r) :
    Calls Try.prog 29 #[str x1] w (fun e e_w => ∃ (A_1 : Option Addr) (c_1 : Nat) (F_1 : Foot) (H_ : Hp), e = .returned (.slice A_1 r.length c_1) ∧ Row tStr 9 H_ (hp e_w) F_1 A_1 c_1 r ∧ St (anyOf []) H w [F_1] H_ e_w) := by
  rw [spec_l3words.f] at M
  refine enter (l := [str x1]) 36 Try.func29 rfl rfl rfl ?_
  have S0_ := S.st
  refine wp_seq ?_
  refine wp_region_lit ?_
  refine lv (d := 2) rfl rfl (by kernel_rfl) (e_assign (v := .slice none 0 0) rfl) ?_
  refine wpList_nil ?_
  refine then_n ?_
  refine wp_seq ?_
  refine wp_region_lit ?_
  refine lv (d := 3) rfl rfl (by kernel_rfl) (e_assign (v := .slice none 0 0) rfl) ?_
  refine wpList_nil ?_
  refine then_n ?_
  refine wp_seq ?_
  refine wp_region_lit ?_
  refine lv (d := 4) rfl rfl (by kernel_rfl) (e_assign (v := str ([] : List UInt8)) rfl) ?_
  refine wpList_nil ?_
  refine then_n ?_
  refine wp_seq ?_
  refine wp_seq ?_
  refine wp_region_lit ?_
  refine lv (d := 5) rfl rfl (by kernel_rfl) (e_assign (v := .int .i64 0) rfl) ?_
  refine wpList_nil ?_
  refine then_n ?_
  refine wp_block ?_
  have S21 := S0_.unit
  refine wp_loop_g (fun k18 a19 w2 => ∃ (f3 : Nat → Value) (x4 : List (List UInt8)) (A5 : Option Addr) (c6 : Nat) (F7 : Foot) (x9 : List UInt8) (x10 : Int), a19 = mk 36 f3 ∧ f3 0 = str x1 ∧ f3 3 = .slice A5 x4.length c6 ∧ f3 4 = str x9 ∧ f3 5 = .int .i64 x10 ∧ Row tStr 9 H (hp w2) F7 A5 c6 x4 ∧ St (anyOf []) H w [F7] H w2 ∧ spec_l3words.l0 k18 x1 x4 x9 x10 = some r) k ⟨_, [], none, 0, no, ([] : List UInt8), 0, rfl, (by kernel_rfl), (by kernel_rfl), (by kernel_rfl), (by kernel_rfl), (Row.nil _ _ _ _ _), S21, M⟩ ?_
  clear M
  rintro k18 a19 w2 ⟨f3, x4, A5, c6, F7, x9, x10, rfl, e11, e12, e13, e14, h8, S15, M⟩
  rcases k18 with _ | k20
  · rw [spec_l3words.l0] at M
    cases M
  rw [spec_l3words.l0] at M
  refine wp_seq ?_
  refine wp_seq ?_
  refine wp_region_lit ?_
  refine lv (d := 6) rfl rfl (by kernel_rfl) (e_move (v := .int .i64 x10) (by exact e14)) ?_
  refine lv (d := 7) rfl rfl (by kernel_rfl) (e_move (v := str x1) (by exact e11)) ?_
  refine lv (d := 8) rfl rfl (by kernel_rfl) (e_slen (p := x1) Try.underlying9 (by kernel_rfl)) ?_
  refine lv (d := 9) rfl rfl (by kernel_rfl) (e_leq (k := .i64) (a := x10) (b := (x1.length : Int)) (by kernel_rfl) (by kernel_rfl)) ?_
  refine wpList_nil ?_
  refine then_n ?_
  by_cases q22 : x10 ≤ (x1.length : Int)
  · replace M := ifp q22 M
    refine cond_t rfl (bt q22 (by kernel_rfl)) ?_
    refine wp_skip ?_
    refine then_n ?_
    refine wp_seq ?_
    refine wp_block ?_
    refine wp_seq ?_
    refine wp_region_lit ?_
    refine lv (d := 12) rfl rfl (by kernel_rfl) (e_move (v := .int .i64 x10) (by exact e14)) ?_
    refine lv (d := 13) rfl rfl (by kernel_rfl) (e_move (v := str x1) (by exact e11)) ?_
    refine lv (d := 14) rfl rfl (by kernel_rfl) (e_slen (p := x1) Try.underlying9 (by kernel_rfl)) ?_
    refine lv (d := 15) rfl rfl (by kernel_rfl) (e_eql (k := .i64) (a := x10) (b := (x1.length : Int)) (by kernel_rfl) (by kernel_rfl)) ?_
    refine lv (d := 16) rfl rfl (by kernel_rfl) (e_move (v := .bool (decide (x10 = (x1.length : Int)))) (by kernel_rfl)) ?_
    by_cases q23 : x10 = (x1.length : Int)
    · replace M := ifp q23 M
      refine lskip (t := 16) (c := true) rfl (by kernel_rfl) rfl (bt q23 (by kernel_rfl)) rfl rfl ?_
      refine lskip (t := 16) (c := true) rfl (by kernel_rfl) rfl (bt q23 (by kernel_rfl)) rfl rfl ?_
      refine lskip (t := 16) (c := true) rfl (by kernel_rfl) rfl (bt q23 (by kernel_rfl)) rfl rfl ?_
      refine lskip (t := 16) (c := true) rfl (by kernel_rfl) rfl (bt q23 (by kernel_rfl)) rfl rfl ?_
      refine lv (d := 21) rfl rfl (by kernel_rfl) (e_pick_t (v := .bool true) (bt q23 (by kernel_rfl)) rfl) ?_
      refine wpList_nil ?_
      refine then_n ?_
      refine cond_t rfl (by kernel_rfl) ?_
      refine wp_seq ?_
      refine wp_seq ?_
      refine wp_region_lit ?_
      refine lv (d := 22) rfl rfl (by kernel_rfl) (e_move (v := str x9) (by exact e13)) ?_
      refine lv (d := 23) rfl rfl (by kernel_rfl) (e_sneq (p := x9) (q := ([] : List UInt8)) (by kernel_rfl) rfl) ?_
      refine wpList_nil ?_
      refine then_n ?_
      by_cases q24 : x9 ≠ ([] : List UInt8)
      · replace M := ifp q24 M
        refine cond_t rfl (bt q24 (by kernel_rfl)) ?_
        refine wp_region_lit ?_
        refine lv (d := 24) rfl rfl (by kernel_rfl) (e_move (v := .slice A5 x4.length c6) (by exact e12)) ?_
        refine lv (d := 25) rfl rfl (by kernel_rfl) (e_move (v := str x9) (by exact e13)) ?_
        refine lve (d := 26) rfl rfl (by kernel_rfl) (new_blk (v := fun g_ => .slice (some ⟨g_, 0, none⟩) 1 1) (cs := #[str x9]) (t := 9) S15 (by kernel_rfl)) ?_
        rintro _ w25 ⟨g26, rfl, b27, S28, K29⟩
        replace h8 := h8.move (K29.at 0 rfl)
        obtain ⟨q30, M⟩ := chk M
        have S31 := S28.pull (F := F7) (Fr := [(is g26)]) 1 rfl rfl
        have S32 := S31.unit
        have S33 := S32.pull (F := F7) (Fr := [no, (is g26)]) 1 rfl rfl
        refine lve (d := 27) rfl rfl (by kernel_rfl) (e_append (d := tStr) (n := x4.length) (xs := x4) (cap := c6) (A := A5) (ys := [x9]) (A2 := (some ⟨g26, 0, none⟩)) (c2 := 1) (z := str ([] : List UInt8)) (bytes := 16) S33 Try.underlying49 (by kernel_rfl) rfl (by decide) (by kernel_rfl) rfl (by kernel_rfl) h8 (elsO_one1 rfl) (.inr (blk_news b27 rfl)) (show (x4.length + [x9].length) * 16 ≤ _ by first | omega | (simp only [List.length_cons, List.length_nil]; omega)) (by decide)) ?_
        rintro _ w34 ⟨A35, c36, F37, rfl, h38, S39, K40⟩
        replace b27 := K40.blk 0 rfl b27
        refine lv (d := 3) rfl rfl (by kernel_rfl) (e_assign (v := .slice A35 ((x4 ++ [x9]).length) c36) (by kernel_rfl)) ?_
        refine wpList_nil ?_
        refine then_n ?_
        refine wp_region_lit ?_
        refine lv (d := 4) rfl rfl (by kernel_rfl) (e_assign (v := str ([] : List UInt8)) rfl) ?_
        refine wpList_nil ?_
        refine inb_n ?_
        refine then_n ?_
        refine wp_region_lit ?_
        refine lv (d := 10) rfl rfl (by kernel_rfl) (e_move (v := .int .i64 x10) (by exact e14)) ?_
        refine lv (d := 11) rfl rfl (by kernel_rfl) (e_add (k := .i64) (a := x10) (b := 1) (by kernel_rfl) rfl) ?_
        refine lv (d := 5) rfl rfl (by kernel_rfl) (e_assign (v := .int .i64 (IntKind.i64.wrap (x10 + 1))) (by kernel_rfl)) ?_
        refine wpList_nil ?_
        refine then_n ?_
        have S41 := St.first (Fa := [F37]) (Fr := [(is g26)]) S39
        exact ⟨k20, (by omega), _, (x4 ++ [x9]), A35, c36, F37, ([] : List UInt8), (IntKind.i64.wrap (x10 + 1)), rfl, (by exact e11), (by kernel_rfl), (by kernel_rfl), (by kernel_rfl), h38, S41, M⟩
      replace M := ifn q24 M
      refine cond_f rfl (bf q24 (by kernel_rfl)) ?_
      refine wp_skip ?_
      refine then_n ?_
      refine wp_region_lit ?_
      refine lv (d := 4) rfl rfl (by kernel_rfl) (e_assign (v := str ([] : List UInt8)) rfl) ?_
      refine wpList_nil ?_
      refine inb_n ?_
      refine then_n ?_
      refine wp_region_lit ?_
      refine lv (d := 10) rfl rfl (by kernel_rfl) (e_move (v := .int .i64 x10) (by exact e14)) ?_
      refine lv (d := 11) rfl rfl (by kernel_rfl) (e_add (k := .i64) (a := x10) (b := 1) (by kernel_rfl) rfl) ?_
      refine lv (d := 5) rfl rfl (by kernel_rfl) (e_assign (v := .int .i64 (IntKind.i64.wrap (x10 + 1))) (by kernel_rfl)) ?_
      refine wpList_nil ?_
      refine then_n ?_
      exact ⟨k20, (by omega), _, x4, A5, c6, F7, ([] : List UInt8), (IntKind.i64.wrap (x10 + 1)), rfl, (by exact e11), (by exact e12), (by kernel_rfl), (by kernel_rfl), h8, S15, M⟩
    replace M := ifn q23 M
    refine lvg (d := 17) (t := 16) rfl (by kernel_rfl) rfl (bf q23 (by kernel_rfl)) rfl (by kernel_rfl) (e_move (v := str x1) (by exact e11)) ?_
    refine lvg (d := 18) (t := 16) rfl (by kernel_rfl) rfl (bf q23 (by kernel_rfl)) rfl (by kernel_rfl) (e_move (v := .int .i64 x10) (by exact e14)) ?_
    obtain ⟨q42, M⟩ := chk M
    obtain ⟨q43, M⟩ := chk M
    refine lvg (d := 19) (t := 16) rfl (by kernel_rfl) rfl (bf q23 (by kernel_rfl)) rfl (by kernel_rfl) (e_sindex (p := x1) (i := x10) (k := .i64) Try.underlying9 (by kernel_rfl) (by kernel_rfl) q42 q43) ?_
    refine lvg (d := 20) (t := 16) rfl (by kernel_rfl) rfl (bf q23 (by kernel_rfl)) rfl (by kernel_rfl) (e_eql (k := .u8) (a := ((x1.getD (x10 : Int).toNat (0 : UInt8)).toNat : Int)) (b := 32) (by kernel_rfl) rfl) ?_
    refine lv (d := 21) rfl rfl (by kernel_rfl) (e_pick_f (v := .bool (decide (((x1.getD (x10 : Int).toNat (0 : UInt8)).toNat : Int) = 32))) (bf q23 (by kernel_rfl)) (by kernel_rfl)) ?_
    refine wpList_nil ?_
    refine then_n ?_
    by_cases q44 : ((x1.getD (x10 : Int).toNat (0 : UInt8)).toNat : Int) = 32
    · replace M := ifp q44 M
      refine cond_t rfl (bt q44 (by kernel_rfl)) ?_
      refine wp_seq ?_
      refine wp_seq ?_
      refine wp_region_lit ?_
      refine lv (d := 22) rfl rfl (by kernel_rfl) (e_move (v := str x9) (by exact e13)) ?_
      refine lv (d := 23) rfl rfl (by kernel_rfl) (e_sneq (p := x9) (q := ([] : List UInt8)) (by kernel_rfl) rfl) ?_
      refine wpList_nil ?_
      refine then_n ?_
      by_cases q45 : x9 ≠ ([] : List UInt8)
      · replace M := ifp q45 M
        refine cond_t rfl (bt q45 (by kernel_rfl)) ?_
        refine wp_region_lit ?_
        refine lv (d := 24) rfl rfl (by kernel_rfl) (e_move (v := .slice A5 x4.length c6) (by exact e12)) ?_
        refine lv (d := 25) rfl rfl (by kernel_rfl) (e_move (v := str x9) (by exact e13)) ?_
        refine lve (d := 26) rfl rfl (by kernel_rfl) (new_blk (v := fun g_ => .slice (some ⟨g_, 0, none⟩) 1 1) (cs := #[str x9]) (t := 9) S15 (by kernel_rfl)) ?_
        rintro _ w46 ⟨g47, rfl, b48, S49, K50⟩
        replace h8 := h8.move (K50.at 0 rfl)
        obtain ⟨q51, M⟩ := chk M
        have S52 := S49.pull (F := F7) (Fr := [(is g47)]) 1 rfl rfl
        have S53 := S52.unit
        have S54 := S53.pull (F := F7) (Fr := [no, (is g47)]) 1 rfl rfl
        refine lve (d := 27) rfl rfl (by kernel_rfl) (e_append (d := tStr) (n := x4.length) (xs := x4) (cap := c6) (A := A5) (ys := [x9]) (A2 := (some ⟨g47, 0, none⟩)) (c2 := 1) (z := str ([] : List UInt8)) (bytes := 16) S54 Try.underlying49 (by kernel_rfl) rfl (by decide) (by kernel_rfl) rfl (by kernel_rfl) h8 (elsO_one1 rfl) (.inr (blk_news b48 rfl)) (show (x4.length + [x9].length) * 16 ≤ _ by first | omega | (simp only [List.length_cons, List.length_nil]; omega)) (by decide)) ?_
        rintro _ w55 ⟨A56, c57, F58, rfl, h59, S60, K61⟩
        replace b48 := K61.blk 0 rfl b48
        refine lv (d := 3) rfl rfl (by kernel_rfl) (e_assign (v := .slice A56 ((x4 ++ [x9]).length) c57) (by kernel_rfl)) ?_
        refine wpList_nil ?_
        refine then_n ?_
        refine wp_region_lit ?_
        refine lv (d := 4) rfl rfl (by kernel_rfl) (e_assign (v := str ([] : List UInt8)) rfl) ?_
        refine wpList_nil ?_
        refine inb_n ?_
        refine then_n ?_
        refine wp_region_lit ?_
        refine lv (d := 10) rfl rfl (by kernel_rfl) (e_move (v := .int .i64 x10) (by exact e14)) ?_
        refine lv (d := 11) rfl rfl (by kernel_rfl) (e_add (k := .i64) (a := x10) (b := 1) (by kernel_rfl) rfl) ?_
        refine lv (d := 5) rfl rfl (by kernel_rfl) (e_assign (v := .int .i64 (IntKind.i64.wrap (x10 + 1))) (by kernel_rfl)) ?_
        refine wpList_nil ?_
        refine then_n ?_
        have S62 := St.first (Fa := [F58]) (Fr := [(is g47)]) S60
        exact ⟨k20, (by omega), _, (x4 ++ [x9]), A56, c57, F58, ([] : List UInt8), (IntKind.i64.wrap (x10 + 1)), rfl, (by exact e11), (by kernel_rfl), (by kernel_rfl), (by kernel_rfl), h59, S62, M⟩
      replace M := ifn q45 M
      refine cond_f rfl (bf q45 (by kernel_rfl)) ?_
      refine wp_skip ?_
      refine then_n ?_
      refine wp_region_lit ?_
      refine lv (d := 4) rfl rfl (by kernel_rfl) (e_assign (v := str ([] : List UInt8)) rfl) ?_
      refine wpList_nil ?_
      refine inb_n ?_
      refine then_n ?_
      refine wp_region_lit ?_
      refine lv (d := 10) rfl rfl (by kernel_rfl) (e_move (v := .int .i64 x10) (by exact e14)) ?_
      refine lv (d := 11) rfl rfl (by kernel_rfl) (e_add (k := .i64) (a := x10) (b := 1) (by kernel_rfl) rfl) ?_
      refine lv (d := 5) rfl rfl (by kernel_rfl) (e_assign (v := .int .i64 (IntKind.i64.wrap (x10 + 1))) (by kernel_rfl)) ?_
      refine wpList_nil ?_
      refine then_n ?_
      exact ⟨k20, (by omega), _, x4, A5, c6, F7, ([] : List UInt8), (IntKind.i64.wrap (x10 + 1)), rfl, (by exact e11), (by exact e12), (by kernel_rfl), (by kernel_rfl), h8, S15, M⟩
    replace M := ifn q44 M
    refine cond_f rfl (bf q44 (by kernel_rfl)) ?_
    refine wp_region_lit ?_
    refine lv (d := 28) rfl rfl (by kernel_rfl) (e_move (v := str x9) (by exact e13)) ?_
    refine lv (d := 29) rfl rfl (by kernel_rfl) (e_move (v := str x1) (by exact e11)) ?_
    refine lv (d := 30) rfl rfl (by kernel_rfl) (e_move (v := .int .i64 x10) (by exact e14)) ?_
    refine lv (d := 31) rfl rfl (by kernel_rfl) (e_move (v := .int .i64 x10) (by exact e14)) ?_
    refine lv (d := 32) rfl rfl (by kernel_rfl) (e_add (k := .i64) (a := x10) (b := 1) (by kernel_rfl) rfl) ?_
    obtain ⟨q63, M⟩ := chk M
    obtain ⟨q64, M⟩ := chk M
    refine lv (d := 33) rfl rfl (by kernel_rfl) (e_sslice_lh (p := x1) (a := x10) (b := (IntKind.i64.wrap (x10 + 1))) (k := .i64) (k2 := .i64) Try.underlying9 (by kernel_rfl) (by kernel_rfl) (by kernel_rfl) q42 q63 q64) ?_
    obtain ⟨q65, M⟩ := chk M
    refine lv (d := 34) rfl rfl (by kernel_rfl) (e_sadd (p := x9) (q := ((x1.drop (x10 : Int).toNat).take (((IntKind.i64.wrap (x10 + 1)) : Int).toNat - (x10 : Int).toNat))) (by kernel_rfl) (by kernel_rfl) q65) ?_
    refine lv (d := 4) rfl rfl (by kernel_rfl) (e_assign (v := str (x9 ++ ((x1.drop (x10 : Int).toNat).take (((IntKind.i64.wrap (x10 + 1)) : Int).toNat - (x10 : Int).toNat)))) (by kernel_rfl)) ?_
    refine wpList_nil ?_
    refine inb_n ?_
    refine then_n ?_
    refine wp_region_lit ?_
    refine lv (d := 10) rfl rfl (by kernel_rfl) (e_move (v := .int .i64 x10) (by exact e14)) ?_
    refine lv (d := 11) rfl rfl (by kernel_rfl) (e_add (k := .i64) (a := x10) (b := 1) (by kernel_rfl) rfl) ?_
    refine lv (d := 5) rfl rfl (by kernel_rfl) (e_assign (v := .int .i64 (IntKind.i64.wrap (x10 + 1))) (by kernel_rfl)) ?_
    refine wpList_nil ?_
    refine then_n ?_
    exact ⟨k20, (by omega), _, x4, A5, c6, F7, (x9 ++ ((x1.drop (x10 : Int).toNat).take (((IntKind.i64.wrap (x10 + 1)) : Int).toNat - (x10 : Int).toNat))), (IntKind.i64.wrap (x10 + 1)), rfl, (by exact e11), (by exact e12), (by kernel_rfl), (by kernel_rfl), h8, S15, M⟩
  replace M := ifn q22 M
  refine cond_f rfl (bf q22 (by kernel_rfl)) ?_
  refine wp_exit ?_
  refine then_e ?_
  refine then_e ?_
  refine inb_hit ?_
  refine then_n ?_
  refine wp_seq ?_
  refine wp_region_lit ?_
  refine lv (d := 35) rfl rfl (by kernel_rfl) (e_move (v := .slice A5 x4.length c6) (by exact e12)) ?_
  refine lv (d := 2) rfl rfl (by kernel_rfl) (e_assign (v := .slice A5 x4.length c6) (by kernel_rfl)) ?_
  refine wpList_nil ?_
  refine then_n ?_
  refine wp_ret ?_
  obtain rfl := Option.some.inj M
  exact ret1 rfl rfl  (show _ = .slice A5 x4.length c6 from (by kernel_rfl)) ⟨A5, c6, F7, H, rfl, h8, S15⟩

/-! spec_l3prefix -/
def spec_l3prefix.f (x1 : Int) : Option Bool := (if x1 = 3 then some true else some (decide (x1 = 4)))
theorem spec_l3prefix.calls (w : World) (H : Hp) (x1 : Int) (S : Own [] H w) (r : Bool) (M : spec_l3prefix.f x1 = some r) :
    Calls Try.prog 25 #[.int .i64 x1] w (fun e e_w => e = .returned (.bool r) ∧ Chg no w e_w) := by
  rw [spec_l3prefix.f] at M
  refine enter (l := [.int .i64 x1]) 9 Try.func25 rfl rfl rfl ?_
  have S0_ := S.st
  refine wp_seq ?_
  refine wp_region_lit ?_
  refine lv (d := 2) rfl rfl (by kernel_rfl) (e_assign (v := .bool false) rfl) ?_
  refine wpList_nil ?_
  refine then_n ?_
  refine wp_seq ?_
  refine wp_region_lit ?_
  refine lv (d := 3) rfl rfl (by kernel_rfl) (e_move (v := .int .i64 x1) (by kernel_rfl)) ?_
  refine lv (d := 4) rfl rfl (by kernel_rfl) (e_eql (k := .i64) (a := x1) (b := 3) (by kernel_rfl) rfl) ?_
  refine lv (d := 5) rfl rfl (by kernel_rfl) (e_move (v := .bool (decide (x1 = 3))) (by kernel_rfl)) ?_
  by_cases q2 : x1 = 3
  · replace M := ifp q2 M
    refine lskip (t := 5) (c := true) rfl (by kernel_rfl) rfl (bt q2 (by kernel_rfl)) rfl rfl ?_
    refine lskip (t := 5) (c := true) rfl (by kernel_rfl) rfl (bt q2 (by kernel_rfl)) rfl rfl ?_
    refine lv (d := 8) rfl rfl (by kernel_rfl) (e_pick_t (v := .bool true) (bt q2 (by kernel_rfl)) rfl) ?_
    refine lv (d := 2) rfl rfl (by kernel_rfl) (e_assign (v := .bool true) (by kernel_rfl)) ?_
    refine wpList_nil ?_
    refine then_n ?_
    refine wp_ret ?_
    obtain rfl := Option.some.inj M
    exact ret1 rfl rfl  (show _ = .bool true from (by kernel_rfl)) ⟨rfl, S0_.chg⟩
  replace M := ifn q2 M
  refine lvg (d := 6) (t := 5) rfl (by kernel_rfl) rfl (bf q2 (by kernel_rfl)) rfl (by kernel_rfl) (e_move (v := .int .i64 x1) (by kernel_rfl)) ?_
  refine lvg (d := 7) (t := 5) rfl (by kernel_rfl) rfl (bf q2 (by kernel_rfl)) rfl (by kernel_rfl) (e_eql (k := .i64) (a := x1) (b := 4) (by kernel_rfl) rfl) ?_
  refine lv (d := 8) rfl rfl (by kernel_rfl) (e_pick_f (v := .bool (decide (x1 = 4))) (bf q2 (by kernel_rfl)) (by kernel_rfl)) ?_
  refine lv (d := 2) rfl rfl (by kernel_rfl) (e_assign (v := .bool (decide (x1 = 4))) (by kernel_rfl)) ?_
  refine wpList_nil ?_
  refine then_n ?_
  refine wp_ret ?_
  obtain rfl := Option.some.inj M
  exact ret1 rfl rfl  (show _ = .bool (decide (x1 = 4)) from (by kernel_rfl)) ⟨rfl, S0_.chg⟩

/-! spec_l3put -/
mutual
def spec_l3put.l0 : Nat → (List Sy.Op) → Sy.Op → (List Sy.Op) → Bool → Int → Option (List Sy.Op)
  | 0, _, _, _, _, _ => none
  | k35 + 1, x1, x6, x18, x23, x24 => (if x24 < (x1.length : Int) then (if 0 ≤ x24 then (if (x1.getD ((x24).toNat) z45).name = x6.name then ((spec_l3prefix.f ((x1.getD ((x24).toNat) z45).typ)).bind fun t60 => ((spec_l3prefix.f x6.typ).bind fun t62 => (if t60 = t62 then (spec_l3put.l0 k35 x1 x6 x18 x23 (IntKind.i64.wrap (x24 + 1))) else (if ¬ (x23 = true) then (if (!(Op.bytesLess ((x1.getD ((x24).toNat) z45).name) x6.name || ((x1.getD ((x24).toNat) z45).name) == x6.name)) = true then (if x18.length + 1 ≤ 3518437208883 then (spec_l3put.l1 k35 x1 x6 x24 (x18 ++ [x6]) true) else none) else ((spec_l3prefix.f x6.typ).bind fun t113 => (if t113 = true then (if x18.length + 1 ≤ 3518437208883 then (spec_l3put.l1 k35 x1 x6 x24 (x18 ++ [x6]) true) else none) else (spec_l3put.l1 k35 x1 x6 x24 x18 x23)))) else (spec_l3put.l1 k35 x1 x6 x24 x18 x23))))) else (if ¬ (x23 = true) then (if (!(Op.bytesLess ((x1.getD ((x24).toNat) z45).name) x6.name || ((x1.getD ((x24).toNat) z45).name) == x6.name)) = true then (if x18.length + 1 ≤ 3518437208883 then (spec_l3put.l2 k35 x1 x6 x24 (x18 ++ [x6]) true) else none) else (spec_l3put.l2 k35 x1 x6 x24 x18 x23)) else (spec_l3put.l2 k35 x1 x6 x24 x18 x23))) else none) else (if ¬ (x23 = true) then (if x18.length + 1 ≤ 3518437208883 then some (x18 ++ [x6]) else none) else some x18))
def spec_l3put.l1 : Nat → (List Sy.Op) → Sy.Op → Int → (List Sy.Op) → Bool → Option (List Sy.Op)
  | 0, _, _, _, _, _ => none
  | k90 + 1, x1, x6, x24, x74, x79 => (if x74.length + 1 ≤ 3518437208883 then (spec_l3put.l0 k90 x1 x6 (x74 ++ [(x1.getD ((x24).toNat) z45)]) x79 (IntKind.i64.wrap (x24 + 1))) else none)
def spec_l3put.l2 : Nat → (List Sy.Op) → Sy.Op → Int → (List Sy.Op) → Bool → Option (List Sy.Op)
  | 0, _, _, _, _, _ => none
  | k180 + 1, x1, x6, x24, x164, x169 => (if x164.length + 1 ≤ 3518437208883 then (spec_l3put.l0 k180 x1 x6 (x164 ++ [(x1.getD ((x24).toNat) z45)]) x169 (IntKind.i64.wrap (x24 + 1))) else none)
end
def spec_l3put.f (k : Nat) (x1 : List Sy.Op) (x6 : Sy.Op) : Option (List Sy.Op) := (spec_l3put.l0 k x1 x6 [] (decide (x6.pri = 0)) 0)
theorem spec_l3put.calls (k : Nat) (w : World) (H : Hp) (x1 : List Sy.Op) (A2 : Option Addr) (c3 : Nat) (x6 : Sy.Op) (A7 : Option Addr) (c8 : Nat) (h4 : Rd st45 H A2 x1) (l5 : x1.length ≤ c3) (h9 : Rd tByte H A7 x6.name) (l10 : x6.name.length ≤ c8) (S : Own [] H w) (r : List Sy.Op) (M : spec_l3put.f k x1 x6 = some r) :
    Calls Try.prog 30 #[.slice A2 x1.length c3, .agg #[.slice A7 x6.name.length c8, .int .i64 x6.pri, .int .i64 x6.typ]] w (fun e e_w => ∃ (A_1 : Option Addr) (c_1 : Nat) (F_1 : Foot) (H_ : Hp), e = .returned (.slice A_1 r.length c_1) ∧ Row (ro st45) 45 H_ (hp e_w) F_1 A_1 c_1 r ∧ St (anyOf []) H w [F_1] H_ e_w) := by
  rw [spec_l3put.f] at M
  refine enter (l := [.slice A2 x1.length c3, .agg #[.slice A7 x6.name.length c8, .int .i64 x6.pri, .int .i64 x6.typ]]) 74 Try.func30 rfl rfl rfl ?_
  have S0_ := S.st
  refine wp_seq ?_
  refine wp_region_lit ?_
  refine lve (d := 3) rfl rfl (by kernel_rfl) (new_blk (v := fun g_ => .pointer (some ⟨g_, 0, none⟩)) (cs := #[.slice A7 x6.name.length c8, .int .i64 x6.pri, .int .i64 x6.typ]) (t := 45) S0_ (by kernel_rfl)) ?_
  rintro _ w11 ⟨g12, rfl, b13, S14, K15⟩
  refine lv (d := 4) rfl rfl (by kernel_rfl) (e_assign (v := .slice none 0 0) rfl) ?_
  refine wpList_nil ?_
  refine then_n ?_
  refine wp_seq ?_
  refine wp_region_lit ?_
  refine lv (d := 5) rfl rfl (by kernel_rfl) (e_assign (v := .slice none 0 0) rfl) ?_
  refine wpList_nil ?_
  refine then_n ?_
  refine wp_seq ?_
  refine wp_region_lit ?_
  refine lv (d := 10) rfl rfl (by kernel_rfl) (e_fieldAddr (b := g12) (off := 0) (o := 1) Try.underlying45 rfl rfl (sz := 1) (by kernel_rfl) (by decide) (by kernel_rfl)) ?_
  refine lv (d := 11) rfl rfl (by kernel_rfl) (e_load1 (ad := ⟨g12, 0 + 1, none⟩) (v := .int .i64 x6.pri) Try.underlying3 rfl (by kernel_rfl) (blk_cell b13 rfl)) ?_
  refine lv (d := 12) rfl rfl (by kernel_rfl) (e_eql (k := .i64) (a := x6.pri) (b := 0) (by kernel_rfl) rfl) ?_
  refine lv (d := 6) rfl rfl (by kernel_rfl) (e_assign (v := .bool (decide (x6.pri = 0))) (by kernel_rfl)) ?_
  refine wpList_nil ?_
  refine then_n ?_
  refine wp_seq ?_
  refine wp_seq ?_
  refine wp_region_lit ?_
  refine lv (d := 7) rfl rfl (by kernel_rfl) (e_assign (v := .int .i64 0) rfl) ?_
  refine wpList_nil ?_
  refine then_n ?_
  refine wp_block ?_
  have S36 := S14.unit
  have S37 := S36.pull (F := (is g12)) (Fr := [no]) 1 rfl rfl
  refine wp_loop_g (fun k33 a34 w16 => ∃ (f17 : Nat → Value) (x18 : List Sy.Op) (A19 : Option Addr) (c20 : Nat) (F21 : Foot) (x23 : Bool) (x24 : Int), a34 = mk 74 f17 ∧ f17 0 = .slice A2 x1.length c3 ∧ f17 3 = .pointer (some ⟨g12, 0, none⟩) ∧ f17 5 = .slice A19 x18.length c20 ∧ f17 6 = .bool x23 ∧ f17 7 = .int .i64 x24 ∧ w16.heap[g12]? = some (.cells #[.slice A7 x6.name.length c8, .int .i64 x6.pri, .int .i64 x6.typ] 45 (0, 0)) ∧ Row (ro st45) 45 H (hp w16) F21 A19 c20 x18 ∧ St (anyOf []) H w [(is g12), F21] H w16 ∧ spec_l3put.l0 k33 x1 x6 x18 x23 x24 = some r) k ⟨_, [], none, 0, no, (decide (x6.pri = 0)), 0, rfl, (by kernel_rfl), (by kernel_rfl), (by kernel_rfl), (by kernel_rfl), (by kernel_rfl), b13, (Row.nil _ _ _ _ _), S37, M⟩ ?_
  clear M
  rintro k33 a34 w16 ⟨f17, x18, A19, c20, F21, x23, x24, rfl, e25, e26, e27, e28, e29, b13, h22, S30, M⟩
  rcases k33 with _ | k35
  · rw [spec_l3put.l0] at M
    cases M
  rw [spec_l3put.l0] at M
  refine wp_seq ?_
  refine wp_seq ?_
  refine wp_region_lit ?_
  refine lv (d := 13) rfl rfl (by kernel_rfl) (e_move (v := .int .i64 x24) (by exact e29)) ?_
  refine lv (d := 14) rfl rfl (by kernel_rfl) (e_move (v := .slice A2 x1.length c3) (by exact e25)) ?_
  refine lv (d := 15) rfl rfl (by kernel_rfl) (e_len (A := A2) (n := x1.length) (c := c3) Try.underlying25 (by kernel_rfl)) ?_
  refine lv (d := 16) rfl rfl (by kernel_rfl) (e_lss (k := .i64) (a := x24) (b := (x1.length : Int)) (by kernel_rfl) (by kernel_rfl)) ?_
  refine wpList_nil ?_
  refine then_n ?_
  by_cases q38 : x24 < (x1.length : Int)
  · replace M := ifp q38 M
    refine cond_t rfl (bt q38 (by kernel_rfl)) ?_
    refine wp_skip ?_
    refine then_n ?_
    refine wp_seq ?_
    refine wp_block ?_
    refine wp_seq ?_
    refine wp_region_lit ?_
    refine lv (d := 19) rfl rfl (by kernel_rfl) (e_move (v := .slice A2 x1.length c3) (by exact e25)) ?_
    refine lv (d := 20) rfl rfl (by kernel_rfl) (e_move (v := .int .i64 x24) (by exact e29)) ?_
    obtain ⟨q39, M⟩ := chk M
    obtain ⟨b40, o41, e42⟩ := Rd.addr h4 (show (x24).toNat < x1.length by omega)
    obtain ⟨y43, r44, k45⟩ := Rd.at h4 e42 (getD_some z45 (show (x24).toNat < x1.length by omega))
    obtain ⟨A46, c47, rfl, l48, h49⟩ := st45_open r44
    refine lv (d := 21) rfl rfl (by kernel_rfl) (e_indexAddr (b := b40) (off := o41) (n := x1.length) (c := c3) (sz := 3) (i := x24) (k := .i64) Try.underlying25 e42 (by kernel_rfl) (by kernel_rfl) (by kernel_rfl) q39 q38) ?_
    refine lv (d := 22) rfl rfl (by kernel_rfl) (e_loadS (b := b40) (off := o41 + (x24 : Int).toNat * 3) (cs := [.slice A46 ((x1.getD ((x24).toNat) z45).name).length c47, .int .i64 ((x1.getD ((x24).toNat) z45).pri), .int .i64 ((x1.getD ((x24).toNat) z45).typ)]) Try.underlying45 rfl (by kernel_rfl) (by kernel_rfl) (fun j_ u_ e_ => (hpx (S30.inv.cell (k45 j_ u_ e_))))) ?_
    refine lve (d := 8) rfl rfl (by kernel_rfl) (new_blk (v := fun g_ => .pointer (some ⟨g_, 0, none⟩)) (cs := #[.slice none 0 0, .int .i64 0, .int .i64 0]) (t := 45) S30 (by kernel_rfl)) ?_
    rintro _ w50 ⟨g51, rfl, b52, S53, K54⟩
    replace b13 := K54.blk 0 rfl b13
    replace h22 := h22.move (K54.at 1 rfl)
    refine lse rfl rfl (by kernel_rfl) (e_store (g := g51) (o := 0) (v := .agg #[.slice A46 ((x1.getD ((x24).toNat) z45).name).length c47, .int .i64 ((x1.getD ((x24).toNat) z45).pri), .int .i64 ((x1.getD ((x24).toNat) z45).typ)]) (cur' := #[.slice A46 ((x1.getD ((x24).toNat) z45).name).length c47, .int .i64 ((x1.getD ((x24).toNat) z45).pri), .int .i64 ((x1.getD ((x24).toNat) z45).typ)]) (vs := [.slice A46 ((x1.getD ((x24).toNat) z45).name).length c47, .int .i64 ((x1.getD ((x24).toNat) z45).pri), .int .i64 ((x1.getD ((x24).toNat) z45).typ)]) S53 (by kernel_rfl) (by kernel_rfl) rfl (by kernel_rfl) b52 (Nat.le_of_ble_eq_true rfl) (List.forall_mem_cons.2 ⟨rfl, (List.forall_mem_cons.2 ⟨rfl, (List.forall_mem_cons.2 ⟨rfl, (fun _ h_ => by cases h_)⟩)⟩)⟩) rfl) ?_
    rintro w55 ⟨b56, S57, K58⟩
    replace b13 := K58.blk 0 rfl b13
    replace h22 := h22.move (K58.at 1 rfl)
    clear b52
    refine wpList_nil ?_
    refine then_n ?_
    refine wp_seq ?_
    refine wp_region_lit ?_
    refine lv (d := 23) rfl rfl (by kernel_rfl) (e_fieldAddr (b := g51) (off := 0) (o := 0) Try.underlying45 rfl rfl (sz := 1) (by kernel_rfl) (by decide) (by kernel_rfl)) ?_
    refine lv (d := 24) rfl rfl (by kernel_rfl) (e_load1 (ad := ⟨g51, 0 + 0, none⟩) (v := .slice A46 ((x1.getD ((x24).toNat) z45).name).length c47) Try.underlying32 rfl (by kernel_rfl) (blk_cell b56 rfl)) ?_
    refine lv (d := 25) rfl rfl (by kernel_rfl) (e_conv_bs (A := A46) (n := ((x1.getD ((x24).toNat) z45).name).length) (c := c47) (xs := (x1.getD ((x24).toNat) z45).name) Try.underlying32 Try.underlying5 Try.underlying9 (by kernel_rfl) rfl (Rd.bytesE S57.inv h49)) ?_
    refine lv (d := 26) rfl rfl (by kernel_rfl) (e_fieldAddr (b := g12) (off := 0) (o := 0) Try.underlying45 rfl rfl (sz := 1) (by kernel_rfl) (by decide) (by exact e26)) ?_
    refine lv (d := 27) rfl rfl (by kernel_rfl) (e_load1 (ad := ⟨g12, 0 + 0, none⟩) (v := .slice A7 x6.name.length c8) Try.underlying32 rfl (by kernel_rfl) (blk_cell b13 rfl)) ?_
    refine lv (d := 28) rfl rfl (by kernel_rfl) (e_conv_bs (A := A7) (n := x6.name.length) (c := c8) (xs := x6.name) Try.underlying32 Try.underlying5 Try.underlying9 (by kernel_rfl) rfl (Rd.bytesE S57.inv h9)) ?_
    refine lv (d := 29) rfl rfl (by kernel_rfl) (e_seql (p := (x1.getD ((x24).toNat) z45).name) (q := x6.name) (by kernel_rfl) (by kernel_rfl)) ?_
    refine lv (d := 9) rfl rfl (by kernel_rfl) (e_assign (v := .bool (decide ((x1.getD ((x24).toNat) z45).name = x6.name))) (by kernel_rfl)) ?_
    refine wpList_nil ?_
    refine then_n ?_
    refine wp_seq ?_
    refine wp_seq ?_
    refine region_quiet (by kernel_rfl) (by kernel_rfl) ?_
    refine qv (d := 30) rfl rfl (by kernel_rfl) (fun wq_ hq_ => e_move (v := .bool (decide ((x1.getD ((x24).toNat) z45).name = x6.name))) (by kernel_rfl)) ?_
    refine qv (d := 31) rfl rfl (by kernel_rfl) (fun wq_ hq_ => e_move (v := .bool (decide ((x1.getD ((x24).toNat) z45).name = x6.name))) (by kernel_rfl)) ?_
    by_cases q59 : (x1.getD ((x24).toNat) z45).name = x6.name
    · replace M := ifp q59 M
      refine qvg (d := 32) (t := 31) rfl (by kernel_rfl) rfl (bt q59 (by kernel_rfl)) rfl (by kernel_rfl) (fun wq_ hq_ => e_fieldAddr (b := g51) (off := 0) (o := 2) Try.underlying45 rfl rfl (sz := 1) (by kernel_rfl) (by decide) (by kernel_rfl)) ?_
      refine qvg (d := 33) (t := 31) rfl (by kernel_rfl) rfl (bt q59 (by kernel_rfl)) rfl (by kernel_rfl) (fun wq_ hq_ => e_load1 (ad := ⟨g51, 0 + 2, none⟩) (v := .int .i64 ((x1.getD ((x24).toNat) z45).typ)) Try.underlying3 rfl (by kernel_rfl) (blk_cell ((S57.still hq_).2.blk 0 rfl b56) rfl)) ?_
      obtain ⟨t60, u61, M⟩ := bnd M
      refine qcallg (v := .bool t60) (d := 34) (t := 31) rfl (by kernel_rfl) rfl (bt q59 (by kernel_rfl)) rfl (by kernel_rfl) (fun w_ => e_call (l := [.tmp 33]) (vs := [.int .i64 ((x1.getD ((x24).toNat) z45).typ)]) Try.func25 (by kernel_rfl) rfl (by kernel_rfl) rfl) (fun wq_ hq_ => (by obtain ⟨S_, K_⟩ := S57.still hq_; replace b56 := K_.blk 0 rfl b56; replace b13 := K_.blk 1 rfl b13; replace h22 := h22.move (K_.at 2 rfl); exact (spec_l3prefix.calls wq_ H ((x1.getD ((x24).toNat) z45).typ)  S_.own0 t60 u61))) ?_
      refine qvg (d := 35) (t := 31) rfl (by kernel_rfl) rfl (bt q59 (by kernel_rfl)) rfl (by kernel_rfl) (fun wq_ hq_ => e_fieldAddr (b := g12) (off := 0) (o := 2) Try.underlying45 rfl rfl (sz := 1) (by kernel_rfl) (by decide) (by exact e26)) ?_
      refine qvg (d := 36) (t := 31) rfl (by kernel_rfl) rfl (bt q59 (by kernel_rfl)) rfl (by kernel_rfl) (fun wq_ hq_ => e_load1 (ad := ⟨g12, 0 + 2, none⟩) (v := .int .i64 x6.typ) Try.underlying3 rfl (by kernel_rfl) (blk_cell ((S57.still hq_).2.blk 1 rfl b13) rfl)) ?_
      obtain ⟨t62, u63, M⟩ := bnd M
      refine qcallg (v := .bool t62) (d := 37) (t := 31) rfl (by kernel_rfl) rfl (bt q59 (by kernel_rfl)) rfl (by kernel_rfl) (fun w_ => e_call (l := [.tmp 36]) (vs := [.int .i64 x6.typ]) Try.func25 (by kernel_rfl) rfl (by kernel_rfl) rfl) (fun wq_ hq_ => (by obtain ⟨S_, K_⟩ := S57.still hq_; replace b56 := K_.blk 0 rfl b56; replace b13 := K_.blk 1 rfl b13; replace h22 := h22.move (K_.at 2 rfl); exact (spec_l3prefix.calls wq_ H x6.typ  S_.own0 t62 u63))) ?_
      refine qvg (d := 38) (t := 31) rfl (by kernel_rfl) rfl (bt q59 (by kernel_rfl)) rfl (by kernel_rfl) (fun wq_ hq_ => e_beql (p := t60) (q := t62) Try.underlying4 (by kernel_rfl) (by kernel_rfl)) ?_
      refine qv (d := 39) rfl rfl (by kernel_rfl) (fun wq_ hq_ => e_pick_t (v := .bool (decide (t60 = t62))) (bt q59 (by kernel_rfl)) (by kernel_rfl)) ?_
      refine wpQuiet_nil ?_
      intro w64 C67
      obtain ⟨S65, K66⟩ := S57.still C67
      replace b56 := K66.blk 0 rfl b56
      replace b13 := K66.blk 1 rfl b13
      replace h22 := h22.move (K66.at 2 rfl)
      refine then_n ?_
      by_cases q68 : t60 = t62
      · replace M := ifp q68 M
        refine cond_t rfl (bt q68 (by kernel_rfl)) ?_
        refine wp_exit ?_
        refine then_e ?_
        refine inb_hit ?_
        refine then_n ?_
        refine wp_region_lit ?_
        refine lv (d := 17) rfl rfl (by kernel_rfl) (e_move (v := .int .i64 x24) (by exact e29)) ?_
        refine lv (d := 18) rfl rfl (by kernel_rfl) (e_add (k := .i64) (a := x24) (b := 1) (by kernel_rfl) rfl) ?_
        refine lv (d := 7) rfl rfl (by kernel_rfl) (e_assign (v := .int .i64 (IntKind.i64.wrap (x24 + 1))) (by kernel_rfl)) ?_
        refine wpList_nil ?_
        refine then_n ?_
        have S69 := S65.pull (F := F21) (Fr := [(is g51), (is g12)]) 2 rfl rfl
        have S70 := S69.pull (F := (is g12)) (Fr := [F21, (is g51)]) 2 rfl rfl
        have S71 := St.first (Fa := [(is g12), F21]) (Fr := [(is g51)]) S70
        exact ⟨k35, (by omega), _, x18, A19, c20, F21, x23, (IntKind.i64.wrap (x24 + 1)), rfl, (by exact e25), (by exact e26), (by exact e27), (by exact e28), (by kernel_rfl), b13, h22, S71, M⟩
      replace M := ifn q68 M
      refine cond_f rfl (bf q68 (by kernel_rfl)) ?_
      refine wp_skip ?_
      refine then_n ?_
      refine wp_seq_cut (fun a89 w72 => ∃ (k91 : Nat), k91 ≤ k35 ∧ ∃ (f73 : Nat → Value) (x74 : List Sy.Op) (A75 : Option Addr) (c76 : Nat) (F77 : Foot) (x79 : Bool), a89 = mk 74 f73 ∧ f73 0 = .slice A2 x1.length c3 ∧ f73 3 = .pointer (some ⟨g12, 0, none⟩) ∧ f73 5 = .slice A75 x74.length c76 ∧ f73 6 = .bool x79 ∧ f73 7 = .int .i64 x24 ∧ f73 8 = .pointer (some ⟨g51, 0, none⟩) ∧ w72.heap[g51]? = some (.cells #[.slice A46 ((x1.getD ((x24).toNat) z45).name).length c47, .int .i64 ((x1.getD ((x24).toNat) z45).pri), .int .i64 ((x1.getD ((x24).toNat) z45).typ)] 45 (0, 0)) ∧ w72.heap[g12]? = some (.cells #[.slice A7 x6.name.length c8, .int .i64 x6.pri, .int .i64 x6.typ] 45 (0, 0)) ∧ Row (ro st45) 45 H (hp w72) F77 A75 c76 x74 ∧ St (anyOf []) H w [(is g51), (is g12), F77] H w72 ∧ spec_l3put.l1 k91 x1 x6 x24 x74 x79 = some r) ?_ ?_
      · refine wp_seq ?_
        refine wp_region_lit ?_
        refine lv (d := 40) rfl rfl (by kernel_rfl) (e_move (v := .bool x23) (by exact e28)) ?_
        refine lv (d := 41) rfl rfl (by kernel_rfl) (e_notv (c := x23) (by kernel_rfl)) ?_
        refine lv (d := 42) rfl rfl (by kernel_rfl) (e_move (v := .bool (decide (¬ (x23 = true)))) (by kernel_rfl)) ?_
        by_cases q92 : ¬ (x23 = true)
        · replace M := ifp q92 M
          refine lvg (d := 43) (t := 42) rfl (by kernel_rfl) rfl (bt q92 (by kernel_rfl)) rfl (by kernel_rfl) (e_fieldAddr (b := g51) (off := 0) (o := 0) Try.underlying45 rfl rfl (sz := 1) (by kernel_rfl) (by decide) (by kernel_rfl)) ?_
          refine lvg (d := 44) (t := 42) rfl (by kernel_rfl) rfl (bt q92 (by kernel_rfl)) rfl (by kernel_rfl) (e_load1 (ad := ⟨g51, 0 + 0, none⟩) (v := .slice A46 ((x1.getD ((x24).toNat) z45).name).length c47) Try.underlying32 rfl (by kernel_rfl) (blk_cell b56 rfl)) ?_
          refine lvg (d := 45) (t := 42) rfl (by kernel_rfl) rfl (bt q92 (by kernel_rfl)) rfl (by kernel_rfl) (e_conv_bs (A := A46) (n := ((x1.getD ((x24).toNat) z45).name).length) (c := c47) (xs := (x1.getD ((x24).toNat) z45).name) Try.underlying32 Try.underlying5 Try.underlying9 (by kernel_rfl) rfl (Rd.bytesE S65.inv h49)) ?_
          refine lvg (d := 46) (t := 42) rfl (by kernel_rfl) rfl (bt q92 (by kernel_rfl)) rfl (by kernel_rfl) (e_fieldAddr (b := g12) (off := 0) (o := 0) Try.underlying45 rfl rfl (sz := 1) (by kernel_rfl) (by decide) (by exact e26)) ?_
          refine lvg (d := 47) (t := 42) rfl (by kernel_rfl) rfl (bt q92 (by kernel_rfl)) rfl (by kernel_rfl) (e_load1 (ad := ⟨g12, 0 + 0, none⟩) (v := .slice A7 x6.name.length c8) Try.underlying32 rfl (by kernel_rfl) (blk_cell b13 rfl)) ?_
          refine lvg (d := 48) (t := 42) rfl (by kernel_rfl) rfl (bt q92 (by kernel_rfl)) rfl (by kernel_rfl) (e_conv_bs (A := A7) (n := x6.name.length) (c := c8) (xs := x6.name) Try.underlying32 Try.underlying5 Try.underlying9 (by kernel_rfl) rfl (Rd.bytesE S65.inv h9)) ?_
          refine lvg (d := 49) (t := 42) rfl (by kernel_rfl) rfl (bt q92 (by kernel_rfl)) rfl (by kernel_rfl) (e_sgtr (p := (x1.getD ((x24).toNat) z45).name) (q := x6.name) (by kernel_rfl) (by kernel_rfl)) ?_
          refine lvg (d := 50) (t := 42) rfl (by kernel_rfl) rfl (bt q92 (by kernel_rfl)) rfl (by kernel_rfl) (e_move (v := .bool (!(Op.bytesLess ((x1.getD ((x24).toNat) z45).name) x6.name || ((x1.getD ((x24).toNat) z45).name) == x6.name))) (by kernel_rfl)) ?_
          by_cases q93 : (!(Op.bytesLess ((x1.getD ((x24).toNat) z45).name) x6.name || ((x1.getD ((x24).toNat) z45).name) == x6.name)) = true
          · replace M := ifp q93 M
            refine lskip (t := 50) (c := true) rfl (by kernel_rfl) rfl (bvt q93 (by kernel_rfl)) rfl rfl ?_
            refine lskip (t := 50) (c := true) rfl (by kernel_rfl) rfl (bvt q93 (by kernel_rfl)) rfl rfl ?_
            refine lskipu (t := 52) rfl (by kernel_rfl) rfl (by kernel_rfl) rfl ?_
            refine lskipu (t := 52) rfl (by kernel_rfl) rfl (by kernel_rfl) rfl ?_
            refine lskipu (t := 52) rfl (by kernel_rfl) rfl (by kernel_rfl) rfl ?_
            refine lskip (t := 50) (c := true) rfl (by kernel_rfl) rfl (bvt q93 (by kernel_rfl)) rfl rfl ?_
            refine lvg (d := 57) (t := 42) rfl (by kernel_rfl) rfl (bt q92 (by kernel_rfl)) rfl (by kernel_rfl) (e_pick_t (v := .bool true) (bvt q93 (by kernel_rfl)) rfl) ?_
            refine lv (d := 58) rfl rfl (by kernel_rfl) (e_pick_t (v := .bool true) (bt q92 (by kernel_rfl)) (by kernel_rfl)) ?_
            refine wpList_nil ?_
            refine then_n ?_
            refine cond_t rfl (by kernel_rfl) ?_
            refine wp_seq ?_
            refine wp_region_lit ?_
            refine lv (d := 59) rfl rfl (by kernel_rfl) (e_move (v := .slice A19 x18.length c20) (by exact e27)) ?_
            refine lv (d := 60) rfl rfl (by kernel_rfl) (e_loadS (b := g12) (off := 0) (cs := [.slice A7 x6.name.length c8, .int .i64 x6.pri, .int .i64 x6.typ]) Try.underlying45 rfl (by kernel_rfl) (by exact e26) (blk_cells b13 rfl)) ?_
            refine lve (d := 61) rfl rfl (by kernel_rfl) (new_blk (v := fun g_ => .slice (some ⟨g_, 0, none⟩) 1 1) (cs := #[.slice A7 x6.name.length c8, .int .i64 x6.pri, .int .i64 x6.typ]) (t := 45) S65 (by kernel_rfl)) ?_
            rintro _ w94 ⟨g95, rfl, b96, S97, K98⟩
            replace b56 := K98.blk 0 rfl b56
            replace b13 := K98.blk 1 rfl b13
            replace h22 := h22.move (K98.at 2 rfl)
            obtain ⟨q99, M⟩ := chk M
            have S100 := S97.pull (F := F21) (Fr := [(is g95), (is g51), (is g12)]) 3 rfl rfl
            have S101 := S100.unit
            have S102 := S101.pull (F := F21) (Fr := [no, (is g95), (is g51), (is g12)]) 1 rfl rfl
            refine lve (d := 62) rfl rfl (by kernel_rfl) (e_append (d := (ro st45)) (n := x18.length) (xs := x18) (cap := c20) (A := A19) (ys := [x6]) (A2 := (some ⟨g95, 0, none⟩)) (c2 := 1) (z := .agg #[.slice none 0 0, .int .i64 0, .int .i64 0]) (bytes := 40) S102 Try.underlying25 (by kernel_rfl) rfl (by decide) (by kernel_rfl) rfl (by kernel_rfl) h22 (elsO_one1 (st45_mkR (x := x6) l10 h9)) (.inr (blk_news b96 rfl)) (show (x18.length + [x6].length) * 40 ≤ _ by first | omega | (simp only [List.length_cons, List.length_nil]; omega)) (by decide)) ?_
            rintro _ w103 ⟨A104, c105, F106, rfl, h107, S108, K109⟩
            replace b96 := K109.blk 0 rfl b96
            replace b56 := K109.blk 1 rfl b56
            replace b13 := K109.blk 2 rfl b13
            refine lv (d := 5) rfl rfl (by kernel_rfl) (e_assign (v := .slice A104 ((x18 ++ [x6]).length) c105) (by kernel_rfl)) ?_
            refine wpList_nil ?_
            refine then_n ?_
            refine wp_region_lit ?_
            refine lv (d := 6) rfl rfl (by kernel_rfl) (e_assign (v := .bool true) rfl) ?_
            refine wpList_nil ?_
            refine then_n ?_
            have S110 := S108.pull (F := (is g12)) (Fr := [F106, (is g95), (is g51)]) 3 rfl rfl
            have S111 := S110.pull (F := (is g51)) (Fr := [(is g12), F106, (is g95)]) 3 rfl rfl
            have S112 := St.first (Fa := [(is g51), (is g12), F106]) (Fr := [(is g95)]) S111
            exact ⟨k35, (by omega), _, (x18 ++ [x6]), A104, c105, F106, true, rfl, (by exact e25), (by exact e26), (by kernel_rfl), (by kernel_rfl), (by exact e29), (by kernel_rfl), b56, b13, h107, S112, M⟩
          replace M := ifn q93 M
          refine lvg (d := 51) (t := 50) rfl (by kernel_rfl) rfl (bvf q93 (by kernel_rfl)) rfl (by kernel_rfl) (e_move (v := .bool (decide ((x1.getD ((x24).toNat) z45).name = x6.name))) (by kernel_rfl)) ?_
          refine lvg (d := 52) (t := 50) rfl (by kernel_rfl) rfl (bvf q93 (by kernel_rfl)) rfl (by kernel_rfl) (e_move (v := .bool (decide ((x1.getD ((x24).toNat) z45).name = x6.name))) (by kernel_rfl)) ?_
          refine lvg (d := 53) (t := 52) rfl (by kernel_rfl) rfl (bt q59 (by kernel_rfl)) rfl (by kernel_rfl) (e_fieldAddr (b := g12) (off := 0) (o := 2) Try.underlying45 rfl rfl (sz := 1) (by kernel_rfl) (by decide) (by exact e26)) ?_
          refine lvg (d := 54) (t := 52) rfl (by kernel_rfl) rfl (bt q59 (by kernel_rfl)) rfl (by kernel_rfl) (e_load1 (ad := ⟨g12, 0 + 2, none⟩) (v := .int .i64 x6.typ) Try.underlying3 rfl (by kernel_rfl) (blk_cell b13 rfl)) ?_
          obtain ⟨t113, u114, M⟩ := bnd M
          refine lcallg (d := 55) (t := 52) rfl (by kernel_rfl) rfl (bt q59 (by kernel_rfl)) rfl (by kernel_rfl) (e_call (l := [.tmp 54]) (vs := [.int .i64 x6.typ]) Try.func25 (by kernel_rfl) rfl (by kernel_rfl) rfl) (spec_l3prefix.calls w64 H x6.typ  S65.own0 t113 u114) ?_
          rintro _ w115 ⟨rfl, C116⟩
          refine ⟨_, rfl, ?_⟩
          obtain ⟨S117, K118⟩ := S65.still C116
          replace b56 := K118.blk 0 rfl b56
          replace b13 := K118.blk 1 rfl b13
          replace h22 := h22.move (K118.at 2 rfl)
          refine lvg (d := 56) (t := 50) rfl (by kernel_rfl) rfl (bvf q93 (by kernel_rfl)) rfl (by kernel_rfl) (e_pick_t (v := .bool t113) (bt q59 (by kernel_rfl)) (by kernel_rfl)) ?_
          refine lvg (d := 57) (t := 42) rfl (by kernel_rfl) rfl (bt q92 (by kernel_rfl)) rfl (by kernel_rfl) (e_pick_f (v := .bool t113) (bvf q93 (by kernel_rfl)) (by kernel_rfl)) ?_
          refine lv (d := 58) rfl rfl (by kernel_rfl) (e_pick_t (v := .bool t113) (bt q92 (by kernel_rfl)) (by kernel_rfl)) ?_
          refine wpList_nil ?_
          refine then_n ?_
          by_cases q119 : t113 = true
          · replace M := ifp q119 M
            refine cond_t rfl (bvt q119 (by kernel_rfl)) ?_
            refine wp_seq ?_
            refine wp_region_lit ?_
            refine lv (d := 59) rfl rfl (by kernel_rfl) (e_move (v := .slice A19 x18.length c20) (by exact e27)) ?_
            refine lv (d := 60) rfl rfl (by kernel_rfl) (e_loadS (b := g12) (off := 0) (cs := [.slice A7 x6.name.length c8, .int .i64 x6.pri, .int .i64 x6.typ]) Try.underlying45 rfl (by kernel_rfl) (by exact e26) (blk_cells b13 rfl)) ?_
            refine lve (d := 61) rfl rfl (by kernel_rfl) (new_blk (v := fun g_ => .slice (some ⟨g_, 0, none⟩) 1 1) (cs := #[.slice A7 x6.name.length c8, .int .i64 x6.pri, .int .i64 x6.typ]) (t := 45) S117 (by kernel_rfl)) ?_
            rintro _ w120 ⟨g121, rfl, b122, S123, K124⟩
            replace b56 := K124.blk 0 rfl b56
            replace b13 := K124.blk 1 rfl b13
            replace h22 := h22.move (K124.at 2 rfl)
            obtain ⟨q125, M⟩ := chk M
            have S126 := S123.pull (F := F21) (Fr := [(is g121), (is g51), (is g12)]) 3 rfl rfl
            have S127 := S126.unit
            have S128 := S127.pull (F := F21) (Fr := [no, (is g121), (is g51), (is g12)]) 1 rfl rfl
            refine lve (d := 62) rfl rfl (by kernel_rfl) (e_append (d := (ro st45)) (n := x18.length) (xs := x18) (cap := c20) (A := A19) (ys := [x6]) (A2 := (some ⟨g121, 0, none⟩)) (c2 := 1) (z := .agg #[.slice none 0 0, .int .i64 0, .int .i64 0]) (bytes := 40) S128 Try.underlying25 (by kernel_rfl) rfl (by decide) (by kernel_rfl) rfl (by kernel_rfl) h22 (elsO_one1 (st45_mkR (x := x6) l10 h9)) (.inr (blk_news b122 rfl)) (show (x18.length + [x6].length) * 40 ≤ _ by first | omega | (simp only [List.length_cons, List.length_nil]; omega)) (by decide)) ?_
            rintro _ w129 ⟨A130, c131, F132, rfl, h133, S134, K135⟩
            replace b122 := K135.blk 0 rfl b122
            replace b56 := K135.blk 1 rfl b56
            replace b13 := K135.blk 2 rfl b13
            refine lv (d := 5) rfl rfl (by kernel_rfl) (e_assign (v := .slice A130 ((x18 ++ [x6]).length) c131) (by kernel_rfl)) ?_
            refine wpList_nil ?_
            refine then_n ?_
            refine wp_region_lit ?_
            refine lv (d := 6) rfl rfl (by kernel_rfl) (e_assign (v := .bool true) rfl) ?_
            refine wpList_nil ?_
            refine then_n ?_
            have S136 := S134.pull (F := (is g12)) (Fr := [F132, (is g121), (is g51)]) 3 rfl rfl
            have S137 := S136.pull (F := (is g51)) (Fr := [(is g12), F132, (is g121)]) 3 rfl rfl
            have S138 := St.first (Fa := [(is g51), (is g12), F132]) (Fr := [(is g121)]) S137
            exact ⟨k35, (by omega), _, (x18 ++ [x6]), A130, c131, F132, true, rfl, (by exact e25), (by exact e26), (by kernel_rfl), (by kernel_rfl), (by exact e29), (by kernel_rfl), b56, b13, h133, S138, M⟩
          replace M := ifn q119 M
          refine cond_f rfl (bvf q119 (by kernel_rfl)) ?_
          refine wp_skip ?_
          refine then_n ?_
          exact ⟨k35, (by omega), _, x18, A19, c20, F21, x23, rfl, (by exact e25), (by exact e26), (by exact e27), (by exact e28), (by exact e29), (by kernel_rfl), b56, b13, h22, S117, M⟩
        replace M := ifn q92 M
        refine lskip (t := 42) (c := false) rfl (by kernel_rfl) rfl (bf q92 (by kernel_rfl)) rfl rfl ?_
        refine lskip (t := 42) (c := false) rfl (by kernel_rfl) rfl (bf q92 (by kernel_rfl)) rfl rfl ?_
        refine lskip (t := 42) (c := false) rfl (by kernel_rfl) rfl (bf q92 (by kernel_rfl)) rfl rfl ?_
        refine lskip (t := 42) (c := false) rfl (by kernel_rfl) rfl (bf q92 (by kernel_rfl)) rfl rfl ?_
        refine lskip (t := 42) (c := false) rfl (by kernel_rfl) rfl (bf q92 (by kernel_rfl)) rfl rfl ?_
        refine lskip (t := 42) (c := false) rfl (by kernel_rfl) rfl (bf q92 (by kernel_rfl)) rfl rfl ?_
        refine lskip (t := 42) (c := false) rfl (by kernel_rfl) rfl (bf q92 (by kernel_rfl)) rfl rfl ?_
        refine lskip (t := 42) (c := false) rfl (by kernel_rfl) rfl (bf q92 (by kernel_rfl)) rfl rfl ?_
        refine lskipu (t := 50) rfl (by kernel_rfl) rfl (by kernel_rfl) rfl ?_
        refine lskipu (t := 50) rfl (by kernel_rfl) rfl (by kernel_rfl) rfl ?_
        refine lskipu (t := 52) rfl (by kernel_rfl) rfl (by kernel_rfl) rfl ?_
        refine lskipu (t := 52) rfl (by kernel_rfl) rfl (by kernel_rfl) rfl ?_
        refine lskipu (t := 52) rfl (by kernel_rfl) rfl (by kernel_rfl) rfl ?_
        refine lskipu (t := 50) rfl (by kernel_rfl) rfl (by kernel_rfl) rfl ?_
        refine lskip (t := 42) (c := false) rfl (by kernel_rfl) rfl (bf q92 (by kernel_rfl)) rfl rfl ?_
        refine lv (d := 58) rfl rfl (by kernel_rfl) (e_pick_f (v := .bool false) (bf q92 (by kernel_rfl)) rfl) ?_
        refine wpList_nil ?_
        refine then_n ?_
        refine cond_f rfl (by kernel_rfl) ?_
        refine wp_skip ?_
        refine then_n ?_
        exact ⟨k35, (by omega), _, x18, A19, c20, F21, x23, rfl, (by exact e25), (by exact e26), (by exact e27), (by exact e28), (by exact e29), (by kernel_rfl), b56, b13, h22, S65, M⟩
      clear M
      rintro a89 w72 ⟨k91, z157, f73, x74, A75, c76, F77, x79, rfl, e80, e81, e82, e83, e84, e85, b56, b13, h78, S86, M⟩
      rcases k91 with _ | k90
      · rw [spec_l3put.l1] at M
        cases M
      rw [spec_l3put.l1] at M
      refine wp_region_lit ?_
      refine lv (d := 63) rfl rfl (by kernel_rfl) (e_move (v := .slice A75 x74.length c76) (by exact e82)) ?_
      refine lv (d := 64) rfl rfl (by kernel_rfl) (e_loadS (b := g51) (off := 0) (cs := [.slice A46 ((x1.getD ((x24).toNat) z45).name).length c47, .int .i64 ((x1.getD ((x24).toNat) z45).pri), .int .i64 ((x1.getD ((x24).toNat) z45).typ)]) Try.underlying45 rfl (by kernel_rfl) (by exact e85) (blk_cells b56 rfl)) ?_
      refine lve (d := 65) rfl rfl (by kernel_rfl) (new_blk (v := fun g_ => .slice (some ⟨g_, 0, none⟩) 1 1) (cs := #[.slice A46 ((x1.getD ((x24).toNat) z45).name).length c47, .int .i64 ((x1.getD ((x24).toNat) z45).pri), .int .i64 ((x1.getD ((x24).toNat) z45).typ)]) (t := 45) S86 (by kernel_rfl)) ?_
      rintro _ w139 ⟨g140, rfl, b141, S142, K143⟩
      replace b56 := K143.blk 0 rfl b56
      replace b13 := K143.blk 1 rfl b13
      replace h78 := h78.move (K143.at 2 rfl)
      obtain ⟨q144, M⟩ := chk M
      have S145 := S142.pull (F := F77) (Fr := [(is g140), (is g51), (is g12)]) 3 rfl rfl
      have S146 := S145.unit
      have S147 := S146.pull (F := F77) (Fr := [no, (is g140), (is g51), (is g12)]) 1 rfl rfl
      refine lve (d := 66) rfl rfl (by kernel_rfl) (e_append (d := (ro st45)) (n := x74.length) (xs := x74) (cap := c76) (A := A75) (ys := [(x1.getD ((x24).toNat) z45)]) (A2 := (some ⟨g140, 0, none⟩)) (c2 := 1) (z := .agg #[.slice none 0 0, .int .i64 0, .int .i64 0]) (bytes := 40) S147 Try.underlying25 (by kernel_rfl) rfl (by decide) (by kernel_rfl) rfl (by kernel_rfl) h78 (elsO_one1 (st45_mkR (x := (x1.getD ((x24).toNat) z45)) l48 h49)) (.inr (blk_news b141 rfl)) (show (x74.length + [(x1.getD ((x24).toNat) z45)].length) * 40 ≤ _ by first | omega | (simp only [List.length_cons, List.length_nil]; omega)) (by decide)) ?_
      rintro _ w148 ⟨A149, c150, F151, rfl, h152, S153, K154⟩
      replace b141 := K154.blk 0 rfl b141
      replace b56 := K154.blk 1 rfl b56
      replace b13 := K154.blk 2 rfl b13
      refine lv (d := 5) rfl rfl (by kernel_rfl) (e_assign (v := .slice A149 ((x74 ++ [(x1.getD ((x24).toNat) z45)]).length) c150) (by kernel_rfl)) ?_
      refine wpList_nil ?_
      refine inb_n ?_
      refine then_n ?_
      refine wp_region_lit ?_
      refine lv (d := 17) rfl rfl (by kernel_rfl) (e_move (v := .int .i64 x24) (by exact e84)) ?_
      refine lv (d := 18) rfl rfl (by kernel_rfl) (e_add (k := .i64) (a := x24) (b := 1) (by kernel_rfl) rfl) ?_
      refine lv (d := 7) rfl rfl (by kernel_rfl) (e_assign (v := .int .i64 (IntKind.i64.wrap (x24 + 1))) (by kernel_rfl)) ?_
      refine wpList_nil ?_
      refine then_n ?_
      have S155 := S153.pull (F := (is g12)) (Fr := [F151, (is g140), (is g51)]) 3 rfl rfl
      have S156 := St.first (Fa := [(is g12), F151]) (Fr := [(is g140), (is g51)]) S155
      exact ⟨k90, (by omega), _, (x74 ++ [(x1.getD ((x24).toNat) z45)]), A149, c150, F151, x79, (IntKind.i64.wrap (x24 + 1)), rfl, (by exact e80), (by exact e81), (by kernel_rfl), (by exact e83), (by kernel_rfl), b13, h152, S156, M⟩
    replace M := ifn q59 M
    refine qskip (t := 31) (c := false) rfl (by kernel_rfl) rfl (bf q59 (by kernel_rfl)) rfl rfl ?_
    refine qskip (t := 31) (c := false) rfl (by kernel_rfl) rfl (bf q59 (by kernel_rfl)) rfl rfl ?_
    refine qskip (t := 31) (c := false) rfl (by kernel_rfl) rfl (bf q59 (by kernel_rfl)) rfl rfl ?_
    refine qskip (t := 31) (c := false) rfl (by kernel_rfl) rfl (bf q59 (by kernel_rfl)) rfl rfl ?_
    refine qskip (t := 31) (c := false) rfl (by kernel_rfl) rfl (bf q59 (by kernel_rfl)) rfl rfl ?_
    refine qskip (t := 31) (c := false) rfl (by kernel_rfl) rfl (bf q59 (by kernel_rfl)) rfl rfl ?_
    refine qskip (t := 31) (c := false) rfl (by kernel_rfl) rfl (bf q59 (by kernel_rfl)) rfl rfl ?_
    refine qv (d := 39) rfl rfl (by kernel_rfl) (fun wq_ hq_ => e_pick_f (v := .bool false) (bf q59 (by kernel_rfl)) rfl) ?_
    refine wpQuiet_nil ?_
    intro w158 C161
    obtain ⟨S159, K160⟩ := S57.still C161
    replace b56 := K160.blk 0 rfl b56
    replace b13 := K160.blk 1 rfl b13
    replace h22 := h22.move (K160.at 2 rfl)
    refine then_n ?_
    refine cond_f rfl (by kernel_rfl) ?_
    refine wp_skip ?_
    refine then_n ?_
    refine wp_seq_cut (fun a179 w162 => ∃ (k181 : Nat), k181 ≤ k35 ∧ ∃ (f163 : Nat → Value) (x164 : List Sy.Op) (A165 : Option Addr) (c166 : Nat) (F167 : Foot) (x169 : Bool), a179 = mk 74 f163 ∧ f163 0 = .slice A2 x1.length c3 ∧ f163 3 = .pointer (some ⟨g12, 0, none⟩) ∧ f163 5 = .slice A165 x164.length c166 ∧ f163 6 = .bool x169 ∧ f163 7 = .int .i64 x24 ∧ f163 8 = .pointer (some ⟨g51, 0, none⟩) ∧ w162.heap[g51]? = some (.cells #[.slice A46 ((x1.getD ((x24).toNat) z45).name).length c47, .int .i64 ((x1.getD ((x24).toNat) z45).pri), .int .i64 ((x1.getD ((x24).toNat) z45).typ)] 45 (0, 0)) ∧ w162.heap[g12]? = some (.cells #[.slice A7 x6.name.length c8, .int .i64 x6.pri, .int .i64 x6.typ] 45 (0, 0)) ∧ Row (ro st45) 45 H (hp w162) F167 A165 c166 x164 ∧ St (anyOf []) H w [(is g51), (is g12), F167] H w162 ∧ spec_l3put.l2 k181 x1 x6 x24 x164 x169 = some r) ?_ ?_
    · refine wp_seq ?_
      refine wp_region_lit ?_
      refine lv (d := 40) rfl rfl (by kernel_rfl) (e_move (v := .bool x23) (by exact e28)) ?_
      refine lv (d := 41) rfl rfl (by kernel_rfl) (e_notv (c := x23) (by kernel_rfl)) ?_
      refine lv (d := 42) rfl rfl (by kernel_rfl) (e_move (v := .bool (decide (¬ (x23 = true)))) (by kernel_rfl)) ?_
      by_cases q182 : ¬ (x23 = true)
      · replace M := ifp q182 M
        refine lvg (d := 43) (t := 42) rfl (by kernel_rfl) rfl (bt q182 (by kernel_rfl)) rfl (by kernel_rfl) (e_fieldAddr (b := g51) (off := 0) (o := 0) Try.underlying45 rfl rfl (sz := 1) (by kernel_rfl) (by decide) (by kernel_rfl)) ?_
        refine lvg (d := 44) (t := 42) rfl (by kernel_rfl) rfl (bt q182 (by kernel_rfl)) rfl (by kernel_rfl) (e_load1 (ad := ⟨g51, 0 + 0, none⟩) (v := .slice A46 ((x1.getD ((x24).toNat) z45).name).length c47) Try.underlying32 rfl (by kernel_rfl) (blk_cell b56 rfl)) ?_
        refine lvg (d := 45) (t := 42) rfl (by kernel_rfl) rfl (bt q182 (by kernel_rfl)) rfl (by kernel_rfl) (e_conv_bs (A := A46) (n := ((x1.getD ((x24).toNat) z45).name).length) (c := c47) (xs := (x1.getD ((x24).toNat) z45).name) Try.underlying32 Try.underlying5 Try.underlying9 (by kernel_rfl) rfl (Rd.bytesE S159.inv h49)) ?_
        refine lvg (d := 46) (t := 42) rfl (by kernel_rfl) rfl (bt q182 (by kernel_rfl)) rfl (by kernel_rfl) (e_fieldAddr (b := g12) (off := 0) (o := 0) Try.underlying45 rfl rfl (sz := 1) (by kernel_rfl) (by decide) (by exact e26)) ?_
        refine lvg (d := 47) (t := 42) rfl (by kernel_rfl) rfl (bt q182 (by kernel_rfl)) rfl (by kernel_rfl) (e_load1 (ad := ⟨g12, 0 + 0, none⟩) (v := .slice A7 x6.name.length c8) Try.underlying32 rfl (by kernel_rfl) (blk_cell b13 rfl)) ?_
        refine lvg (d := 48) (t := 42) rfl (by kernel_rfl) rfl (bt q182 (by kernel_rfl)) rfl (by kernel_rfl) (e_conv_bs (A := A7) (n := x6.name.length) (c := c8) (xs := x6.name) Try.underlying32 Try.underlying5 Try.underlying9 (by kernel_rfl) rfl (Rd.bytesE S159.inv h9)) ?_
        refine lvg (d := 49) (t := 42) rfl (by kernel_rfl) rfl (bt q182 (by kernel_rfl)) rfl (by kernel_rfl) (e_sgtr (p := (x1.getD ((x24).toNat) z45).name) (q := x6.name) (by kernel_rfl) (by kernel_rfl)) ?_
        refine lvg (d := 50) (t := 42) rfl (by kernel_rfl) rfl (bt q182 (by kernel_rfl)) rfl (by kernel_rfl) (e_move (v := .bool (!(Op.bytesLess ((x1.getD ((x24).toNat) z45).name) x6.name || ((x1.getD ((x24).toNat) z45).name) == x6.name))) (by kernel_rfl)) ?_
        by_cases q183 : (!(Op.bytesLess ((x1.getD ((x24).toNat) z45).name) x6.name || ((x1.getD ((x24).toNat) z45).name) == x6.name)) = true
        · replace M := ifp q183 M
          refine lskip (t := 50) (c := true) rfl (by kernel_rfl) rfl (bvt q183 (by kernel_rfl)) rfl rfl ?_
          refine lskip (t := 50) (c := true) rfl (by kernel_rfl) rfl (bvt q183 (by kernel_rfl)) rfl rfl ?_
          refine lskipu (t := 52) rfl (by kernel_rfl) rfl (by kernel_rfl) rfl ?_
          refine lskipu (t := 52) rfl (by kernel_rfl) rfl (by kernel_rfl) rfl ?_
          refine lskipu (t := 52) rfl (by kernel_rfl) rfl (by kernel_rfl) rfl ?_
          refine lskip (t := 50) (c := true) rfl (by kernel_rfl) rfl (bvt q183 (by kernel_rfl)) rfl rfl ?_
          refine lvg (d := 57) (t := 42) rfl (by kernel_rfl) rfl (bt q182 (by kernel_rfl)) rfl (by kernel_rfl) (e_pick_t (v := .bool true) (bvt q183 (by kernel_rfl)) rfl) ?_
          refine lv (d := 58) rfl rfl (by kernel_rfl) (e_pick_t (v := .bool true) (bt q182 (by kernel_rfl)) (by kernel_rfl)) ?_
          refine wpList_nil ?_
          refine then_n ?_
          refine cond_t rfl (by kernel_rfl) ?_
          refine wp_seq ?_
          refine wp_region_lit ?_
          refine lv (d := 59) rfl rfl (by kernel_rfl) (e_move (v := .slice A19 x18.length c20) (by exact e27)) ?_
          refine lv (d := 60) rfl rfl (by kernel_rfl) (e_loadS (b := g12) (off := 0) (cs := [.slice A7 x6.name.length c8, .int .i64 x6.pri, .int .i64 x6.typ]) Try.underlying45 rfl (by kernel_rfl) (by exact e26) (blk_cells b13 rfl)) ?_
          refine lve (d := 61) rfl rfl (by kernel_rfl) (new_blk (v := fun g_ => .slice (some ⟨g_, 0, none⟩) 1 1) (cs := #[.slice A7 x6.name.length c8, .int .i64 x6.pri, .int .i64 x6.typ]) (t := 45) S159 (by kernel_rfl)) ?_
          rintro _ w184 ⟨g185, rfl, b186, S187, K188⟩
          replace b56 := K188.blk 0 rfl b56
          replace b13 := K188.blk 1 rfl b13
          replace h22 := h22.move (K188.at 2 rfl)
          obtain ⟨q189, M⟩ := chk M
          have S190 := S187.pull (F := F21) (Fr := [(is g185), (is g51), (is g12)]) 3 rfl rfl
          have S191 := S190.unit
          have S192 := S191.pull (F := F21) (Fr := [no, (is g185), (is g51), (is g12)]) 1 rfl rfl
          refine lve (d := 62) rfl rfl (by kernel_rfl) (e_append (d := (ro st45)) (n := x18.length) (xs := x18) (cap := c20) (A := A19) (ys := [x6]) (A2 := (some ⟨g185, 0, none⟩)) (c2 := 1) (z := .agg #[.slice none 0 0, .int .i64 0, .int .i64 0]) (bytes := 40) S192 Try.underlying25 (by kernel_rfl) rfl (by decide) (by kernel_rfl) rfl (by kernel_rfl) h22 (elsO_one1 (st45_mkR (x := x6) l10 h9)) (.inr (blk_news b186 rfl)) (show (x18.length + [x6].length) * 40 ≤ _ by first | omega | (simp only [List.length_cons, List.length_nil]; omega)) (by decide)) ?_
          rintro _ w193 ⟨A194, c195, F196, rfl, h197, S198, K199⟩
          replace b186 := K199.blk 0 rfl b186
          replace b56 := K199.blk 1 rfl b56
          replace b13 := K199.blk 2 rfl b13
          refine lv (d := 5) rfl rfl (by kernel_rfl) (e_assign (v := .slice A194 ((x18 ++ [x6]).length) c195) (by kernel_rfl)) ?_
          refine wpList_nil ?_
          refine then_n ?_
          refine wp_region_lit ?_
          refine lv (d := 6) rfl rfl (by kernel_rfl) (e_assign (v := .bool true) rfl) ?_
          refine wpList_nil ?_
          refine then_n ?_
          have S200 := S198.pull (F := (is g12)) (Fr := [F196, (is g185), (is g51)]) 3 rfl rfl
          have S201 := S200.pull (F := (is g51)) (Fr := [(is g12), F196, (is g185)]) 3 rfl rfl
          have S202 := St.first (Fa := [(is g51), (is g12), F196]) (Fr := [(is g185)]) S201
          exact ⟨k35, (by omega), _, (x18 ++ [x6]), A194, c195, F196, true, rfl, (by exact e25), (by exact e26), (by kernel_rfl), (by kernel_rfl), (by exact e29), (by kernel_rfl), b56, b13, h197, S202, M⟩
        replace M := ifn q183 M
        refine lvg (d := 51) (t := 50) rfl (by kernel_rfl) rfl (bvf q183 (by kernel_rfl)) rfl (by kernel_rfl) (e_move (v := .bool (decide ((x1.getD ((x24).toNat) z45).name = x6.name))) (by kernel_rfl)) ?_
        refine lvg (d := 52) (t := 50) rfl (by kernel_rfl) rfl (bvf q183 (by kernel_rfl)) rfl (by kernel_rfl) (e_move (v := .bool (decide ((x1.getD ((x24).toNat) z45).name = x6.name))) (by kernel_rfl)) ?_
        refine lskip (t := 52) (c := false) rfl (by kernel_rfl) rfl (bf q59 (by kernel_rfl)) rfl rfl ?_
        refine lskip (t := 52) (c := false) rfl (by kernel_rfl) rfl (bf q59 (by kernel_rfl)) rfl rfl ?_
        refine lskip (t := 52) (c := false) rfl (by kernel_rfl) rfl (bf q59 (by kernel_rfl)) rfl rfl ?_
        refine lvg (d := 56) (t := 50) rfl (by kernel_rfl) rfl (bvf q183 (by kernel_rfl)) rfl (by kernel_rfl) (e_pick_f (v := .bool false) (bf q59 (by kernel_rfl)) rfl) ?_
        refine lvg (d := 57) (t := 42) rfl (by kernel_rfl) rfl (bt q182 (by kernel_rfl)) rfl (by kernel_rfl) (e_pick_f (v := .bool false) (bvf q183 (by kernel_rfl)) (by kernel_rfl)) ?_
        refine lv (d := 58) rfl rfl (by kernel_rfl) (e_pick_t (v := .bool false) (bt q182 (by kernel_rfl)) (by kernel_rfl)) ?_
        refine wpList_nil ?_
        refine then_n ?_
        refine cond_f rfl (by kernel_rfl) ?_
        refine wp_skip ?_
        refine then_n ?_
        exact ⟨k35, (by omega), _, x18, A19, c20, F21, x23, rfl, (by exact e25), (by exact e26), (by exact e27), (by exact e28), (by exact e29), (by kernel_rfl), b56, b13, h22, S159, M⟩
      replace M := ifn q182 M
      refine lskip (t := 42) (c := false) rfl (by kernel_rfl) rfl (bf q182 (by kernel_rfl)) rfl rfl ?_
      refine lskip (t := 42) (c := false) rfl (by kernel_rfl) rfl (bf q182 (by kernel_rfl)) rfl rfl ?_
      refine lskip (t := 42) (c := false) rfl (by kernel_rfl) rfl (bf q182 (by kernel_rfl)) rfl rfl ?_
      refine lskip (t := 42) (c := false) rfl (by kernel_rfl) rfl (bf q182 (by kernel_rfl)) rfl rfl ?_
      refine lskip (t := 42) (c := false) rfl (by kernel_rfl) rfl (bf q182 (by kernel_rfl)) rfl rfl ?_
      refine lskip (t := 42) (c := false) rfl (by kernel_rfl) rfl (bf q182 (by kernel_rfl)) rfl rfl ?_
      refine lskip (t := 42) (c := false) rfl (by kernel_rfl) rfl (bf q182 (by kernel_rfl)) rfl rfl ?_
      refine lskip (t := 42) (c := false) rfl (by kernel_rfl) rfl (bf q182 (by kernel_rfl)) rfl rfl ?_
      refine lskipu (t := 50) rfl (by kernel_rfl) rfl (by kernel_rfl) rfl ?_
      refine lskipu (t := 50) rfl (by kernel_rfl) rfl (by kernel_rfl) rfl ?_
      refine lskipu (t := 52) rfl (by kernel_rfl) rfl (by kernel_rfl) rfl ?_
      refine lskipu (t := 52) rfl (by kernel_rfl) rfl (by kernel_rfl) rfl ?_
      refine lskipu (t := 52) rfl (by kernel_rfl) rfl (by kernel_rfl) rfl ?_
      refine lskipu (t := 50) rfl (by kernel_rfl) rfl (by kernel_rfl) rfl ?_
      refine lskip (t := 42) (c := false) rfl (by kernel_rfl) rfl (bf q182 (by kernel_rfl)) rfl rfl ?_
      refine lv (d := 58) rfl rfl (by kernel_rfl) (e_pick_f (v := .bool false) (bf q182 (by kernel_rfl)) rfl) ?_
      refine wpList_nil ?_
      refine then_n ?_
      refine cond_f rfl (by kernel_rfl) ?_
      refine wp_skip ?_
      refine then_n ?_
      exact ⟨k35, (by omega), _, x18, A19, c20, F21, x23, rfl, (by exact e25), (by exact e26), (by exact e27), (by exact e28), (by exact e29), (by kernel_rfl), b56, b13, h22, S159, M⟩
    clear M
    rintro a179 w162 ⟨k181, z221, f163, x164, A165, c166, F167, x169, rfl, e170, e171, e172, e173, e174, e175, b56, b13, h168, S176, M⟩
    rcases k181 with _ | k180
    · rw [spec_l3put.l2] at M
      cases M
    rw [spec_l3put.l2] at M
    refine wp_region_lit ?_
    refine lv (d := 63) rfl rfl (by kernel_rfl) (e_move (v := .slice A165 x164.length c166) (by exact e172)) ?_
    refine lv (d := 64) rfl rfl (by kernel_rfl) (e_loadS (b := g51) (off := 0) (cs := [.slice A46 ((x1.getD ((x24).toNat) z45).name).length c47, .int .i64 ((x1.getD ((x24).toNat) z45).pri), .int .i64 ((x1.getD ((x24).toNat) z45).typ)]) Try.underlying45 rfl (by kernel_rfl) (by exact e175) (blk_cells b56 rfl)) ?_
    refine lve (d := 65) rfl rfl (by kernel_rfl) (new_blk (v := fun g_ => .slice (some ⟨g_, 0, none⟩) 1 1) (cs := #[.slice A46 ((x1.getD ((x24).toNat) z45).name).length c47, .int .i64 ((x1.getD ((x24).toNat) z45).pri), .int .i64 ((x1.getD ((x24).toNat) z45).typ)]) (t := 45) S176 (by kernel_rfl)) ?_
    rintro _ w203 ⟨g204, rfl, b205, S206, K207⟩
    replace b56 := K207.blk 0 rfl b56
    replace b13 := K207.blk 1 rfl b13
    replace h168 := h168.move (K207.at 2 rfl)
    obtain ⟨q208, M⟩ := chk M
    have S209 := S206.pull (F := F167) (Fr := [(is g204), (is g51), (is g12)]) 3 rfl rfl
    have S210 := S209.unit
    have S211 := S210.pull (F := F167) (Fr := [no, (is g204), (is g51), (is g12)]) 1 rfl rfl
    refine lve (d := 66) rfl rfl (by kernel_rfl) (e_append (d := (ro st45)) (n := x164.length) (xs := x164) (cap := c166) (A := A165) (ys := [(x1.getD ((x24).toNat) z45)]) (A2 := (some ⟨g204, 0, none⟩)) (c2 := 1) (z := .agg #[.slice none 0 0, .int .i64 0, .int .i64 0]) (bytes := 40) S211 Try.underlying25 (by kernel_rfl) rfl (by decide) (by kernel_rfl) rfl (by kernel_rfl) h168 (elsO_one1 (st45_mkR (x := (x1.getD ((x24).toNat) z45)) l48 h49)) (.inr (blk_news b205 rfl)) (show (x164.length + [(x1.getD ((x24).toNat) z45)].length) * 40 ≤ _ by first | omega | (simp only [List.length_cons, List.length_nil]; omega)) (by decide)) ?_
    rintro _ w212 ⟨A213, c214, F215, rfl, h216, S217, K218⟩
    replace b205 := K218.blk 0 rfl b205
    replace b56 := K218.blk 1 rfl b56
    replace b13 := K218.blk 2 rfl b13
    refine lv (d := 5) rfl rfl (by kernel_rfl) (e_assign (v := .slice A213 ((x164 ++ [(x1.getD ((x24).toNat) z45)]).length) c214) (by kernel_rfl)) ?_
    refine wpList_nil ?_
    refine inb_n ?_
    refine then_n ?_
    refine wp_region_lit ?_
    refine lv (d := 17) rfl rfl (by kernel_rfl) (e_move (v := .int .i64 x24) (by exact e174)) ?_
    refine lv (d := 18) rfl rfl (by kernel_rfl) (e_add (k := .i64) (a := x24) (b := 1) (by kernel_rfl) rfl) ?_
    refine lv (d := 7) rfl rfl (by kernel_rfl) (e_assign (v := .int .i64 (IntKind.i64.wrap (x24 + 1))) (by kernel_rfl)) ?_
    refine wpList_nil ?_
    refine then_n ?_
    have S219 := S217.pull (F := (is g12)) (Fr := [F215, (is g204), (is g51)]) 3 rfl rfl
    have S220 := St.first (Fa := [(is g12), F215]) (Fr := [(is g204), (is g51)]) S219
    exact ⟨k180, (by omega), _, (x164 ++ [(x1.getD ((x24).toNat) z45)]), A213, c214, F215, x169, (IntKind.i64.wrap (x24 + 1)), rfl, (by exact e170), (by exact e171), (by kernel_rfl), (by exact e173), (by kernel_rfl), b13, h216, S220, M⟩
  replace M := ifn q38 M
  refine cond_f rfl (bf q38 (by kernel_rfl)) ?_
  refine wp_exit ?_
  refine then_e ?_
  refine then_e ?_
  refine inb_hit ?_
  refine then_n ?_
  refine wp_seq ?_
  refine wp_seq ?_
  refine wp_region_lit ?_
  refine lv (d := 67) rfl rfl (by kernel_rfl) (e_move (v := .bool x23) (by exact e28)) ?_
  refine lv (d := 68) rfl rfl (by kernel_rfl) (e_notv (c := x23) (by kernel_rfl)) ?_
  refine wpList_nil ?_
  refine then_n ?_
  by_cases q222 : ¬ (x23 = true)
  · replace M := ifp q222 M
    refine cond_t rfl (bt q222 (by kernel_rfl)) ?_
    refine wp_region_lit ?_
    refine lv (d := 69) rfl rfl (by kernel_rfl) (e_move (v := .slice A19 x18.length c20) (by exact e27)) ?_
    refine lv (d := 70) rfl rfl (by kernel_rfl) (e_loadS (b := g12) (off := 0) (cs := [.slice A7 x6.name.length c8, .int .i64 x6.pri, .int .i64 x6.typ]) Try.underlying45 rfl (by kernel_rfl) (by exact e26) (blk_cells b13 rfl)) ?_
    refine lve (d := 71) rfl rfl (by kernel_rfl) (new_blk (v := fun g_ => .slice (some ⟨g_, 0, none⟩) 1 1) (cs := #[.slice A7 x6.name.length c8, .int .i64 x6.pri, .int .i64 x6.typ]) (t := 45) S30 (by kernel_rfl)) ?_
    rintro _ w223 ⟨g224, rfl, b225, S226, K227⟩
    replace b13 := K227.blk 0 rfl b13
    replace h22 := h22.move (K227.at 1 rfl)
    obtain ⟨q228, M⟩ := chk M
    have S229 := S226.pull (F := F21) (Fr := [(is g224), (is g12)]) 2 rfl rfl
    have S230 := S229.unit
    have S231 := S230.pull (F := F21) (Fr := [no, (is g224), (is g12)]) 1 rfl rfl
    refine lve (d := 72) rfl rfl (by kernel_rfl) (e_append (d := (ro st45)) (n := x18.length) (xs := x18) (cap := c20) (A := A19) (ys := [x6]) (A2 := (some ⟨g224, 0, none⟩)) (c2 := 1) (z := .agg #[.slice none 0 0, .int .i64 0, .int .i64 0]) (bytes := 40) S231 Try.underlying25 (by kernel_rfl) rfl (by decide) (by kernel_rfl) rfl (by kernel_rfl) h22 (elsO_one1 (st45_mkR (x := x6) l10 h9)) (.inr (blk_news b225 rfl)) (show (x18.length + [x6].length) * 40 ≤ _ by first | omega | (simp only [List.length_cons, List.length_nil]; omega)) (by decide)) ?_
    rintro _ w232 ⟨A233, c234, F235, rfl, h236, S237, K238⟩
    replace b225 := K238.blk 0 rfl b225
    replace b13 := K238.blk 1 rfl b13
    refine lv (d := 5) rfl rfl (by kernel_rfl) (e_assign (v := .slice A233 ((x18 ++ [x6]).length) c234) (by kernel_rfl)) ?_
    refine wpList_nil ?_
    refine then_n ?_
    refine wp_seq ?_
    refine wp_region_lit ?_
    refine lv (d := 73) rfl rfl (by kernel_rfl) (e_move (v := .slice A233 ((x18 ++ [x6]).length) c234) (by kernel_rfl)) ?_
    refine lv (d := 4) rfl rfl (by kernel_rfl) (e_assign (v := .slice A233 ((x18 ++ [x6]).length) c234) (by kernel_rfl)) ?_
    refine wpList_nil ?_
    refine then_n ?_
    refine wp_ret ?_
    obtain rfl := Option.some.inj M
    have S239 := St.first (Fa := [F235]) (Fr := [(is g224), (is g12)]) S237
    exact ret1 rfl rfl  (show _ = .slice A233 ((x18 ++ [x6]).length) c234 from (by kernel_rfl)) ⟨A233, c234, F235, H, rfl, h236, S239⟩
  replace M := ifn q222 M
  refine cond_f rfl (bf q222 (by kernel_rfl)) ?_
  refine wp_skip ?_
  refine then_n ?_
  refine wp_seq ?_
  refine wp_region_lit ?_
  refine lv (d := 73) rfl rfl (by kernel_rfl) (e_move (v := .slice A19 x18.length c20) (by exact e27)) ?_
  refine lv (d := 4) rfl rfl (by kernel_rfl) (e_assign (v := .slice A19 x18.length c20) (by kernel_rfl)) ?_
  refine wpList_nil ?_
  refine then_n ?_
  refine wp_ret ?_
  obtain rfl := Option.some.inj M
  have S240 := S30.pull (F := F21) (Fr := [(is g12)]) 1 rfl rfl
  have S241 := St.first (Fa := [F21]) (Fr := [(is g12)]) S240
  exact ret1 rfl rfl  (show _ = .slice A19 x18.length c20 from (by kernel_rfl)) ⟨A19, c20, F21, H, rfl, h22, S241⟩

/-! spec_DefaultOps -/
mutual
def spec_DefaultOps.l0 : Nat → (List Sy.Op) → Int → Option (List Sy.Op)
  | 0, _, _ => none
  | k48 + 1, x32, x37 => (if x37 < (13 : Int) then (if 0 ≤ x37 then ((spec_l3words.f k48 ([([58, 45, 32, 45, 45, 62] : List UInt8), ([58, 45, 32, 63, 45] : List UInt8), ([100, 121, 110, 97, 109, 105, 99] : List UInt8), ([59] : List UInt8), ([45, 62] : List UInt8), ([44] : List UInt8), ([92, 43] : List UInt8), ([61, 32, 92, 61, 32, 61, 61, 32, 92, 61, 61, 32, 64, 60, 32, 64, 61, 60, 32, 64, 62, 32, 64, 62, 61, 32, 61, 46, 46, 32, 105, 115, 32, 61, 58, 61, 32, 61, 92, 61, 32, 60, 32, 61, 60, 32, 62, 32, 62, 61] : List UInt8), ([43, 32, 45, 32, 47, 92, 32, 92, 47, 32, 120, 111, 114] : List UInt8), ([42, 32, 47, 32, 47, 47, 32, 109, 111, 100, 32, 114, 101, 109, 32, 60, 60, 32, 62, 62] : List UInt8), ([42, 42] : List UInt8), ([94] : List UInt8), ([45, 32, 43, 32, 92] : List UInt8)].getD ((x37).toNat) ([] : List UInt8))).bind fun t58 => (spec_DefaultOps.l1 k48 x37 t58 x32 0)) else none) else some x32)
def spec_DefaultOps.l1 : Nat → Int → (List (List UInt8)) → (List Sy.Op) → Int → Option (List Sy.Op)
  | 0, _, _, _, _ => none
  | k92 + 1, x37, t58, x74, x79 => (if x79 < (t58.length : Int) then (if 0 ≤ x79 then (if (t58.getD ((x79).toNat) ([] : List UInt8)).length ≤ 9223372036854775807 then ((spec_l3put.f k92 x74 (⟨(t58.getD ((x79).toNat) ([] : List UInt8)), ([1200, 1200, 1150, 1100, 1050, 1000, 900, 700, 500, 400, 200, 200, 200].getD ((x37).toNat) (0 : Int)), ([0, 4, 4, 1, 1, 1, 3, 0, 2, 2, 0, 1, 3].getD ((x37).toNat) (0 : Int))⟩ : Sy.Op)).bind fun t163 => (spec_DefaultOps.l1 k92 x37 t58 t163 (IntKind.i64.wrap (x79 + 1)))) else none) else none) else (spec_DefaultOps.l0 k92 x74 (IntKind.i64.wrap (x37 + 1))))
end
def spec_DefaultOps.f (k : Nat) : Option (List Sy.Op) := (spec_DefaultOps.l0 k [] 0)
theorem spec_DefaultOps.calls (k : Nat) (w : World) (H : Hp) (S : Own [] H w) (r : List Sy.Op) (M : spec_DefaultOps.f k = some r) :
    Calls Try.prog 12 #[] w (fun e e_w => ∃ (A_1 : Option Addr) (c_1 : Nat) (F_1 : Foot) (H_ : Hp), e = .returned (.slice A_1 r.length c_1) ∧ Row (ro st45) 45 H_ (hp e_w) F_1 A_1 c_1 r ∧ St (anyOf []) H w [F_1] H_ e_w) := by
  rw [spec_DefaultOps.f] at M
  refine enter (l := []) 45 Try.func12 rfl rfl rfl ?_
  have S0_ := S.st
  refine wp_seq ?_
  refine wp_region_lit ?_
  refine lv (d := 0) rfl rfl (by kernel_rfl) (e_assign (v := .slice none 0 0) rfl) ?_
  refine wpList_nil ?_
  refine then_n ?_
  refine wp_seq ?_
  refine wp_region_lit ?_
  refine lve (d := 8) rfl rfl (by kernel_rfl) (new_blk (v := fun g_ => .slice (some ⟨g_, 0, none⟩) 13 13) (cs := #[str ([58, 45, 32, 45, 45, 62] : List UInt8), str ([58, 45, 32, 63, 45] : List UInt8), str ([100, 121, 110, 97, 109, 105, 99] : List UInt8), str ([59] : List UInt8), str ([45, 62] : List UInt8), str ([44] : List UInt8), str ([92, 43] : List UInt8), str ([61, 32, 92, 61, 32, 61, 61, 32, 92, 61, 61, 32, 64, 60, 32, 64, 61, 60, 32, 64, 62, 32, 64, 62, 61, 32, 61, 46, 46, 32, 105, 115, 32, 61, 58, 61, 32, 61, 92, 61, 32, 60, 32, 61, 60, 32, 62, 32, 62, 61] : List UInt8), str ([43, 32, 45, 32, 47, 92, 32, 92, 47, 32, 120, 111, 114] : List UInt8), str ([42, 32, 47, 32, 47, 47, 32, 109, 111, 100, 32, 114, 101, 109, 32, 60, 60, 32, 62, 62] : List UInt8), str ([42, 42] : List UInt8), str ([94] : List UInt8), str ([45, 32, 43, 32, 92] : List UInt8)]) (t := 9) S0_ (by kernel_rfl)) ?_
  rintro _ w1 ⟨g2, rfl, b3, S4, K5⟩
  have S6 := S4.unit
  have S7 := S6.pull (F := (is g2)) (Fr := [no]) 1 rfl rfl
  obtain ⟨h8, S9⟩ := row_lit (d := tStr) (xs := [([58, 45, 32, 45, 45, 62] : List UInt8), ([58, 45, 32, 63, 45] : List UInt8), ([100, 121, 110, 97, 109, 105, 99] : List UInt8), ([59] : List UInt8), ([45, 62] : List UInt8), ([44] : List UInt8), ([92, 43] : List UInt8), ([61, 32, 92, 61, 32, 61, 61, 32, 92, 61, 61, 32, 64, 60, 32, 64, 61, 60, 32, 64, 62, 32, 64, 62, 61, 32, 61, 46, 46, 32, 105, 115, 32, 61, 58, 61, 32, 61, 92, 61, 32, 60, 32, 61, 60, 32, 62, 32, 62, 61] : List UInt8), ([43, 32, 45, 32, 47, 92, 32, 92, 47, 32, 120, 111, 114] : List UInt8), ([42, 32, 47, 32, 47, 47, 32, 109, 111, 100, 32, 114, 101, 109, 32, 60, 60, 32, 62, 62] : List UInt8), ([42, 42] : List UInt8), ([94] : List UInt8), ([45, 32, 43, 32, 92] : List UInt8)]) S7 b3 rfl (elsO_no (d := tStr) rfl (elsO_no (d := tStr) rfl (elsO_no (d := tStr) rfl (elsO_no (d := tStr) rfl (elsO_no (d := tStr) rfl (elsO_no (d := tStr) rfl (elsO_no (d := tStr) rfl (elsO_no (d := tStr) rfl (elsO_no (d := tStr) rfl (elsO_no (d := tStr) rfl (elsO_no (d := tStr) rfl (elsO_no (d := tStr) rfl (elsO_no (d := tStr) rfl (elsO_nil _ _ _ no)))))))))))))) (Nat.le_of_ble_eq_true rfl)
  refine lv (d := 1) rfl rfl (by kernel_rfl) (e_assign (v := .slice (some ⟨g2, 0, none⟩) 13 13) (by kernel_rfl)) ?_
  refine wpList_nil ?_
  refine then_n ?_
  refine wp_seq ?_
  refine wp_region_lit ?_
  refine lve (d := 9) rfl rfl (by kernel_rfl) (new_blk (v := fun g_ => .slice (some ⟨g_, 0, none⟩) 13 13) (cs := #[.int .i64 1200, .int .i64 1200, .int .i64 1150, .int .i64 1100, .int .i64 1050, .int .i64 1000, .int .i64 900, .int .i64 700, .int .i64 500, .int .i64 400, .int .i64 200, .int .i64 200, .int .i64 200]) (t := 3) S9 (by kernel_rfl)) ?_
  rintro _ w10 ⟨g11, rfl, b12, S13, K14⟩
  replace h8 := h8.move (K14.at 0 rfl)
  have S15 := S13.unit
  have S16 := S15.pull (F := (is g11)) (Fr := [no, (or2 (is g2) no)]) 1 rfl rfl
  obtain ⟨h17, S18⟩ := row_lit (d := tInt) (xs := [1200, 1200, 1150, 1100, 1050, 1000, 900, 700, 500, 400, 200, 200, 200]) S16 b12 rfl (elsO_no (d := tInt) rfl (elsO_no (d := tInt) rfl (elsO_no (d := tInt) rfl (elsO_no (d := tInt) rfl (elsO_no (d := tInt) rfl (elsO_no (d := tInt) rfl (elsO_no (d := tInt) rfl (elsO_no (d := tInt) rfl (elsO_no (d := tInt) rfl (elsO_no (d := tInt) rfl (elsO_no (d := tInt) rfl (elsO_no (d := tInt) rfl (elsO_no (d := tInt) rfl (elsO_nil _ _ _ no)))))))))))))) (Nat.le_of_ble_eq_true rfl)
  refine lv (d := 2) rfl rfl (by kernel_rfl) (e_assign (v := .slice (some ⟨g11, 0, none⟩) 13 13) (by kernel_rfl)) ?_
  refine wpList_nil ?_
  refine then_n ?_
  refine wp_seq ?_
  refine wp_region_lit ?_
  refine lve (d := 10) rfl rfl (by kernel_rfl) (new_blk (v := fun g_ => .slice (some ⟨g_, 0, none⟩) 13 13) (cs := #[.int .i64 0, .int .i64 4, .int .i64 4, .int .i64 1, .int .i64 1, .int .i64 1, .int .i64 3, .int .i64 0, .int .i64 2, .int .i64 2, .int .i64 0, .int .i64 1, .int .i64 3]) (t := 3) S18 (by kernel_rfl)) ?_
  rintro _ w19 ⟨g20, rfl, b21, S22, K23⟩
  replace h17 := h17.move (K23.at 0 rfl)
  replace h8 := h8.move (K23.at 1 rfl)
  have S24 := S22.unit
  have S25 := S24.pull (F := (is g20)) (Fr := [no, (or2 (is g11) no), (or2 (is g2) no)]) 1 rfl rfl
  obtain ⟨h26, S27⟩ := row_lit (d := tInt) (xs := [0, 4, 4, 1, 1, 1, 3, 0, 2, 2, 0, 1, 3]) S25 b21 rfl (elsO_no (d := tInt) rfl (elsO_no (d := tInt) rfl (elsO_no (d := tInt) rfl (elsO_no (d := tInt) rfl (elsO_no (d := tInt) rfl (elsO_no (d := tInt) rfl (elsO_no (d := tInt) rfl (elsO_no (d := tInt) rfl (elsO_no (d := tInt) rfl (elsO_no (d := tInt) rfl (elsO_no (d := tInt) rfl (elsO_no (d := tInt) rfl (elsO_no (d := tInt) rfl (elsO_nil _ _ _ no)))))))))))))) (Nat.le_of_ble_eq_true rfl)
  refine lv (d := 3) rfl rfl (by kernel_rfl) (e_assign (v := .slice (some ⟨g20, 0, none⟩) 13 13) (by kernel_rfl)) ?_
  refine wpList_nil ?_
  refine then_n ?_
  refine wp_seq ?_
  refine wp_region_lit ?_
  refine lv (d := 4) rfl rfl (by kernel_rfl) (e_assign (v := .slice none 0 0) rfl) ?_
  refine wpList_nil ?_
  refine then_n ?_
  refine wp_seq ?_
  refine wp_seq ?_
  refine wp_region_lit ?_
  refine lv (d := 5) rfl rfl (by kernel_rfl) (e_assign (v := .int .i64 0) rfl) ?_
  refine wpList_nil ?_
  refine then_n ?_
  refine wp_block ?_
  have S49 := S27.unit
  have S50 := S49.pull (F := (or2 (is g2) no)) (Fr := [no, (or2 (is g20) no), (or2 (is g11) no)]) 3 rfl rfl
  have S51 := S50.pull (F := (or2 (is g11) no)) (Fr := [(or2 (is g2) no), no, (or2 (is g20) no)]) 3 rfl rfl
  have S52 := S51.pull (F := (or2 (is g20) no)) (Fr := [(or2 (is g11) no), (or2 (is g2) no), no]) 3 rfl rfl
  refine wp_loop_g (fun k46 a47 w28 => ∃ (f29 : Nat → Value) (H30 : Hp) (x32 : List Sy.Op) (A33 : Option Addr) (c34 : Nat) (F35 : Foot) (x37 : Int), a47 = mk 45 f29 ∧ f29 1 = .slice (some ⟨g2, 0, none⟩) 13 13 ∧ f29 2 = .slice (some ⟨g11, 0, none⟩) 13 13 ∧ f29 3 = .slice (some ⟨g20, 0, none⟩) 13 13 ∧ f29 4 = .slice A33 x32.length c34 ∧ f29 5 = .int .i64 x37 ∧ Row tInt 3 H30 (hp w28) (or2 (is g20) no) (some ⟨g20, 0, none⟩) 13 [0, 4, 4, 1, 1, 1, 3, 0, 2, 2, 0, 1, 3] ∧ Row tInt 3 H30 (hp w28) (or2 (is g11) no) (some ⟨g11, 0, none⟩) 13 [1200, 1200, 1150, 1100, 1050, 1000, 900, 700, 500, 400, 200, 200, 200] ∧ Row tStr 9 H30 (hp w28) (or2 (is g2) no) (some ⟨g2, 0, none⟩) 13 [([58, 45, 32, 45, 45, 62] : List UInt8), ([58, 45, 32, 63, 45] : List UInt8), ([100, 121, 110, 97, 109, 105, 99] : List UInt8), ([59] : List UInt8), ([45, 62] : List UInt8), ([44] : List UInt8), ([92, 43] : List UInt8), ([61, 32, 92, 61, 32, 61, 61, 32, 92, 61, 61, 32, 64, 60, 32, 64, 61, 60, 32, 64, 62, 32, 64, 62, 61, 32, 61, 46, 46, 32, 105, 115, 32, 61, 58, 61, 32, 61, 92, 61, 32, 60, 32, 61, 60, 32, 62, 32, 62, 61] : List UInt8), ([43, 32, 45, 32, 47, 92, 32, 92, 47, 32, 120, 111, 114] : List UInt8), ([42, 32, 47, 32, 47, 47, 32, 109, 111, 100, 32, 114, 101, 109, 32, 60, 60, 32, 62, 62] : List UInt8), ([42, 42] : List UInt8), ([94] : List UInt8), ([45, 32, 43, 32, 92] : List UInt8)] ∧ Row (ro st45) 45 H30 (hp w28) F35 A33 c34 x32 ∧ Ext H H30 ∧ St (anyOf []) H w [(or2 (is g20) no), (or2 (is g11) no), (or2 (is g2) no), F35] H30 w28 ∧ spec_DefaultOps.l0 k46 x32 x37 = some r) k ⟨_, H, [], none, 0, no, 0, rfl, (by kernel_rfl), (by kernel_rfl), (by kernel_rfl), (by kernel_rfl), (by kernel_rfl), h26, h17, h8, (Row.nil _ _ _ _ _), (Ext.refl _), S52, M⟩ ?_
  clear M
  rintro k46 a47 w28 ⟨f29, H30, x32, A33, c34, F35, x37, rfl, e38, e39, e40, e41, e42, h26, h17, h8, h36, Y31, S43, M⟩
  rcases k46 with _ | k48
  · rw [spec_DefaultOps.l0] at M
    cases M
  rw [spec_DefaultOps.l0] at M
  refine wp_seq ?_
  refine wp_seq ?_
  refine wp_region_lit ?_
  refine lv (d := 11) rfl rfl (by kernel_rfl) (e_move (v := .int .i64 x37) (by exact e42)) ?_
  refine lv (d := 12) rfl rfl (by kernel_rfl) (e_move (v := .slice (some ⟨g2, 0, none⟩) 13 13) (by exact e38)) ?_
  refine lv (d := 13) rfl rfl (by kernel_rfl) (e_len (A := (some ⟨g2, 0, none⟩)) (n := 13) (c := 13) Try.underlying49 (by kernel_rfl)) ?_
  refine lv (d := 14) rfl rfl (by kernel_rfl) (e_lss (k := .i64) (a := x37) (b := (13 : Int)) (by kernel_rfl) (by kernel_rfl)) ?_
  refine wpList_nil ?_
  refine then_n ?_
  by_cases q53 : x37 < (13 : Int)
  · replace M := ifp q53 M
    refine cond_t rfl (bt q53 (by kernel_rfl)) ?_
    refine wp_skip ?_
    refine then_n ?_
    refine wp_seq ?_
    refine wp_block ?_
    refine wp_seq ?_
    refine wp_region_lit ?_
    refine lv (d := 17) rfl rfl (by kernel_rfl) (e_move (v := .slice (some ⟨g2, 0, none⟩) 13 13) (by exact e38)) ?_
    refine lv (d := 18) rfl rfl (by kernel_rfl) (e_move (v := .int .i64 x37) (by exact e42)) ?_
    obtain ⟨q54, M⟩ := chk M
    obtain ⟨b55, e57⟩ := Row.addr h8 (show (x37).toNat < [([58, 45, 32, 45, 45, 62] : List UInt8), ([58, 45, 32, 63, 45] : List UInt8), ([100, 121, 110, 97, 109, 105, 99] : List UInt8), ([59] : List UInt8), ([45, 62] : List UInt8), ([44] : List UInt8), ([92, 43] : List UInt8), ([61, 32, 92, 61, 32, 61, 61, 32, 92, 61, 61, 32, 64, 60, 32, 64, 61, 60, 32, 64, 62, 32, 64, 62, 61, 32, 61, 46, 46, 32, 105, 115, 32, 61, 58, 61, 32, 61, 92, 61, 32, 60, 32, 61, 60, 32, 62, 32, 62, 61] : List UInt8), ([43, 32, 45, 32, 47, 92, 32, 92, 47, 32, 120, 111, 114] : List UInt8), ([42, 32, 47, 32, 47, 47, 32, 109, 111, 100, 32, 114, 101, 109, 32, 60, 60, 32, 62, 62] : List UInt8), ([42, 42] : List UInt8), ([94] : List UInt8), ([45, 32, 43, 32, 92] : List UInt8)].length by have : [([58, 45, 32, 45, 45, 62] : List UInt8), ([58, 45, 32, 63, 45] : List UInt8), ([100, 121, 110, 97, 109, 105, 99] : List UInt8), ([59] : List UInt8), ([45, 62] : List UInt8), ([44] : List UInt8), ([92, 43] : List UInt8), ([61, 32, 92, 61, 32, 61, 61, 32, 92, 61, 61, 32, 64, 60, 32, 64, 61, 60, 32, 64, 62, 32, 64, 62, 61, 32, 61, 46, 46, 32, 105, 115, 32, 61, 58, 61, 32, 61, 92, 61, 32, 60, 32, 61, 60, 32, 62, 32, 62, 61] : List UInt8), ([43, 32, 45, 32, 47, 92, 32, 92, 47, 32, 120, 111, 114] : List UInt8), ([42, 32, 47, 32, 47, 47, 32, 109, 111, 100, 32, 114, 101, 109, 32, 60, 60, 32, 62, 62] : List UInt8), ([42, 42] : List UInt8), ([94] : List UInt8), ([45, 32, 43, 32, 92] : List UInt8)].length = 13 := rfl; omega)
    refine lv (d := 19) rfl rfl (by kernel_rfl) (e_indexAddr (b := b55) (off := 0) (n := 13) (c := 13) (sz := 1) (i := x37) (k := .i64) Try.underlying49 e57 (by kernel_rfl) (by kernel_rfl) (by kernel_rfl) q54 q53) ?_
    refine lv (d := 20) rfl rfl (by kernel_rfl) (e_load1 (ad := ⟨b55, 0 + (x37 : Int).toNat * 1, none⟩) (v := str ([([58, 45, 32, 45, 45, 62] : List UInt8), ([58, 45, 32, 63, 45] : List UInt8), ([100, 121, 110, 97, 109, 105, 99] : List UInt8), ([59] : List UInt8), ([45, 62] : List UInt8), ([44] : List UInt8), ([92, 43] : List UInt8), ([61, 32, 92, 61, 32, 61, 61, 32, 92, 61, 61, 32, 64, 60, 32, 64, 61, 60, 32, 64, 62, 32, 64, 62, 61, 32, 61, 46, 46, 32, 105, 115, 32, 61, 58, 61, 32, 61, 92, 61, 32, 60, 32, 61, 60, 32, 62, 32, 62, 61] : List UInt8), ([43, 32, 45, 32, 47, 92, 32, 92, 47, 32, 120, 111, 114] : List UInt8), ([42, 32, 47, 32, 47, 47, 32, 109, 111, 100, 32, 114, 101, 109, 32, 60, 60, 32, 62, 62] : List UInt8), ([42, 42] : List UInt8), ([94] : List UInt8), ([45, 32, 43, 32, 92] : List UInt8)].getD ((x37).toNat) ([] : List UInt8))) Try.underlying9 rfl (by kernel_rfl) (hpx (Row.pick (j := 0) (u := str ([([58, 45, 32, 45, 45, 62] : List UInt8), ([58, 45, 32, 63, 45] : List UInt8), ([100, 121, 110, 97, 109, 105, 99] : List UInt8), ([59] : List UInt8), ([45, 62] : List UInt8), ([44] : List UInt8), ([92, 43] : List UInt8), ([61, 32, 92, 61, 32, 61, 61, 32, 92, 61, 61, 32, 64, 60, 32, 64, 61, 60, 32, 64, 62, 32, 64, 62, 61, 32, 61, 46, 46, 32, 105, 115, 32, 61, 58, 61, 32, 61, 92, 61, 32, 60, 32, 61, 60, 32, 62, 32, 62, 61] : List UInt8), ([43, 32, 45, 32, 47, 92, 32, 92, 47, 32, 120, 111, 114] : List UInt8), ([42, 32, 47, 32, 47, 47, 32, 109, 111, 100, 32, 114, 101, 109, 32, 60, 60, 32, 62, 62] : List UInt8), ([42, 42] : List UInt8), ([94] : List UInt8), ([45, 32, 43, 32, 92] : List UInt8)].getD ((x37).toNat) ([] : List UInt8))) h8 e57 (getD_some ([] : List UInt8) (show (x37).toNat < [([58, 45, 32, 45, 45, 62] : List UInt8), ([58, 45, 32, 63, 45] : List UInt8), ([100, 121, 110, 97, 109, 105, 99] : List UInt8), ([59] : List UInt8), ([45, 62] : List UInt8), ([44] : List UInt8), ([92, 43] : List UInt8), ([61, 32, 92, 61, 32, 61, 61, 32, 92, 61, 61, 32, 64, 60, 32, 64, 61, 60, 32, 64, 62, 32, 64, 62, 61, 32, 61, 46, 46, 32, 105, 115, 32, 61, 58, 61, 32, 61, 92, 61, 32, 60, 32, 61, 60, 32, 62, 32, 62, 61] : List UInt8), ([43, 32, 45, 32, 47, 92, 32, 92, 47, 32, 120, 111, 114] : List UInt8), ([42, 32, 47, 32, 47, 47, 32, 109, 111, 100, 32, 114, 101, 109, 32, 60, 60, 32, 62, 62] : List UInt8), ([42, 42] : List UInt8), ([94] : List UInt8), ([45, 32, 43, 32, 92] : List UInt8)].length by have : [([58, 45, 32, 45, 45, 62] : List UInt8), ([58, 45, 32, 63, 45] : List UInt8), ([100, 121, 110, 97, 109, 105, 99] : List UInt8), ([59] : List UInt8), ([45, 62] : List UInt8), ([44] : List UInt8), ([92, 43] : List UInt8), ([61, 32, 92, 61, 32, 61, 61, 32, 92, 61, 61, 32, 64, 60, 32, 64, 61, 60, 32, 64, 62, 32, 64, 62, 61, 32, 61, 46, 46, 32, 105, 115, 32, 61, 58, 61, 32, 61, 92, 61, 32, 60, 32, 61, 60, 32, 62, 32, 62, 61] : List UInt8), ([43, 32, 45, 32, 47, 92, 32, 92, 47, 32, 120, 111, 114] : List UInt8), ([42, 32, 47, 32, 47, 47, 32, 109, 111, 100, 32, 114, 101, 109, 32, 60, 60, 32, 62, 62] : List UInt8), ([42, 42] : List UInt8), ([94] : List UInt8), ([45, 32, 43, 32, 92] : List UInt8)].length = 13 := rfl; omega)) (fun _ _ o_ => by rw [show _ = _ from o_]; rfl)))) ?_
    obtain ⟨t58, u59, M⟩ := bnd M
    refine lcall (d := 21) rfl rfl (by kernel_rfl) (e_call (l := [.tmp 20]) (vs := [str ([([58, 45, 32, 45, 45, 62] : List UInt8), ([58, 45, 32, 63, 45] : List UInt8), ([100, 121, 110, 97, 109, 105, 99] : List UInt8), ([59] : List UInt8), ([45, 62] : List UInt8), ([44] : List UInt8), ([92, 43] : List UInt8), ([61, 32, 92, 61, 32, 61, 61, 32, 92, 61, 61, 32, 64, 60, 32, 64, 61, 60, 32, 64, 62, 32, 64, 62, 61, 32, 61, 46, 46, 32, 105, 115, 32, 61, 58, 61, 32, 61, 92, 61, 32, 60, 32, 61, 60, 32, 62, 32, 62, 61] : List UInt8), ([43, 32, 45, 32, 47, 92, 32, 92, 47, 32, 120, 111, 114] : List UInt8), ([42, 32, 47, 32, 47, 47, 32, 109, 111, 100, 32, 114, 101, 109, 32, 60, 60, 32, 62, 62] : List UInt8), ([42, 42] : List UInt8), ([94] : List UInt8), ([45, 32, 43, 32, 92] : List UInt8)].getD ((x37).toNat) ([] : List UInt8))]) Try.func29 (by kernel_rfl) rfl (by kernel_rfl) rfl) (spec_l3words.calls k48 w28 H30 ([([58, 45, 32, 45, 45, 62] : List UInt8), ([58, 45, 32, 63, 45] : List UInt8), ([100, 121, 110, 97, 109, 105, 99] : List UInt8), ([59] : List UInt8), ([45, 62] : List UInt8), ([44] : List UInt8), ([92, 43] : List UInt8), ([61, 32, 92, 61, 32, 61, 61, 32, 92, 61, 61, 32, 64, 60, 32, 64, 61, 60, 32, 64, 62, 32, 64, 62, 61, 32, 61, 46, 46, 32, 105, 115, 32, 61, 58, 61, 32, 61, 92, 61, 32, 60, 32, 61, 60, 32, 62, 32, 62, 61] : List UInt8), ([43, 32, 45, 32, 47, 92, 32, 92, 47, 32, 120, 111, 114] : List UInt8), ([42, 32, 47, 32, 47, 47, 32, 109, 111, 100, 32, 114, 101, 109, 32, 60, 60, 32, 62, 62] : List UInt8), ([42, 42] : List UInt8), ([94] : List UInt8), ([45, 32, 43, 32, 92] : List UInt8)].getD ((x37).toNat) ([] : List UInt8))  (St.own' (Fa := []) (Fr := [(or2 (is g20) no), (or2 (is g11) no), (or2 (is g2) no), F35]) S43) t58 u59) ?_
    rintro _ w60 ⟨A63, c64, F66, H61, rfl, h65, T62⟩
    refine ⟨_, rfl, ?_⟩
    obtain ⟨S67, K68⟩ := St.call (Fa := []) (Fr := [(or2 (is g20) no), (or2 (is g11) no), (or2 (is g2) no), F35]) S43 T62
    replace h26 := h26.move (K68.at 0 rfl)
    replace h17 := h17.move (K68.at 1 rfl)
    replace h8 := h8.move (K68.at 2 rfl)
    replace h36 := h36.move (K68.at 3 rfl)
    have E69 := T62.ext
    replace h26 := h26.ext E69
    replace h17 := h17.ext E69
    replace h8 := h8.ext E69
    replace h36 := h36.ext E69
    refine lv (d := 6) rfl rfl (by kernel_rfl) (e_assign (v := .slice A63 t58.length c64) (by kernel_rfl)) ?_
    refine wpList_nil ?_
    refine then_n ?_
    refine wp_seq ?_
    refine wp_region_lit ?_
    refine lv (d := 7) rfl rfl (by kernel_rfl) (e_assign (v := .int .i64 0) rfl) ?_
    refine wpList_nil ?_
    refine then_n ?_
    refine wp_block ?_
    refine wp_loop_g (fun k90 a91 w70 => ∃ (f71 : Nat → Value) (H72 : Hp) (x74 : List Sy.Op) (A75 : Option Addr) (c76 : Nat) (F77 : Foot) (x79 : Int), k90 ≤ k48 ∧ a91 = mk 45 f71 ∧ f71 1 = .slice (some ⟨g2, 0, none⟩) 13 13 ∧ f71 2 = .slice (some ⟨g11, 0, none⟩) 13 13 ∧ f71 3 = .slice (some ⟨g20, 0, none⟩) 13 13 ∧ f71 4 = .slice A75 x74.length c76 ∧ f71 5 = .int .i64 x37 ∧ f71 6 = .slice A63 t58.length c64 ∧ f71 7 = .int .i64 x79 ∧ Row tStr 9 H72 (hp w70) F66 A63 c64 t58 ∧ Row tInt 3 H72 (hp w70) (or2 (is g20) no) (some ⟨g20, 0, none⟩) 13 [0, 4, 4, 1, 1, 1, 3, 0, 2, 2, 0, 1, 3] ∧ Row tInt 3 H72 (hp w70) (or2 (is g11) no) (some ⟨g11, 0, none⟩) 13 [1200, 1200, 1150, 1100, 1050, 1000, 900, 700, 500, 400, 200, 200, 200] ∧ Row tStr 9 H72 (hp w70) (or2 (is g2) no) (some ⟨g2, 0, none⟩) 13 [([58, 45, 32, 45, 45, 62] : List UInt8), ([58, 45, 32, 63, 45] : List UInt8), ([100, 121, 110, 97, 109, 105, 99] : List UInt8), ([59] : List UInt8), ([45, 62] : List UInt8), ([44] : List UInt8), ([92, 43] : List UInt8), ([61, 32, 92, 61, 32, 61, 61, 32, 92, 61, 61, 32, 64, 60, 32, 64, 61, 60, 32, 64, 62, 32, 64, 62, 61, 32, 61, 46, 46, 32, 105, 115, 32, 61, 58, 61, 32, 61, 92, 61, 32, 60, 32, 61, 60, 32, 62, 32, 62, 61] : List UInt8), ([43, 32, 45, 32, 47, 92, 32, 92, 47, 32, 120, 111, 114] : List UInt8), ([42, 32, 47, 32, 47, 47, 32, 109, 111, 100, 32, 114, 101, 109, 32, 60, 60, 32, 62, 62] : List UInt8), ([42, 42] : List UInt8), ([94] : List UInt8), ([45, 32, 43, 32, 92] : List UInt8)] ∧ Row (ro st45) 45 H72 (hp w70) F77 A75 c76 x74 ∧ Ext H61 H72 ∧ St (anyOf []) H w [F66, (or2 (is g20) no), (or2 (is g11) no), (or2 (is g2) no), F77] H72 w70 ∧ spec_DefaultOps.l1 k90 x37 t58 x74 x79 = some r) k48 ⟨_, H61, x32, A33, c34, F35, 0, (by omega), rfl, (by exact e38), (by exact e39), (by exact e40), (by exact e41), (by exact e42), (by kernel_rfl), (by kernel_rfl), h65, h26, h17, h8, h36, (Ext.refl _), S67, M⟩ ?_
    clear M
    rintro k90 a91 w70 ⟨f71, H72, x74, A75, c76, F77, x79, z89, rfl, e80, e81, e82, e83, e84, e85, e86, h65, h26, h17, h8, h78, Y73, S87, M⟩
    rcases k90 with _ | k92
    · rw [spec_DefaultOps.l1] at M
      cases M
    rw [spec_DefaultOps.l1] at M
    refine wp_seq ?_
    refine wp_seq ?_
    refine wp_region_lit ?_
    refine lv (d := 22) rfl rfl (by kernel_rfl) (e_move (v := .int .i64 x79) (by exact e86)) ?_
    refine lv (d := 23) rfl rfl (by kernel_rfl) (e_move (v := .slice A63 t58.length c64) (by exact e85)) ?_
    refine lv (d := 24) rfl rfl (by kernel_rfl) (e_len (A := A63) (n := t58.length) (c := c64) Try.underlying49 (by kernel_rfl)) ?_
    refine lv (d := 25) rfl rfl (by kernel_rfl) (e_lss (k := .i64) (a := x79) (b := (t58.length : Int)) (by kernel_rfl) (by kernel_rfl)) ?_
    refine wpList_nil ?_
    refine then_n ?_
    by_cases q93 : x79 < (t58.length : Int)
    · replace M := ifp q93 M
      refine cond_t rfl (bt q93 (by kernel_rfl)) ?_
      refine wp_skip ?_
      refine then_n ?_
      refine wp_seq ?_
      refine wp_block ?_
      refine region_mix (S := (fun (L_ : Array Bool) (w_ : World) => Ext H72 (hp w_) ∧ (∀ b_, F66 b_ → hp w_ b_ = hp w70 b_) ∧ (∀ b_, (or2 (is g20) no) b_ → hp w_ b_ = hp w70 b_) ∧ (∀ b_, (or2 (is g11) no) b_ → hp w_ b_ = hp w70 b_))) (by kernel_rfl) S87 ?_
      intro w94 S95 K96 hc97
      have o98 := h65
      have o99 := h26
      have o100 := h17
      have hs101 : (fun (L_ : Array Bool) (w_ : World) => Ext H72 (hp w_) ∧ (∀ b_, F66 b_ → hp w_ b_ = hp w70 b_) ∧ (∀ b_, (or2 (is g20) no) b_ → hp w_ b_ = hp w70 b_) ∧ (∀ b_, (or2 (is g11) no) b_ → hp w_ b_ = hp w70 b_)) (Array.replicate 17 false) w94 := ⟨S95.inv, (fun b_ h_ => K96.at 0 rfl b_ h_), (fun b_ h_ => K96.at 1 rfl b_ h_), (fun b_ h_ => K96.at 2 rfl b_ h_)⟩
      replace h65 := h65.move (K96.at 0 rfl)
      replace h26 := h26.move (K96.at 1 rfl)
      replace h17 := h17.move (K96.at 2 rfl)
      replace h8 := h8.move (K96.at 3 rfl)
      replace h78 := h78.move (K96.at 4 rfl)
      refine xv (i := 0) (d := 28) rfl rfl rfl (by kernel_rfl) (by kernel_rfl) (fun _ _ => Iff.rfl) hc97 hs101 (fun L_ w_ hc_ hu_ hs_ => e_move (v := .slice A75 x74.length c76) (by exact e83)) ?_; intro hc102 hs103
      refine xv (i := 1) (d := 29) rfl rfl rfl (by kernel_rfl) (by kernel_rfl) (fun _ _ => Iff.rfl) hc102 hs103 (fun L_ w_ hc_ hu_ hs_ => e_move (v := .slice A63 t58.length c64) (by exact e85)) ?_; intro hc104 hs105
      refine xv (i := 2) (d := 30) rfl rfl rfl (by kernel_rfl) (by kernel_rfl) (fun _ _ => Iff.rfl) hc104 hs105 (fun L_ w_ hc_ hu_ hs_ => e_move (v := .int .i64 x79) (by exact e86)) ?_; intro hc106 hs107
      obtain ⟨q108, M⟩ := chk M
      obtain ⟨b109, e111⟩ := Row.addr h65 (show (x79).toNat < t58.length by omega)
      refine xv (i := 3) (d := 31) rfl rfl rfl (by kernel_rfl) (by kernel_rfl) (fun _ _ => Iff.rfl) hc106 hs107 (fun L_ w_ hc_ hu_ hs_ => e_indexAddr (b := b109) (off := 0) (n := t58.length) (c := c64) (sz := 1) (i := x79) (k := .i64) Try.underlying49 e111 (by kernel_rfl) (by kernel_rfl) (by kernel_rfl) q108 q93) ?_; intro hc112 hs113
      refine xv (i := 4) (d := 32) rfl rfl rfl (by kernel_rfl) (by kernel_rfl) (fun _ _ => Iff.rfl) hc112 hs113 (fun L_ w_ hc_ hu_ hs_ => e_load1 (ad := ⟨b109, 0 + (x79 : Int).toNat * 1, none⟩) (v := str (t58.getD ((x79).toNat) ([] : List UInt8))) Try.underlying9 rfl (by kernel_rfl) (hpx (Row.pick (j := 0) (u := str (t58.getD ((x79).toNat) ([] : List UInt8))) (o98.move hs_.2.1) e111 (getD_some ([] : List UInt8) (show (x79).toNat < t58.length by omega)) (fun _ _ o_ => by rw [show _ = _ from o_]; rfl)))) ?_; intro hc114 hs115
      refine xv (i := 6) (d := 34) rfl rfl rfl (by kernel_rfl) (by kernel_rfl) (fun _ _ => Iff.rfl) hc114 hs115 (fun L_ w_ hc_ hu_ hs_ => e_move (v := .slice (some ⟨g11, 0, none⟩) 13 13) (by exact e81)) ?_; intro hc116 hs117
      refine xv (i := 7) (d := 35) rfl rfl rfl (by kernel_rfl) (by kernel_rfl) (fun _ _ => Iff.rfl) hc116 hs117 (fun L_ w_ hc_ hu_ hs_ => e_move (v := .int .i64 x37) (by exact e84)) ?_; intro hc118 hs119
      obtain ⟨b120, e122⟩ := Row.addr h17 (show (x37).toNat < [1200, 1200, 1150, 1100, 1050, 1000, 900, 700, 500, 400, 200, 200, 200].length by have : [1200, 1200, 1150, 1100, 1050, 1000, 900, 700, 500, 400, 200, 200, 200].length = 13 := rfl; omega)
      refine xv (i := 8) (d := 36) rfl rfl rfl (by kernel_rfl) (by kernel_rfl) (fun _ _ => Iff.rfl) hc118 hs119 (fun L_ w_ hc_ hu_ hs_ => e_indexAddr (b := b120) (off := 0) (n := 13) (c := 13) (sz := 1) (i := x37) (k := .i64) Try.underlying50 e122 (by kernel_rfl) (by kernel_rfl) (by kernel_rfl) q54 q53) ?_; intro hc123 hs124
      refine xv (i := 9) (d := 37) rfl rfl rfl (by kernel_rfl) (by kernel_rfl) (fun _ _ => Iff.rfl) hc123 hs124 (fun L_ w_ hc_ hu_ hs_ => e_load1 (ad := ⟨b120, 0 + (x37 : Int).toNat * 1, none⟩) (v := .int .i64 ([1200, 1200, 1150, 1100, 1050, 1000, 900, 700, 500, 400, 200, 200, 200].getD ((x37).toNat) (0 : Int))) Try.underlying3 rfl (by kernel_rfl) (hpx (Row.pick (j := 0) (u := .int .i64 ([1200, 1200, 1150, 1100, 1050, 1000, 900, 700, 500, 400, 200, 200, 200].getD ((x37).toNat) (0 : Int))) (o100.move hs_.2.2.2) e122 (getD_some (0 : Int) (show (x37).toNat < [1200, 1200, 1150, 1100, 1050, 1000, 900, 700, 500, 400, 200, 200, 200].length by have : [1200, 1200, 1150, 1100, 1050, 1000, 900, 700, 500, 400, 200, 200, 200].length = 13 := rfl; omega)) (fun _ _ o_ => by rw [show _ = _ from o_]; rfl)))) ?_; intro hc125 hs126
      refine xv (i := 10) (d := 38) rfl rfl rfl (by kernel_rfl) (by kernel_rfl) (fun _ _ => Iff.rfl) hc125 hs126 (fun L_ w_ hc_ hu_ hs_ => e_move (v := .slice (some ⟨g20, 0, none⟩) 13 13) (by exact e82)) ?_; intro hc127 hs128
      refine xv (i := 11) (d := 39) rfl rfl rfl (by kernel_rfl) (by kernel_rfl) (fun _ _ => Iff.rfl) hc127 hs128 (fun L_ w_ hc_ hu_ hs_ => e_move (v := .int .i64 x37) (by exact e84)) ?_; intro hc129 hs130
      obtain ⟨b131, e133⟩ := Row.addr h26 (show (x37).toNat < [0, 4, 4, 1, 1, 1, 3, 0, 2, 2, 0, 1, 3].length by have : [0, 4, 4, 1, 1, 1, 3, 0, 2, 2, 0, 1, 3].length = 13 := rfl; omega)
      refine xv (i := 12) (d := 40) rfl rfl rfl (by kernel_rfl) (by kernel_rfl) (fun _ _ => Iff.rfl) hc129 hs130 (fun L_ w_ hc_ hu_ hs_ => e_indexAddr (b := b131) (off := 0) (n := 13) (c := 13) (sz := 1) (i := x37) (k := .i64) Try.underlying50 e133 (by kernel_rfl) (by kernel_rfl) (by kernel_rfl) q54 q53) ?_; intro hc134 hs135
      refine xv (i := 13) (d := 41) rfl rfl rfl (by kernel_rfl) (by kernel_rfl) (fun _ _ => Iff.rfl) hc134 hs135 (fun L_ w_ hc_ hu_ hs_ => e_load1 (ad := ⟨b131, 0 + (x37 : Int).toNat * 1, none⟩) (v := .int .i64 ([0, 4, 4, 1, 1, 1, 3, 0, 2, 2, 0, 1, 3].getD ((x37).toNat) (0 : Int))) Try.underlying3 rfl (by kernel_rfl) (hpx (Row.pick (j := 0) (u := .int .i64 ([0, 4, 4, 1, 1, 1, 3, 0, 2, 2, 0, 1, 3].getD ((x37).toNat) (0 : Int))) (o99.move hs_.2.2.1) e133 (getD_some (0 : Int) (show (x37).toNat < [0, 4, 4, 1, 1, 1, 3, 0, 2, 2, 0, 1, 3].length by have : [0, 4, 4, 1, 1, 1, 3, 0, 2, 2, 0, 1, 3].length = 13 := rfl; omega)) (fun _ _ o_ => by rw [show _ = _ from o_]; rfl)))) ?_; intro hc136 hs137
      obtain ⟨q138, M⟩ := chk M
      refine xone (i := 5) (by kernel_rfl) hc136 ?_
      refine ye (i := 5) (d := 33) rfl rfl (wanted_none rfl _) (by kernel_rfl) (by kernel_rfl) (e_conv_sb (xs := (t58.getD ((x79).toNat) ([] : List UInt8))) S95 Try.underlying9 Try.underlying32 Try.underlying5 (by kernel_rfl) q138) ?_
      rintro hc146 _ w139 ⟨A140, c141, F142, rfl, h143, S144, K145⟩
      replace h65 := h65.move (K145.at 0 rfl)
      replace h26 := h26.move (K145.at 1 rfl)
      replace h17 := h17.move (K145.at 2 rfl)
      replace h8 := h8.move (K145.at 3 rfl)
      replace h78 := h78.move (K145.at 4 rfl)
      refine ⟨⟨S144.inv, (fun b_ h_ => (K145.at 0 rfl b_ h_).trans (hs137.2.1 b_ h_)), (fun b_ h_ => (K145.at 1 rfl b_ h_).trans (hs137.2.2.1 b_ h_)), (fun b_ h_ => (K145.at 2 rfl b_ h_).trans (hs137.2.2.2 b_ h_))⟩, fun hs147 => ?_⟩
      refine xone (i := 14) (by kernel_rfl) hc146 ?_
      refine yo (i := 14) (d := 42) rfl rfl (wanted_none rfl _) (by kernel_rfl) (by kernel_rfl) (fun _ _ => Iff.rfl) hs147 (show _ = Result.ok (Next.value (.agg #[.slice A140 ((t58.getD ((x79).toNat) ([] : List UInt8)).length) c141, .int .i64 ([1200, 1200, 1150, 1100, 1050, 1000, 900, 700, 500, 400, 200, 200, 200].getD ((x37).toNat) (0 : Int)), .int .i64 ([0, 4, 4, 1, 1, 1, 3, 0, 2, 2, 0, 1, 3].getD ((x37).toNat) (0 : Int))])) w139 from by kernel_rfl) ?_; intro hc148 hs149
      have l150 := h78.le
      have S151 := S144.pull (F := F77) (Fr := [F142, F66, (or2 (is g20) no), (or2 (is g11) no), (or2 (is g2) no)]) 5 rfl rfl
      obtain ⟨H152, S153, E154, h155, z156⟩ := S151.frzRow h78
      replace h143 := h143.ext E154
      replace h65 := h65.ext E154
      replace h26 := h26.ext E154
      replace h17 := h17.ext E154
      replace h8 := h8.ext E154
      replace h155 := h155.unro
      have l157 := h143.le
      obtain ⟨H158, S159, E160, h161, z162⟩ := S153.frzRow h143
      replace h65 := h65.ext E160
      replace h26 := h26.ext E160
      replace h17 := h17.ext E160
      replace h8 := h8.ext E160
      obtain ⟨t163, u164, M⟩ := bnd M
      refine xone (i := 15) (by kernel_rfl) hc148 ?_
      refine yc (i := 15) rfl (wanted_none rfl _) (by kernel_rfl) (by kernel_rfl) (e_call (l := [.tmp 28, .tmp 42]) (vs := [.slice A75 x74.length c76, .agg #[.slice A140 (t58.getD ((x79).toNat) ([] : List UInt8)).length c141, .int .i64 ([1200, 1200, 1150, 1100, 1050, 1000, 900, 700, 500, 400, 200, 200, 200].getD ((x37).toNat) (0 : Int)), .int .i64 ([0, 4, 4, 1, 1, 1, 3, 0, 2, 2, 0, 1, 3].getD ((x37).toNat) (0 : Int))]]) Try.func30 (by kernel_rfl) rfl (by kernel_rfl) rfl) (spec_l3put.calls k92 w139 H158 x74 A75 c76 (⟨(t58.getD ((x79).toNat) ([] : List UInt8)), ([1200, 1200, 1150, 1100, 1050, 1000, 900, 700, 500, 400, 200, 200, 200].getD ((x37).toNat) (0 : Int)), ([0, 4, 4, 1, 1, 1, 3, 0, 2, 2, 0, 1, 3].getD ((x37).toNat) (0 : Int))⟩ : Sy.Op) A140 c141 (h155.ext E160) l150 h161 l157 (St.own' (Fa := []) (Fr := [F66, (or2 (is g20) no), (or2 (is g11) no), (or2 (is g2) no)]) S159) t163 u164) ?_
      rintro hc172 _ w165 ⟨A168, c169, F171, H166, rfl, h170, T167⟩
      refine ⟨_, rfl, ?_⟩
      obtain ⟨S173, K174⟩ := St.call (Fa := []) (Fr := [F66, (or2 (is g20) no), (or2 (is g11) no), (or2 (is g2) no)]) S159 T167
      replace h65 := h65.move (K174.at 0 rfl)
      replace h26 := h26.move (K174.at 1 rfl)
      replace h17 := h17.move (K174.at 2 rfl)
      replace h8 := h8.move (K174.at 3 rfl)
      have E175 := T167.ext
      replace h65 := h65.ext E175
      replace h26 := h26.ext E175
      replace h17 := h17.ext E175
      replace h8 := h8.ext E175
      refine ⟨⟨(Ext.trans ((E154.trans E160).trans E175) S173.inv), (fun b_ h_ => (K174.at 0 rfl b_ h_).trans (hs149.2.1 b_ h_)), (fun b_ h_ => (K174.at 1 rfl b_ h_).trans (hs149.2.2.1 b_ h_)), (fun b_ h_ => (K174.at 2 rfl b_ h_).trans (hs149.2.2.2 b_ h_))⟩, fun hs176 => ?_⟩
      refine xone (i := 16) (by kernel_rfl) hc172 ?_
      refine yo (i := 16) (d := 4) rfl rfl (wanted_none rfl _) (by kernel_rfl) (by kernel_rfl) (fun _ _ => Iff.rfl) hs176 (e_assign (v := .slice A168 t163.length c169) (by kernel_rfl)) ?_; intro hc177 hs178
      refine xn (by kernel_rfl) ?_ _
      refine inb_n ?_
      refine then_n ?_
      refine wp_region_lit ?_
      refine lv (d := 26) rfl rfl (by kernel_rfl) (e_move (v := .int .i64 x79) (by exact e86)) ?_
      refine lv (d := 27) rfl rfl (by kernel_rfl) (e_add (k := .i64) (a := x79) (b := 1) (by kernel_rfl) rfl) ?_
      refine lv (d := 7) rfl rfl (by kernel_rfl) (e_assign (v := .int .i64 (IntKind.i64.wrap (x79 + 1))) (by kernel_rfl)) ?_
      refine wpList_nil ?_
      refine then_n ?_
      have S179 := S173.pull (F := (or2 (is g2) no)) (Fr := [F171, F66, (or2 (is g20) no), (or2 (is g11) no)]) 4 rfl rfl
      have S180 := S179.pull (F := (or2 (is g11) no)) (Fr := [(or2 (is g2) no), F171, F66, (or2 (is g20) no)]) 4 rfl rfl
      have S181 := S180.pull (F := (or2 (is g20) no)) (Fr := [(or2 (is g11) no), (or2 (is g2) no), F171, F66]) 4 rfl rfl
      have S182 := S181.pull (F := F66) (Fr := [(or2 (is g20) no), (or2 (is g11) no), (or2 (is g2) no), F171]) 4 rfl rfl
      exact ⟨k92, (by omega), _, H166, t163, A168, c169, F171, (IntKind.i64.wrap (x79 + 1)), (by omega), rfl, (by exact e80), (by exact e81), (by exact e82), (by kernel_rfl), (by exact e84), (by exact e85), (by kernel_rfl), h65, h26, h17, h8, h170, (((Y73.trans E154).trans E160).trans E175), S182, M⟩
    replace M := ifn q93 M
    refine cond_f rfl (bf q93 (by kernel_rfl)) ?_
    refine wp_exit ?_
    refine then_e ?_
    refine then_e ?_
    refine inb_hit ?_
    refine inb_n ?_
    refine then_n ?_
    refine wp_region_lit ?_
    refine lv (d := 15) rfl rfl (by kernel_rfl) (e_move (v := .int .i64 x37) (by exact e84)) ?_
    refine lv (d := 16) rfl rfl (by kernel_rfl) (e_add (k := .i64) (a := x37) (b := 1) (by kernel_rfl) rfl) ?_
    refine lv (d := 5) rfl rfl (by kernel_rfl) (e_assign (v := .int .i64 (IntKind.i64.wrap (x37 + 1))) (by kernel_rfl)) ?_
    refine wpList_nil ?_
    refine then_n ?_
    have S183 := S87.pull (F := F77) (Fr := [F66, (or2 (is g20) no), (or2 (is g11) no), (or2 (is g2) no)]) 4 rfl rfl
    have S184 := S183.pull (F := (or2 (is g2) no)) (Fr := [F77, F66, (or2 (is g20) no), (or2 (is g11) no)]) 4 rfl rfl
    have S185 := S184.pull (F := (or2 (is g11) no)) (Fr := [(or2 (is g2) no), F77, F66, (or2 (is g20) no)]) 4 rfl rfl
    have S186 := S185.pull (F := (or2 (is g20) no)) (Fr := [(or2 (is g11) no), (or2 (is g2) no), F77, F66]) 4 rfl rfl
    have S187 := St.first (Fa := [(or2 (is g20) no), (or2 (is g11) no), (or2 (is g2) no), F77]) (Fr := [F66]) S186
    exact ⟨k92, (by omega), _, H72, x74, A75, c76, F77, (IntKind.i64.wrap (x37 + 1)), rfl, (by exact e80), (by exact e81), (by exact e82), (by exact e83), (by kernel_rfl), h26, h17, h8, h78, ((Y31.trans E69).trans Y73), S187, M⟩
  replace M := ifn q53 M
  refine cond_f rfl (bf q53 (by kernel_rfl)) ?_
  refine wp_exit ?_
  refine then_e ?_
  refine then_e ?_
  refine inb_hit ?_
  refine then_n ?_
  refine wp_seq ?_
  refine wp_region_lit ?_
  refine lv (d := 44) rfl rfl (by kernel_rfl) (e_move (v := .slice A33 x32.length c34) (by exact e41)) ?_
  refine lv (d := 0) rfl rfl (by kernel_rfl) (e_assign (v := .slice A33 x32.length c34) (by kernel_rfl)) ?_
  refine wpList_nil ?_
  refine then_n ?_
  refine wp_ret ?_
  obtain rfl := Option.some.inj M
  have S188 := S43.pull (F := F35) (Fr := [(or2 (is g20) no), (or2 (is g11) no), (or2 (is g2) no)]) 3 rfl rfl
  have S189 := St.first (Fa := [F35]) (Fr := [(or2 (is g20) no), (or2 (is g11) no), (or2 (is g2) no)]) S188
  exact ret1 rfl rfl  (show _ = .slice A33 x32.length c34 from (by kernel_rfl)) ⟨A33, c34, F35, H30, rfl, h36, S189⟩

/-! impl_DefaultOps_c1 -/
def impl_DefaultOps_c1.l0 : Nat → Int → Int → (List (List UInt8)) → Int → (List Sy.Op) → Option (List Sy.Op)
  | 0, _, _, _, _, _ => none
  | k34 + 1, x1, x2, x3, x17, x18 => (if x17 < (x3.length : Int) then (if 0 ≤ x17 then (if (x3.getD ((x17).toNat) ([] : List UInt8)).length ≤ 9223372036854775807 then (if x18.length + 1 ≤ 3518437208883 then (impl_DefaultOps_c1.l0 k34 x1 x2 x3 (IntKind.i64.wrap (x17 + 1)) (x18 ++ [(⟨(x3.getD ((x17).toNat) ([] : List UInt8)), x1, x2⟩ : Sy.Op)])) else none) else none) else none) else some x18)
def impl_DefaultOps_c1.f (k : Nat) (x1 : Int) (x2 : Int) (x3 : List (List UInt8)) (x8 : List Sy.Op) : Option (List Sy.Op) := (impl_DefaultOps_c1.l0 k x1 x2 x3 0 x8)
theorem impl_DefaultOps_c1.calls (k : Nat) (w : World) (H : Hp) (x1 : Int) (x2 : Int) (x3 : List (List UInt8)) (A4 : Option Addr) (c5 : Nat) (x8 : List Sy.Op) (g9 : Nat) (A11 : Option Addr) (c12 : Nat) (F14 : Foot) (h6 : Rd tStr H A4 x3) (l7 : x3.length ≤ c5) (h13 : Row st45 45 H (hp w) F14 A11 c12 x8) (b10 : w.heap[g9]? = some (.cells #[.slice A11 x8.length c12] 25 (0, 0))) (S : Own [F14, (is g9)] H w) (r : List Sy.Op) (M : impl_DefaultOps_c1.f k x1 x2 x3 x8 = some r) :
    Calls Try.prog 31 #[.int .i64 x1, .int .i64 x2, .slice A4 x3.length c5, .pointer (some ⟨g9, 0, none⟩)] w (fun e e_w => ∃ (A_1 : Option Addr) (c_1 : Nat) (F_1 : Foot) (H_ : Hp), e = .returned (.tuple #[]) ∧ Row st45 45 H_ (hp e_w) F_1 A_1 c_1 r ∧ e_w.heap[g9]? = some (.cells #[.slice A_1 r.length c_1] 25 (0, 0)) ∧ St (anyOf [F14, (is g9)]) H w [(is g9), F_1] H_ e_w) := by
  rw [impl_DefaultOps_c1.f] at M
  refine enter (l := [.int .i64 x1, .int .i64 x2, .slice A4 x3.length c5, .pointer (some ⟨g9, 0, none⟩)]) 24 Try.func31 rfl rfl rfl ?_
  have S0_ := S.st
  refine wp_seq ?_
  refine wp_region_lit ?_
  refine lv (d := 9) rfl rfl (by kernel_rfl) (e_move (v := .slice A4 x3.length c5) (by kernel_rfl)) ?_
  refine lv (d := 10) rfl rfl (by kernel_rfl) (e_len (A := A4) (n := x3.length) (c := c5) Try.underlying49 (by kernel_rfl)) ?_
  refine lv (d := 11) rfl rfl (by kernel_rfl) (e_move (v := .int .i64 0) rfl) ?_
  refine wpList_nil ?_
  refine then_n ?_
  refine wp_block ?_
  have S35 := S0_.pull (F := (is g9)) (Fr := [F14]) 1 rfl rfl
  refine wp_loop_g (fun k32 a33 w15 => ∃ (f16 : Nat → Value) (x17 : Int) (x18 : List Sy.Op) (A19 : Option Addr) (c20 : Nat) (F21 : Foot), a33 = mk 24 f16 ∧ f16 0 = .int .i64 x1 ∧ f16 1 = .int .i64 x2 ∧ f16 3 = .pointer (some ⟨g9, 0, none⟩) ∧ f16 9 = .slice A4 x3.length c5 ∧ f16 10 = .int .i64 (x3.length : Int) ∧ f16 11 = .int .i64 x17 ∧ w15.heap[g9]? = some (.cells #[.slice A19 x18.length c20] 25 (0, 0)) ∧ Row st45 45 H (hp w15) F21 A19 c20 x18 ∧ St (anyOf [F14, (is g9)]) H w [(is g9), F21] H w15 ∧ impl_DefaultOps_c1.l0 k32 x1 x2 x3 x17 x18 = some r) k ⟨_, 0, x8, A11, c12, F14, rfl, (by kernel_rfl), (by kernel_rfl), (by kernel_rfl), (by kernel_rfl), (by kernel_rfl), (by kernel_rfl), b10, h13, S35, M⟩ ?_
  clear M
  rintro k32 a33 w15 ⟨f16, x17, x18, A19, c20, F21, rfl, e23, e24, e25, e26, e27, e28, b10, h22, S29, M⟩
  rcases k32 with _ | k34
  · rw [impl_DefaultOps_c1.l0] at M
    cases M
  rw [impl_DefaultOps_c1.l0] at M
  refine wp_seq ?_
  refine wp_region_lit ?_
  refine lv (d := 12) rfl rfl (by kernel_rfl) (e_lss (k := .i64) (a := x17) (b := (x3.length : Int)) (by exact e28) (by exact e27)) ?_
  refine wpList_nil ?_
  refine then_n ?_
  refine wp_seq ?_
  by_cases q36 : x17 < (x3.length : Int)
  · replace M := ifp q36 M
    refine cond_t rfl (bt q36 (by kernel_rfl)) ?_
    refine wp_skip ?_
    refine then_n ?_
    refine wp_seq ?_
    refine wp_block ?_
    refine wp_seq ?_
    refine wp_region_lit ?_
    obtain ⟨q37, M⟩ := chk M
    obtain ⟨b38, o39, e40⟩ := Rd.addr h6 (show (x17).toNat < x3.length by omega)
    obtain ⟨y41, r42, k43⟩ := Rd.at h6 e40 (getD_some ([] : List UInt8) (show (x17).toNat < x3.length by omega))
    obtain rfl := r42
    refine lv (d := 13) rfl rfl (by kernel_rfl) (e_indexAddr (b := b38) (off := o39) (n := x3.length) (c := c5) (sz := 1) (i := x17) (k := .i64) Try.underlying49 e40 (by kernel_rfl) (by exact e26) (by exact e28) q37 q36) ?_
    refine lv (d := 14) rfl rfl (by kernel_rfl) (e_load1 (ad := ⟨b38, o39 + (x17 : Int).toNat * 1, none⟩) (v := str (x3.getD ((x17).toNat) ([] : List UInt8))) Try.underlying9 rfl (by kernel_rfl) (hpx (S29.inv.cell (k43 0 _ rfl)))) ?_
    refine lv (d := 8) rfl rfl (by kernel_rfl) (e_assign (v := str (x3.getD ((x17).toNat) ([] : List UInt8))) (by kernel_rfl)) ?_
    refine wpList_nil ?_
    refine then_n ?_
    refine wp_region_lit ?_
    refine lv (d := 15) rfl rfl (by kernel_rfl) (e_load1 (ad := ⟨g9, 0, none⟩) (v := .slice A19 x18.length c20) Try.underlying25 rfl (by exact e25) (blk_cell b10 rfl)) ?_
    refine lv (d := 16) rfl rfl (by kernel_rfl) (e_move (v := str (x3.getD ((x17).toNat) ([] : List UInt8))) (by kernel_rfl)) ?_
    obtain ⟨q44, M⟩ := chk M
    refine lve (d := 17) rfl rfl (by kernel_rfl) (e_conv_sb (xs := (x3.getD ((x17).toNat) ([] : List UInt8))) S29 Try.underlying9 Try.underlying32 Try.underlying5 (by kernel_rfl) q44) ?_
    rintro _ w45 ⟨A46, c47, F48, rfl, h49, S50, K51⟩
    replace b10 := K51.blk 0 rfl b10
    replace h22 := h22.move (K51.at 1 rfl)
    refine lv (d := 18) rfl rfl (by kernel_rfl) (e_move (v := .int .i64 x1) (by exact e23)) ?_
    refine lv (d := 19) rfl rfl (by kernel_rfl) (e_move (v := .int .i64 x2) (by exact e24)) ?_
    refine lv (d := 20) rfl rfl (by kernel_rfl) (show _ = Result.ok (Next.value (.agg #[.slice A46 ((x3.getD ((x17).toNat) ([] : List UInt8)).length) c47, .int .i64 x1, .int .i64 x2])) w45 from by kernel_rfl) ?_
    refine lve (d := 21) rfl rfl (by kernel_rfl) (new_blk (v := fun g_ => .slice (some ⟨g_, 0, none⟩) 1 1) (cs := #[.slice A46 ((x3.getD ((x17).toNat) ([] : List UInt8)).length) c47, .int .i64 x1, .int .i64 x2]) (t := 45) S50 (by kernel_rfl)) ?_
    rintro _ w52 ⟨g53, rfl, b54, S55, K56⟩
    replace h49 := h49.move (K56.at 0 rfl)
    replace b10 := K56.blk 1 rfl b10
    replace h22 := h22.move (K56.at 2 rfl)
    obtain ⟨q57, M⟩ := chk M
    have S58 := S55.pull (F := F48) (Fr := [(is g53), (is g9), F21]) 1 rfl rfl
    have S59 := S58.pull (F := F21) (Fr := [F48, (is g53), (is g9)]) 3 rfl rfl
    refine lve (d := 22) rfl rfl (by kernel_rfl) (e_append (d := st45) (n := x18.length) (xs := x18) (cap := c20) (A := A19) (ys := [(⟨(x3.getD ((x17).toNat) ([] : List UInt8)), x1, x2⟩ : Sy.Op)]) (A2 := (some ⟨g53, 0, none⟩)) (c2 := 1) (z := .agg #[.slice none 0 0, .int .i64 0, .int .i64 0]) (bytes := 40) S59 Try.underlying25 (by kernel_rfl) rfl (by decide) (by kernel_rfl) rfl (by kernel_rfl) h22 (elsO_one1 (st45_mkO (x := (⟨(x3.getD ((x17).toNat) ([] : List UInt8)), x1, x2⟩ : Sy.Op)) h49)) (.inr (blk_news b54 rfl)) (show (x18.length + [(⟨(x3.getD ((x17).toNat) ([] : List UInt8)), x1, x2⟩ : Sy.Op)].length) * 40 ≤ _ by first | omega | (simp only [List.length_cons, List.length_nil]; omega)) (by decide)) ?_
    rintro _ w60 ⟨A61, c62, F63, rfl, h64, S65, K66⟩
    replace b54 := K66.blk 0 rfl b54
    replace b10 := K66.blk 1 rfl b10
    have S67 := S65.pull (F := (is g9)) (Fr := [F63, (is g53)]) 2 rfl rfl
    refine lse rfl rfl (by kernel_rfl) (e_store (g := g9) (o := 0) (v := .slice A61 ((x18 ++ [(⟨(x3.getD ((x17).toNat) ([] : List UInt8)), x1, x2⟩ : Sy.Op)]).length) c62) (cur' := #[.slice A61 ((x18 ++ [(⟨(x3.getD ((x17).toNat) ([] : List UInt8)), x1, x2⟩ : Sy.Op)]).length) c62]) (vs := [.slice A61 ((x18 ++ [(⟨(x3.getD ((x17).toNat) ([] : List UInt8)), x1, x2⟩ : Sy.Op)]).length) c62]) S67 (by exact e25) (by kernel_rfl) rfl (by kernel_rfl) b10 (Nat.le_of_ble_eq_true rfl) (List.forall_mem_cons.2 ⟨rfl, (fun _ h_ => by cases h_)⟩) rfl) ?_
    rintro w68 ⟨b69, S70, K71⟩
    replace h64 := h64.move (K71.at 0 rfl)
    replace b54 := K71.blk 1 rfl b54
    clear b10
    refine wpList_nil ?_
    refine inb_n ?_
    refine then_n ?_
    refine wp_region_lit ?_
    refine lv (d := 23) rfl rfl (by kernel_rfl) (e_add (k := .i64) (a := x17) (b := 1) (by exact e28) rfl) ?_
    refine lv (d := 11) rfl rfl (by kernel_rfl) (e_move (v := .int .i64 (IntKind.i64.wrap (x17 + 1))) (by kernel_rfl)) ?_
    refine wpList_nil ?_
    refine then_n ?_
    have S72 := S70.pull (F := F63) (Fr := [(is g9), (is g53)]) 1 rfl rfl
    have S73 := S72.pull (F := (is g9)) (Fr := [F63, (is g53)]) 1 rfl rfl
    have S74 := St.first (Fa := [(is g9), F63]) (Fr := [(is g53)]) S73
    exact ⟨k34, (by omega), _, (IntKind.i64.wrap (x17 + 1)), (x18 ++ [(⟨(x3.getD ((x17).toNat) ([] : List UInt8)), x1, x2⟩ : Sy.Op)]), A61, c62, F63, rfl, (by exact e23), (by exact e24), (by exact e25), (by exact e26), (by exact e27), (by kernel_rfl), b69, h64, S74, M⟩
  replace M := ifn q36 M
  refine cond_f rfl (bf q36 (by kernel_rfl)) ?_
  refine wp_exit ?_
  refine then_e ?_
  refine then_e ?_
  refine inb_hit ?_
  obtain rfl := Option.some.inj M
  exact end0 rfl ⟨A19, c20, F21, H, rfl, h22, b10, S29⟩

/-! impl_DefaultOps -/
def impl_DefaultOps.f (k : Nat) : Option (List Sy.Op) := ((impl_DefaultOps_c1.f k 1200 0 [([58, 45] : List UInt8), ([45, 45, 62] : List UInt8)] []).bind fun t25 => ((impl_DefaultOps_c1.f k 1200 4 [([58, 45] : List UInt8), ([63, 45] : List UInt8)] t25).bind fun t54 => ((impl_DefaultOps_c1.f k 1150 4 [([100, 121, 110, 97, 109, 105, 99] : List UInt8)] t54).bind fun t83 => ((impl_DefaultOps_c1.f k 1100 1 [([59] : List UInt8)] t83).bind fun t112 => ((impl_DefaultOps_c1.f k 1050 1 [([45, 62] : List UInt8)] t112).bind fun t141 => ((impl_DefaultOps_c1.f k 1000 1 [([44] : List UInt8)] t141).bind fun t170 => ((impl_DefaultOps_c1.f k 900 3 [([92, 43] : List UInt8)] t170).bind fun t199 => ((impl_DefaultOps_c1.f k 700 0 [([61] : List UInt8), ([92, 61] : List UInt8), ([61, 61] : List UInt8), ([92, 61, 61] : List UInt8), ([64, 60] : List UInt8), ([64, 61, 60] : List UInt8), ([64, 62] : List UInt8), ([64, 62, 61] : List UInt8), ([61, 46, 46] : List UInt8), ([105, 115] : List UInt8), ([61, 58, 61] : List UInt8), ([61, 92, 61] : List UInt8), ([60] : List UInt8), ([61, 60] : List UInt8), ([62] : List UInt8), ([62, 61] : List UInt8)] t199).bind fun t228 => ((impl_DefaultOps_c1.f k 500 2 [([43] : List UInt8), ([45] : List UInt8), ([47, 92] : List UInt8), ([92, 47] : List UInt8), ([120, 111, 114] : List UInt8)] t228).bind fun t257 => ((impl_DefaultOps_c1.f k 400 2 [([42] : List UInt8), ([47] : List UInt8), ([47, 47] : List UInt8), ([109, 111, 100] : List UInt8), ([114, 101, 109] : List UInt8), ([60, 60] : List UInt8), ([62, 62] : List UInt8)] t257).bind fun t286 => ((impl_DefaultOps_c1.f k 200 0 [([42, 42] : List UInt8)] t286).bind fun t315 => ((impl_DefaultOps_c1.f k 200 1 [([94] : List UInt8)] t315).bind fun t344 => ((impl_DefaultOps_c1.f k 200 3 [([45] : List UInt8), ([43] : List UInt8), ([92] : List UInt8)] t344).bind fun t373 => ((impl_sortOps.f k t373).bind fun t387 => some t387))))))))))))))
theorem impl_DefaultOps.calls (k : Nat) (w : World) (H : Hp) (S : Own [] H w) (r : List Sy.Op) (M : impl_DefaultOps.f k = some r) :
    Calls Try.prog 13 #[] w (fun e e_w => ∃ (A_1 : Option Addr) (c_1 : Nat) (F_1 : Foot) (H_ : Hp), e = .returned (.slice A_1 r.length c_1) ∧ Row st45 45 H_ (hp e_w) F_1 A_1 c_1 r ∧ St (anyOf []) H w [F_1] H_ e_w) := by
  rw [impl_DefaultOps.f] at M
  refine enter (l := []) 46 Try.func13 rfl rfl rfl ?_
  have S0_ := S.st
  refine wp_seq ?_
  refine wp_region_lit ?_
  refine lv (d := 0) rfl rfl (by kernel_rfl) (e_assign (v := .slice none 0 0) rfl) ?_
  refine wpList_nil ?_
  refine then_n ?_
  refine wp_seq ?_
  refine wp_region_lit ?_
  refine lve (d := 1) rfl rfl (by kernel_rfl) (new_blk (v := fun g_ => .pointer (some ⟨g_, 0, none⟩)) (cs := #[.slice none 0 0]) (t := 25) S0_ (by kernel_rfl)) ?_
  rintro _ w1 ⟨g2, rfl, b3, S4, K5⟩
  refine wpList_nil ?_
  refine then_n ?_
  refine wp_seq ?_
  refine wp_region_lit ?_
  refine lv (d := 3) rfl rfl (by kernel_rfl) (e_makeFunc (cs := [.tmp 1]) (vs := [.pointer (some ⟨g2, 0, none⟩)]) (by kernel_rfl)) ?_
  refine lv (d := 2) rfl rfl (by kernel_rfl) (e_assign (v := .func (.func 31) #[] #[.pointer (some ⟨g2, 0, none⟩)]) (by kernel_rfl)) ?_
  refine wpList_nil ?_
  refine then_n ?_
  refine wp_seq ?_
  refine wp_region_lit ?_
  refine lv (d := 4) rfl rfl (by kernel_rfl) (e_move (v := .func (.func 31) #[] #[.pointer (some ⟨g2, 0, none⟩)]) (by kernel_rfl)) ?_
  refine lve (d := 5) rfl rfl (by kernel_rfl) (new_blk (v := fun g_ => .slice (some ⟨g_, 0, none⟩) 2 2) (cs := #[str ([58, 45] : List UInt8), str ([45, 45, 62] : List UInt8)]) (t := 9) S4 (by kernel_rfl)) ?_
  rintro _ w6 ⟨g7, rfl, b9, S10, K11⟩
  replace b3 := K11.blk 0 rfl b3
  have S12 := S10.unit
  have S13 := S12.pull (F := (is g7)) (Fr := [no, (is g2)]) 1 rfl rfl
  obtain ⟨h14, S15⟩ := row_lit (d := tStr) (xs := [([58, 45] : List UInt8), ([45, 45, 62] : List UInt8)]) S13 b9 rfl (elsO_no (d := tStr) rfl (elsO_no (d := tStr) rfl (elsO_nil _ _ _ no))) (Nat.le_of_ble_eq_true rfl)
  have l16 := h14.le
  obtain ⟨H17, S18, E19, h20, z21⟩ := S15.frzRow h14
  have S22 := S18.unit
  have S23 := S22.pull (F := (is g2)) (Fr := [no]) 1 rfl rfl
  have S24 := S23.pull (F := no) (Fr := [(is g2)]) 1 rfl rfl
  obtain ⟨t25, u26, M⟩ := bnd M
  refine lcall (d := 6) rfl rfl (by kernel_rfl) (e_callv (l := [.const (.int .i64 1200), .const (.int .i64 0), .tmp 5]) (vs := [.int .i64 1200, .int .i64 0, .slice (some ⟨g7, 0, none⟩) 2 2]) (cs := [.pointer (some ⟨g2, 0, none⟩)]) Try.func31 (by kernel_rfl) rfl (by kernel_rfl) (by kernel_rfl)) (impl_DefaultOps_c1.calls k w6 H17 1200 0 [([58, 45] : List UInt8), ([45, 45, 62] : List UInt8)] (some ⟨g7, 0, none⟩) 2 [] g2 none 0 no h20 l16 (Row.nil _ _ _ _ no) b3 (St.own' (Fa := [no, (is g2)]) (Fr := []) S24) t25 u26) ?_
  rintro _ w27 ⟨A30, c31, F33, H28, rfl, h32, b34, T29⟩
  refine ⟨_, rfl, ?_⟩
  obtain ⟨S35, K36⟩ := St.call (Fa := [no, (is g2)]) (Fr := []) S24 T29
  have E37 := T29.ext
  refine wpList_nil ?_
  refine then_n ?_
  refine wp_seq ?_
  refine wp_region_lit ?_
  refine lv (d := 7) rfl rfl (by kernel_rfl) (e_move (v := .func (.func 31) #[] #[.pointer (some ⟨g2, 0, none⟩)]) (by kernel_rfl)) ?_
  refine lve (d := 8) rfl rfl (by kernel_rfl) (new_blk (v := fun g_ => .slice (some ⟨g_, 0, none⟩) 2 2) (cs := #[str ([58, 45] : List UInt8), str ([63, 45] : List UInt8)]) (t := 9) S35 (by kernel_rfl)) ?_
  rintro _ w38 ⟨g39, rfl, b40, S41, K42⟩
  replace b34 := K42.blk 0 rfl b34
  replace h32 := h32.move (K42.at 1 rfl)
  have S43 := S41.unit
  have S44 := S43.pull (F := (is g39)) (Fr := [no, (is g2), F33]) 1 rfl rfl
  obtain ⟨h45, S46⟩ := row_lit (d := tStr) (xs := [([58, 45] : List UInt8), ([63, 45] : List UInt8)]) S44 b40 rfl (elsO_no (d := tStr) rfl (elsO_no (d := tStr) rfl (elsO_nil _ _ _ no))) (Nat.le_of_ble_eq_true rfl)
  have l47 := h45.le
  obtain ⟨H48, S49, E50, h51, z52⟩ := S46.frzRow h45
  replace h32 := h32.ext E50
  have S53 := S49.pull (F := F33) (Fr := [(is g2)]) 1 rfl rfl
  obtain ⟨t54, u55, M⟩ := bnd M
  refine lcall (d := 9) rfl rfl (by kernel_rfl) (e_callv (l := [.const (.int .i64 1200), .const (.int .i64 4), .tmp 8]) (vs := [.int .i64 1200, .int .i64 4, .slice (some ⟨g39, 0, none⟩) 2 2]) (cs := [.pointer (some ⟨g2, 0, none⟩)]) Try.func31 (by kernel_rfl) rfl (by kernel_rfl) (by kernel_rfl)) (impl_DefaultOps_c1.calls k w38 H48 1200 4 [([58, 45] : List UInt8), ([63, 45] : List UInt8)] (some ⟨g39, 0, none⟩) 2 t25 g2 A30 c31 F33 h51 l47 h32 b34 (St.own' (Fa := [F33, (is g2)]) (Fr := []) S53) t54 u55) ?_
  rintro _ w56 ⟨A59, c60, F62, H57, rfl, h61, b63, T58⟩
  refine ⟨_, rfl, ?_⟩
  obtain ⟨S64, K65⟩ := St.call (Fa := [F33, (is g2)]) (Fr := []) S53 T58
  have E66 := T58.ext
  refine wpList_nil ?_
  refine then_n ?_
  refine wp_seq ?_
  refine wp_region_lit ?_
  refine lv (d := 10) rfl rfl (by kernel_rfl) (e_move (v := .func (.func 31) #[] #[.pointer (some ⟨g2, 0, none⟩)]) (by kernel_rfl)) ?_
  refine lve (d := 11) rfl rfl (by kernel_rfl) (new_blk (v := fun g_ => .slice (some ⟨g_, 0, none⟩) 1 1) (cs := #[str ([100, 121, 110, 97, 109, 105, 99] : List UInt8)]) (t := 9) S64 (by kernel_rfl)) ?_
  rintro _ w67 ⟨g68, rfl, b69, S70, K71⟩
  replace b63 := K71.blk 0 rfl b63
  replace h61 := h61.move (K71.at 1 rfl)
  have S72 := S70.unit
  have S73 := S72.pull (F := (is g68)) (Fr := [no, (is g2), F62]) 1 rfl rfl
  obtain ⟨h74, S75⟩ := row_lit (d := tStr) (xs := [([100, 121, 110, 97, 109, 105, 99] : List UInt8)]) S73 b69 rfl (elsO_one1 rfl) (Nat.le_of_ble_eq_true rfl)
  have l76 := h74.le
  obtain ⟨H77, S78, E79, h80, z81⟩ := S75.frzRow h74
  replace h61 := h61.ext E79
  have S82 := S78.pull (F := F62) (Fr := [(is g2)]) 1 rfl rfl
  obtain ⟨t83, u84, M⟩ := bnd M
  refine lcall (d := 12) rfl rfl (by kernel_rfl) (e_callv (l := [.const (.int .i64 1150), .const (.int .i64 4), .tmp 11]) (vs := [.int .i64 1150, .int .i64 4, .slice (some ⟨g68, 0, none⟩) 1 1]) (cs := [.pointer (some ⟨g2, 0, none⟩)]) Try.func31 (by kernel_rfl) rfl (by kernel_rfl) (by kernel_rfl)) (impl_DefaultOps_c1.calls k w67 H77 1150 4 [([100, 121, 110, 97, 109, 105, 99] : List UInt8)] (some ⟨g68, 0, none⟩) 1 t54 g2 A59 c60 F62 h80 l76 h61 b63 (St.own' (Fa := [F62, (is g2)]) (Fr := []) S82) t83 u84) ?_
  rintro _ w85 ⟨A88, c89, F91, H86, rfl, h90, b92, T87⟩
  refine ⟨_, rfl, ?_⟩
  obtain ⟨S93, K94⟩ := St.call (Fa := [F62, (is g2)]) (Fr := []) S82 T87
  have E95 := T87.ext
  refine wpList_nil ?_
  refine then_n ?_
  refine wp_seq ?_
  refine wp_region_lit ?_
  refine lv (d := 13) rfl rfl (by kernel_rfl) (e_move (v := .func (.func 31) #[] #[.pointer (some ⟨g2, 0, none⟩)]) (by kernel_rfl)) ?_
  refine lve (d := 14) rfl rfl (by kernel_rfl) (new_blk (v := fun g_ => .slice (some ⟨g_, 0, none⟩) 1 1) (cs := #[str ([59] : List UInt8)]) (t := 9) S93 (by kernel_rfl)) ?_
  rintro _ w96 ⟨g97, rfl, b98, S99, K100⟩
  replace b92 := K100.blk 0 rfl b92
  replace h90 := h90.move (K100.at 1 rfl)
  have S101 := S99.unit
  have S102 := S101.pull (F := (is g97)) (Fr := [no, (is g2), F91]) 1 rfl rfl
  obtain ⟨h103, S104⟩ := row_lit (d := tStr) (xs := [([59] : List UInt8)]) S102 b98 rfl (elsO_one1 rfl) (Nat.le_of_ble_eq_true rfl)
  have l105 := h103.le
  obtain ⟨H106, S107, E108, h109, z110⟩ := S104.frzRow h103
  replace h90 := h90.ext E108
  have S111 := S107.pull (F := F91) (Fr := [(is g2)]) 1 rfl rfl
  obtain ⟨t112, u113, M⟩ := bnd M
  refine lcall (d := 15) rfl rfl (by kernel_rfl) (e_callv (l := [.const (.int .i64 1100), .const (.int .i64 1), .tmp 14]) (vs := [.int .i64 1100, .int .i64 1, .slice (some ⟨g97, 0, none⟩) 1 1]) (cs := [.pointer (some ⟨g2, 0, none⟩)]) Try.func31 (by kernel_rfl) rfl (by kernel_rfl) (by kernel_rfl)) (impl_DefaultOps_c1.calls k w96 H106 1100 1 [([59] : List UInt8)] (some ⟨g97, 0, none⟩) 1 t83 g2 A88 c89 F91 h109 l105 h90 b92 (St.own' (Fa := [F91, (is g2)]) (Fr := []) S111) t112 u113) ?_
  rintro _ w114 ⟨A117, c118, F120, H115, rfl, h119, b121, T116⟩
  refine ⟨_, rfl, ?_⟩
  obtain ⟨S122, K123⟩ := St.call (Fa := [F91, (is g2)]) (Fr := []) S111 T116
  have E124 := T116.ext
  refine wpList_nil ?_
  refine then_n ?_
  refine wp_seq ?_
  refine wp_region_lit ?_
  refine lv (d := 16) rfl rfl (by kernel_rfl) (e_move (v := .func (.func 31) #[] #[.pointer (some ⟨g2, 0, none⟩)]) (by kernel_rfl)) ?_
  refine lve (d := 17) rfl rfl (by kernel_rfl) (new_blk (v := fun g_ => .slice (some ⟨g_, 0, none⟩) 1 1) (cs := #[str ([45, 62] : List UInt8)]) (t := 9) S122 (by kernel_rfl)) ?_
  rintro _ w125 ⟨g126, rfl, b127, S128, K129⟩
  replace b121 := K129.blk 0 rfl b121
  replace h119 := h119.move (K129.at 1 rfl)
  have S130 := S128.unit
  have S131 := S130.pull (F := (is g126)) (Fr := [no, (is g2), F120]) 1 rfl rfl
  obtain ⟨h132, S133⟩ := row_lit (d := tStr) (xs := [([45, 62] : List UInt8)]) S131 b127 rfl (elsO_one1 rfl) (Nat.le_of_ble_eq_true rfl)
  have l134 := h132.le
  obtain ⟨H135, S136, E137, h138, z139⟩ := S133.frzRow h132
  replace h119 := h119.ext E137
  have S140 := S136.pull (F := F120) (Fr := [(is g2)]) 1 rfl rfl
  obtain ⟨t141, u142, M⟩ := bnd M
  refine lcall (d := 18) rfl rfl (by kernel_rfl) (e_callv (l := [.const (.int .i64 1050), .const (.int .i64 1), .tmp 17]) (vs := [.int .i64 1050, .int .i64 1, .slice (some ⟨g126, 0, none⟩) 1 1]) (cs := [.pointer (some ⟨g2, 0, none⟩)]) Try.func31 (by kernel_rfl) rfl (by kernel_rfl) (by kernel_rfl)) (impl_DefaultOps_c1.calls k w125 H135 1050 1 [([45, 62] : List UInt8)] (some ⟨g126, 0, none⟩) 1 t112 g2 A117 c118 F120 h138 l134 h119 b121 (St.own' (Fa := [F120, (is g2)]) (Fr := []) S140) t141 u142) ?_
  rintro _ w143 ⟨A146, c147, F149, H144, rfl, h148, b150, T145⟩
  refine ⟨_, rfl, ?_⟩
  obtain ⟨S151, K152⟩ := St.call (Fa := [F120, (is g2)]) (Fr := []) S140 T145
  have E153 := T145.ext
  refine wpList_nil ?_
  refine then_n ?_
  refine wp_seq ?_
  refine wp_region_lit ?_
  refine lv (d := 19) rfl rfl (by kernel_rfl) (e_move (v := .func (.func 31) #[] #[.pointer (some ⟨g2, 0, none⟩)]) (by kernel_rfl)) ?_
  refine lve (d := 20) rfl rfl (by kernel_rfl) (new_blk (v := fun g_ => .slice (some ⟨g_, 0, none⟩) 1 1) (cs := #[str ([44] : List UInt8)]) (t := 9) S151 (by kernel_rfl)) ?_
  rintro _ w154 ⟨g155, rfl, b156, S157, K158⟩
  replace b150 := K158.blk 0 rfl b150
  replace h148 := h148.move (K158.at 1 rfl)
  have S159 := S157.unit
  have S160 := S159.pull (F := (is g155)) (Fr := [no, (is g2), F149]) 1 rfl rfl
  obtain ⟨h161, S162⟩ := row_lit (d := tStr) (xs := [([44] : List UInt8)]) S160 b156 rfl (elsO_one1 rfl) (Nat.le_of_ble_eq_true rfl)
  have l163 := h161.le
  obtain ⟨H164, S165, E166, h167, z168⟩ := S162.frzRow h161
  replace h148 := h148.ext E166
  have S169 := S165.pull (F := F149) (Fr := [(is g2)]) 1 rfl rfl
  obtain ⟨t170, u171, M⟩ := bnd M
  refine lcall (d := 21) rfl rfl (by kernel_rfl) (e_callv (l := [.const (.int .i64 1000), .const (.int .i64 1), .tmp 20]) (vs := [.int .i64 1000, .int .i64 1, .slice (some ⟨g155, 0, none⟩) 1 1]) (cs := [.pointer (some ⟨g2, 0, none⟩)]) Try.func31 (by kernel_rfl) rfl (by kernel_rfl) (by kernel_rfl)) (impl_DefaultOps_c1.calls k w154 H164 1000 1 [([44] : List UInt8)] (some ⟨g155, 0, none⟩) 1 t141 g2 A146 c147 F149 h167 l163 h148 b150 (St.own' (Fa := [F149, (is g2)]) (Fr := []) S169) t170 u171) ?_
  rintro _ w172 ⟨A175, c176, F178, H173, rfl, h177, b179, T174⟩
  refine ⟨_, rfl, ?_⟩
  obtain ⟨S180, K181⟩ := St.call (Fa := [F149, (is g2)]) (Fr := []) S169 T174
  have E182 := T174.ext
  refine wpList_nil ?_
  refine then_n ?_
  refine wp_seq ?_
  refine wp_region_lit ?_
  refine lv (d := 22) rfl rfl (by kernel_rfl) (e_move (v := .func (.func 31) #[] #[.pointer (some ⟨g2, 0, none⟩)]) (by kernel_rfl)) ?_
  refine lve (d := 23) rfl rfl (by kernel_rfl) (new_blk (v := fun g_ => .slice (some ⟨g_, 0, none⟩) 1 1) (cs := #[str ([92, 43] : List UInt8)]) (t := 9) S180 (by kernel_rfl)) ?_
  rintro _ w183 ⟨g184, rfl, b185, S186, K187⟩
  replace b179 := K187.blk 0 rfl b179
  replace h177 := h177.move (K187.at 1 rfl)
  have S188 := S186.unit
  have S189 := S188.pull (F := (is g184)) (Fr := [no, (is g2), F178]) 1 rfl rfl
  obtain ⟨h190, S191⟩ := row_lit (d := tStr) (xs := [([92, 43] : List UInt8)]) S189 b185 rfl (elsO_one1 rfl) (Nat.le_of_ble_eq_true rfl)
  have l192 := h190.le
  obtain ⟨H193, S194, E195, h196, z197⟩ := S191.frzRow h190
  replace h177 := h177.ext E195
  have S198 := S194.pull (F := F178) (Fr := [(is g2)]) 1 rfl rfl
  obtain ⟨t199, u200, M⟩ := bnd M
  refine lcall (d := 24) rfl rfl (by kernel_rfl) (e_callv (l := [.const (.int .i64 900), .const (.int .i64 3), .tmp 23]) (vs := [.int .i64 900, .int .i64 3, .slice (some ⟨g184, 0, none⟩) 1 1]) (cs := [.pointer (some ⟨g2, 0, none⟩)]) Try.func31 (by kernel_rfl) rfl (by kernel_rfl) (by kernel_rfl)) (impl_DefaultOps_c1.calls k w183 H193 900 3 [([92, 43] : List UInt8)] (some ⟨g184, 0, none⟩) 1 t170 g2 A175 c176 F178 h196 l192 h177 b179 (St.own' (Fa := [F178, (is g2)]) (Fr := []) S198) t199 u200) ?_
  rintro _ w201 ⟨A204, c205, F207, H202, rfl, h206, b208, T203⟩
  refine ⟨_, rfl, ?_⟩
  obtain ⟨S209, K210⟩ := St.call (Fa := [F178, (is g2)]) (Fr := []) S198 T203
  have E211 := T203.ext
  refine wpList_nil ?_
  refine then_n ?_
  refine wp_seq ?_
  refine wp_region_lit ?_
  refine lv (d := 25) rfl rfl (by kernel_rfl) (e_move (v := .func (.func 31) #[] #[.pointer (some ⟨g2, 0, none⟩)]) (by kernel_rfl)) ?_
  refine lve (d := 26) rfl rfl (by kernel_rfl) (new_blk (v := fun g_ => .slice (some ⟨g_, 0, none⟩) 16 16) (cs := #[str ([61] : List UInt8), str ([92, 61] : List UInt8), str ([61, 61] : List UInt8), str ([92, 61, 61] : List UInt8), str ([64, 60] : List UInt8), str ([64, 61, 60] : List UInt8), str ([64, 62] : List UInt8), str ([64, 62, 61] : List UInt8), str ([61, 46, 46] : List UInt8), str ([105, 115] : List UInt8), str ([61, 58, 61] : List UInt8), str ([61, 92, 61] : List UInt8), str ([60] : List UInt8), str ([61, 60] : List UInt8), str ([62] : List UInt8), str ([62, 61] : List UInt8)]) (t := 9) S209 (by kernel_rfl)) ?_
  rintro _ w212 ⟨g213, rfl, b214, S215, K216⟩
  replace b208 := K216.blk 0 rfl b208
  replace h206 := h206.move (K216.at 1 rfl)
  have S217 := S215.unit
  have S218 := S217.pull (F := (is g213)) (Fr := [no, (is g2), F207]) 1 rfl rfl
  obtain ⟨h219, S220⟩ := row_lit (d := tStr) (xs := [([61] : List UInt8), ([92, 61] : List UInt8), ([61, 61] : List UInt8), ([92, 61, 61] : List UInt8), ([64, 60] : List UInt8), ([64, 61, 60] : List UInt8), ([64, 62] : List UInt8), ([64, 62, 61] : List UInt8), ([61, 46, 46] : List UInt8), ([105, 115] : List UInt8), ([61, 58, 61] : List UInt8), ([61, 92, 61] : List UInt8), ([60] : List UInt8), ([61, 60] : List UInt8), ([62] : List UInt8), ([62, 61] : List UInt8)]) S218 b214 rfl (elsO_no (d := tStr) rfl (elsO_no (d := tStr) rfl (elsO_no (d := tStr) rfl (elsO_no (d := tStr) rfl (elsO_no (d := tStr) rfl (elsO_no (d := tStr) rfl (elsO_no (d := tStr) rfl (elsO_no (d := tStr) rfl (elsO_no (d := tStr) rfl (elsO_no (d := tStr) rfl (elsO_no (d := tStr) rfl (elsO_no (d := tStr) rfl (elsO_no (d := tStr) rfl (elsO_no (d := tStr) rfl (elsO_no (d := tStr) rfl (elsO_no (d := tStr) rfl (elsO_nil _ _ _ no))))))))))))))))) (Nat.le_of_ble_eq_true rfl)
  have l221 := h219.le
  obtain ⟨H222, S223, E224, h225, z226⟩ := S220.frzRow h219
  replace h206 := h206.ext E224
  have S227 := S223.pull (F := F207) (Fr := [(is g2)]) 1 rfl rfl
  obtain ⟨t228, u229, M⟩ := bnd M
  refine lcall (d := 27) rfl rfl (by kernel_rfl) (e_callv (l := [.const (.int .i64 700), .const (.int .i64 0), .tmp 26]) (vs := [.int .i64 700, .int .i64 0, .slice (some ⟨g213, 0, none⟩) 16 16]) (cs := [.pointer (some ⟨g2, 0, none⟩)]) Try.func31 (by kernel_rfl) rfl (by kernel_rfl) (by kernel_rfl)) (impl_DefaultOps_c1.calls k w212 H222 700 0 [([61] : List UInt8), ([92, 61] : List UInt8), ([61, 61] : List UInt8), ([92, 61, 61] : List UInt8), ([64, 60] : List UInt8), ([64, 61, 60] : List UInt8), ([64, 62] : List UInt8), ([64, 62, 61] : List UInt8), ([61, 46, 46] : List UInt8), ([105, 115] : List UInt8), ([61, 58, 61] : List UInt8), ([61, 92, 61] : List UInt8), ([60] : List UInt8), ([61, 60] : List UInt8), ([62] : List UInt8), ([62, 61] : List UInt8)] (some ⟨g213, 0, none⟩) 16 t199 g2 A204 c205 F207 h225 l221 h206 b208 (St.own' (Fa := [F207, (is g2)]) (Fr := []) S227) t228 u229) ?_
  rintro _ w230 ⟨A233, c234, F236, H231, rfl, h235, b237, T232⟩
  refine ⟨_, rfl, ?_⟩
  obtain ⟨S238, K239⟩ := St.call (Fa := [F207, (is g2)]) (Fr := []) S227 T232
  have E240 := T232.ext
  refine wpList_nil ?_
  refine then_n ?_
  refine wp_seq ?_
  refine wp_region_lit ?_
  refine lv (d := 28) rfl rfl (by kernel_rfl) (e_move (v := .func (.func 31) #[] #[.pointer (some ⟨g2, 0, none⟩)]) (by kernel_rfl)) ?_
  refine lve (d := 29) rfl rfl (by kernel_rfl) (new_blk (v := fun g_ => .slice (some ⟨g_, 0, none⟩) 5 5) (cs := #[str ([43] : List UInt8), str ([45] : List UInt8), str ([47, 92] : List UInt8), str ([92, 47] : List UInt8), str ([120, 111, 114] : List UInt8)]) (t := 9) S238 (by kernel_rfl)) ?_
  rintro _ w241 ⟨g242, rfl, b243, S244, K245⟩
  replace b237 := K245.blk 0 rfl b237
  replace h235 := h235.move (K245.at 1 rfl)
  have S246 := S244.unit
  have S247 := S246.pull (F := (is g242)) (Fr := [no, (is g2), F236]) 1 rfl rfl
  obtain ⟨h248, S249⟩ := row_lit (d := tStr) (xs := [([43] : List UInt8), ([45] : List UInt8), ([47, 92] : List UInt8), ([92, 47] : List UInt8), ([120, 111, 114] : List UInt8)]) S247 b243 rfl (elsO_no (d := tStr) rfl (elsO_no (d := tStr) rfl (elsO_no (d := tStr) rfl (elsO_no (d := tStr) rfl (elsO_no (d := tStr) rfl (elsO_nil _ _ _ no)))))) (Nat.le_of_ble_eq_true rfl)
  have l250 := h248.le
  obtain ⟨H251, S252, E253, h254, z255⟩ := S249.frzRow h248
  replace h235 := h235.ext E253
  have S256 := S252.pull (F := F236) (Fr := [(is g2)]) 1 rfl rfl
  obtain ⟨t257, u258, M⟩ := bnd M
  refine lcall (d := 30) rfl rfl (by kernel_rfl) (e_callv (l := [.const (.int .i64 500), .const (.int .i64 2), .tmp 29]) (vs := [.int .i64 500, .int .i64 2, .slice (some ⟨g242, 0, none⟩) 5 5]) (cs := [.pointer (some ⟨g2, 0, none⟩)]) Try.func31 (by kernel_rfl) rfl (by kernel_rfl) (by kernel_rfl)) (impl_DefaultOps_c1.calls k w241 H251 500 2 [([43] : List UInt8), ([45] : List UInt8), ([47, 92] : List UInt8), ([92, 47] : List UInt8), ([120, 111, 114] : List UInt8)] (some ⟨g242, 0, none⟩) 5 t228 g2 A233 c234 F236 h254 l250 h235 b237 (St.own' (Fa := [F236, (is g2)]) (Fr := []) S256) t257 u258) ?_
  rintro _ w259 ⟨A262, c263, F265, H260, rfl, h264, b266, T261⟩
  refine ⟨_, rfl, ?_⟩
  obtain ⟨S267, K268⟩ := St.call (Fa := [F236, (is g2)]) (Fr := []) S256 T261
  have E269 := T261.ext
  refine wpList_nil ?_
  refine then_n ?_
  refine wp_seq ?_
  refine wp_region_lit ?_
  refine lv (d := 31) rfl rfl (by kernel_rfl) (e_move (v := .func (.func 31) #[] #[.pointer (some ⟨g2, 0, none⟩)]) (by kernel_rfl)) ?_
  refine lve (d := 32) rfl rfl (by kernel_rfl) (new_blk (v := fun g_ => .slice (some ⟨g_, 0, none⟩) 7 7) (cs := #[str ([42] : List UInt8), str ([47] : List UInt8), str ([47, 47] : List UInt8), str ([109, 111, 100] : List UInt8), str ([114, 101, 109] : List UInt8), str ([60, 60] : List UInt8), str ([62, 62] : List UInt8)]) (t := 9) S267 (by kernel_rfl)) ?_
  rintro _ w270 ⟨g271, rfl, b272, S273, K274⟩
  replace b266 := K274.blk 0 rfl b266
  replace h264 := h264.move (K274.at 1 rfl)
  have S275 := S273.unit
  have S276 := S275.pull (F := (is g271)) (Fr := [no, (is g2), F265]) 1 rfl rfl
  obtain ⟨h277, S278⟩ := row_lit (d := tStr) (xs := [([42] : List UInt8), ([47] : List UInt8), ([47, 47] : List UInt8), ([109, 111, 100] : List UInt8), ([114, 101, 109] : List UInt8), ([60, 60] : List UInt8), ([62, 62] : List UInt8)]) S276 b272 rfl (elsO_no (d := tStr) rfl (elsO_no (d := tStr) rfl (elsO_no (d := tStr) rfl (elsO_no (d := tStr) rfl (elsO_no (d := tStr) rfl (elsO_no (d := tStr) rfl (elsO_no (d := tStr) rfl (elsO_nil _ _ _ no)))))))) (Nat.le_of_ble_eq_true rfl)
  have l279 := h277.le
  obtain ⟨H280, S281, E282, h283, z284⟩ := S278.frzRow h277
  replace h264 := h264.ext E282
  have S285 := S281.pull (F := F265) (Fr := [(is g2)]) 1 rfl rfl
  obtain ⟨t286, u287, M⟩ := bnd M
  refine lcall (d := 33) rfl rfl (by kernel_rfl) (e_callv (l := [.const (.int .i64 400), .const (.int .i64 2), .tmp 32]) (vs := [.int .i64 400, .int .i64 2, .slice (some ⟨g271, 0, none⟩) 7 7]) (cs := [.pointer (some ⟨g2, 0, none⟩)]) Try.func31 (by kernel_rfl) rfl (by kernel_rfl) (by kernel_rfl)) (impl_DefaultOps_c1.calls k w270 H280 400 2 [([42] : List UInt8), ([47] : List UInt8), ([47, 47] : List UInt8), ([109, 111, 100] : List UInt8), ([114, 101, 109] : List UInt8), ([60, 60] : List UInt8), ([62, 62] : List UInt8)] (some ⟨g271, 0, none⟩) 7 t257 g2 A262 c263 F265 h283 l279 h264 b266 (St.own' (Fa := [F265, (is g2)]) (Fr := []) S285) t286 u287) ?_
  rintro _ w288 ⟨A291, c292, F294, H289, rfl, h293, b295, T290⟩
  refine ⟨_, rfl, ?_⟩
  obtain ⟨S296, K297⟩ := St.call (Fa := [F265, (is g2)]) (Fr := []) S285 T290
  have E298 := T290.ext
  refine wpList_nil ?_
  refine then_n ?_
  refine wp_seq ?_
  refine wp_region_lit ?_
  refine lv (d := 34) rfl rfl (by kernel_rfl) (e_move (v := .func (.func 31) #[] #[.pointer (some ⟨g2, 0, none⟩)]) (by kernel_rfl)) ?_
  refine lve (d := 35) rfl rfl (by kernel_rfl) (new_blk (v := fun g_ => .slice (some ⟨g_, 0, none⟩) 1 1) (cs := #[str ([42, 42] : List UInt8)]) (t := 9) S296 (by kernel_rfl)) ?_
  rintro _ w299 ⟨g300, rfl, b301, S302, K303⟩
  replace b295 := K303.blk 0 rfl b295
  replace h293 := h293.move (K303.at 1 rfl)
  have S304 := S302.unit
  have S305 := S304.pull (F := (is g300)) (Fr := [no, (is g2), F294]) 1 rfl rfl
  obtain ⟨h306, S307⟩ := row_lit (d := tStr) (xs := [([42, 42] : List UInt8)]) S305 b301 rfl (elsO_one1 rfl) (Nat.le_of_ble_eq_true rfl)
  have l308 := h306.le
  obtain ⟨H309, S310, E311, h312, z313⟩ := S307.frzRow h306
  replace h293 := h293.ext E311
  have S314 := S310.pull (F := F294) (Fr := [(is g2)]) 1 rfl rfl
  obtain ⟨t315, u316, M⟩ := bnd M
  refine lcall (d := 36) rfl rfl (by kernel_rfl) (e_callv (l := [.const (.int .i64 200), .const (.int .i64 0), .tmp 35]) (vs := [.int .i64 200, .int .i64 0, .slice (some ⟨g300, 0, none⟩) 1 1]) (cs := [.pointer (some ⟨g2, 0, none⟩)]) Try.func31 (by kernel_rfl) rfl (by kernel_rfl) (by kernel_rfl)) (impl_DefaultOps_c1.calls k w299 H309 200 0 [([42, 42] : List UInt8)] (some ⟨g300, 0, none⟩) 1 t286 g2 A291 c292 F294 h312 l308 h293 b295 (St.own' (Fa := [F294, (is g2)]) (Fr := []) S314) t315 u316) ?_
  rintro _ w317 ⟨A320, c321, F323, H318, rfl, h322, b324, T319⟩
  refine ⟨_, rfl, ?_⟩
  obtain ⟨S325, K326⟩ := St.call (Fa := [F294, (is g2)]) (Fr := []) S314 T319
  have E327 := T319.ext
  refine wpList_nil ?_
  refine then_n ?_
  refine wp_seq ?_
  refine wp_region_lit ?_
  refine lv (d := 37) rfl rfl (by kernel_rfl) (e_move (v := .func (.func 31) #[] #[.pointer (some ⟨g2, 0, none⟩)]) (by kernel_rfl)) ?_
  refine lve (d := 38) rfl rfl (by kernel_rfl) (new_blk (v := fun g_ => .slice (some ⟨g_, 0, none⟩) 1 1) (cs := #[str ([94] : List UInt8)]) (t := 9) S325 (by kernel_rfl)) ?_
  rintro _ w328 ⟨g329, rfl, b330, S331, K332⟩
  replace b324 := K332.blk 0 rfl b324
  replace h322 := h322.move (K332.at 1 rfl)
  have S333 := S331.unit
  have S334 := S333.pull (F := (is g329)) (Fr := [no, (is g2), F323]) 1 rfl rfl
  obtain ⟨h335, S336⟩ := row_lit (d := tStr) (xs := [([94] : List UInt8)]) S334 b330 rfl (elsO_one1 rfl) (Nat.le_of_ble_eq_true rfl)
  have l337 := h335.le
  obtain ⟨H338, S339, E340, h341, z342⟩ := S336.frzRow h335
  replace h322 := h322.ext E340
  have S343 := S339.pull (F := F323) (Fr := [(is g2)]) 1 rfl rfl
  obtain ⟨t344, u345, M⟩ := bnd M
  refine lcall (d := 39) rfl rfl (by kernel_rfl) (e_callv (l := [.const (.int .i64 200), .const (.int .i64 1), .tmp 38]) (vs := [.int .i64 200, .int .i64 1, .slice (some ⟨g329, 0, none⟩) 1 1]) (cs := [.pointer (some ⟨g2, 0, none⟩)]) Try.func31 (by kernel_rfl) rfl (by kernel_rfl) (by kernel_rfl)) (impl_DefaultOps_c1.calls k w328 H338 200 1 [([94] : List UInt8)] (some ⟨g329, 0, none⟩) 1 t315 g2 A320 c321 F323 h341 l337 h322 b324 (St.own' (Fa := [F323, (is g2)]) (Fr := []) S343) t344 u345) ?_
  rintro _ w346 ⟨A349, c350, F352, H347, rfl, h351, b353, T348⟩
  refine ⟨_, rfl, ?_⟩
  obtain ⟨S354, K355⟩ := St.call (Fa := [F323, (is g2)]) (Fr := []) S343 T348
  have E356 := T348.ext
  refine wpList_nil ?_
  refine then_n ?_
  refine wp_seq ?_
  refine wp_region_lit ?_
  refine lv (d := 40) rfl rfl (by kernel_rfl) (e_move (v := .func (.func 31) #[] #[.pointer (some ⟨g2, 0, none⟩)]) (by kernel_rfl)) ?_
  refine lve (d := 41) rfl rfl (by kernel_rfl) (new_blk (v := fun g_ => .slice (some ⟨g_, 0, none⟩) 3 3) (cs := #[str ([45] : List UInt8), str ([43] : List UInt8), str ([92] : List UInt8)]) (t := 9) S354 (by kernel_rfl)) ?_
  rintro _ w357 ⟨g358, rfl, b359, S360, K361⟩
  replace b353 := K361.blk 0 rfl b353
  replace h351 := h351.move (K361.at 1 rfl)
  have S362 := S360.unit
  have S363 := S362.pull (F := (is g358)) (Fr := [no, (is g2), F352]) 1 rfl rfl
  obtain ⟨h364, S365⟩ := row_lit (d := tStr) (xs := [([45] : List UInt8), ([43] : List UInt8), ([92] : List UInt8)]) S363 b359 rfl (elsO_no (d := tStr) rfl (elsO_no (d := tStr) rfl (elsO_no (d := tStr) rfl (elsO_nil _ _ _ no)))) (Nat.le_of_ble_eq_true rfl)
  have l366 := h364.le
  obtain ⟨H367, S368, E369, h370, z371⟩ := S365.frzRow h364
  replace h351 := h351.ext E369
  have S372 := S368.pull (F := F352) (Fr := [(is g2)]) 1 rfl rfl
  obtain ⟨t373, u374, M⟩ := bnd M
  refine lcall (d := 42) rfl rfl (by kernel_rfl) (e_callv (l := [.const (.int .i64 200), .const (.int .i64 3), .tmp 41]) (vs := [.int .i64 200, .int .i64 3, .slice (some ⟨g358, 0, none⟩) 3 3]) (cs := [.pointer (some ⟨g2, 0, none⟩)]) Try.func31 (by kernel_rfl) rfl (by kernel_rfl) (by kernel_rfl)) (impl_DefaultOps_c1.calls k w357 H367 200 3 [([45] : List UInt8), ([43] : List UInt8), ([92] : List UInt8)] (some ⟨g358, 0, none⟩) 3 t344 g2 A349 c350 F352 h370 l366 h351 b353 (St.own' (Fa := [F352, (is g2)]) (Fr := []) S372) t373 u374) ?_
  rintro _ w375 ⟨A378, c379, F381, H376, rfl, h380, b382, T377⟩
  refine ⟨_, rfl, ?_⟩
  obtain ⟨S383, K384⟩ := St.call (Fa := [F352, (is g2)]) (Fr := []) S372 T377
  have E385 := T377.ext
  refine wpList_nil ?_
  refine then_n ?_
  refine wp_seq ?_
  refine wp_region_lit ?_
  refine lv (d := 43) rfl rfl (by kernel_rfl) (e_load1 (ad := ⟨g2, 0, none⟩) (v := .slice A378 t373.length c379) Try.underlying25 rfl (by kernel_rfl) (blk_cell b382 rfl)) ?_
  have S386 := S383.pull (F := F381) (Fr := [(is g2)]) 1 rfl rfl
  obtain ⟨t387, u388, M⟩ := bnd M
  refine lcall (d := 44) rfl rfl (by kernel_rfl) (e_call (l := [.tmp 43]) (vs := [.slice A378 t373.length c379]) Try.func32 (by kernel_rfl) rfl (by kernel_rfl) rfl) (impl_sortOps.calls k w375 H376 t373 A378 c379 F381 h380 (St.own' (Fa := [F381]) (Fr := [(is g2)]) S386) t387 u388) ?_
  rintro _ w389 ⟨F393, H390, rfl, n394, h392, T391⟩
  refine ⟨_, rfl, ?_⟩
  obtain ⟨S395, K396⟩ := St.call (Fa := [F381]) (Fr := [(is g2)]) S386 T391
  replace b382 := K396.blk 0 rfl b382
  have E397 := T391.ext
  refine wpList_nil ?_
  refine then_n ?_
  refine wp_seq ?_
  refine wp_region_lit ?_
  refine lv (d := 45) rfl rfl (by kernel_rfl) (e_load1 (ad := ⟨g2, 0, none⟩) (v := .slice A378 t373.length c379) Try.underlying25 rfl (by kernel_rfl) (blk_cell b382 rfl)) ?_
  refine lv (d := 0) rfl rfl (by kernel_rfl) (e_assign (v := .slice A378 t373.length c379) (by kernel_rfl)) ?_
  refine wpList_nil ?_
  refine then_n ?_
  refine wp_ret ?_
  obtain rfl := Option.some.inj M
  have S398 := St.first (Fa := [F393]) (Fr := [(is g2)]) S395
  exact ret1 rfl rfl  (show _ = .slice A378 t373.length c379 from (by kernel_rfl)) ⟨A378, c379, F393, H390, (by rw [(show t387.length = t373.length from n394)]), h392, S398⟩

/-! laws_eqByteS -/
def laws_eqByteS.l0 : Nat → (List UInt8) → (List UInt8) → Int → Option Bool
  | 0, _, _, _ => none
  | k23 + 1, x1, x6, x14 => (if x14 < (x1.length : Int) then (if 0 ≤ x14 then (if x14 < (x6.length : Int) then (if ((x1.getD ((x14).toNat) (0 : UInt8)).toNat : Int) ≠ ((x6.getD ((x14).toNat) (0 : UInt8)).toNat : Int) then some false else (laws_eqByteS.l0 k23 x1 x6 (IntKind.i64.wrap (x14 + 1)))) else none) else none) else some true)
def laws_eqByteS.f (k : Nat) (x1 : List UInt8) (x6 : List UInt8) : Option Bool := (if (x1.length : Int) ≠ (x6.length : Int) then some false else (laws_eqByteS.l0 k x1 x6 0))
theorem laws_eqByteS.calls (k : Nat) (w : World) (H : Hp) (x1 : List UInt8) (A2 : Option Addr) (c3 : Nat) (x6 : List UInt8) (A7 : Option Addr) (c8 : Nat) (h4 : Rd tByte H A2 x1) (l5 : x1.length ≤ c3) (h9 : Rd tByte H A7 x6) (l10 : x6.length ≤ c8) (S : Own [] H w) (r : Bool) (M : laws_eqByteS.f k x1 x6 = some r) :
    Calls Try.prog 19 #[.slice A2 x1.length c3, .slice A7 x6.length c8] w (fun e e_w => e = .returned (.bool r) ∧ Chg no w e_w) := by
  rw [laws_eqByteS.f] at M
  refine enter (l := [.slice A2 x1.length c3, .slice A7 x6.length c8]) 26 Try.func19 rfl rfl rfl ?_
  have S0_ := S.st
  refine wp_seq ?_
  refine wp_region_lit ?_
  refine lv (d := 4) rfl rfl (by kernel_rfl) (e_assign (v := .bool false) rfl) ?_
  refine wpList_nil ?_
  refine then_n ?_
  refine wp_seq ?_
  refine wp_seq ?_
  refine wp_region_lit ?_
  refine lv (d := 6) rfl rfl (by kernel_rfl) (e_move (v := .slice A2 x1.length c3) (by kernel_rfl)) ?_
  refine lv (d := 7) rfl rfl (by kernel_rfl) (e_len (A := A2) (n := x1.length) (c := c3) Try.underlying32 (by kernel_rfl)) ?_
  refine lv (d := 8) rfl rfl (by kernel_rfl) (e_move (v := .slice A7 x6.length c8) (by kernel_rfl)) ?_
  refine lv (d := 9) rfl rfl (by kernel_rfl) (e_len (A := A7) (n := x6.length) (c := c8) Try.underlying32 (by kernel_rfl)) ?_
  refine lv (d := 10) rfl rfl (by kernel_rfl) (e_neq (k := .i64) (a := (x1.length : Int)) (b := (x6.length : Int)) (by kernel_rfl) (by kernel_rfl)) ?_
  refine wpList_nil ?_
  refine then_n ?_
  by_cases q11 : (x1.length : Int) ≠ (x6.length : Int)
  · replace M := ifp q11 M
    refine cond_t rfl (bt q11 (by kernel_rfl)) ?_
    refine wp_seq ?_
    refine wp_region_lit ?_
    refine lv (d := 4) rfl rfl (by kernel_rfl) (e_assign (v := .bool false) rfl) ?_
    refine wpList_nil ?_
    refine then_n ?_
    refine wp_ret ?_
    refine then_r ?_
    obtain rfl := Option.some.inj M
    exact ret1 rfl rfl  (show _ = .bool false from (by kernel_rfl)) ⟨rfl, S0_.chg⟩
  replace M := ifn q11 M
  refine cond_f rfl (bf q11 (by kernel_rfl)) ?_
  refine wp_skip ?_
  refine then_n ?_
  refine wp_seq ?_
  refine wp_seq ?_
  refine wp_region_lit ?_
  refine lv (d := 5) rfl rfl (by kernel_rfl) (e_assign (v := .int .i64 0) rfl) ?_
  refine wpList_nil ?_
  refine then_n ?_
  refine wp_block ?_
  refine wp_loop_g (fun k21 a22 w12 => ∃ (f13 : Nat → Value) (x14 : Int), a22 = mk 26 f13 ∧ f13 0 = .slice A2 x1.length c3 ∧ f13 1 = .slice A7 x6.length c8 ∧ f13 5 = .int .i64 x14 ∧ St (anyOf []) H w [] H w12 ∧ laws_eqByteS.l0 k21 x1 x6 x14 = some r) k ⟨_, 0, rfl, (by kernel_rfl), (by kernel_rfl), (by kernel_rfl), S0_, M⟩ ?_
  clear M
  rintro k21 a22 w12 ⟨f13, x14, rfl, e15, e16, e17, S18, M⟩
  rcases k21 with _ | k23
  · rw [laws_eqByteS.l0] at M
    cases M
  rw [laws_eqByteS.l0] at M
  refine wp_seq ?_
  refine wp_seq ?_
  refine wp_region_lit ?_
  refine lv (d := 11) rfl rfl (by kernel_rfl) (e_move (v := .int .i64 x14) (by exact e17)) ?_
  refine lv (d := 12) rfl rfl (by kernel_rfl) (e_move (v := .slice A2 x1.length c3) (by exact e15)) ?_
  refine lv (d := 13) rfl rfl (by kernel_rfl) (e_len (A := A2) (n := x1.length) (c := c3) Try.underlying32 (by kernel_rfl)) ?_
  refine lv (d := 14) rfl rfl (by kernel_rfl) (e_lss (k := .i64) (a := x14) (b := (x1.length : Int)) (by kernel_rfl) (by kernel_rfl)) ?_
  refine wpList_nil ?_
  refine then_n ?_
  by_cases q24 : x14 < (x1.length : Int)
  · replace M := ifp q24 M
    refine cond_t rfl (bt q24 (by kernel_rfl)) ?_
    refine wp_skip ?_
    refine then_n ?_
    refine wp_seq ?_
    refine wp_block ?_
    refine wp_seq ?_
    refine region_still (by kernel_rfl) (by kernel_rfl) S18 ?_
    intro w25 S26 K27
    refine sv (d := 17) rfl rfl (by kernel_rfl) (e_move (v := .slice A2 x1.length c3) (by exact e15)) ?_
    refine sv (d := 18) rfl rfl (by kernel_rfl) (e_move (v := .int .i64 x14) (by exact e17)) ?_
    obtain ⟨q28, M⟩ := chk M
    obtain ⟨b29, o30, e31⟩ := Rd.addr h4 (show (x14).toNat < x1.length by omega)
    obtain ⟨y32, r33, k34⟩ := Rd.at h4 e31 (getD_some (0 : UInt8) (show (x14).toNat < x1.length by omega))
    obtain rfl := r33
    refine sv (d := 19) rfl rfl (by kernel_rfl) (e_indexAddr (b := b29) (off := o30) (n := x1.length) (c := c3) (sz := 1) (i := x14) (k := .i64) Try.underlying32 e31 (by kernel_rfl) (by kernel_rfl) (by kernel_rfl) q28 q24) ?_
    refine sv (d := 20) rfl rfl (by kernel_rfl) (e_load1 (ad := ⟨b29, o30 + (x14 : Int).toNat * 1, none⟩) (v := .int .u8 ((x1.getD ((x14).toNat) (0 : UInt8)).toNat : Int)) Try.underlying5 rfl (by kernel_rfl) (hpx (S26.inv.cell (k34 0 _ rfl)))) ?_
    refine sv (d := 21) rfl rfl (by kernel_rfl) (e_move (v := .slice A7 x6.length c8) (by exact e16)) ?_
    refine sv (d := 22) rfl rfl (by kernel_rfl) (e_move (v := .int .i64 x14) (by exact e17)) ?_
    obtain ⟨q35, M⟩ := chk M
    obtain ⟨b36, o37, e38⟩ := Rd.addr h9 (show (x14).toNat < x6.length by omega)
    obtain ⟨y39, r40, k41⟩ := Rd.at h9 e38 (getD_some (0 : UInt8) (show (x14).toNat < x6.length by omega))
    obtain rfl := r40
    refine sv (d := 23) rfl rfl (by kernel_rfl) (e_indexAddr (b := b36) (off := o37) (n := x6.length) (c := c8) (sz := 1) (i := x14) (k := .i64) Try.underlying32 e38 (by kernel_rfl) (by kernel_rfl) (by kernel_rfl) q28 q35) ?_
    refine sv (d := 24) rfl rfl (by kernel_rfl) (e_load1 (ad := ⟨b36, o37 + (x14 : Int).toNat * 1, none⟩) (v := .int .u8 ((x6.getD ((x14).toNat) (0 : UInt8)).toNat : Int)) Try.underlying5 rfl (by kernel_rfl) (hpx (S26.inv.cell (k41 0 _ rfl)))) ?_
    refine sv (d := 25) rfl rfl (by kernel_rfl) (e_neq (k := .u8) (a := ((x1.getD ((x14).toNat) (0 : UInt8)).toNat : Int)) (b := ((x6.getD ((x14).toNat) (0 : UInt8)).toNat : Int)) (by kernel_rfl) (by kernel_rfl)) ?_
    refine wpStill_nil ?_
    refine then_n ?_
    by_cases q42 : ((x1.getD ((x14).toNat) (0 : UInt8)).toNat : Int) ≠ ((x6.getD ((x14).toNat) (0 : UInt8)).toNat : Int)
    · replace M := ifp q42 M
      refine cond_t rfl (bt q42 (by kernel_rfl)) ?_
      refine wp_seq ?_
      refine wp_region_lit ?_
      refine lv (d := 4) rfl rfl (by kernel_rfl) (e_assign (v := .bool false) rfl) ?_
      refine wpList_nil ?_
      refine then_n ?_
      refine wp_ret ?_
      refine inb_r ?_
      refine then_r ?_
      refine then_r ?_
      refine inb_r ?_
      refine then_r ?_
      obtain rfl := Option.some.inj M
      exact ret1 rfl rfl  (show _ = .bool false from (by kernel_rfl)) ⟨rfl, S26.chg⟩
    replace M := ifn q42 M
    refine cond_f rfl (bf q42 (by kernel_rfl)) ?_
    refine wp_skip ?_
    refine inb_n ?_
    refine then_n ?_
    refine wp_region_lit ?_
    refine lv (d := 15) rfl rfl (by kernel_rfl) (e_move (v := .int .i64 x14) (by exact e17)) ?_
    refine lv (d := 16) rfl rfl (by kernel_rfl) (e_add (k := .i64) (a := x14) (b := 1) (by kernel_rfl) rfl) ?_
    refine lv (d := 5) rfl rfl (by kernel_rfl) (e_assign (v := .int .i64 (IntKind.i64.wrap (x14 + 1))) (by kernel_rfl)) ?_
    refine wpList_nil ?_
    refine then_n ?_
    exact ⟨k23, (by omega), _, (IntKind.i64.wrap (x14 + 1)), rfl, (by exact e15), (by exact e16), (by kernel_rfl), S26, M⟩
  replace M := ifn q24 M
  refine cond_f rfl (bf q24 (by kernel_rfl)) ?_
  refine wp_exit ?_
  refine then_e ?_
  refine then_e ?_
  refine inb_hit ?_
  refine then_n ?_
  refine wp_seq ?_
  refine wp_region_lit ?_
  refine lv (d := 4) rfl rfl (by kernel_rfl) (e_assign (v := .bool true) rfl) ?_
  refine wpList_nil ?_
  refine then_n ?_
  refine wp_ret ?_
  obtain rfl := Option.some.inj M
  exact ret1 rfl rfl  (show _ = .bool true from (by kernel_rfl)) ⟨rfl, S18.chg⟩

/-! laws_eqOp -/
def laws_eqOp.f (k : Nat) (x1 : Sy.Op) (x6 : Sy.Op) : Option Bool := ((laws_eqByteS.f k x1.name x6.name).bind fun t21 => (if ¬ (t21 = true) then some false else (if x1.pri ≠ x6.pri then some false else (if x1.typ ≠ x6.typ then some false else some true))))
theorem laws_eqOp.calls (k : Nat) (w : World) (H : Hp) (x1 : Sy.Op) (A2 : Option Addr) (c3 : Nat) (x6 : Sy.Op) (A7 : Option Addr) (c8 : Nat) (h4 : Rd tByte H A2 x1.name) (l5 : x1.name.length ≤ c3) (h9 : Rd tByte H A7 x6.name) (l10 : x6.name.length ≤ c8) (S : Own [] H w) (r : Bool) (M : laws_eqOp.f k x1 x6 = some r) :
    Calls Try.prog 28 #[.agg #[.slice A2 x1.name.length c3, .int .i64 x1.pri, .int .i64 x1.typ], .agg #[.slice A7 x6.name.length c8, .int .i64 x6.pri, .int .i64 x6.typ]] w (fun e e_w => e = .returned (.bool r) ∧ Chg no w e_w) := by
  rw [laws_eqOp.f] at M
  refine enter (l := [.agg #[.slice A2 x1.name.length c3, .int .i64 x1.pri, .int .i64 x1.typ], .agg #[.slice A7 x6.name.length c8, .int .i64 x6.pri, .int .i64 x6.typ]]) 21 Try.func28 rfl rfl rfl ?_
  have S0_ := S.st
  refine wp_seq ?_
  refine wp_region_lit ?_
  refine lve (d := 2) rfl rfl (by kernel_rfl) (new_blk (v := fun g_ => .pointer (some ⟨g_, 0, none⟩)) (cs := #[.slice A2 x1.name.length c3, .int .i64 x1.pri, .int .i64 x1.typ]) (t := 45) S0_ (by kernel_rfl)) ?_
  rintro _ w11 ⟨g12, rfl, b13, S14, K15⟩
  refine lve (d := 3) rfl rfl (by kernel_rfl) (new_blk (v := fun g_ => .pointer (some ⟨g_, 0, none⟩)) (cs := #[.slice A7 x6.name.length c8, .int .i64 x6.pri, .int .i64 x6.typ]) (t := 45) S14 (by kernel_rfl)) ?_
  rintro _ w16 ⟨g17, rfl, b18, S19, K20⟩
  replace b13 := K20.blk 0 rfl b13
  refine lv (d := 4) rfl rfl (by kernel_rfl) (e_assign (v := .bool false) rfl) ?_
  refine wpList_nil ?_
  refine then_n ?_
  refine wp_seq ?_
  refine wp_seq ?_
  refine wp_region_lit ?_
  refine lv (d := 5) rfl rfl (by kernel_rfl) (e_fieldAddr (b := g12) (off := 0) (o := 0) Try.underlying45 rfl rfl (sz := 1) (by kernel_rfl) (by decide) (by kernel_rfl)) ?_
  refine lv (d := 6) rfl rfl (by kernel_rfl) (e_load1 (ad := ⟨g12, 0 + 0, none⟩) (v := .slice A2 x1.name.length c3) Try.underlying32 rfl (by kernel_rfl) (blk_cell b13 rfl)) ?_
  refine lv (d := 7) rfl rfl (by kernel_rfl) (e_fieldAddr (b := g17) (off := 0) (o := 0) Try.underlying45 rfl rfl (sz := 1) (by kernel_rfl) (by decide) (by kernel_rfl)) ?_
  refine lv (d := 8) rfl rfl (by kernel_rfl) (e_load1 (ad := ⟨g17, 0 + 0, none⟩) (v := .slice A7 x6.name.length c8) Try.underlying32 rfl (by kernel_rfl) (blk_cell b18 rfl)) ?_
  obtain ⟨t21, u22, M⟩ := bnd M
  refine lcall (d := 9) rfl rfl (by kernel_rfl) (e_call (l := [.tmp 6, .tmp 8]) (vs := [.slice A2 x1.name.length c3, .slice A7 x6.name.length c8]) Try.func19 (by kernel_rfl) rfl (by kernel_rfl) rfl) (laws_eqByteS.calls k w16 H x1.name A2 c3 x6.name A7 c8 h4 l5 h9 l10 S19.own0 t21 u22) ?_
  rintro _ w23 ⟨rfl, C24⟩
  refine ⟨_, rfl, ?_⟩
  obtain ⟨S25, K26⟩ := S19.still C24
  replace b18 := K26.blk 0 rfl b18
  replace b13 := K26.blk 1 rfl b13
  refine lv (d := 10) rfl rfl (by kernel_rfl) (e_notv (c := t21) (by kernel_rfl)) ?_
  refine wpList_nil ?_
  refine then_n ?_
  by_cases q27 : ¬ (t21 = true)
  · replace M := ifp q27 M
    refine cond_t rfl (bt q27 (by kernel_rfl)) ?_
    refine wp_seq ?_
    refine wp_region_lit ?_
    refine lv (d := 4) rfl rfl (by kernel_rfl) (e_assign (v := .bool false) rfl) ?_
    refine wpList_nil ?_
    refine then_n ?_
    refine wp_ret ?_
    refine then_r ?_
    obtain rfl := Option.some.inj M
    exact ret1 rfl rfl  (show _ = .bool false from (by kernel_rfl)) ⟨rfl, S25.chg⟩
  replace M := ifn q27 M
  refine cond_f rfl (bf q27 (by kernel_rfl)) ?_
  refine wp_skip ?_
  refine then_n ?_
  refine wp_seq ?_
  refine wp_seq ?_
  refine wp_region_lit ?_
  refine lv (d := 11) rfl rfl (by kernel_rfl) (e_fieldAddr (b := g12) (off := 0) (o := 1) Try.underlying45 rfl rfl (sz := 1) (by kernel_rfl) (by decide) (by kernel_rfl)) ?_
  refine lv (d := 12) rfl rfl (by kernel_rfl) (e_load1 (ad := ⟨g12, 0 + 1, none⟩) (v := .int .i64 x1.pri) Try.underlying3 rfl (by kernel_rfl) (blk_cell b13 rfl)) ?_
  refine lv (d := 13) rfl rfl (by kernel_rfl) (e_fieldAddr (b := g17) (off := 0) (o := 1) Try.underlying45 rfl rfl (sz := 1) (by kernel_rfl) (by decide) (by kernel_rfl)) ?_
  refine lv (d := 14) rfl rfl (by kernel_rfl) (e_load1 (ad := ⟨g17, 0 + 1, none⟩) (v := .int .i64 x6.pri) Try.underlying3 rfl (by kernel_rfl) (blk_cell b18 rfl)) ?_
  refine lv (d := 15) rfl rfl (by kernel_rfl) (e_neq (k := .i64) (a := x1.pri) (b := x6.pri) (by kernel_rfl) (by kernel_rfl)) ?_
  refine wpList_nil ?_
  refine then_n ?_
  by_cases q28 : x1.pri ≠ x6.pri
  · replace M := ifp q28 M
    refine cond_t rfl (bt q28 (by kernel_rfl)) ?_
    refine wp_seq ?_
    refine wp_region_lit ?_
    refine lv (d := 4) rfl rfl (by kernel_rfl) (e_assign (v := .bool false) rfl) ?_
    refine wpList_nil ?_
    refine then_n ?_
    refine wp_ret ?_
    refine then_r ?_
    obtain rfl := Option.some.inj M
    exact ret1 rfl rfl  (show _ = .bool false from (by kernel_rfl)) ⟨rfl, S25.chg⟩
  replace M := ifn q28 M
  refine cond_f rfl (bf q28 (by kernel_rfl)) ?_
  refine wp_skip ?_
  refine then_n ?_
  refine wp_seq ?_
  refine wp_seq ?_
  refine wp_region_lit ?_
  refine lv (d := 16) rfl rfl (by kernel_rfl) (e_fieldAddr (b := g12) (off := 0) (o := 2) Try.underlying45 rfl rfl (sz := 1) (by kernel_rfl) (by decide) (by kernel_rfl)) ?_
  refine lv (d := 17) rfl rfl (by kernel_rfl) (e_load1 (ad := ⟨g12, 0 + 2, none⟩) (v := .int .i64 x1.typ) Try.underlying3 rfl (by kernel_rfl) (blk_cell b13 rfl)) ?_
  refine lv (d := 18) rfl rfl (by kernel_rfl) (e_fieldAddr (b := g17) (off := 0) (o := 2) Try.underlying45 rfl rfl (sz := 1) (by kernel_rfl) (by decide) (by kernel_rfl)) ?_
  refine lv (d := 19) rfl rfl (by kernel_rfl) (e_load1 (ad := ⟨g17, 0 + 2, none⟩) (v := .int .i64 x6.typ) Try.underlying3 rfl (by kernel_rfl) (blk_cell b18 rfl)) ?_
  refine lv (d := 20) rfl rfl (by kernel_rfl) (e_neq (k := .i64) (a := x1.typ) (b := x6.typ) (by kernel_rfl) (by kernel_rfl)) ?_
  refine wpList_nil ?_
  refine then_n ?_
  by_cases q29 : x1.typ ≠ x6.typ
  · replace M := ifp q29 M
    refine cond_t rfl (bt q29 (by kernel_rfl)) ?_
    refine wp_seq ?_
    refine wp_region_lit ?_
    refine lv (d := 4) rfl rfl (by kernel_rfl) (e_assign (v := .bool false) rfl) ?_
    refine wpList_nil ?_
    refine then_n ?_
    refine wp_ret ?_
    refine then_r ?_
    obtain rfl := Option.some.inj M
    exact ret1 rfl rfl  (show _ = .bool false from (by kernel_rfl)) ⟨rfl, S25.chg⟩
  replace M := ifn q29 M
  refine cond_f rfl (bf q29 (by kernel_rfl)) ?_
  refine wp_skip ?_
  refine then_n ?_
  refine wp_seq ?_
  refine wp_region_lit ?_
  refine lv (d := 4) rfl rfl (by kernel_rfl) (e_assign (v := .bool true) rfl) ?_
  refine wpList_nil ?_
  refine then_n ?_
  refine wp_ret ?_
  obtain rfl := Option.some.inj M
  exact ret1 rfl rfl  (show _ = .bool true from (by kernel_rfl)) ⟨rfl, S25.chg⟩

/-! laws_eqOpS -/
def laws_eqOpS.l0 : Nat → (List Sy.Op) → (List Sy.Op) → Int → Option Bool
  | 0, _, _, _ => none
  | k23 + 1, x1, x6, x14 => (if x14 < (x1.length : Int) then (if 0 ≤ x14 then (if x14 < (x6.length : Int) then ((laws_eqOp.f k23 (x1.getD ((x14).toNat) z45) (x6.getD ((x14).toNat) z45)).bind fun t47 => (if ¬ (t47 = true) then some false else (laws_eqOpS.l0 k23 x1 x6 (IntKind.i64.wrap (x14 + 1))))) else none) else none) else some true)
def laws_eqOpS.f (k : Nat) (x1 : List Sy.Op) (x6 : List Sy.Op) : Option Bool := (if (x1.length : Int) ≠ (x6.length : Int) then some false else (laws_eqOpS.l0 k x1 x6 0))
theorem laws_eqOpS.calls (k : Nat) (w : World) (H : Hp) (x1 : List Sy.Op) (A2 : Option Addr) (c3 : Nat) (x6 : List Sy.Op) (A7 : Option Addr) (c8 : Nat) (h4 : Rd st45 H A2 x1) (l5 : x1.length ≤ c3) (h9 : Rd st45 H A7 x6) (l10 : x6.length ≤ c8) (S : Own [] H w) (r : Bool) (M : laws_eqOpS.f k x1 x6 = some r) :
    Calls Try.prog 11 #[.slice A2 x1.length c3, .slice A7 x6.length c8] w (fun e e_w => e = .returned (.bool r) ∧ Chg no w e_w) := by
  rw [laws_eqOpS.f] at M
  refine enter (l := [.slice A2 x1.length c3, .slice A7 x6.length c8]) 27 Try.func11 rfl rfl rfl ?_
  have S0_ := S.st
  refine wp_seq ?_
  refine wp_region_lit ?_
  refine lv (d := 4) rfl rfl (by kernel_rfl) (e_assign (v := .bool false) rfl) ?_
  refine wpList_nil ?_
  refine then_n ?_
  refine wp_seq ?_
  refine wp_seq ?_
  refine wp_region_lit ?_
  refine lv (d := 6) rfl rfl (by kernel_rfl) (e_move (v := .slice A2 x1.length c3) (by kernel_rfl)) ?_
  refine lv (d := 7) rfl rfl (by kernel_rfl) (e_len (A := A2) (n := x1.length) (c := c3) Try.underlying25 (by kernel_rfl)) ?_
  refine lv (d := 8) rfl rfl (by kernel_rfl) (e_move (v := .slice A7 x6.length c8) (by kernel_rfl)) ?_
  refine lv (d := 9) rfl rfl (by kernel_rfl) (e_len (A := A7) (n := x6.length) (c := c8) Try.underlying25 (by kernel_rfl)) ?_
  refine lv (d := 10) rfl rfl (by kernel_rfl) (e_neq (k := .i64) (a := (x1.length : Int)) (b := (x6.length : Int)) (by kernel_rfl) (by kernel_rfl)) ?_
  refine wpList_nil ?_
  refine then_n ?_
  by_cases q11 : (x1.length : Int) ≠ (x6.length : Int)
  · replace M := ifp q11 M
    refine cond_t rfl (bt q11 (by kernel_rfl)) ?_
    refine wp_seq ?_
    refine wp_region_lit ?_
    refine lv (d := 4) rfl rfl (by kernel_rfl) (e_assign (v := .bool false) rfl) ?_
    refine wpList_nil ?_
    refine then_n ?_
    refine wp_ret ?_
    refine then_r ?_
    obtain rfl := Option.some.inj M
    exact ret1 rfl rfl  (show _ = .bool false from (by kernel_rfl)) ⟨rfl, S0_.chg⟩
  replace M := ifn q11 M
  refine cond_f rfl (bf q11 (by kernel_rfl)) ?_
  refine wp_skip ?_
  refine then_n ?_
  refine wp_seq ?_
  refine wp_seq ?_
  refine wp_region_lit ?_
  refine lv (d := 5) rfl rfl (by kernel_rfl) (e_assign (v := .int .i64 0) rfl) ?_
  refine wpList_nil ?_
  refine then_n ?_
  refine wp_block ?_
  refine wp_loop_g (fun k21 a22 w12 => ∃ (f13 : Nat → Value) (x14 : Int), a22 = mk 27 f13 ∧ f13 0 = .slice A2 x1.length c3 ∧ f13 1 = .slice A7 x6.length c8 ∧ f13 5 = .int .i64 x14 ∧ St (anyOf []) H w [] H w12 ∧ laws_eqOpS.l0 k21 x1 x6 x14 = some r) k ⟨_, 0, rfl, (by kernel_rfl), (by kernel_rfl), (by kernel_rfl), S0_, M⟩ ?_
  clear M
  rintro k21 a22 w12 ⟨f13, x14, rfl, e15, e16, e17, S18, M⟩
  rcases k21 with _ | k23
  · rw [laws_eqOpS.l0] at M
    cases M
  rw [laws_eqOpS.l0] at M
  refine wp_seq ?_
  refine wp_seq ?_
  refine wp_region_lit ?_
  refine lv (d := 11) rfl rfl (by kernel_rfl) (e_move (v := .int .i64 x14) (by exact e17)) ?_
  refine lv (d := 12) rfl rfl (by kernel_rfl) (e_move (v := .slice A2 x1.length c3) (by exact e15)) ?_
  refine lv (d := 13) rfl rfl (by kernel_rfl) (e_len (A := A2) (n := x1.length) (c := c3) Try.underlying25 (by kernel_rfl)) ?_
  refine lv (d := 14) rfl rfl (by kernel_rfl) (e_lss (k := .i64) (a := x14) (b := (x1.length : Int)) (by kernel_rfl) (by kernel_rfl)) ?_
  refine wpList_nil ?_
  refine then_n ?_
  by_cases q24 : x14 < (x1.length : Int)
  · replace M := ifp q24 M
    refine cond_t rfl (bt q24 (by kernel_rfl)) ?_
    refine wp_skip ?_
    refine then_n ?_
    refine wp_seq ?_
    refine wp_block ?_
    refine wp_seq ?_
    refine region_quiet (by kernel_rfl) (by kernel_rfl) ?_
    refine qv (d := 17) rfl rfl (by kernel_rfl) (fun wq_ hq_ => e_move (v := .slice A2 x1.length c3) (by exact e15)) ?_
    refine qv (d := 18) rfl rfl (by kernel_rfl) (fun wq_ hq_ => e_move (v := .int .i64 x14) (by exact e17)) ?_
    obtain ⟨q25, M⟩ := chk M
    obtain ⟨b26, o27, e28⟩ := Rd.addr h4 (show (x14).toNat < x1.length by omega)
    obtain ⟨y29, r30, k31⟩ := Rd.at h4 e28 (getD_some z45 (show (x14).toNat < x1.length by omega))
    obtain ⟨A32, c33, rfl, l34, h35⟩ := st45_open r30
    refine qv (d := 19) rfl rfl (by kernel_rfl) (fun wq_ hq_ => e_indexAddr (b := b26) (off := o27) (n := x1.length) (c := c3) (sz := 3) (i := x14) (k := .i64) Try.underlying25 e28 (by kernel_rfl) (by kernel_rfl) (by kernel_rfl) q25 q24) ?_
    refine qv (d := 20) rfl rfl (by kernel_rfl) (fun wq_ hq_ => e_loadS (b := b26) (off := o27 + (x14 : Int).toNat * 3) (cs := [.slice A32 ((x1.getD ((x14).toNat) z45).name).length c33, .int .i64 ((x1.getD ((x14).toNat) z45).pri), .int .i64 ((x1.getD ((x14).toNat) z45).typ)]) Try.underlying45 rfl (by kernel_rfl) (by kernel_rfl) (fun j_ u_ e_ => (hpx ((S18.still hq_).1.inv.cell (k31 j_ u_ e_))))) ?_
    refine qv (d := 21) rfl rfl (by kernel_rfl) (fun wq_ hq_ => e_move (v := .slice A7 x6.length c8) (by exact e16)) ?_
    refine qv (d := 22) rfl rfl (by kernel_rfl) (fun wq_ hq_ => e_move (v := .int .i64 x14) (by exact e17)) ?_
    obtain ⟨q36, M⟩ := chk M
    obtain ⟨b37, o38, e39⟩ := Rd.addr h9 (show (x14).toNat < x6.length by omega)
    obtain ⟨y40, r41, k42⟩ := Rd.at h9 e39 (getD_some z45 (show (x14).toNat < x6.length by omega))
    obtain ⟨A43, c44, rfl, l45, h46⟩ := st45_open r41
    refine qv (d := 23) rfl rfl (by kernel_rfl) (fun wq_ hq_ => e_indexAddr (b := b37) (off := o38) (n := x6.length) (c := c8) (sz := 3) (i := x14) (k := .i64) Try.underlying25 e39 (by kernel_rfl) (by kernel_rfl) (by kernel_rfl) q25 q36) ?_
    refine qv (d := 24) rfl rfl (by kernel_rfl) (fun wq_ hq_ => e_loadS (b := b37) (off := o38 + (x14 : Int).toNat * 3) (cs := [.slice A43 ((x6.getD ((x14).toNat) z45).name).length c44, .int .i64 ((x6.getD ((x14).toNat) z45).pri), .int .i64 ((x6.getD ((x14).toNat) z45).typ)]) Try.underlying45 rfl (by kernel_rfl) (by kernel_rfl) (fun j_ u_ e_ => (hpx ((S18.still hq_).1.inv.cell (k42 j_ u_ e_))))) ?_
    obtain ⟨t47, u48, M⟩ := bnd M
    refine qcall (v := .bool t47) (d := 25) rfl rfl (by kernel_rfl) (fun w_ => e_call (l := [.tmp 20, .tmp 24]) (vs := [.agg #[.slice A32 ((x1.getD ((x14).toNat) z45).name).length c33, .int .i64 ((x1.getD ((x14).toNat) z45).pri), .int .i64 ((x1.getD ((x14).toNat) z45).typ)], .agg #[.slice A43 ((x6.getD ((x14).toNat) z45).name).length c44, .int .i64 ((x6.getD ((x14).toNat) z45).pri), .int .i64 ((x6.getD ((x14).toNat) z45).typ)]]) Try.func28 (by kernel_rfl) rfl (by kernel_rfl) rfl) (fun wq_ hq_ => (by obtain ⟨S_, K_⟩ := S18.still hq_; exact (laws_eqOp.calls k23 wq_ H (x1.getD ((x14).toNat) z45) A32 c33 (x6.getD ((x14).toNat) z45) A43 c44 h35 l34 h46 l45 S_.own0 t47 u48))) ?_
    refine qv (d := 26) rfl rfl (by kernel_rfl) (fun wq_ hq_ => e_notv (c := t47) (by kernel_rfl)) ?_
    refine wpQuiet_nil ?_
    intro w49 C52
    obtain ⟨S50, K51⟩ := S18.still C52
    refine then_n ?_
    by_cases q53 : ¬ (t47 = true)
    · replace M := ifp q53 M
      refine cond_t rfl (bt q53 (by kernel_rfl)) ?_
      refine wp_seq ?_
      refine wp_region_lit ?_
      refine lv (d := 4) rfl rfl (by kernel_rfl) (e_assign (v := .bool false) rfl) ?_
      refine wpList_nil ?_
      refine then_n ?_
      refine wp_ret ?_
      refine inb_r ?_
      refine then_r ?_
      refine then_r ?_
      refine inb_r ?_
      refine then_r ?_
      obtain rfl := Option.some.inj M
      exact ret1 rfl rfl  (show _ = .bool false from (by kernel_rfl)) ⟨rfl, S50.chg⟩
    replace M := ifn q53 M
    refine cond_f rfl (bf q53 (by kernel_rfl)) ?_
    refine wp_skip ?_
    refine inb_n ?_
    refine then_n ?_
    refine wp_region_lit ?_
    refine lv (d := 15) rfl rfl (by kernel_rfl) (e_move (v := .int .i64 x14) (by exact e17)) ?_
    refine lv (d := 16) rfl rfl (by kernel_rfl) (e_add (k := .i64) (a := x14) (b := 1) (by kernel_rfl) rfl) ?_
    refine lv (d := 5) rfl rfl (by kernel_rfl) (e_assign (v := .int .i64 (IntKind.i64.wrap (x14 + 1))) (by kernel_rfl)) ?_
    refine wpList_nil ?_
    refine then_n ?_
    exact ⟨k23, (by omega), _, (IntKind.i64.wrap (x14 + 1)), rfl, (by exact e15), (by exact e16), (by kernel_rfl), S50, M⟩
  replace M := ifn q24 M
  refine cond_f rfl (bf q24 (by kernel_rfl)) ?_
  refine wp_exit ?_
  refine then_e ?_
  refine then_e ?_
  refine inb_hit ?_
  refine then_n ?_
  refine wp_seq ?_
  refine wp_region_lit ?_
  refine lv (d := 4) rfl rfl (by kernel_rfl) (e_assign (v := .bool true) rfl) ?_
  refine wpList_nil ?_
  refine then_n ?_
  refine wp_ret ?_
  obtain rfl := Option.some.inj M
  exact ret1 rfl rfl  (show _ = .bool true from (by kernel_rfl)) ⟨rfl, S18.chg⟩

/-! laws_markByteS -/
def laws_markByteS_2.l0 : Nat → (List UInt8) → Int → Int → (List UInt8) → Option (Int × (List UInt8))
  | 0, _, _, _, _ => none
  | k22 + 1, x1, x9, x10, x12 => (if x10 < (x1.length : Int) then (if 0 ≤ x10 then (laws_markByteS_2.l0 k22 x1 (IntKind.i64.wrap (x9 + 1)) (IntKind.i64.wrap (x10 + 1)) (x12.set ((x10).toNat) (b8 (x9)))) else none) else some (x9, x12))
def laws_markByteS_2.f (k : Nat) (x1 : List UInt8) (x6 : Int) : Option (Int × (List UInt8)) := (laws_markByteS_2.l0 k x1 x6 0 x1)
theorem laws_markByteS_2.calls (k : Nat) (w : World) (H : Hp) (x1 : List UInt8) (A2 : Option Addr) (c3 : Nat) (F5 : Foot) (x6 : Int) (h4 : Row tByte 5 H (hp w) F5 A2 c3 x1) (S : Own [F5] H w) (r : Int × (List UInt8)) (M : laws_markByteS_2.f k x1 x6 = some r) :
    Calls Try.prog 20 #[.slice A2 x1.length c3, .int .i64 x6] w (fun e e_w => ∃ (F_1 : Foot) (H_ : Hp), e = .returned (.int .i64 r.1) ∧ r.2.length = x1.length ∧ Row tByte 5 H_ (hp e_w) F_1 A2 c3 r.2 ∧ St (anyOf [F5]) H w [F_1] H_ e_w) := by
  rw [laws_markByteS_2.f] at M
  refine enter (l := [.slice A2 x1.length c3, .int .i64 x6]) 20 Try.func20 rfl rfl rfl ?_
  have S0_ := S.st
  refine wp_seq ?_
  refine wp_region_lit ?_
  refine lv (d := 4) rfl rfl (by kernel_rfl) (e_assign (v := .int .i64 0) rfl) ?_
  refine wpList_nil ?_
  refine then_n ?_
  refine wp_seq ?_
  refine wp_seq ?_
  refine wp_region_lit ?_
  refine lv (d := 5) rfl rfl (by kernel_rfl) (e_assign (v := .int .i64 0) rfl) ?_
  refine wpList_nil ?_
  refine then_n ?_
  refine wp_block ?_
  refine wp_loop_g (fun k20 a21 w7 => ∃ (f8 : Nat → Value) (x9 : Int) (x10 : Int) (F11 : Foot) (x12 : List UInt8), a21 = mk 20 f8 ∧ f8 0 = .slice A2 x1.length c3 ∧ f8 1 = .int .i64 x9 ∧ f8 5 = .int .i64 x10 ∧ Row tByte 5 H (hp w7) F11 A2 c3 x12 ∧ x12.length = x1.length ∧ St (anyOf [F5]) H w [F11] H w7 ∧ laws_markByteS_2.l0 k20 x1 x9 x10 x12 = some r) k ⟨_, x6, 0, F5, x1, rfl, (by kernel_rfl), (by kernel_rfl), (by kernel_rfl), h4, rfl, S0_, M⟩ ?_
  clear M
  rintro k20 a21 w7 ⟨f8, x9, x10, F11, x12, rfl, e14, e15, e16, h4, n13, S17, M⟩
  rcases k20 with _ | k22
  · rw [laws_markByteS_2.l0] at M
    cases M
  rw [laws_markByteS_2.l0] at M
  refine wp_seq ?_
  refine wp_seq ?_
  refine wp_region_lit ?_
  refine lv (d := 6) rfl rfl (by kernel_rfl) (e_move (v := .int .i64 x10) (by exact e16)) ?_
  refine lv (d := 7) rfl rfl (by kernel_rfl) (e_move (v := .slice A2 x1.length c3) (by exact e14)) ?_
  refine lv (d := 8) rfl rfl (by kernel_rfl) (e_len (A := A2) (n := x1.length) (c := c3) Try.underlying32 (by kernel_rfl)) ?_
  refine lv (d := 9) rfl rfl (by kernel_rfl) (e_lss (k := .i64) (a := x10) (b := (x1.length : Int)) (by kernel_rfl) (by kernel_rfl)) ?_
  refine wpList_nil ?_
  refine then_n ?_
  by_cases q23 : x10 < (x1.length : Int)
  · replace M := ifp q23 M
    refine cond_t rfl (bt q23 (by kernel_rfl)) ?_
    refine wp_skip ?_
    refine then_n ?_
    refine wp_seq ?_
    refine wp_block ?_
    refine wp_seq ?_
    refine wp_region_lit ?_
    refine lv (d := 12) rfl rfl (by kernel_rfl) (e_move (v := .slice A2 x1.length c3) (by exact e14)) ?_
    refine lv (d := 13) rfl rfl (by kernel_rfl) (e_move (v := .int .i64 x10) (by exact e16)) ?_
    refine lv (d := 14) rfl rfl (by kernel_rfl) (e_move (v := .int .i64 x9) (by exact e15)) ?_
    refine lv (d := 15) rfl rfl (by kernel_rfl) (e_conv_i8 (k := .i64) (a := x9) (by kernel_rfl) Try.underlying5 (by kernel_rfl)) ?_
    obtain ⟨q24, M⟩ := chk M
    obtain ⟨b25, e27⟩ := Row.addr h4 (show (x10).toNat < x12.length by have : x12.length = x1.length := n13; omega)
    refine lv (d := 16) rfl rfl (by kernel_rfl) (e_indexAddr (b := b25) (off := 0) (n := x1.length) (c := c3) (sz := 1) (i := x10) (k := .i64) Try.underlying32 e27 (by kernel_rfl) (by kernel_rfl) (by kernel_rfl) q24 q23) ?_
    have S28 := S17.unit
    have S29 := S28.pull (F := F11) (Fr := [no]) 1 rfl rfl
    refine lse rfl rfl (by kernel_rfl) (e_setel (d := tByte) (b := b25) (i := (x10).toNat) (v := .int .u8 ((b8 (x9)).toNat : Int)) (vs := [.int .u8 ((b8 (x9)).toNat : Int)]) (yv := (b8 (x9))) S29 (by kernel_rfl) e27 (by kernel_rfl) rfl (by kernel_rfl) h4 (show (x10).toNat < x12.length by have : x12.length = x1.length := n13; omega) rfl) ?_
    rintro w30 ⟨F32, h31, S33, K34⟩
    clear h4
    refine wpList_nil ?_
    refine then_n ?_
    refine wp_region_lit ?_
    refine lv (d := 17) rfl rfl (by kernel_rfl) (e_move (v := .int .i64 x9) (by exact e15)) ?_
    refine lv (d := 18) rfl rfl (by kernel_rfl) (e_add (k := .i64) (a := x9) (b := 1) (by kernel_rfl) rfl) ?_
    refine lv (d := 1) rfl rfl (by kernel_rfl) (e_assign (v := .int .i64 (IntKind.i64.wrap (x9 + 1))) (by kernel_rfl)) ?_
    refine wpList_nil ?_
    refine inb_n ?_
    refine then_n ?_
    refine wp_region_lit ?_
    refine lv (d := 10) rfl rfl (by kernel_rfl) (e_move (v := .int .i64 x10) (by exact e16)) ?_
    refine lv (d := 11) rfl rfl (by kernel_rfl) (e_add (k := .i64) (a := x10) (b := 1) (by kernel_rfl) rfl) ?_
    refine lv (d := 5) rfl rfl (by kernel_rfl) (e_assign (v := .int .i64 (IntKind.i64.wrap (x10 + 1))) (by kernel_rfl)) ?_
    refine wpList_nil ?_
    refine then_n ?_
    exact ⟨k22, (by omega), _, (IntKind.i64.wrap (x9 + 1)), (IntKind.i64.wrap (x10 + 1)), F32, (x12.set ((x10).toNat) (b8 (x9))), rfl, (by exact e14), (by kernel_rfl), (by kernel_rfl), h31, (List.length_set.trans n13), S33, M⟩
  replace M := ifn q23 M
  refine cond_f rfl (bf q23 (by kernel_rfl)) ?_
  refine wp_exit ?_
  refine then_e ?_
  refine then_e ?_
  refine inb_hit ?_
  refine then_n ?_
  refine wp_seq ?_
  refine wp_region_lit ?_
  refine lv (d := 19) rfl rfl (by kernel_rfl) (e_move (v := .int .i64 x9) (by exact e15)) ?_
  refine lv (d := 4) rfl rfl (by kernel_rfl) (e_assign (v := .int .i64 x9) (by kernel_rfl)) ?_
  refine wpList_nil ?_
  refine then_n ?_
  refine wp_ret ?_
  obtain rfl := Option.some.inj M
  exact ret1 rfl rfl  (show _ = .int .i64 x9 from (by kernel_rfl)) ⟨F11, H, rfl, n13, h4, S17⟩

/-! laws_markOpS -/
def laws_markOpS_2.l0 : Nat → (List Sy.Op) → Int → Int → (List Sy.Op) → Option (Int × (List Sy.Op))
  | 0, _, _, _, _ => none
  | k24 + 1, x1, x11, x12, x14 => (if x12 < (x1.length : Int) then (if 0 ≤ x12 then ((laws_markByteS_2.f k24 ((x14.getD ((x12).toNat) z45).name) x11).bind fun t51 => (laws_markOpS_2.l0 k24 x1 (IntKind.i64.wrap ((IntKind.i64.wrap (t51.1 + 1)) + 1)) (IntKind.i64.wrap (x12 + 1)) (((x14.set ((x12).toNat) ({(x14.getD ((x12).toNat) z45) with name := t51.2})).set ((x12).toNat) ({((x14.set ((x12).toNat) ({(x14.getD ((x12).toNat) z45) with name := t51.2})).getD ((x12).toNat) z45) with pri := t51.1})).set ((x12).toNat) ({(((x14.set ((x12).toNat) ({(x14.getD ((x12).toNat) z45) with name := t51.2})).set ((x12).toNat) ({((x14.set ((x12).toNat) ({(x14.getD ((x12).toNat) z45) with name := t51.2})).getD ((x12).toNat) z45) with pri := t51.1})).getD ((x12).toNat) z45) with typ := (IntKind.i64.wrap (t51.1 + 1))})))) else none) else some (x11, x14))
def laws_markOpS_2.f (k : Nat) (x1 : List Sy.Op) (x6 : Int) : Option (Int × (List Sy.Op)) := (laws_markOpS_2.l0 k x1 x6 0 x1)
theorem laws_markOpS_2.calls (k : Nat) (w : World) (H : Hp) (x1 : List Sy.Op) (A2 : Option Addr) (c3 : Nat) (F5 : Foot) (x6 : Int) (h4 : Row st45 45 H (hp w) F5 A2 c3 x1) (S : Own [F5] H w) (r : Int × (List Sy.Op)) (M : laws_markOpS_2.f k x1 x6 = some r) :
    Calls Try.prog 14 #[.slice A2 x1.length c3, .int .i64 x6] w (fun e e_w => ∃ (F_1 : Foot) (H_ : Hp), e = .returned (.int .i64 r.1) ∧ r.2.length = x1.length ∧ Row st45 45 H_ (hp e_w) F_1 A2 c3 r.2 ∧ St (anyOf [F5]) H w [F_1] H_ e_w) := by
  rw [laws_markOpS_2.f] at M
  refine enter (l := [.slice A2 x1.length c3, .int .i64 x6]) 34 Try.func14 rfl rfl rfl ?_
  have S0_ := S.st
  refine wp_seq ?_
  refine wp_region_lit ?_
  refine lv (d := 4) rfl rfl (by kernel_rfl) (e_assign (v := .int .i64 0) rfl) ?_
  refine wpList_nil ?_
  refine then_n ?_
  refine wp_seq ?_
  refine wp_seq ?_
  refine wp_region_lit ?_
  refine lv (d := 5) rfl rfl (by kernel_rfl) (e_assign (v := .int .i64 0) rfl) ?_
  refine wpList_nil ?_
  refine then_n ?_
  refine wp_block ?_
  refine wp_loop_g (fun k22 a23 w7 => ∃ (f8 : Nat → Value) (H9 : Hp) (x11 : Int) (x12 : Int) (F13 : Foot) (x14 : List Sy.Op), a23 = mk 34 f8 ∧ f8 0 = .slice A2 x1.length c3 ∧ f8 1 = .int .i64 x11 ∧ f8 5 = .int .i64 x12 ∧ Row st45 45 H9 (hp w7) F13 A2 c3 x14 ∧ x14.length = x1.length ∧ Ext H H9 ∧ St (anyOf [F5]) H w [F13] H9 w7 ∧ laws_markOpS_2.l0 k22 x1 x11 x12 x14 = some r) k ⟨_, H, x6, 0, F5, x1, rfl, (by kernel_rfl), (by kernel_rfl), (by kernel_rfl), h4, rfl, (Ext.refl _), S0_, M⟩ ?_
  clear M
  rintro k22 a23 w7 ⟨f8, H9, x11, x12, F13, x14, rfl, e16, e17, e18, h4, n15, Y10, S19, M⟩
  rcases k22 with _ | k24
  · rw [laws_markOpS_2.l0] at M
    cases M
  rw [laws_markOpS_2.l0] at M
  refine wp_seq ?_
  refine wp_seq ?_
  refine wp_region_lit ?_
  refine lv (d := 6) rfl rfl (by kernel_rfl) (e_move (v := .int .i64 x12) (by exact e18)) ?_
  refine lv (d := 7) rfl rfl (by kernel_rfl) (e_move (v := .slice A2 x1.length c3) (by exact e16)) ?_
  refine lv (d := 8) rfl rfl (by kernel_rfl) (e_len (A := A2) (n := x1.length) (c := c3) Try.underlying25 (by kernel_rfl)) ?_
  refine lv (d := 9) rfl rfl (by kernel_rfl) (e_lss (k := .i64) (a := x12) (b := (x1.length : Int)) (by kernel_rfl) (by kernel_rfl)) ?_
  refine wpList_nil ?_
  refine then_n ?_
  by_cases q25 : x12 < (x1.length : Int)
  · replace M := ifp q25 M
    refine cond_t rfl (bt q25 (by kernel_rfl)) ?_
    refine wp_skip ?_
    refine then_n ?_
    refine wp_seq ?_
    refine wp_block ?_
    refine wp_seq ?_
    refine wp_region_lit ?_
    refine lv (d := 12) rfl rfl (by kernel_rfl) (e_move (v := .slice A2 x1.length c3) (by exact e16)) ?_
    refine lv (d := 13) rfl rfl (by kernel_rfl) (e_move (v := .int .i64 x12) (by exact e18)) ?_
    obtain ⟨q26, M⟩ := chk M
    obtain ⟨b27, e29⟩ := Row.addr h4 (show (x12).toNat < x14.length by have : x14.length = x1.length := n15; omega)
    refine lv (d := 14) rfl rfl (by kernel_rfl) (e_indexAddr (b := b27) (off := 0) (n := x1.length) (c := c3) (sz := 3) (i := x12) (k := .i64) Try.underlying25 e29 (by kernel_rfl) (by kernel_rfl) (by kernel_rfl) q26 q25) ?_
    refine lv (d := 15) rfl rfl (by kernel_rfl) (e_fieldAddr (b := b27) (off := 0 + (x12 : Int).toNat * 3) (o := 0) Try.underlying45 rfl rfl (sz := 1) (by kernel_rfl) (by decide) (by kernel_rfl)) ?_
    obtain ⟨y35, F36, G37, r38, d39, s40, k41, t42⟩ := Row.lend h4 e29 (getD_some z45 (show (x12).toNat < x14.length by have : x14.length = x1.length := n15; omega))
    obtain ⟨A43, c44, F47, rfl, h45, s46⟩ := st45_openO r38
    refine lv (d := 16) rfl rfl (by kernel_rfl) (e_load1 (ad := ⟨b27, 0 + (x12 : Int).toNat * 3 + 0, none⟩) (v := .slice A43 ((x14.getD ((x12).toNat) z45).name).length c44) Try.underlying32 rfl (by kernel_rfl) (hpx (k41 0 _ rfl))) ?_
    refine lv (d := 17) rfl rfl (by kernel_rfl) (e_move (v := .int .i64 x11) (by exact e17)) ?_
    have S48 := S19.part d39 s40
    have S49 := S48.sub s46
    have q50 : ∀ b_, G37 b_ → hp w7 b_ = hp w7 b_ := fun _ _ => rfl
    obtain ⟨t51, u52, M⟩ := bnd M
    refine lcall (d := 18) rfl rfl (by kernel_rfl) (e_call (l := [.tmp 16, .tmp 17]) (vs := [.slice A43 ((x14.getD ((x12).toNat) z45).name).length c44, .int .i64 x11]) Try.func20 (by kernel_rfl) rfl (by kernel_rfl) rfl) (laws_markByteS_2.calls k24 w7 H9 ((x14.getD ((x12).toNat) z45).name) A43 c44 F47 x11 h45 (St.own' (Fa := [F47]) (Fr := [G37]) S49) t51 u52) ?_
    rintro _ w53 ⟨F57, H54, rfl, n58, h56, T55⟩
    refine ⟨_, rfl, ?_⟩
    obtain ⟨S59, K60⟩ := St.call (Fa := [F47]) (Fr := [G37]) S49 T55
    replace q50 := fun b_ h_ => (K60.at 0 rfl b_ h_).trans (q50 b_ h_)
    have E61 := T55.ext
    have S62 := S59.pull (F := G37) (Fr := [F57]) 1 rfl rfl
    have S63 := S62.pull (F := F57) (Fr := [G37]) 1 rfl rfl
    have h64 := t42 H54 (hp w53) F57 ({(x14.getD ((x12).toNat) z45) with name := t51.2} : Sy.Op) E61 q50 (by have q_ := st45_mkO (x := {(x14.getD ((x12).toNat) z45) with name := t51.2}) h56; rw [show t51.2.length = ((x14.getD ((x12).toNat) z45).name).length from n58] at q_; exact q_) S63.dj
    have S65 := S63.join
    refine lv (d := 1) rfl rfl (by kernel_rfl) (e_assign (v := .int .i64 t51.1) (by kernel_rfl)) ?_
    refine wpList_nil ?_
    refine then_n ?_
    refine wp_seq ?_
    refine wp_region_lit ?_
    refine lv (d := 19) rfl rfl (by kernel_rfl) (e_move (v := .slice A2 x1.length c3) (by exact e16)) ?_
    refine lv (d := 20) rfl rfl (by kernel_rfl) (e_move (v := .int .i64 x12) (by exact e18)) ?_
    refine lv (d := 21) rfl rfl (by kernel_rfl) (e_move (v := .int .i64 t51.1) (by kernel_rfl)) ?_
    obtain ⟨b66, e68⟩ := Row.addr h64 (show (x12).toNat < (x14.set ((x12).toNat) ({(x14.getD ((x12).toNat) z45) with name := t51.2})).length by have : (x14.set ((x12).toNat) ({(x14.getD ((x12).toNat) z45) with name := t51.2})).length = x1.length := (List.length_set.trans n15); omega)
    refine lv (d := 22) rfl rfl (by kernel_rfl) (e_indexAddr (b := b66) (off := 0) (n := x1.length) (c := c3) (sz := 3) (i := x12) (k := .i64) Try.underlying25 e68 (by kernel_rfl) (by kernel_rfl) (by kernel_rfl) q26 q25) ?_
    refine lv (d := 23) rfl rfl (by kernel_rfl) (e_fieldAddr (b := b66) (off := 0 + (x12 : Int).toNat * 3) (o := 1) Try.underlying45 rfl rfl (sz := 1) (by kernel_rfl) (by decide) (by kernel_rfl)) ?_
    have S69 := S65.unit
    have S70 := S69.pull (F := (or2 F57 G37)) (Fr := [no]) 1 rfl rfl
    refine lse rfl rfl (by kernel_rfl) (e_setpart (d := st45) (b := b66) (i := (x12).toNat) (j := 1) (v := .int .i64 t51.1) (vs := [.int .i64 t51.1]) (yv := {((x14.set ((x12).toNat) ({(x14.getD ((x12).toNat) z45) with name := t51.2})).getD ((x12).toNat) z45) with pri := t51.1}) S70 (by kernel_rfl) e68 (by kernel_rfl) rfl (by kernel_rfl) h64 (getD_some z45 (show (x12).toNat < (x14.set ((x12).toNat) ({(x14.getD ((x12).toNat) z45) with name := t51.2})).length by have : (x14.set ((x12).toNat) ({(x14.getD ((x12).toNat) z45) with name := t51.2})).length = x1.length := (List.length_set.trans n15); omega)) (Nat.le_of_ble_eq_true rfl) (List.forall_mem_cons.2 ⟨rfl, (fun _ h_ => by cases h_)⟩) (fun _ _ _ o_ => st45_u1 t51.1 o_)) ?_
    rintro w71 ⟨F73, h72, S74, K75⟩
    clear h64
    refine wpList_nil ?_
    refine then_n ?_
    refine wp_seq ?_
    refine wp_region_lit ?_
    refine lv (d := 24) rfl rfl (by kernel_rfl) (e_move (v := .int .i64 t51.1) (by kernel_rfl)) ?_
    refine lv (d := 25) rfl rfl (by kernel_rfl) (e_add (k := .i64) (a := t51.1) (b := 1) (by kernel_rfl) rfl) ?_
    refine lv (d := 1) rfl rfl (by kernel_rfl) (e_assign (v := .int .i64 (IntKind.i64.wrap (t51.1 + 1))) (by kernel_rfl)) ?_
    refine wpList_nil ?_
    refine then_n ?_
    refine wp_seq ?_
    refine wp_region_lit ?_
    refine lv (d := 26) rfl rfl (by kernel_rfl) (e_move (v := .slice A2 x1.length c3) (by exact e16)) ?_
    refine lv (d := 27) rfl rfl (by kernel_rfl) (e_move (v := .int .i64 x12) (by exact e18)) ?_
    refine lv (d := 28) rfl rfl (by kernel_rfl) (e_move (v := .int .i64 (IntKind.i64.wrap (t51.1 + 1))) (by kernel_rfl)) ?_
    obtain ⟨b76, e78⟩ := Row.addr h72 (show (x12).toNat < ((x14.set ((x12).toNat) ({(x14.getD ((x12).toNat) z45) with name := t51.2})).set ((x12).toNat) ({((x14.set ((x12).toNat) ({(x14.getD ((x12).toNat) z45) with name := t51.2})).getD ((x12).toNat) z45) with pri := t51.1})).length by have : ((x14.set ((x12).toNat) ({(x14.getD ((x12).toNat) z45) with name := t51.2})).set ((x12).toNat) ({((x14.set ((x12).toNat) ({(x14.getD ((x12).toNat) z45) with name := t51.2})).getD ((x12).toNat) z45) with pri := t51.1})).length = x1.length := (List.length_set.trans (List.length_set.trans n15)); omega)
    refine lv (d := 29) rfl rfl (by kernel_rfl) (e_indexAddr (b := b76) (off := 0) (n := x1.length) (c := c3) (sz := 3) (i := x12) (k := .i64) Try.underlying25 e78 (by kernel_rfl) (by kernel_rfl) (by kernel_rfl) q26 q25) ?_
    refine lv (d := 30) rfl rfl (by kernel_rfl) (e_fieldAddr (b := b76) (off := 0 + (x12 : Int).toNat * 3) (o := 2) Try.underlying45 rfl rfl (sz := 1) (by kernel_rfl) (by decide) (by kernel_rfl)) ?_
    have S79 := S74.unit
    have S80 := S79.pull (F := F73) (Fr := [no]) 1 rfl rfl
    refine lse rfl rfl (by kernel_rfl) (e_setpart (d := st45) (b := b76) (i := (x12).toNat) (j := 2) (v := .int .i64 (IntKind.i64.wrap (t51.1 + 1))) (vs := [.int .i64 (IntKind.i64.wrap (t51.1 + 1))]) (yv := {(((x14.set ((x12).toNat) ({(x14.getD ((x12).toNat) z45) with name := t51.2})).set ((x12).toNat) ({((x14.set ((x12).toNat) ({(x14.getD ((x12).toNat) z45) with name := t51.2})).getD ((x12).toNat) z45) with pri := t51.1})).getD ((x12).toNat) z45) with typ := (IntKind.i64.wrap (t51.1 + 1))}) S80 (by kernel_rfl) e78 (by kernel_rfl) rfl (by kernel_rfl) h72 (getD_some z45 (show (x12).toNat < ((x14.set ((x12).toNat) ({(x14.getD ((x12).toNat) z45) with name := t51.2})).set ((x12).toNat) ({((x14.set ((x12).toNat) ({(x14.getD ((x12).toNat) z45) with name := t51.2})).getD ((x12).toNat) z45) with pri := t51.1})).length by have : ((x14.set ((x12).toNat) ({(x14.getD ((x12).toNat) z45) with name := t51.2})).set ((x12).toNat) ({((x14.set ((x12).toNat) ({(x14.getD ((x12).toNat) z45) with name := t51.2})).getD ((x12).toNat) z45) with pri := t51.1})).length = x1.length := (List.length_set.trans (List.length_set.trans n15)); omega)) (Nat.le_of_ble_eq_true rfl) (List.forall_mem_cons.2 ⟨rfl, (fun _ h_ => by cases h_)⟩) (fun _ _ _ o_ => st45_u2 (IntKind.i64.wrap (t51.1 + 1)) o_)) ?_
    rintro w81 ⟨F83, h82, S84, K85⟩
    clear h72
    refine wpList_nil ?_
    refine then_n ?_
    refine wp_region_lit ?_
    refine lv (d := 31) rfl rfl (by kernel_rfl) (e_move (v := .int .i64 (IntKind.i64.wrap (t51.1 + 1))) (by kernel_rfl)) ?_
    refine lv (d := 32) rfl rfl (by kernel_rfl) (e_add (k := .i64) (a := (IntKind.i64.wrap (t51.1 + 1))) (b := 1) (by kernel_rfl) rfl) ?_
    refine lv (d := 1) rfl rfl (by kernel_rfl) (e_assign (v := .int .i64 (IntKind.i64.wrap ((IntKind.i64.wrap (t51.1 + 1)) + 1))) (by kernel_rfl)) ?_
    refine wpList_nil ?_
    refine inb_n ?_
    refine then_n ?_
    refine wp_region_lit ?_
    refine lv (d := 10) rfl rfl (by kernel_rfl) (e_move (v := .int .i64 x12) (by exact e18)) ?_
    refine lv (d := 11) rfl rfl (by kernel_rfl) (e_add (k := .i64) (a := x12) (b := 1) (by kernel_rfl) rfl) ?_
    refine lv (d := 5) rfl rfl (by kernel_rfl) (e_assign (v := .int .i64 (IntKind.i64.wrap (x12 + 1))) (by kernel_rfl)) ?_
    refine wpList_nil ?_
    refine then_n ?_
    exact ⟨k24, (by omega), _, H54, (IntKind.i64.wrap ((IntKind.i64.wrap (t51.1 + 1)) + 1)), (IntKind.i64.wrap (x12 + 1)), F83, (((x14.set ((x12).toNat) ({(x14.getD ((x12).toNat) z45) with name := t51.2})).set ((x12).toNat) ({((x14.set ((x12).toNat) ({(x14.getD ((x12).toNat) z45) with name := t51.2})).getD ((x12).toNat) z45) with pri := t51.1})).set ((x12).toNat) ({(((x14.set ((x12).toNat) ({(x14.getD ((x12).toNat) z45) with name := t51.2})).set ((x12).toNat) ({((x14.set ((x12).toNat) ({(x14.getD ((x12).toNat) z45) with name := t51.2})).getD ((x12).toNat) z45) with pri := t51.1})).getD ((x12).toNat) z45) with typ := (IntKind.i64.wrap (t51.1 + 1))})), rfl, (by exact e16), (by kernel_rfl), (by kernel_rfl), h82, (List.length_set.trans (List.length_set.trans (List.length_set.trans n15))), (Y10.trans E61), S84, M⟩
  replace M := ifn q25 M
  refine cond_f rfl (bf q25 (by kernel_rfl)) ?_
  refine wp_exit ?_
  refine then_e ?_
  refine then_e ?_
  refine inb_hit ?_
  refine then_n ?_
  refine wp_seq ?_
  refine wp_region_lit ?_
  refine lv (d := 33) rfl rfl (by kernel_rfl) (e_move (v := .int .i64 x11) (by exact e17)) ?_
  refine lv (d := 4) rfl rfl (by kernel_rfl) (e_assign (v := .int .i64 x11) (by kernel_rfl)) ?_
  refine wpList_nil ?_
  refine then_n ?_
  refine wp_ret ?_
  obtain rfl := Option.some.inj M
  exact ret1 rfl rfl  (show _ = .int .i64 x11 from (by kernel_rfl)) ⟨F13, H9, rfl, n15, h4, S19⟩

/-! laws_heldByteS -/
def laws_heldByteS.l0 : Nat → (List UInt8) → Int → Int → Option Int
  | 0, _, _, _ => none
  | k19 + 1, x1, x9, x10 => (if x10 < (x1.length : Int) then (if 0 ≤ x10 then (if ((x1.getD ((x10).toNat) (0 : UInt8)).toNat : Int) ≠ ((b8 (x9)).toNat : Int) then some (-1) else (laws_heldByteS.l0 k19 x1 (IntKind.i64.wrap (x9 + 1)) (IntKind.i64.wrap (x10 + 1)))) else none) else some x9)
def laws_heldByteS.f (k : Nat) (x1 : List UInt8) (x6 : Int) : Option Int := (laws_heldByteS.l0 k x1 x6 0)
theorem laws_heldByteS.calls (k : Nat) (w : World) (H : Hp) (x1 : List UInt8) (A2 : Option Addr) (c3 : Nat) (x6 : Int) (h4 : Rd tByte H A2 x1) (l5 : x1.length ≤ c3) (S : Own [] H w) (r : Int) (M : laws_heldByteS.f k x1 x6 = some r) :
    Calls Try.prog 33 #[.slice A2 x1.length c3, .int .i64 x6] w (fun e e_w => e = .returned (.int .i64 r) ∧ Chg no w e_w) := by
  rw [laws_heldByteS.f] at M
  refine enter (l := [.slice A2 x1.length c3, .int .i64 x6]) 22 Try.func33 rfl rfl rfl ?_
  have S0_ := S.st
  refine wp_seq ?_
  refine wp_region_lit ?_
  refine lv (d := 4) rfl rfl (by kernel_rfl) (e_assign (v := .int .i64 0) rfl) ?_
  refine wpList_nil ?_
  refine then_n ?_
  refine wp_seq ?_
  refine wp_seq ?_
  refine wp_region_lit ?_
  refine lv (d := 5) rfl rfl (by kernel_rfl) (e_assign (v := .int .i64 0) rfl) ?_
  refine wpList_nil ?_
  refine then_n ?_
  refine wp_block ?_
  refine wp_loop_g (fun k17 a18 w7 => ∃ (f8 : Nat → Value) (x9 : Int) (x10 : Int), a18 = mk 22 f8 ∧ f8 0 = .slice A2 x1.length c3 ∧ f8 1 = .int .i64 x9 ∧ f8 5 = .int .i64 x10 ∧ St (anyOf []) H w [] H w7 ∧ laws_heldByteS.l0 k17 x1 x9 x10 = some r) k ⟨_, x6, 0, rfl, (by kernel_rfl), (by kernel_rfl), (by kernel_rfl), S0_, M⟩ ?_
  clear M
  rintro k17 a18 w7 ⟨f8, x9, x10, rfl, e11, e12, e13, S14, M⟩
  rcases k17 with _ | k19
  · rw [laws_heldByteS.l0] at M
    cases M
  rw [laws_heldByteS.l0] at M
  refine wp_seq ?_
  refine wp_seq ?_
  refine wp_region_lit ?_
  refine lv (d := 6) rfl rfl (by kernel_rfl) (e_move (v := .int .i64 x10) (by exact e13)) ?_
  refine lv (d := 7) rfl rfl (by kernel_rfl) (e_move (v := .slice A2 x1.length c3) (by exact e11)) ?_
  refine lv (d := 8) rfl rfl (by kernel_rfl) (e_len (A := A2) (n := x1.length) (c := c3) Try.underlying32 (by kernel_rfl)) ?_
  refine lv (d := 9) rfl rfl (by kernel_rfl) (e_lss (k := .i64) (a := x10) (b := (x1.length : Int)) (by kernel_rfl) (by kernel_rfl)) ?_
  refine wpList_nil ?_
  refine then_n ?_
  by_cases q20 : x10 < (x1.length : Int)
  · replace M := ifp q20 M
    refine cond_t rfl (bt q20 (by kernel_rfl)) ?_
    refine wp_skip ?_
    refine then_n ?_
    refine wp_seq ?_
    refine wp_block ?_
    refine wp_seq ?_
    refine wp_seq ?_
    refine wp_region_lit ?_
    refine lv (d := 12) rfl rfl (by kernel_rfl) (e_move (v := .slice A2 x1.length c3) (by exact e11)) ?_
    refine lv (d := 13) rfl rfl (by kernel_rfl) (e_move (v := .int .i64 x10) (by exact e13)) ?_
    obtain ⟨q21, M⟩ := chk M
    obtain ⟨b22, o23, e24⟩ := Rd.addr h4 (show (x10).toNat < x1.length by omega)
    obtain ⟨y25, r26, k27⟩ := Rd.at h4 e24 (getD_some (0 : UInt8) (show (x10).toNat < x1.length by omega))
    obtain rfl := r26
    refine lv (d := 14) rfl rfl (by kernel_rfl) (e_indexAddr (b := b22) (off := o23) (n := x1.length) (c := c3) (sz := 1) (i := x10) (k := .i64) Try.underlying32 e24 (by kernel_rfl) (by kernel_rfl) (by kernel_rfl) q21 q20) ?_
    refine lv (d := 15) rfl rfl (by kernel_rfl) (e_load1 (ad := ⟨b22, o23 + (x10 : Int).toNat * 1, none⟩) (v := .int .u8 ((x1.getD ((x10).toNat) (0 : UInt8)).toNat : Int)) Try.underlying5 rfl (by kernel_rfl) (hpx (S14.inv.cell (k27 0 _ rfl)))) ?_
    refine lv (d := 16) rfl rfl (by kernel_rfl) (e_move (v := .int .i64 x9) (by exact e12)) ?_
    refine lv (d := 17) rfl rfl (by kernel_rfl) (e_conv_i8 (k := .i64) (a := x9) (by kernel_rfl) Try.underlying5 (by kernel_rfl)) ?_
    refine lv (d := 18) rfl rfl (by kernel_rfl) (e_neq (k := .u8) (a := ((x1.getD ((x10).toNat) (0 : UInt8)).toNat : Int)) (b := ((b8 (x9)).toNat : Int)) (by kernel_rfl) (by kernel_rfl)) ?_
    refine wpList_nil ?_
    refine then_n ?_
    by_cases q28 : ((x1.getD ((x10).toNat) (0 : UInt8)).toNat : Int) ≠ ((b8 (x9)).toNat : Int)
    · replace M := ifp q28 M
      refine cond_t rfl (bt q28 (by kernel_rfl)) ?_
      refine wp_seq ?_
      refine wp_region_lit ?_
      refine lv (d := 4) rfl rfl (by kernel_rfl) (e_assign (v := .int .i64 (-1)) rfl) ?_
      refine wpList_nil ?_
      refine then_n ?_
      refine wp_ret ?_
      refine then_r ?_
      refine inb_r ?_
      refine then_r ?_
      refine then_r ?_
      refine inb_r ?_
      refine then_r ?_
      obtain rfl := Option.some.inj M
      exact ret1 rfl rfl  (show _ = .int .i64 (-1) from (by kernel_rfl)) ⟨rfl, S14.chg⟩
    replace M := ifn q28 M
    refine cond_f rfl (bf q28 (by kernel_rfl)) ?_
    refine wp_skip ?_
    refine then_n ?_
    refine wp_region_lit ?_
    refine lv (d := 19) rfl rfl (by kernel_rfl) (e_move (v := .int .i64 x9) (by exact e12)) ?_
    refine lv (d := 20) rfl rfl (by kernel_rfl) (e_add (k := .i64) (a := x9) (b := 1) (by kernel_rfl) rfl) ?_
    refine lv (d := 1) rfl rfl (by kernel_rfl) (e_assign (v := .int .i64 (IntKind.i64.wrap (x9 + 1))) (by kernel_rfl)) ?_
    refine wpList_nil ?_
    refine inb_n ?_
    refine then_n ?_
    refine wp_region_lit ?_
    refine lv (d := 10) rfl rfl (by kernel_rfl) (e_move (v := .int .i64 x10) (by exact e13)) ?_
    refine lv (d := 11) rfl rfl (by kernel_rfl) (e_add (k := .i64) (a := x10) (b := 1) (by kernel_rfl) rfl) ?_
    refine lv (d := 5) rfl rfl (by kernel_rfl) (e_assign (v := .int .i64 (IntKind.i64.wrap (x10 + 1))) (by kernel_rfl)) ?_
    refine wpList_nil ?_
    refine then_n ?_
    exact ⟨k19, (by omega), _, (IntKind.i64.wrap (x9 + 1)), (IntKind.i64.wrap (x10 + 1)), rfl, (by exact e11), (by kernel_rfl), (by kernel_rfl), S14, M⟩
  replace M := ifn q20 M
  refine cond_f rfl (bf q20 (by kernel_rfl)) ?_
  refine wp_exit ?_
  refine then_e ?_
  refine then_e ?_
  refine inb_hit ?_
  refine then_n ?_
  refine wp_seq ?_
  refine wp_region_lit ?_
  refine lv (d := 21) rfl rfl (by kernel_rfl) (e_move (v := .int .i64 x9) (by exact e12)) ?_
  refine lv (d := 4) rfl rfl (by kernel_rfl) (e_assign (v := .int .i64 x9) (by kernel_rfl)) ?_
  refine wpList_nil ?_
  refine then_n ?_
  refine wp_ret ?_
  obtain rfl := Option.some.inj M
  exact ret1 rfl rfl  (show _ = .int .i64 x9 from (by kernel_rfl)) ⟨rfl, S14.chg⟩

/-! laws_heldOpS -/
def laws_heldOpS.l0 : Nat → (List Sy.Op) → Int → Int → Option Int
  | 0, _, _, _ => none
  | k19 + 1, x1, x9, x10 => (if x10 < (x1.length : Int) then (if 0 ≤ x10 then ((laws_heldByteS.f k19 ((x1.getD ((x10).toNat) z45).name) x9).bind fun t32 => (if t32 < 0 then some (-1) else (if ((x1.getD ((x10).toNat) z45).pri) ≠ t32 then some (-1) else (if ((x1.getD ((x10).toNat) z45).typ) ≠ (IntKind.i64.wrap (t32 + 1)) then some (-1) else (laws_heldOpS.l0 k19 x1 (IntKind.i64.wrap ((IntKind.i64.wrap (t32 + 1)) + 1)) (IntKind.i64.wrap (x10 + 1))))))) else none) else some x9)
def laws_heldOpS.f (k : Nat) (x1 : List Sy.Op) (x6 : Int) : Option Int := (laws_heldOpS.l0 k x1 x6 0)
theorem laws_heldOpS.calls (k : Nat) (w : World) (H : Hp) (x1 : List Sy.Op) (A2 : Option Addr) (c3 : Nat) (x6 : Int) (h4 : Rd st45 H A2 x1) (l5 : x1.length ≤ c3) (S : Own [] H w) (r : Int) (M : laws_heldOpS.f k x1 x6 = some r) :
    Calls Try.prog 15 #[.slice A2 x1.length c3, .int .i64 x6] w (fun e e_w => e = .returned (.int .i64 r) ∧ Chg no w e_w) := by
  rw [laws_heldOpS.f] at M
  refine enter (l := [.slice A2 x1.length c3, .int .i64 x6]) 40 Try.func15 rfl rfl rfl ?_
  have S0_ := S.st
  refine wp_seq ?_
  refine wp_region_lit ?_
  refine lv (d := 4) rfl rfl (by kernel_rfl) (e_assign (v := .int .i64 0) rfl) ?_
  refine wpList_nil ?_
  refine then_n ?_
  refine wp_seq ?_
  refine wp_seq ?_
  refine wp_region_lit ?_
  refine lv (d := 5) rfl rfl (by kernel_rfl) (e_assign (v := .int .i64 0) rfl) ?_
  refine wpList_nil ?_
  refine then_n ?_
  refine wp_block ?_
  refine wp_loop_g (fun k17 a18 w7 => ∃ (f8 : Nat → Value) (x9 : Int) (x10 : Int), a18 = mk 40 f8 ∧ f8 0 = .slice A2 x1.length c3 ∧ f8 1 = .int .i64 x9 ∧ f8 5 = .int .i64 x10 ∧ St (anyOf []) H w [] H w7 ∧ laws_heldOpS.l0 k17 x1 x9 x10 = some r) k ⟨_, x6, 0, rfl, (by kernel_rfl), (by kernel_rfl), (by kernel_rfl), S0_, M⟩ ?_
  clear M
  rintro k17 a18 w7 ⟨f8, x9, x10, rfl, e11, e12, e13, S14, M⟩
  rcases k17 with _ | k19
  · rw [laws_heldOpS.l0] at M
    cases M
  rw [laws_heldOpS.l0] at M
  refine wp_seq ?_
  refine wp_seq ?_
  refine wp_region_lit ?_
  refine lv (d := 6) rfl rfl (by kernel_rfl) (e_move (v := .int .i64 x10) (by exact e13)) ?_
  refine lv (d := 7) rfl rfl (by kernel_rfl) (e_move (v := .slice A2 x1.length c3) (by exact e11)) ?_
  refine lv (d := 8) rfl rfl (by kernel_rfl) (e_len (A := A2) (n := x1.length) (c := c3) Try.underlying25 (by kernel_rfl)) ?_
  refine lv (d := 9) rfl rfl (by kernel_rfl) (e_lss (k := .i64) (a := x10) (b := (x1.length : Int)) (by kernel_rfl) (by kernel_rfl)) ?_
  refine wpList_nil ?_
  refine then_n ?_
  by_cases q20 : x10 < (x1.length : Int)
  · replace M := ifp q20 M
    refine cond_t rfl (bt q20 (by kernel_rfl)) ?_
    refine wp_skip ?_
    refine then_n ?_
    refine wp_seq ?_
    refine wp_block ?_
    refine wp_seq ?_
    refine wp_region_lit ?_
    refine lv (d := 12) rfl rfl (by kernel_rfl) (e_move (v := .slice A2 x1.length c3) (by exact e11)) ?_
    refine lv (d := 13) rfl rfl (by kernel_rfl) (e_move (v := .int .i64 x10) (by exact e13)) ?_
    obtain ⟨q21, M⟩ := chk M
    obtain ⟨b22, o23, e24⟩ := Rd.addr h4 (show (x10).toNat < x1.length by omega)
    obtain ⟨y25, r26, k27⟩ := Rd.at h4 e24 (getD_some z45 (show (x10).toNat < x1.length by omega))
    obtain ⟨A28, c29, rfl, l30, h31⟩ := st45_open r26
    refine lv (d := 14) rfl rfl (by kernel_rfl) (e_indexAddr (b := b22) (off := o23) (n := x1.length) (c := c3) (sz := 3) (i := x10) (k := .i64) Try.underlying25 e24 (by kernel_rfl) (by kernel_rfl) (by kernel_rfl) q21 q20) ?_
    refine lv (d := 15) rfl rfl (by kernel_rfl) (e_fieldAddr (b := b22) (off := o23 + (x10 : Int).toNat * 3) (o := 0) Try.underlying45 rfl rfl (sz := 1) (by kernel_rfl) (by decide) (by kernel_rfl)) ?_
    refine lv (d := 16) rfl rfl (by kernel_rfl) (e_load1 (ad := ⟨b22, o23 + (x10 : Int).toNat * 3 + 0, none⟩) (v := .slice A28 ((x1.getD ((x10).toNat) z45).name).length c29) Try.underlying32 rfl (by kernel_rfl) (hpx (S14.inv.cell (k27 0 _ rfl)))) ?_
    refine lv (d := 17) rfl rfl (by kernel_rfl) (e_move (v := .int .i64 x9) (by exact e12)) ?_
    obtain ⟨t32, u33, M⟩ := bnd M
    refine lcall (d := 18) rfl rfl (by kernel_rfl) (e_call (l := [.tmp 16, .tmp 17]) (vs := [.slice A28 ((x1.getD ((x10).toNat) z45).name).length c29, .int .i64 x9]) Try.func33 (by kernel_rfl) rfl (by kernel_rfl) rfl) (laws_heldByteS.calls k19 w7 H ((x1.getD ((x10).toNat) z45).name) A28 c29 x9 h31 l30 S14.own0 t32 u33) ?_
    rintro _ w34 ⟨rfl, C35⟩
    refine ⟨_, rfl, ?_⟩
    obtain ⟨S36, K37⟩ := S14.still C35
    refine lv (d := 1) rfl rfl (by kernel_rfl) (e_assign (v := .int .i64 t32) (by kernel_rfl)) ?_
    refine wpList_nil ?_
    refine then_n ?_
    refine wp_seq ?_
    refine wp_seq ?_
    refine wp_region_lit ?_
    refine lv (d := 19) rfl rfl (by kernel_rfl) (e_move (v := .int .i64 t32) (by kernel_rfl)) ?_
    refine lv (d := 20) rfl rfl (by kernel_rfl) (e_lss (k := .i64) (a := t32) (b := 0) (by kernel_rfl) rfl) ?_
    refine wpList_nil ?_
    refine then_n ?_
    by_cases q38 : t32 < 0
    · replace M := ifp q38 M
      refine cond_t rfl (bt q38 (by kernel_rfl)) ?_
      refine wp_seq ?_
      refine wp_region_lit ?_
      refine lv (d := 4) rfl rfl (by kernel_rfl) (e_assign (v := .int .i64 (-1)) rfl) ?_
      refine wpList_nil ?_
      refine then_n ?_
      refine wp_ret ?_
      refine then_r ?_
      refine inb_r ?_
      refine then_r ?_
      refine then_r ?_
      refine inb_r ?_
      refine then_r ?_
      obtain rfl := Option.some.inj M
      exact ret1 rfl rfl  (show _ = .int .i64 (-1) from (by kernel_rfl)) ⟨rfl, S36.chg⟩
    replace M := ifn q38 M
    refine cond_f rfl (bf q38 (by kernel_rfl)) ?_
    refine wp_skip ?_
    refine then_n ?_
    refine wp_seq ?_
    refine wp_seq ?_
    refine wp_region_lit ?_
    refine lv (d := 21) rfl rfl (by kernel_rfl) (e_move (v := .slice A2 x1.length c3) (by exact e11)) ?_
    refine lv (d := 22) rfl rfl (by kernel_rfl) (e_move (v := .int .i64 x10) (by exact e13)) ?_
    obtain ⟨b39, o40, e41⟩ := Rd.addr h4 (show (x10).toNat < x1.length by omega)
    obtain ⟨y42, r43, k44⟩ := Rd.at h4 e41 (getD_some z45 (show (x10).toNat < x1.length by omega))
    obtain ⟨A45, c46, rfl, l47, h48⟩ := st45_open r43
    refine lv (d := 23) rfl rfl (by kernel_rfl) (e_indexAddr (b := b39) (off := o40) (n := x1.length) (c := c3) (sz := 3) (i := x10) (k := .i64) Try.underlying25 e41 (by kernel_rfl) (by kernel_rfl) (by kernel_rfl) q21 q20) ?_
    refine lv (d := 24) rfl rfl (by kernel_rfl) (e_fieldAddr (b := b39) (off := o40 + (x10 : Int).toNat * 3) (o := 1) Try.underlying45 rfl rfl (sz := 1) (by kernel_rfl) (by decide) (by kernel_rfl)) ?_
    refine lv (d := 25) rfl rfl (by kernel_rfl) (e_load1 (ad := ⟨b39, o40 + (x10 : Int).toNat * 3 + 1, none⟩) (v := .int .i64 ((x1.getD ((x10).toNat) z45).pri)) Try.underlying3 rfl (by kernel_rfl) (hpx (S36.inv.cell (k44 1 _ rfl)))) ?_
    refine lv (d := 26) rfl rfl (by kernel_rfl) (e_move (v := .int .i64 t32) (by kernel_rfl)) ?_
    refine lv (d := 27) rfl rfl (by kernel_rfl) (e_neq (k := .i64) (a := (x1.getD ((x10).toNat) z45).pri) (b := t32) (by kernel_rfl) (by kernel_rfl)) ?_
    refine wpList_nil ?_
    refine then_n ?_
    by_cases q49 : ((x1.getD ((x10).toNat) z45).pri) ≠ t32
    · replace M := ifp q49 M
      refine cond_t rfl (bt q49 (by kernel_rfl)) ?_
      refine wp_seq ?_
      refine wp_region_lit ?_
      refine lv (d := 4) rfl rfl (by kernel_rfl) (e_assign (v := .int .i64 (-1)) rfl) ?_
      refine wpList_nil ?_
      refine then_n ?_
      refine wp_ret ?_
      refine then_r ?_
      refine inb_r ?_
      refine then_r ?_
      refine then_r ?_
      refine inb_r ?_
      refine then_r ?_
      obtain rfl := Option.some.inj M
      exact ret1 rfl rfl  (show _ = .int .i64 (-1) from (by kernel_rfl)) ⟨rfl, S36.chg⟩
    replace M := ifn q49 M
    refine cond_f rfl (bf q49 (by kernel_rfl)) ?_
    refine wp_skip ?_
    refine then_n ?_
    refine wp_seq ?_
    refine wp_region_lit ?_
    refine lv (d := 28) rfl rfl (by kernel_rfl) (e_move (v := .int .i64 t32) (by kernel_rfl)) ?_
    refine lv (d := 29) rfl rfl (by kernel_rfl) (e_add (k := .i64) (a := t32) (b := 1) (by kernel_rfl) rfl) ?_
    refine lv (d := 1) rfl rfl (by kernel_rfl) (e_assign (v := .int .i64 (IntKind.i64.wrap (t32 + 1))) (by kernel_rfl)) ?_
    refine wpList_nil ?_
    refine then_n ?_
    refine wp_seq ?_
    refine wp_seq ?_
    refine wp_region_lit ?_
    refine lv (d := 30) rfl rfl (by kernel_rfl) (e_move (v := .slice A2 x1.length c3) (by exact e11)) ?_
    refine lv (d := 31) rfl rfl (by kernel_rfl) (e_move (v := .int .i64 x10) (by exact e13)) ?_
    obtain ⟨b50, o51, e52⟩ := Rd.addr h4 (show (x10).toNat < x1.length by omega)
    obtain ⟨y53, r54, k55⟩ := Rd.at h4 e52 (getD_some z45 (show (x10).toNat < x1.length by omega))
    obtain ⟨A56, c57, rfl, l58, h59⟩ := st45_open r54
    refine lv (d := 32) rfl rfl (by kernel_rfl) (e_indexAddr (b := b50) (off := o51) (n := x1.length) (c := c3) (sz := 3) (i := x10) (k := .i64) Try.underlying25 e52 (by kernel_rfl) (by kernel_rfl) (by kernel_rfl) q21 q20) ?_
    refine lv (d := 33) rfl rfl (by kernel_rfl) (e_fieldAddr (b := b50) (off := o51 + (x10 : Int).toNat * 3) (o := 2) Try.underlying45 rfl rfl (sz := 1) (by kernel_rfl) (by decide) (by kernel_rfl)) ?_
    refine lv (d := 34) rfl rfl (by kernel_rfl) (e_load1 (ad := ⟨b50, o51 + (x10 : Int).toNat * 3 + 2, none⟩) (v := .int .i64 ((x1.getD ((x10).toNat) z45).typ)) Try.underlying3 rfl (by kernel_rfl) (hpx (S36.inv.cell (k55 2 _ rfl)))) ?_
    refine lv (d := 35) rfl rfl (by kernel_rfl) (e_move (v := .int .i64 (IntKind.i64.wrap (t32 + 1))) (by kernel_rfl)) ?_
    refine lv (d := 36) rfl rfl (by kernel_rfl) (e_neq (k := .i64) (a := (x1.getD ((x10).toNat) z45).typ) (b := (IntKind.i64.wrap (t32 + 1))) (by kernel_rfl) (by kernel_rfl)) ?_
    refine wpList_nil ?_
    refine then_n ?_
    by_cases q60 : ((x1.getD ((x10).toNat) z45).typ) ≠ (IntKind.i64.wrap (t32 + 1))
    · replace M := ifp q60 M
      refine cond_t rfl (bt q60 (by kernel_rfl)) ?_
      refine wp_seq ?_
      refine wp_region_lit ?_
      refine lv (d := 4) rfl rfl (by kernel_rfl) (e_assign (v := .int .i64 (-1)) rfl) ?_
      refine wpList_nil ?_
      refine then_n ?_
      refine wp_ret ?_
      refine then_r ?_
      refine inb_r ?_
      refine then_r ?_
      refine then_r ?_
      refine inb_r ?_
      refine then_r ?_
      obtain rfl := Option.some.inj M
      exact ret1 rfl rfl  (show _ = .int .i64 (-1) from (by kernel_rfl)) ⟨rfl, S36.chg⟩
    replace M := ifn q60 M
    refine cond_f rfl (bf q60 (by kernel_rfl)) ?_
    refine wp_skip ?_
    refine then_n ?_
    refine wp_region_lit ?_
    refine lv (d := 37) rfl rfl (by kernel_rfl) (e_move (v := .int .i64 (IntKind.i64.wrap (t32 + 1))) (by kernel_rfl)) ?_
    refine lv (d := 38) rfl rfl (by kernel_rfl) (e_add (k := .i64) (a := (IntKind.i64.wrap (t32 + 1))) (b := 1) (by kernel_rfl) rfl) ?_
    refine lv (d := 1) rfl rfl (by kernel_rfl) (e_assign (v := .int .i64 (IntKind.i64.wrap ((IntKind.i64.wrap (t32 + 1)) + 1))) (by kernel_rfl)) ?_
    refine wpList_nil ?_
    refine inb_n ?_
    refine then_n ?_
    refine wp_region_lit ?_
    refine lv (d := 10) rfl rfl (by kernel_rfl) (e_move (v := .int .i64 x10) (by exact e13)) ?_
    refine lv (d := 11) rfl rfl (by kernel_rfl) (e_add (k := .i64) (a := x10) (b := 1) (by kernel_rfl) rfl) ?_
    refine lv (d := 5) rfl rfl (by kernel_rfl) (e_assign (v := .int .i64 (IntKind.i64.wrap (x10 + 1))) (by kernel_rfl)) ?_
    refine wpList_nil ?_
    refine then_n ?_
    exact ⟨k19, (by omega), _, (IntKind.i64.wrap ((IntKind.i64.wrap (t32 + 1)) + 1)), (IntKind.i64.wrap (x10 + 1)), rfl, (by exact e11), (by kernel_rfl), (by kernel_rfl), S36, M⟩
  replace M := ifn q20 M
  refine cond_f rfl (bf q20 (by kernel_rfl)) ?_
  refine wp_exit ?_
  refine then_e ?_
  refine then_e ?_
  refine inb_hit ?_
  refine then_n ?_
  refine wp_seq ?_
  refine wp_region_lit ?_
  refine lv (d := 39) rfl rfl (by kernel_rfl) (e_move (v := .int .i64 x9) (by exact e12)) ?_
  refine lv (d := 4) rfl rfl (by kernel_rfl) (e_assign (v := .int .i64 x9) (by kernel_rfl)) ?_
  refine wpList_nil ?_
  refine then_n ?_
  refine wp_ret ?_
  obtain rfl := Option.some.inj M
  exact ret1 rfl rfl  (show _ = .int .i64 x9 from (by kernel_rfl)) ⟨rfl, S14.chg⟩

/-! laws_FnExactDefaultOps -/
def laws_FnExactDefaultOps.f (k : Nat) : Option Bool := ((spec_DefaultOps.f k ).bind fun t1 => ((impl_DefaultOps.f k ).bind fun t13 => ((laws_eqOpS.f k t13 t1).bind fun t25 => (if ¬ (t25 = true) then some false else ((laws_markOpS_2.f k t13 1).bind fun t44 => ((laws_heldOpS.f k t44.2 1).bind fun t55 => (if t55 < 0 then some false else (if t55 ≠ t44.1 then some false else ((impl_DefaultOps.f k ).bind fun t69 => ((laws_eqOpS.f k t69 t1).bind fun t81 => (if ¬ (t81 = true) then some false else ((laws_heldOpS.f k t44.2 1).bind fun t101 => (if t101 < 0 then some false else (if t101 ≠ t44.1 then some false else some true))))))))))))))
theorem laws_FnExactDefaultOps.calls (k : Nat) (w : World) (H : Hp) (S : Own [] H w) (r : Bool) (M : laws_FnExactDefaultOps.f k = some r) :
    Calls Try.prog 4 #[] w (fun e e_w => e = .returned (.bool r) ∧ Chg no w e_w) := by
  rw [laws_FnExactDefaultOps.f] at M
  refine enter (l := []) 36 Try.func4 rfl rfl rfl ?_
  have S0_ := S.st
  refine wp_seq ?_
  refine wp_region_lit ?_
  refine lv (d := 0) rfl rfl (by kernel_rfl) (e_assign (v := .bool false) rfl) ?_
  refine wpList_nil ?_
  refine then_n ?_
  refine wp_seq ?_
  refine wp_region_lit ?_
  obtain ⟨t1, u2, M⟩ := bnd M
  refine lcall (d := 6) rfl rfl (by kernel_rfl) (e_call (l := []) (vs := []) Try.func12 (by kernel_rfl) rfl (by kernel_rfl) rfl) (spec_DefaultOps.calls k w H   (St.own' (Fa := []) (Fr := []) S0_) t1 u2) ?_
  rintro _ w3 ⟨A6, c7, F9, H4, rfl, h8, T5⟩
  refine ⟨_, rfl, ?_⟩
  obtain ⟨S10, K11⟩ := St.call (Fa := []) (Fr := []) S0_ T5
  have E12 := T5.ext
  refine lv (d := 1) rfl rfl (by kernel_rfl) (e_assign (v := .slice A6 t1.length c7) (by kernel_rfl)) ?_
  refine wpList_nil ?_
  refine then_n ?_
  refine wp_seq ?_
  refine wp_region_lit ?_
  obtain ⟨t13, u14, M⟩ := bnd M
  refine lcall (d := 7) rfl rfl (by kernel_rfl) (e_call (l := []) (vs := []) Try.func13 (by kernel_rfl) rfl (by kernel_rfl) rfl) (impl_DefaultOps.calls k w3 H4   (St.own' (Fa := []) (Fr := [F9]) S10) t13 u14) ?_
  rintro _ w15 ⟨A18, c19, F21, H16, rfl, h20, T17⟩
  refine ⟨_, rfl, ?_⟩
  obtain ⟨S22, K23⟩ := St.call (Fa := []) (Fr := [F9]) S10 T17
  replace h8 := h8.move (K23.at 0 rfl)
  have E24 := T17.ext
  replace h8 := h8.ext E24
  refine lv (d := 2) rfl rfl (by kernel_rfl) (e_assign (v := .slice A18 t13.length c19) (by kernel_rfl)) ?_
  refine wpList_nil ?_
  refine then_n ?_
  refine wp_seq ?_
  refine wp_seq ?_
  refine wp_region_lit ?_
  refine lv (d := 8) rfl rfl (by kernel_rfl) (e_move (v := .slice A18 t13.length c19) (by kernel_rfl)) ?_
  refine lv (d := 9) rfl rfl (by kernel_rfl) (e_move (v := .slice A6 t1.length c7) (by kernel_rfl)) ?_
  obtain ⟨t25, u26, M⟩ := bnd M
  refine lcall (d := 10) rfl rfl (by kernel_rfl) (e_call (l := [.tmp 8, .tmp 9]) (vs := [.slice A18 t13.length c19, .slice A6 t1.length c7]) Try.func11 (by kernel_rfl) rfl (by kernel_rfl) rfl) (by have l27 := h20.le; obtain ⟨H28, S29, E30, h31, z32⟩ := S22.frzRow h20; replace h8 := h8.ext E30; have l33 := h8.le; obtain ⟨H34, S35, E36, h37, z38⟩ := S29.frzRow h8; replace h37 := h37.unro; exact (laws_eqOpS.calls k w15 H34 t13 A18 c19 t1 A6 c7 (h31.ext E36) l27 h37 l33 S35.own0 t25 u26)) ?_
  rintro _ w39 ⟨rfl, C40⟩
  refine ⟨_, rfl, ?_⟩
  obtain ⟨S41, K42⟩ := S22.still C40
  replace h20 := h20.move (K42.at 0 rfl)
  replace h8 := h8.move (K42.at 1 rfl)
  refine lv (d := 11) rfl rfl (by kernel_rfl) (e_notv (c := t25) (by kernel_rfl)) ?_
  refine wpList_nil ?_
  refine then_n ?_
  by_cases q43 : ¬ (t25 = true)
  · replace M := ifp q43 M
    refine cond_t rfl (bt q43 (by kernel_rfl)) ?_
    refine wp_seq ?_
    refine wp_region_lit ?_
    refine lv (d := 0) rfl rfl (by kernel_rfl) (e_assign (v := .bool false) rfl) ?_
    refine wpList_nil ?_
    refine then_n ?_
    refine wp_ret ?_
    refine then_r ?_
    obtain rfl := Option.some.inj M
    exact ret1 rfl rfl  (show _ = .bool false from (by kernel_rfl)) ⟨rfl, S41.chg⟩
  replace M := ifn q43 M
  refine cond_f rfl (bf q43 (by kernel_rfl)) ?_
  refine wp_skip ?_
  refine then_n ?_
  refine wp_seq ?_
  refine wp_region_lit ?_
  refine lv (d := 3) rfl rfl (by kernel_rfl) (e_assign (v := .int .i64 1) rfl) ?_
  refine wpList_nil ?_
  refine then_n ?_
  refine wp_seq ?_
  refine wp_region_lit ?_
  refine lv (d := 12) rfl rfl (by kernel_rfl) (e_move (v := .slice A18 t13.length c19) (by kernel_rfl)) ?_
  refine lv (d := 13) rfl rfl (by kernel_rfl) (e_move (v := .int .i64 1) (by kernel_rfl)) ?_
  obtain ⟨t44, u45, M⟩ := bnd M
  refine lcall (d := 14) rfl rfl (by kernel_rfl) (e_call (l := [.tmp 12, .tmp 13]) (vs := [.slice A18 t13.length c19, .int .i64 1]) Try.func14 (by kernel_rfl) rfl (by kernel_rfl) rfl) (laws_markOpS_2.calls k w39 H16 t13 A18 c19 F21 1 h20 (St.own' (Fa := [F21]) (Fr := [F9]) S41) t44 u45) ?_
  rintro _ w46 ⟨F50, H47, rfl, n51, h49, T48⟩
  refine ⟨_, rfl, ?_⟩
  obtain ⟨S52, K53⟩ := St.call (Fa := [F21]) (Fr := [F9]) S41 T48
  replace h8 := h8.move (K53.at 0 rfl)
  have E54 := T48.ext
  replace h8 := h8.ext E54
  refine lv (d := 3) rfl rfl (by kernel_rfl) (e_assign (v := .int .i64 t44.1) (by kernel_rfl)) ?_
  refine wpList_nil ?_
  refine then_n ?_
  refine wp_seq ?_
  refine wp_region_lit ?_
  refine lv (d := 4) rfl rfl (by kernel_rfl) (e_assign (v := .int .i64 1) rfl) ?_
  refine wpList_nil ?_
  refine then_n ?_
  refine wp_seq ?_
  refine wp_region_lit ?_
  refine lv (d := 15) rfl rfl (by kernel_rfl) (e_move (v := .slice A18 t13.length c19) (by kernel_rfl)) ?_
  refine lv (d := 16) rfl rfl (by kernel_rfl) (e_move (v := .int .i64 1) (by kernel_rfl)) ?_
  obtain ⟨t55, u56, M⟩ := bnd M
  refine lcall (d := 17) rfl rfl (by kernel_rfl) (e_call (l := [.tmp 15, .tmp 16]) (vs := [.slice A18 t13.length c19, .int .i64 1]) Try.func15 (by kernel_rfl) rfl (by kernel_rfl) rfl) (by have l57 := h49.le; obtain ⟨H58, S59, E60, h61, z62⟩ := S52.frzRow h49; replace h8 := h8.ext E60; exact (by have q_ := (laws_heldOpS.calls k w46 H58 t44.2 A18 c19 1 h61 l57 S59.own0 t55 u56); (try rw [(show t44.2.length = t13.length from n51)] at q_); exact q_)) ?_
  rintro _ w63 ⟨rfl, C64⟩
  refine ⟨_, rfl, ?_⟩
  obtain ⟨S65, K66⟩ := S52.still C64
  replace h49 := h49.move (K66.at 0 rfl)
  replace h8 := h8.move (K66.at 1 rfl)
  refine lv (d := 4) rfl rfl (by kernel_rfl) (e_assign (v := .int .i64 t55) (by kernel_rfl)) ?_
  refine wpList_nil ?_
  refine then_n ?_
  refine wp_seq ?_
  refine wp_seq ?_
  refine wp_region_lit ?_
  refine lv (d := 18) rfl rfl (by kernel_rfl) (e_move (v := .int .i64 t55) (by kernel_rfl)) ?_
  refine lv (d := 19) rfl rfl (by kernel_rfl) (e_lss (k := .i64) (a := t55) (b := 0) (by kernel_rfl) rfl) ?_
  refine wpList_nil ?_
  refine then_n ?_
  by_cases q67 : t55 < 0
  · replace M := ifp q67 M
    refine cond_t rfl (bt q67 (by kernel_rfl)) ?_
    refine wp_seq ?_
    refine wp_region_lit ?_
    refine lv (d := 0) rfl rfl (by kernel_rfl) (e_assign (v := .bool false) rfl) ?_
    refine wpList_nil ?_
    refine then_n ?_
    refine wp_ret ?_
    refine then_r ?_
    obtain rfl := Option.some.inj M
    exact ret1 rfl rfl  (show _ = .bool false from (by kernel_rfl)) ⟨rfl, S65.chg⟩
  replace M := ifn q67 M
  refine cond_f rfl (bf q67 (by kernel_rfl)) ?_
  refine wp_skip ?_
  refine then_n ?_
  refine wp_seq ?_
  refine wp_seq ?_
  refine wp_region_lit ?_
  refine lv (d := 20) rfl rfl (by kernel_rfl) (e_move (v := .int .i64 t55) (by kernel_rfl)) ?_
  refine lv (d := 21) rfl rfl (by kernel_rfl) (e_move (v := .int .i64 t44.1) (by kernel_rfl)) ?_
  refine lv (d := 22) rfl rfl (by kernel_rfl) (e_neq (k := .i64) (a := t55) (b := t44.1) (by kernel_rfl) (by kernel_rfl)) ?_
  refine wpList_nil ?_
  refine then_n ?_
  by_cases q68 : t55 ≠ t44.1
  · replace M := ifp q68 M
    refine cond_t rfl (bt q68 (by kernel_rfl)) ?_
    refine wp_seq ?_
    refine wp_region_lit ?_
    refine lv (d := 0) rfl rfl (by kernel_rfl) (e_assign (v := .bool false) rfl) ?_
    refine wpList_nil ?_
    refine then_n ?_
    refine wp_ret ?_
    refine then_r ?_
    obtain rfl := Option.some.inj M
    exact ret1 rfl rfl  (show _ = .bool false from (by kernel_rfl)) ⟨rfl, S65.chg⟩
  replace M := ifn q68 M
  refine cond_f rfl (bf q68 (by kernel_rfl)) ?_
  refine wp_skip ?_
  refine then_n ?_
  refine wp_seq ?_
  refine wp_region_lit ?_
  obtain ⟨t69, u70, M⟩ := bnd M
  refine lcall (d := 23) rfl rfl (by kernel_rfl) (e_call (l := []) (vs := []) Try.func13 (by kernel_rfl) rfl (by kernel_rfl) rfl) (impl_DefaultOps.calls k w63 H47   (St.own' (Fa := []) (Fr := [F50, F9]) S65) t69 u70) ?_
  rintro _ w71 ⟨A74, c75, F77, H72, rfl, h76, T73⟩
  refine ⟨_, rfl, ?_⟩
  obtain ⟨S78, K79⟩ := St.call (Fa := []) (Fr := [F50, F9]) S65 T73
  replace h49 := h49.move (K79.at 0 rfl)
  replace h8 := h8.move (K79.at 1 rfl)
  have E80 := T73.ext
  replace h49 := h49.ext E80
  replace h8 := h8.ext E80
  refine lv (d := 5) rfl rfl (by kernel_rfl) (e_assign (v := .slice A74 t69.length c75) (by kernel_rfl)) ?_
  refine wpList_nil ?_
  refine then_n ?_
  refine wp_seq ?_
  refine wp_seq ?_
  refine wp_region_lit ?_
  refine lv (d := 24) rfl rfl (by kernel_rfl) (e_move (v := .slice A74 t69.length c75) (by kernel_rfl)) ?_
  refine lv (d := 25) rfl rfl (by kernel_rfl) (e_move (v := .slice A6 t1.length c7) (by kernel_rfl)) ?_
  obtain ⟨t81, u82, M⟩ := bnd M
  refine lcall (d := 26) rfl rfl (by kernel_rfl) (e_call (l := [.tmp 24, .tmp 25]) (vs := [.slice A74 t69.length c75, .slice A6 t1.length c7]) Try.func11 (by kernel_rfl) rfl (by kernel_rfl) rfl) (by have l83 := h76.le; obtain ⟨H84, S85, E86, h87, z88⟩ := S78.frzRow h76; replace h49 := h49.ext E86; replace h8 := h8.ext E86; have l89 := h8.le; have S90 := S85.pull (F := F9) (Fr := [F50]) 1 rfl rfl; obtain ⟨H91, S92, E93, h94, z95⟩ := S90.frzRow h8; replace h49 := h49.ext E93; replace h94 := h94.unro; exact (laws_eqOpS.calls k w71 H91 t69 A74 c75 t1 A6 c7 (h87.ext E93) l83 h94 l89 S92.own0 t81 u82)) ?_
  rintro _ w96 ⟨rfl, C97⟩
  refine ⟨_, rfl, ?_⟩
  obtain ⟨S98, K99⟩ := S78.still C97
  replace h76 := h76.move (K99.at 0 rfl)
  replace h49 := h49.move (K99.at 1 rfl)
  replace h8 := h8.move (K99.at 2 rfl)
  refine lv (d := 27) rfl rfl (by kernel_rfl) (e_notv (c := t81) (by kernel_rfl)) ?_
  refine wpList_nil ?_
  refine then_n ?_
  by_cases q100 : ¬ (t81 = true)
  · replace M := ifp q100 M
    refine cond_t rfl (bt q100 (by kernel_rfl)) ?_
    refine wp_seq ?_
    refine wp_region_lit ?_
    refine lv (d := 0) rfl rfl (by kernel_rfl) (e_assign (v := .bool false) rfl) ?_
    refine wpList_nil ?_
    refine then_n ?_
    refine wp_ret ?_
    refine then_r ?_
    obtain rfl := Option.some.inj M
    exact ret1 rfl rfl  (show _ = .bool false from (by kernel_rfl)) ⟨rfl, S98.chg⟩
  replace M := ifn q100 M
  refine cond_f rfl (bf q100 (by kernel_rfl)) ?_
  refine wp_skip ?_
  refine then_n ?_
  refine wp_seq ?_
  refine wp_region_lit ?_
  refine lv (d := 4) rfl rfl (by kernel_rfl) (e_assign (v := .int .i64 1) rfl) ?_
  refine wpList_nil ?_
  refine then_n ?_
  refine wp_seq ?_
  refine wp_region_lit ?_
  refine lv (d := 28) rfl rfl (by kernel_rfl) (e_move (v := .slice A18 t13.length c19) (by kernel_rfl)) ?_
  refine lv (d := 29) rfl rfl (by kernel_rfl) (e_move (v := .int .i64 1) (by kernel_rfl)) ?_
  obtain ⟨t101, u102, M⟩ := bnd M
  refine lcall (d := 30) rfl rfl (by kernel_rfl) (e_call (l := [.tmp 28, .tmp 29]) (vs := [.slice A18 t13.length c19, .int .i64 1]) Try.func15 (by kernel_rfl) rfl (by kernel_rfl) rfl) (by have l103 := h49.le; have S104 := S98.pull (F := F50) (Fr := [F77, F9]) 1 rfl rfl; obtain ⟨H105, S106, E107, h108, z109⟩ := S104.frzRow h49; replace h76 := h76.ext E107; replace h8 := h8.ext E107; exact (by have q_ := (laws_heldOpS.calls k w96 H105 t44.2 A18 c19 1 h108 l103 S106.own0 t101 u102); (try rw [(show t44.2.length = t13.length from n51)] at q_); exact q_)) ?_
  rintro _ w110 ⟨rfl, C111⟩
  refine ⟨_, rfl, ?_⟩
  obtain ⟨S112, K113⟩ := S98.still C111
  replace h76 := h76.move (K113.at 0 rfl)
  replace h49 := h49.move (K113.at 1 rfl)
  replace h8 := h8.move (K113.at 2 rfl)
  refine lv (d := 4) rfl rfl (by kernel_rfl) (e_assign (v := .int .i64 t101) (by kernel_rfl)) ?_
  refine wpList_nil ?_
  refine then_n ?_
  refine wp_seq ?_
  refine wp_seq ?_
  refine wp_region_lit ?_
  refine lv (d := 31) rfl rfl (by kernel_rfl) (e_move (v := .int .i64 t101) (by kernel_rfl)) ?_
  refine lv (d := 32) rfl rfl (by kernel_rfl) (e_lss (k := .i64) (a := t101) (b := 0) (by kernel_rfl) rfl) ?_
  refine wpList_nil ?_
  refine then_n ?_
  by_cases q114 : t101 < 0
  · replace M := ifp q114 M
    refine cond_t rfl (bt q114 (by kernel_rfl)) ?_
    refine wp_seq ?_
    refine wp_region_lit ?_
    refine lv (d := 0) rfl rfl (by kernel_rfl) (e_assign (v := .bool false) rfl) ?_
    refine wpList_nil ?_
    refine then_n ?_
    refine wp_ret ?_
    refine then_r ?_
    obtain rfl := Option.some.inj M
    exact ret1 rfl rfl  (show _ = .bool false from (by kernel_rfl)) ⟨rfl, S112.chg⟩
  replace M := ifn q114 M
  refine cond_f rfl (bf q114 (by kernel_rfl)) ?_
  refine wp_skip ?_
  refine then_n ?_
  refine wp_seq ?_
  refine wp_seq ?_
  refine wp_region_lit ?_
  refine lv (d := 33) rfl rfl (by kernel_rfl) (e_move (v := .int .i64 t101) (by kernel_rfl)) ?_
  refine lv (d := 34) rfl rfl (by kernel_rfl) (e_move (v := .int .i64 t44.1) (by kernel_rfl)) ?_
  refine lv (d := 35) rfl rfl (by kernel_rfl) (e_neq (k := .i64) (a := t101) (b := t44.1) (by kernel_rfl) (by kernel_rfl)) ?_
  refine wpList_nil ?_
  refine then_n ?_
  by_cases q115 : t101 ≠ t44.1
  · replace M := ifp q115 M
    refine cond_t rfl (bt q115 (by kernel_rfl)) ?_
    refine wp_seq ?_
    refine wp_region_lit ?_
    refine lv (d := 0) rfl rfl (by kernel_rfl) (e_assign (v := .bool false) rfl) ?_
    refine wpList_nil ?_
    refine then_n ?_
    refine wp_ret ?_
    refine then_r ?_
    obtain rfl := Option.some.inj M
    exact ret1 rfl rfl  (show _ = .bool false from (by kernel_rfl)) ⟨rfl, S112.chg⟩
  replace M := ifn q115 M
  refine cond_f rfl (bf q115 (by kernel_rfl)) ?_
  refine wp_skip ?_
  refine then_n ?_
  refine wp_seq ?_
  refine wp_region_lit ?_
  refine lv (d := 0) rfl rfl (by kernel_rfl) (e_assign (v := .bool true) rfl) ?_
  refine wpList_nil ?_
  refine then_n ?_
  refine wp_ret ?_
  obtain rfl := Option.some.inj M
  exact ret1 rfl rfl  (show _ = .bool true from (by kernel_rfl)) ⟨rfl, S112.chg⟩
end Go.Proofs.Ytminnekeekhjcaa
