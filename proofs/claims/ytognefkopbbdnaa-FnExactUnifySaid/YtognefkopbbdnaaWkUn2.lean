import Derived.Test.YtognefkopbbdnaaWkUn1
namespace Go.Proofs.Ytognefkopbbdnaa
open Go.Sx Go.Sy
attribute [local irreducible] Go.wpList Go.wpStill Go.wpQuiet Go.Code.wp
set_option maxRecDepth 100000
set_option maxHeartbeats 1000000
set_option linter.unusedVariables false
set_option linter.unusedSimpArgs false

/-! spec_l2copy -/
def spec_l2copy.l0 : Nat → (List Cell) → (List Cell) → Int → Option (List Cell)
  | 0, _, _, _ => none
  | k24 + 1, x1, x10, x15 => (if x15 < (x1.length : Int) then (if 0 ≤ x15 then ((spec_l1copy.f ((x1.getD ((x15).toNat) z65).text)).bind fun t95 => (if x10.length + 1 ≤ 3518437208883 then (spec_l2copy.l0 k24 x1 (x10 ++ [(⟨(x1.getD ((x15).toNat) z65).kind, (x1.getD ((x15).toNat) z65).n, t95⟩ : Cell)]) (IntKind.i64.wrap (x15 + 1))) else none)) else none) else some x10)
def spec_l2copy.f (k : Nat) (x1 : List Cell) : Option (List Cell) := (spec_l2copy.l0 k x1 [] 0)
theorem spec_l2copy.calls (k : Nat) (w : World) (H : Hp) (x1 : List Cell) (A2 : Option Addr) (c3 : Nat) (h4 : Rd st65 H A2 x1) (l5 : x1.length ≤ c3) (S : Own [] H w) (r : List Cell) (M : spec_l2copy.f k x1 = some r) :
    Calls Try.prog 75 #[.slice A2 x1.length c3] w (fun e e_w => ∃ (A_1 : Option Addr) (c_1 : Nat) (F_1 : Foot) (H_ : Hp), e = .returned (.slice A_1 r.length c_1) ∧ Row st65 65 H_ (hp e_w) F_1 A_1 c_1 r ∧ St (anyOf []) H w [F_1] H_ e_w) := by
  rw [spec_l2copy.f] at M
  refine enter (l := [.slice A2 x1.length c3]) 32 Try.func75 rfl rfl rfl ?_
  have S0_ := S.st
  refine wp_seq ?_
  refine wp_region_lit ?_
  refine lv (d := 2) rfl rfl (by kernel_rfl) (e_assign (v := .slice none 0 0) rfl) ?_
  refine wpList_nil ?_
  refine then_n ?_
  refine wp_seq ?_
  refine wp_region_lit ?_
  refine lv (d := 3) rfl rfl (by kernel_rfl) (e_assign (v := .slice none 0 0) rfl) ?_
  refine wpList_nil ?_
  refine then_n ?_
  refine wp_seq ?_
  refine wp_seq ?_
  refine wp_region_lit ?_
  refine lv (d := 4) rfl rfl (by kernel_rfl) (e_assign (v := .int .i64 0) rfl) ?_
  refine wpList_nil ?_
  refine then_n ?_
  refine wp_block ?_
  have S25 := S0_.unit
  refine wp_loop_g (fun k22 a23 w6 => ∃ (f7 : Nat → Value) (H8 : Hp) (x10 : List Cell) (A11 : Option Addr) (c12 : Nat) (F13 : Foot) (x15 : Int), a23 = mk 32 f7 ∧ f7 0 = .slice A2 x1.length c3 ∧ f7 3 = .slice A11 x10.length c12 ∧ f7 4 = .int .i64 x15 ∧ Row st65 65 H8 (hp w6) F13 A11 c12 x10 ∧ Ext H H8 ∧ St (anyOf []) H w [F13] H8 w6 ∧ spec_l2copy.l0 k22 x1 x10 x15 = some r) k ⟨_, H, [], none, 0, no, 0, rfl, (by kernel_rfl), (by kernel_rfl), (by kernel_rfl), (Row.nil _ _ _ _ _), (Ext.refl _), S25, M⟩ ?_
  clear M
  rintro k22 a23 w6 ⟨f7, H8, x10, A11, c12, F13, x15, rfl, e16, e17, e18, h14, Y9, S19, M⟩
  rcases k22 with _ | k24
  · rw [spec_l2copy.l0] at M
    cases M
  rw [spec_l2copy.l0] at M
  refine wp_seq ?_
  refine wp_seq ?_
  refine wp_region_lit ?_
  refine lv (d := 5) rfl rfl (by kernel_rfl) (e_move (v := .int .i64 x15) (by exact e18)) ?_
  refine lv (d := 6) rfl rfl (by kernel_rfl) (e_move (v := .slice A2 x1.length c3) (by exact e16)) ?_
  refine lv (d := 7) rfl rfl (by kernel_rfl) (e_len (A := A2) (n := x1.length) (c := c3) Try.underlying25 (by kernel_rfl)) ?_
  refine lv (d := 8) rfl rfl (by kernel_rfl) (e_lss (k := .i64) (a := x15) (b := (x1.length : Int)) (by kernel_rfl) (by kernel_rfl)) ?_
  refine wpList_nil ?_
  refine then_n ?_
  by_cases q26 : x15 < (x1.length : Int)
  · replace M := ifp q26 M
    refine cond_t rfl (bt q26 (by kernel_rfl)) ?_
    refine wp_skip ?_
    refine then_n ?_
    refine wp_seq ?_
    refine wp_block ?_
    refine region_mix (S := (fun (L_ : Array Bool) (w_ : World) => Ext H8 (hp w_) ∧ True)) (by kernel_rfl) S19 ?_
    intro w27 S28 K29 hc30
    have hs31 : (fun (L_ : Array Bool) (w_ : World) => Ext H8 (hp w_) ∧ True) (Array.replicate 21 false) w27 := ⟨S28.inv, trivial⟩
    replace h14 := h14.move (K29.at 0 rfl)
    refine xv (i := 0) (d := 11) rfl rfl rfl (by kernel_rfl) (by kernel_rfl) (fun _ _ => Iff.rfl) hc30 hs31 (fun L_ w_ hc_ hu_ hs_ => e_move (v := .slice A11 x10.length c12) (by exact e17)) ?_; intro hc32 hs33
    refine xv (i := 1) (d := 12) rfl rfl rfl (by kernel_rfl) (by kernel_rfl) (fun _ _ => Iff.rfl) hc32 hs33 (fun L_ w_ hc_ hu_ hs_ => e_move (v := .slice A2 x1.length c3) (by exact e16)) ?_; intro hc34 hs35
    refine xv (i := 2) (d := 13) rfl rfl rfl (by kernel_rfl) (by kernel_rfl) (fun _ _ => Iff.rfl) hc34 hs35 (fun L_ w_ hc_ hu_ hs_ => e_move (v := .int .i64 x15) (by exact e18)) ?_; intro hc36 hs37
    obtain ⟨q38, M⟩ := chk M
    obtain ⟨b39, o40, e41⟩ := Rd.addr h4 (show (x15).toNat < x1.length by omega)
    obtain ⟨y42, r43, k44⟩ := Rd.at h4 e41 (getD_some z65 (show (x15).toNat < x1.length by omega))
    obtain ⟨A45, c46, rfl, l47, h48⟩ := st65_open r43
    refine xv (i := 3) (d := 14) rfl rfl rfl (by kernel_rfl) (by kernel_rfl) (fun _ _ => Iff.rfl) hc36 hs37 (fun L_ w_ hc_ hu_ hs_ => e_indexAddr (b := b39) (off := o40) (n := x1.length) (c := c3) (sz := 3) (i := x15) (k := .i64) Try.underlying25 e41 (by kernel_rfl) (by kernel_rfl) (by kernel_rfl) q38 q26) ?_; intro hc49 hs50
    refine xv (i := 4) (d := 15) rfl rfl rfl (by kernel_rfl) (by kernel_rfl) (fun _ _ => Iff.rfl) hc49 hs50 (fun L_ w_ hc_ hu_ hs_ => e_fieldAddr (b := b39) (off := o40 + (x15 : Int).toNat * 3) (o := 0) Try.underlying65 rfl rfl (sz := 1) (by kernel_rfl) (by decide) (by kernel_rfl)) ?_; intro hc51 hs52
    refine xv (i := 5) (d := 16) rfl rfl rfl (by kernel_rfl) (by kernel_rfl) (fun _ _ => Iff.rfl) hc51 hs52 (fun L_ w_ hc_ hu_ hs_ => e_load1 (ad := ⟨b39, o40 + (x15 : Int).toNat * 3 + 0, none⟩) (v := .int .i64 ((x1.getD ((x15).toNat) z65).kind)) Try.underlying3 rfl (by kernel_rfl) (hpx (hs_.1.cell (Y9.cell (k44 0 _ rfl))))) ?_; intro hc53 hs54
    refine xv (i := 6) (d := 17) rfl rfl rfl (by kernel_rfl) (by kernel_rfl) (fun _ _ => Iff.rfl) hc53 hs54 (fun L_ w_ hc_ hu_ hs_ => e_move (v := .slice A2 x1.length c3) (by exact e16)) ?_; intro hc55 hs56
    refine xv (i := 7) (d := 18) rfl rfl rfl (by kernel_rfl) (by kernel_rfl) (fun _ _ => Iff.rfl) hc55 hs56 (fun L_ w_ hc_ hu_ hs_ => e_move (v := .int .i64 x15) (by exact e18)) ?_; intro hc57 hs58
    obtain ⟨b59, o60, e61⟩ := Rd.addr h4 (show (x15).toNat < x1.length by omega)
    obtain ⟨y62, r63, k64⟩ := Rd.at h4 e61 (getD_some z65 (show (x15).toNat < x1.length by omega))
    obtain ⟨A65, c66, rfl, l67, h68⟩ := st65_open r63
    refine xv (i := 8) (d := 19) rfl rfl rfl (by kernel_rfl) (by kernel_rfl) (fun _ _ => Iff.rfl) hc57 hs58 (fun L_ w_ hc_ hu_ hs_ => e_indexAddr (b := b59) (off := o60) (n := x1.length) (c := c3) (sz := 3) (i := x15) (k := .i64) Try.underlying25 e61 (by kernel_rfl) (by kernel_rfl) (by kernel_rfl) q38 q26) ?_; intro hc69 hs70
    refine xv (i := 9) (d := 20) rfl rfl rfl (by kernel_rfl) (by kernel_rfl) (fun _ _ => Iff.rfl) hc69 hs70 (fun L_ w_ hc_ hu_ hs_ => e_fieldAddr (b := b59) (off := o60 + (x15 : Int).toNat * 3) (o := 1) Try.underlying65 rfl rfl (sz := 1) (by kernel_rfl) (by decide) (by kernel_rfl)) ?_; intro hc71 hs72
    refine xv (i := 10) (d := 21) rfl rfl rfl (by kernel_rfl) (by kernel_rfl) (fun _ _ => Iff.rfl) hc71 hs72 (fun L_ w_ hc_ hu_ hs_ => e_load1 (ad := ⟨b59, o60 + (x15 : Int).toNat * 3 + 1, none⟩) (v := .int .i64 ((x1.getD ((x15).toNat) z65).n)) Try.underlying3 rfl (by kernel_rfl) (hpx (hs_.1.cell (Y9.cell (k64 1 _ rfl))))) ?_; intro hc73 hs74
    refine xv (i := 11) (d := 22) rfl rfl rfl (by kernel_rfl) (by kernel_rfl) (fun _ _ => Iff.rfl) hc73 hs74 (fun L_ w_ hc_ hu_ hs_ => e_move (v := .slice A2 x1.length c3) (by exact e16)) ?_; intro hc75 hs76
    refine xone (i := 12) (by kernel_rfl) hc75 ?_
    refine yo (i := 12) (d := 23) rfl rfl (wanted_none rfl _) (by kernel_rfl) (by kernel_rfl) (fun _ _ => Iff.rfl) hs76 (e_move (v := .int .i64 x15) (by exact e18)) ?_; intro hc77 hs78
    obtain ⟨b79, o80, e81⟩ := Rd.addr h4 (show (x15).toNat < x1.length by omega)
    obtain ⟨y82, r83, k84⟩ := Rd.at h4 e81 (getD_some z65 (show (x15).toNat < x1.length by omega))
    obtain ⟨A85, c86, rfl, l87, h88⟩ := st65_open r83
    refine xone (i := 13) (by kernel_rfl) hc77 ?_
    refine yo (i := 13) (d := 24) rfl rfl (wanted_none rfl _) (by kernel_rfl) (by kernel_rfl) (fun _ _ => Iff.rfl) hs78 (e_indexAddr (b := b79) (off := o80) (n := x1.length) (c := c3) (sz := 3) (i := x15) (k := .i64) Try.underlying25 e81 (by kernel_rfl) (by kernel_rfl) (by kernel_rfl) q38 q26) ?_; intro hc89 hs90
    refine xone (i := 14) (by kernel_rfl) hc89 ?_
    refine yo (i := 14) (d := 25) rfl rfl (wanted_none rfl _) (by kernel_rfl) (by kernel_rfl) (fun _ _ => Iff.rfl) hs90 (e_fieldAddr (b := b79) (off := o80 + (x15 : Int).toNat * 3) (o := 2) Try.underlying65 rfl rfl (sz := 1) (by kernel_rfl) (by decide) (by kernel_rfl)) ?_; intro hc91 hs92
    refine xone (i := 15) (by kernel_rfl) hc91 ?_
    refine yo (i := 15) (d := 26) rfl rfl (wanted_none rfl _) (by kernel_rfl) (by kernel_rfl) (fun _ _ => Iff.rfl) hs92 (e_load1 (ad := ⟨b79, o80 + (x15 : Int).toNat * 3 + 2, none⟩) (v := .slice A85 ((x1.getD ((x15).toNat) z65).text).length c86) Try.underlying59 rfl (by kernel_rfl) (hpx (S28.inv.cell (Y9.cell (k84 2 _ rfl))))) ?_; intro hc93 hs94
    obtain ⟨t95, u96, M⟩ := bnd M
    refine xone (i := 16) (by kernel_rfl) hc93 ?_
    refine yc (i := 16) rfl (wanted_none rfl _) (by kernel_rfl) (by kernel_rfl) (e_call (l := [.tmp 26]) (vs := [.slice A85 ((x1.getD ((x15).toNat) z65).text).length c86]) Try.func113 (by kernel_rfl) rfl (by kernel_rfl) rfl) (spec_l1copy.calls w27 H8 ((x1.getD ((x15).toNat) z65).text) A85 c86 (h88.ext Y9) l87 (St.own' (Fa := []) (Fr := [F13]) S28) t95 u96) ?_
    rintro hc104 _ w97 ⟨A100, c101, F103, H98, rfl, h102, T99⟩
    refine ⟨_, rfl, ?_⟩
    obtain ⟨S105, K106⟩ := St.call (Fa := []) (Fr := [F13]) S28 T99
    replace h14 := h14.move (K106.at 0 rfl)
    have E107 := T99.ext
    replace h14 := h14.ext E107
    refine ⟨⟨(Ext.trans E107 S105.inv), trivial⟩, fun hs108 => ?_⟩
    refine xone (i := 17) (by kernel_rfl) hc104 ?_
    refine yo (i := 17) (d := 28) rfl rfl (wanted_none rfl _) (by kernel_rfl) (by kernel_rfl) (fun _ _ => Iff.rfl) hs108 (show _ = Result.ok (Next.value (.agg #[.int .i64 ((x1.getD ((x15).toNat) z65).kind), .int .i64 ((x1.getD ((x15).toNat) z65).n), .slice A100 t95.length c101])) w97 from by kernel_rfl) ?_; intro hc109 hs110
    refine xone (i := 18) (by kernel_rfl) hc109 ?_
    refine ye (i := 18) (d := 29) rfl rfl (wanted_none rfl _) (by kernel_rfl) (by kernel_rfl) (new_blk (v := fun g_ => .slice (some ⟨g_, 0, none⟩) 1 1) (cs := #[.int .i64 ((x1.getD ((x15).toNat) z65).kind), .int .i64 ((x1.getD ((x15).toNat) z65).n), .slice A100 t95.length c101]) (t := 65) S105 (by kernel_rfl)) ?_
    rintro hc116 _ w111 ⟨g112, rfl, b113, S114, K115⟩
    replace h102 := h102.move (K115.at 0 rfl)
    replace h14 := h14.move (K115.at 1 rfl)
    refine ⟨⟨(Ext.trans E107 S114.inv), trivial⟩, fun hs117 => ?_⟩
    obtain ⟨q118, M⟩ := chk M
    have S119 := S114.pull (F := F103) (Fr := [(is g112), F13]) 1 rfl rfl
    have S120 := S119.pull (F := F13) (Fr := [F103, (is g112)]) 2 rfl rfl
    refine xone (i := 19) (by kernel_rfl) hc116 ?_
    refine ye (i := 19) (d := 30) rfl rfl (wanted_none rfl _) (by kernel_rfl) (by kernel_rfl) (e_append (d := st65) (n := x10.length) (xs := x10) (cap := c12) (A := A11) (ys := [(⟨(x1.getD ((x15).toNat) z65).kind, (x1.getD ((x15).toNat) z65).n, t95⟩ : Cell)]) (A2 := (some ⟨g112, 0, none⟩)) (c2 := 1) (z := .agg #[.int .i64 0, .int .i64 0, .slice none 0 0]) (bytes := 40) S120 Try.underlying25 (by kernel_rfl) rfl (by decide) (by kernel_rfl) rfl (by kernel_rfl) h14 (elsO_one1 (st65_mkO (x := (⟨(x1.getD ((x15).toNat) z65).kind, (x1.getD ((x15).toNat) z65).n, t95⟩ : Cell)) h102)) (.inr (blk_news b113 rfl)) (show (x10.length + [(⟨(x1.getD ((x15).toNat) z65).kind, (x1.getD ((x15).toNat) z65).n, t95⟩ : Cell)].length) * 40 ≤ _ by first | omega | (simp only [List.length_cons, List.length_nil]; omega)) (by decide)) ?_
    rintro hc128 _ w121 ⟨A122, c123, F124, rfl, h125, S126, K127⟩
    replace b113 := K127.blk 0 rfl b113
    refine ⟨⟨(Ext.trans E107 S126.inv), trivial⟩, fun hs129 => ?_⟩
    refine xone (i := 20) (by kernel_rfl) hc128 ?_
    refine yo (i := 20) (d := 3) rfl rfl (wanted_none rfl _) (by kernel_rfl) (by kernel_rfl) (fun _ _ => Iff.rfl) hs129 (e_assign (v := .slice A122 ((x10 ++ [(⟨(x1.getD ((x15).toNat) z65).kind, (x1.getD ((x15).toNat) z65).n, t95⟩ : Cell)]).length) c123) (by kernel_rfl)) ?_; intro hc130 hs131
    refine xn (by kernel_rfl) ?_ _
    refine inb_n ?_
    refine then_n ?_
    refine wp_region_lit ?_
    refine lv (d := 9) rfl rfl (by kernel_rfl) (e_move (v := .int .i64 x15) (by exact e18)) ?_
    refine lv (d := 10) rfl rfl (by kernel_rfl) (e_add (k := .i64) (a := x15) (b := 1) (by kernel_rfl) rfl) ?_
    refine lv (d := 4) rfl rfl (by kernel_rfl) (e_assign (v := .int .i64 (IntKind.i64.wrap (x15 + 1))) (by kernel_rfl)) ?_
    refine wpList_nil ?_
    refine then_n ?_
    have S132 := St.first (Fa := [F124]) (Fr := [(is g112)]) S126
    exact ⟨k24, (by omega), _, H98, (x10 ++ [(⟨(x1.getD ((x15).toNat) z65).kind, (x1.getD ((x15).toNat) z65).n, t95⟩ : Cell)]), A122, c123, F124, (IntKind.i64.wrap (x15 + 1)), rfl, (by exact e16), (by kernel_rfl), (by kernel_rfl), h125, (Y9.trans E107), S132, M⟩
  replace M := ifn q26 M
  refine cond_f rfl (bf q26 (by kernel_rfl)) ?_
  refine wp_exit ?_
  refine then_e ?_
  refine then_e ?_
  refine inb_hit ?_
  refine then_n ?_
  refine wp_seq ?_
  refine wp_region_lit ?_
  refine lv (d := 31) rfl rfl (by kernel_rfl) (e_move (v := .slice A11 x10.length c12) (by exact e17)) ?_
  refine lv (d := 2) rfl rfl (by kernel_rfl) (e_assign (v := .slice A11 x10.length c12) (by kernel_rfl)) ?_
  refine wpList_nil ?_
  refine then_n ?_
  refine wp_ret ?_
  obtain rfl := Option.some.inj M
  exact ret1 rfl rfl  (show _ = .slice A11 x10.length c12 from (by kernel_rfl)) ⟨A11, c12, F13, H8, rfl, h14, S19⟩

/-! spec_l5whole -/
mutual
def spec_l5whole_2.l0 : Nat → GL5st → (List Cell) → (List Cell) → Int → Option ((List Cell) × Bool)
  | 0, _, _, _, _ => none
  | k37 + 1, x1, x8, x22, x27 => (if x27 < (x8.length : Int) then (if 0 ≤ x27 then (if ((x8.getD ((x27).toNat) z65).kind) = 0 then ((spec_l5index.f k37 x1.sub_ ((x8.getD ((x27).toNat) z65).n)).bind fun t75 => (spec_l5whole_2.l1 k37 x1 x8 x22 x27 t75)) else (spec_l5whole_2.l1 k37 x1 x8 x22 x27 (-1))) else none) else some (x22, true))
def spec_l5whole_2.l1 : Nat → GL5st → (List Cell) → (List Cell) → Int → Int → Option ((List Cell) × Bool)
  | 0, _, _, _, _, _ => none
  | k51 + 1, x1, x8, x22, x27, x41 => (if x41 ≥ 0 then (if 0 ≤ x41 then (if x41 < (x1.sub_.length : Int) then ((spec_l5whole_2.f k51 x1 ((x1.sub_.getD ((x41).toNat) z63).term) x22).bind fun t126 => (spec_l5whole_2.l2 k51 x1 x8 x27 t126.1 t126.2)) else none) else none) else (if 0 ≤ x27 then (if x27 ≤ (IntKind.i64.wrap (x27 + 1)) then (if (IntKind.i64.wrap (x27 + 1)) ≤ (x8.length : Int) then ((spec_l2copy.f k51 ((x8.drop ((x27 : Int).toNat)).take (((IntKind.i64.wrap (x27 + 1)) : Int).toNat - (x27 : Int).toNat))).bind fun t147 => (if x22.length + t147.length ≤ 3518437208883 then (spec_l5whole_2.l2 k51 x1 x8 x27 (x22 ++ t147) true) else none)) else none) else none) else none))
def spec_l5whole_2.l2 : Nat → GL5st → (List Cell) → Int → (List Cell) → Bool → Option ((List Cell) × Bool)
  | 0, _, _, _, _, _ => none
  | k106 + 1, x1, x8, x27, x91, x96 => (if ¬ (x96 = true) then some ([], false) else (if (x91.length : Int) > 2000 then some ([], false) else (spec_l5whole_2.l0 k106 x1 x8 x91 (IntKind.i64.wrap (x27 + 1)))))
def spec_l5whole_2.f : Nat → GL5st → (List Cell) → (List Cell) → Option ((List Cell) × Bool)
  | 0, _, _, _ => none
  | k1_ + 1, x1, x8, x13 => (spec_l5whole_2.l0 k1_ x1 x8 x13 0)
end
theorem spec_l5whole_2.all : ∀ (K : Nat), (∀ (k : Nat), k < K → ∀ (w : World) (H : Hp) (x1 : GL5st) (g2 : Nat) (A4 : Option Addr) (c5 : Nat) (F7 : Foot) (x8 : List Cell) (A9 : Option Addr) (c10 : Nat) (x13 : List Cell) (A14 : Option Addr) (c15 : Nat) (F17 : Foot) (h6 : Row (ro st63) 63 H (hp w) F7 A4 c5 x1.sub_) (b3 : w.heap[g2]? = some (.cells #[.slice A4 x1.sub_.length c5, .int .i64 x1.pairs_] 106 (0, 0))) (h11 : Rd st65 H A9 x8) (l12 : x8.length ≤ c10) (h16 : Row st65 65 H (hp w) F17 A14 c15 x13) (S : Own [F7, (is g2), F17] H w) (r : (List Cell) × Bool) (M : spec_l5whole_2.f k x1 x8 x13 = some r), Calls Try.prog 90 #[.pointer (some ⟨g2, 0, none⟩), .slice A9 x8.length c10, .slice A14 x13.length c15] w (fun e e_w => ∃ (A_1 : Option Addr) (c_1 : Nat) (F_1 : Foot) (H_ : Hp), e = .returned (.tuple #[.slice A_1 r.1.length c_1, .bool r.2]) ∧ Row (ro st63) 63 H_ (hp e_w) F7 A4 c5 x1.sub_ ∧ e_w.heap[g2]? = some (.cells #[.slice A4 x1.sub_.length c5, .int .i64 x1.pairs_] 106 (0, 0)) ∧ Row st65 65 H_ (hp e_w) F_1 A_1 c_1 r.1 ∧ St (anyOf [F7, (is g2), F17]) H w [F7, (is g2), F_1] H_ e_w)) := by
  intro K
  induction K with
  | zero => intro k hk; omega
  | succ K ih =>
    intro k hk w H x1 g2 A4 c5 F7 x8 A9 c10 x13 A14 c15 F17 h6 b3 h11 l12 h16 S r M
    rcases k with _ | k1_
    · rw [spec_l5whole_2.f] at M
      cases M
    rw [spec_l5whole_2.f] at M
    refine enter (l := [.pointer (some ⟨g2, 0, none⟩), .slice A9 x8.length c10, .slice A14 x13.length c15]) 65 Try.func90 rfl rfl rfl ?_
    have S0_ := S.st
    refine wp_seq ?_
    refine wp_region_lit ?_
    refine lv (d := 6) rfl rfl (by kernel_rfl) (e_assign (v := .slice none 0 0) rfl) ?_
    refine lv (d := 7) rfl rfl (by kernel_rfl) (e_assign (v := .bool false) rfl) ?_
    refine wpList_nil ?_
    refine then_n ?_
    refine wp_seq ?_
    refine wp_seq ?_
    refine wp_region_lit ?_
    refine lv (d := 8) rfl rfl (by kernel_rfl) (e_assign (v := .int .i64 0) rfl) ?_
    refine wpList_nil ?_
    refine then_n ?_
    refine wp_block ?_
    refine wp_loop_g (fun k35 a36 w18 => ∃ (f19 : Nat → Value) (H20 : Hp) (x22 : List Cell) (A23 : Option Addr) (c24 : Nat) (F25 : Foot) (x27 : Int), k35 < K ∧ a36 = mk 65 f19 ∧ f19 0 = .pointer (some ⟨g2, 0, none⟩) ∧ f19 1 = .slice A9 x8.length c10 ∧ f19 2 = .slice A23 x22.length c24 ∧ f19 8 = .int .i64 x27 ∧ Row (ro st63) 63 H20 (hp w18) F7 A4 c5 x1.sub_ ∧ w18.heap[g2]? = some (.cells #[.slice A4 x1.sub_.length c5, .int .i64 x1.pairs_] 106 (0, 0)) ∧ Row st65 65 H20 (hp w18) F25 A23 c24 x22 ∧ Ext H H20 ∧ St (anyOf [F7, (is g2), F17]) H w [F7, (is g2), F25] H20 w18 ∧ spec_l5whole_2.l0 k35 x1 x8 x22 x27 = some r) k1_ ⟨_, H, x13, A14, c15, F17, 0, (by omega), rfl, (by kernel_rfl), (by kernel_rfl), (by kernel_rfl), (by kernel_rfl), h6, b3, h16, (Ext.refl _), S0_, M⟩ ?_
    clear M
    rintro k35 a36 w18 ⟨f19, H20, x22, A23, c24, F25, x27, z33, rfl, e28, e29, e30, e31, h6, b3, h26, Y21, S32, M⟩
    rcases k35 with _ | k37
    · rw [spec_l5whole_2.l0] at M
      cases M
    rw [spec_l5whole_2.l0] at M
    refine wp_seq ?_
    refine wp_seq ?_
    refine wp_region_lit ?_
    refine lv (d := 11) rfl rfl (by kernel_rfl) (e_move (v := .int .i64 x27) (by exact e31)) ?_
    refine lv (d := 12) rfl rfl (by kernel_rfl) (e_move (v := .slice A9 x8.length c10) (by exact e29)) ?_
    refine lv (d := 13) rfl rfl (by kernel_rfl) (e_len (A := A9) (n := x8.length) (c := c10) Try.underlying25 (by kernel_rfl)) ?_
    refine lv (d := 14) rfl rfl (by kernel_rfl) (e_lss (k := .i64) (a := x27) (b := (x8.length : Int)) (by kernel_rfl) (by kernel_rfl)) ?_
    refine wpList_nil ?_
    refine then_n ?_
    by_cases q38 : x27 < (x8.length : Int)
    · replace M := ifp q38 M
      refine cond_t rfl (bt q38 (by kernel_rfl)) ?_
      refine wp_skip ?_
      refine then_n ?_
      refine wp_seq ?_
      refine wp_block ?_
      refine wp_seq ?_
      refine wp_region_lit ?_
      refine lv (d := 9) rfl rfl (by kernel_rfl) (e_assign (v := .int .i64 (-1)) rfl) ?_
      refine wpList_nil ?_
      refine then_n ?_
      refine wp_seq_cut (fun a50 w39 => ∃ (k52 : Nat), k52 ≤ k37 ∧ ∃ (f40 : Nat → Value) (x41 : Int), k52 < K ∧ a50 = mk 65 f40 ∧ f40 0 = .pointer (some ⟨g2, 0, none⟩) ∧ f40 1 = .slice A9 x8.length c10 ∧ f40 2 = .slice A23 x22.length c24 ∧ f40 8 = .int .i64 x27 ∧ f40 9 = .int .i64 x41 ∧ Row (ro st63) 63 H20 (hp w39) F7 A4 c5 x1.sub_ ∧ w39.heap[g2]? = some (.cells #[.slice A4 x1.sub_.length c5, .int .i64 x1.pairs_] 106 (0, 0)) ∧ Row st65 65 H20 (hp w39) F25 A23 c24 x22 ∧ St (anyOf [F7, (is g2), F17]) H w [F7, (is g2), F25] H20 w39 ∧ spec_l5whole_2.l1 k52 x1 x8 x22 x27 x41 = some r) ?_ ?_
      · refine wp_seq ?_
        refine wp_region_lit ?_
        refine lv (d := 17) rfl rfl (by kernel_rfl) (e_move (v := .slice A9 x8.length c10) (by exact e29)) ?_
        refine lv (d := 18) rfl rfl (by kernel_rfl) (e_move (v := .int .i64 x27) (by exact e31)) ?_
        obtain ⟨q53, M⟩ := chk M
        obtain ⟨b54, o55, e56⟩ := Rd.addr h11 (show (x27).toNat < x8.length by omega)
        obtain ⟨y57, r58, k59⟩ := Rd.at h11 e56 (getD_some z65 (show (x27).toNat < x8.length by omega))
        obtain ⟨A60, c61, rfl, l62, h63⟩ := st65_open r58
        refine lv (d := 19) rfl rfl (by kernel_rfl) (e_indexAddr (b := b54) (off := o55) (n := x8.length) (c := c10) (sz := 3) (i := x27) (k := .i64) Try.underlying25 e56 (by kernel_rfl) (by kernel_rfl) (by kernel_rfl) q53 q38) ?_
        refine lv (d := 20) rfl rfl (by kernel_rfl) (e_fieldAddr (b := b54) (off := o55 + (x27 : Int).toNat * 3) (o := 0) Try.underlying65 rfl rfl (sz := 1) (by kernel_rfl) (by decide) (by kernel_rfl)) ?_
        refine lv (d := 21) rfl rfl (by kernel_rfl) (e_load1 (ad := ⟨b54, o55 + (x27 : Int).toNat * 3 + 0, none⟩) (v := .int .i64 ((x8.getD ((x27).toNat) z65).kind)) Try.underlying3 rfl (by kernel_rfl) (hpx (S32.inv.cell (Y21.cell (k59 0 _ rfl))))) ?_
        refine lv (d := 22) rfl rfl (by kernel_rfl) (e_eql (k := .i64) (a := (x8.getD ((x27).toNat) z65).kind) (b := 0) (by kernel_rfl) rfl) ?_
        refine wpList_nil ?_
        refine then_n ?_
        by_cases q64 : ((x8.getD ((x27).toNat) z65).kind) = 0
        · replace M := ifp q64 M
          refine cond_t rfl (bt q64 (by kernel_rfl)) ?_
          refine region_quiet (by kernel_rfl) (by kernel_rfl) ?_
          refine qv (d := 23) rfl rfl (by kernel_rfl) (fun wq_ hq_ => e_move (v := .pointer (some ⟨g2, 0, none⟩)) (by exact e28)) ?_
          refine qv (d := 24) rfl rfl (by kernel_rfl) (fun wq_ hq_ => e_nilCheck (ad := ⟨g2, 0, none⟩) (by kernel_rfl)) ?_
          refine qv (d := 25) rfl rfl (by kernel_rfl) (fun wq_ hq_ => e_fieldAddr (b := g2) (off := 0) (o := 0) Try.underlying106 rfl rfl (sz := 1) (by kernel_rfl) (by decide) (by kernel_rfl)) ?_
          refine qv (d := 26) rfl rfl (by kernel_rfl) (fun wq_ hq_ => e_load1 (ad := ⟨g2, 0 + 0, none⟩) (v := .slice A4 x1.sub_.length c5) Try.underlying52 rfl (by kernel_rfl) (blk_cell ((S32.still hq_).2.blk 1 rfl b3) rfl)) ?_
          refine qv (d := 27) rfl rfl (by kernel_rfl) (fun wq_ hq_ => e_move (v := .slice A9 x8.length c10) (by exact e29)) ?_
          refine qv (d := 28) rfl rfl (by kernel_rfl) (fun wq_ hq_ => e_move (v := .int .i64 x27) (by exact e31)) ?_
          obtain ⟨b65, o66, e67⟩ := Rd.addr h11 (show (x27).toNat < x8.length by omega)
          obtain ⟨y68, r69, k70⟩ := Rd.at h11 e67 (getD_some z65 (show (x27).toNat < x8.length by omega))
          obtain ⟨A71, c72, rfl, l73, h74⟩ := st65_open r69
          refine qv (d := 29) rfl rfl (by kernel_rfl) (fun wq_ hq_ => e_indexAddr (b := b65) (off := o66) (n := x8.length) (c := c10) (sz := 3) (i := x27) (k := .i64) Try.underlying25 e67 (by kernel_rfl) (by kernel_rfl) (by kernel_rfl) q53 q38) ?_
          refine qv (d := 30) rfl rfl (by kernel_rfl) (fun wq_ hq_ => e_fieldAddr (b := b65) (off := o66 + (x27 : Int).toNat * 3) (o := 1) Try.underlying65 rfl rfl (sz := 1) (by kernel_rfl) (by decide) (by kernel_rfl)) ?_
          refine qv (d := 31) rfl rfl (by kernel_rfl) (fun wq_ hq_ => e_load1 (ad := ⟨b65, o66 + (x27 : Int).toNat * 3 + 1, none⟩) (v := .int .i64 ((x8.getD ((x27).toNat) z65).n)) Try.underlying3 rfl (by kernel_rfl) (hpx ((S32.still hq_).1.inv.cell (Y21.cell (k70 1 _ rfl))))) ?_
          obtain ⟨t75, u76, M⟩ := bnd M
          refine qcall (v := .int .i64 t75) (d := 32) rfl rfl (by kernel_rfl) (fun w_ => e_call (l := [.tmp 26, .tmp 31]) (vs := [.slice A4 x1.sub_.length c5, .int .i64 ((x8.getD ((x27).toNat) z65).n)]) Try.func85 (by kernel_rfl) rfl (by kernel_rfl) rfl) (fun wq_ hq_ => (by obtain ⟨S_, K_⟩ := S32.still hq_; replace h6 := h6.move (K_.at 0 rfl); replace b3 := K_.blk 1 rfl b3; replace h26 := h26.move (K_.at 2 rfl); have l77 := h6.le; obtain ⟨H78, S79, E80, h81, z82⟩ := S_.frzRow h6; replace h26 := h26.ext E80; replace h81 := h81.unro; exact (spec_l5index.calls k37 wq_ H78 x1.sub_ A4 c5 ((x8.getD ((x27).toNat) z65).n) h81 l77 S79.own0 t75 u76))) ?_
          refine qv (d := 9) rfl rfl (by kernel_rfl) (fun wq_ hq_ => e_assign (v := .int .i64 t75) (by kernel_rfl)) ?_
          refine wpQuiet_nil ?_
          intro w83 C86
          obtain ⟨S84, K85⟩ := S32.still C86
          replace h6 := h6.move (K85.at 0 rfl)
          replace b3 := K85.blk 1 rfl b3
          replace h26 := h26.move (K85.at 2 rfl)
          refine then_n ?_
          exact ⟨k37, (by omega), _, t75, (by omega), rfl, (by exact e28), (by exact e29), (by exact e30), (by exact e31), (by kernel_rfl), h6, b3, h26, S84, M⟩
        replace M := ifn q64 M
        refine cond_f rfl (bf q64 (by kernel_rfl)) ?_
        refine wp_skip ?_
        refine then_n ?_
        exact ⟨k37, (by omega), _, (-1), (by omega), rfl, (by exact e28), (by exact e29), (by exact e30), (by exact e31), (by kernel_rfl), h6, b3, h26, S32, M⟩
      clear M
      rintro a50 w39 ⟨k52, z184, f40, x41, z48, rfl, e42, e43, e44, e45, e46, h6, b3, h26, S47, M⟩
      rcases k52 with _ | k51
      · rw [spec_l5whole_2.l1] at M
        cases M
      rw [spec_l5whole_2.l1] at M
      refine wp_seq ?_
      refine wp_region_lit ?_
      refine lv (d := 10) rfl rfl (by kernel_rfl) (e_assign (v := .bool true) rfl) ?_
      refine wpList_nil ?_
      refine then_n ?_
      refine wp_seq_cut (fun a105 w87 => ∃ (k107 : Nat), k107 ≤ k51 ∧ ∃ (f88 : Nat → Value) (H89 : Hp) (x91 : List Cell) (A92 : Option Addr) (c93 : Nat) (F94 : Foot) (x96 : Bool), k107 < K ∧ a105 = mk 65 f88 ∧ f88 0 = .pointer (some ⟨g2, 0, none⟩) ∧ f88 1 = .slice A9 x8.length c10 ∧ f88 2 = .slice A92 x91.length c93 ∧ f88 8 = .int .i64 x27 ∧ f88 10 = .bool x96 ∧ Row (ro st63) 63 H89 (hp w87) F7 A4 c5 x1.sub_ ∧ w87.heap[g2]? = some (.cells #[.slice A4 x1.sub_.length c5, .int .i64 x1.pairs_] 106 (0, 0)) ∧ Row st65 65 H89 (hp w87) F94 A92 c93 x91 ∧ Ext H20 H89 ∧ St (anyOf [F7, (is g2), F17]) H w [F7, (is g2), F94] H89 w87 ∧ spec_l5whole_2.l2 k107 x1 x8 x27 x91 x96 = some r) ?_ ?_
      · refine wp_seq ?_
        refine wp_region_lit ?_
        refine lv (d := 33) rfl rfl (by kernel_rfl) (e_move (v := .int .i64 x41) (by exact e46)) ?_
        refine lv (d := 34) rfl rfl (by kernel_rfl) (e_geq (k := .i64) (a := x41) (b := 0) (by kernel_rfl) rfl) ?_
        refine wpList_nil ?_
        refine then_n ?_
        by_cases q108 : x41 ≥ 0
        · replace M := ifp q108 M
          refine cond_t rfl (bt q108 (by kernel_rfl)) ?_
          refine wp_region_lit ?_
          refine lv (d := 36) rfl rfl (by kernel_rfl) (e_move (v := .pointer (some ⟨g2, 0, none⟩)) (by exact e42)) ?_
          refine lv (d := 37) rfl rfl (by kernel_rfl) (e_move (v := .pointer (some ⟨g2, 0, none⟩)) (by exact e42)) ?_
          refine lv (d := 38) rfl rfl (by kernel_rfl) (e_nilCheck (ad := ⟨g2, 0, none⟩) (by kernel_rfl)) ?_
          refine lv (d := 39) rfl rfl (by kernel_rfl) (e_fieldAddr (b := g2) (off := 0) (o := 0) Try.underlying106 rfl rfl (sz := 1) (by kernel_rfl) (by decide) (by kernel_rfl)) ?_
          refine lv (d := 40) rfl rfl (by kernel_rfl) (e_load1 (ad := ⟨g2, 0 + 0, none⟩) (v := .slice A4 x1.sub_.length c5) Try.underlying52 rfl (by kernel_rfl) (blk_cell b3 rfl)) ?_
          refine lv (d := 41) rfl rfl (by kernel_rfl) (e_move (v := .int .i64 x41) (by exact e46)) ?_
          obtain ⟨q109, M⟩ := chk M
          obtain ⟨q110, M⟩ := chk M
          obtain ⟨b111, e113⟩ := Row.addr h6 (show (x41).toNat < x1.sub_.length by omega)
          refine lv (d := 42) rfl rfl (by kernel_rfl) (e_indexAddr (b := b111) (off := 0) (n := x1.sub_.length) (c := c5) (sz := 2) (i := x41) (k := .i64) Try.underlying52 e113 (by kernel_rfl) (by kernel_rfl) (by kernel_rfl) q109 q110) ?_
          refine lv (d := 43) rfl rfl (by kernel_rfl) (e_fieldAddr (b := b111) (off := 0 + (x41 : Int).toNat * 2) (o := 1) Try.underlying63 rfl rfl (sz := 1) (by kernel_rfl) (by decide) (by kernel_rfl)) ?_
          obtain ⟨y114, F115, r116, s117, k118⟩ := Row.at h6 e113 (getD_some z63 (show (x41).toNat < x1.sub_.length by omega))
          obtain ⟨A119, c120, rfl, l121, h122⟩ := st63_open r116
          refine lv (d := 44) rfl rfl (by kernel_rfl) (e_load1 (ad := ⟨b111, 0 + (x41 : Int).toNat * 2 + 1, none⟩) (v := .slice A119 ((x1.sub_.getD ((x41).toNat) z63).term).length c120) Try.underlying25 rfl (by kernel_rfl) (hpx (k118 1 _ rfl))) ?_
          refine lv (d := 45) rfl rfl (by kernel_rfl) (e_move (v := .slice A23 x22.length c24) (by exact e44)) ?_
          have S123 := S47.pull (F := F25) (Fr := [F7, (is g2)]) 2 rfl rfl
          have S124 := S123.pull (F := (is g2)) (Fr := [F25, F7]) 2 rfl rfl
          have S125 := S124.pull (F := F7) (Fr := [(is g2), F25]) 2 rfl rfl
          obtain ⟨t126, u127, M⟩ := bnd M
          refine lcall (d := 46) rfl rfl (by kernel_rfl) (e_call (l := [.tmp 36, .tmp 44, .tmp 45]) (vs := [.pointer (some ⟨g2, 0, none⟩), .slice A119 ((x1.sub_.getD ((x41).toNat) z63).term).length c120, .slice A23 x22.length c24]) Try.func90 (by kernel_rfl) rfl (by kernel_rfl) rfl) (ih k51 (by omega) w39 H20 x1 g2 A4 c5 F7 ((x1.sub_.getD ((x41).toNat) z63).term) A119 c120 x22 A23 c24 F25 h6 b3 h122 l121 h26 (St.own' (Fa := [F7, (is g2), F25]) (Fr := []) S125) t126 u127) ?_
          rintro _ w128 ⟨A133, c134, F136, H129, rfl, h131, b132, h135, T130⟩
          refine ⟨_, rfl, ?_⟩
          obtain ⟨S137, K138⟩ := St.call (Fa := [F7, (is g2), F25]) (Fr := []) S125 T130
          have E139 := T130.ext
          refine lv (d := 35) rfl rfl (by kernel_rfl) (e_move (v := .tuple #[.slice A133 t126.1.length c134, .bool t126.2]) (by kernel_rfl)) ?_
          refine lv (d := 47) rfl rfl (by kernel_rfl) (e_extract (vs := #[.slice A133 t126.1.length c134, .bool t126.2]) (v := .slice A133 t126.1.length c134) (by kernel_rfl) rfl) ?_
          refine lv (d := 48) rfl rfl (by kernel_rfl) (e_extract (vs := #[.slice A133 t126.1.length c134, .bool t126.2]) (v := .bool t126.2) (by kernel_rfl) rfl) ?_
          refine lv (d := 2) rfl rfl (by kernel_rfl) (e_assign (v := .slice A133 t126.1.length c134) (by kernel_rfl)) ?_
          refine lv (d := 10) rfl rfl (by kernel_rfl) (e_assign (v := .bool t126.2) (by kernel_rfl)) ?_
          refine wpList_nil ?_
          refine then_n ?_
          exact ⟨k51, (by omega), _, H129, t126.1, A133, c134, F136, t126.2, (by omega), rfl, (by exact e42), (by exact e43), (by kernel_rfl), (by exact e45), (by kernel_rfl), h131, b132, h135, E139, S137, M⟩
        replace M := ifn q108 M
        refine cond_f rfl (bf q108 (by kernel_rfl)) ?_
        refine wp_region_lit ?_
        refine lv (d := 49) rfl rfl (by kernel_rfl) (e_move (v := .slice A23 x22.length c24) (by exact e44)) ?_
        refine lv (d := 50) rfl rfl (by kernel_rfl) (e_move (v := .slice A9 x8.length c10) (by exact e43)) ?_
        refine lv (d := 51) rfl rfl (by kernel_rfl) (e_move (v := .int .i64 x27) (by exact e45)) ?_
        refine lv (d := 52) rfl rfl (by kernel_rfl) (e_move (v := .int .i64 x27) (by exact e45)) ?_
        refine lv (d := 53) rfl rfl (by kernel_rfl) (e_add (k := .i64) (a := x27) (b := 1) (by kernel_rfl) rfl) ?_
        obtain ⟨q140, M⟩ := chk M
        obtain ⟨q141, M⟩ := chk M
        obtain ⟨q142, M⟩ := chk M
        obtain ⟨A143, h146, l145, h144⟩ := Rd.sub2 (d := st65) (n := x8.length) (m := 3) (cap := c10) (a := x27) (b := (IntKind.i64.wrap (x27 + 1))) rfl (h11.ext Y21) q140 q141 q142 rfl l12
        refine lv (d := 54) rfl rfl (by kernel_rfl) (e_slice_lh (n := x8.length) (m := 3) (cap := c10) (A := A9) (a := x27) (b := (IntKind.i64.wrap (x27 + 1))) (k := .i64) (k2 := .i64) Try.underlying25 (by kernel_rfl) (by kernel_rfl) (by kernel_rfl) (by kernel_rfl) q140 q141 q142 l12 h146) ?_
        obtain ⟨t147, u148, M⟩ := bnd M
        refine lcall (d := 55) rfl rfl (by kernel_rfl) (e_call (l := [.tmp 54]) (vs := [.slice A143 ((x8.drop ((x27 : Int).toNat)).take (((IntKind.i64.wrap (x27 + 1)) : Int).toNat - (x27 : Int).toNat)).length (c10 - ((x27 : Int).toNat))]) Try.func75 (by kernel_rfl) rfl (by kernel_rfl) rfl) (spec_l2copy.calls k51 w39 H20 ((x8.drop ((x27 : Int).toNat)).take (((IntKind.i64.wrap (x27 + 1)) : Int).toNat - (x27 : Int).toNat)) A143 (c10 - ((x27 : Int).toNat)) h144 l145 (St.own' (Fa := []) (Fr := [F7, (is g2), F25]) S47) t147 u148) ?_
        rintro _ w149 ⟨A152, c153, F155, H150, rfl, h154, T151⟩
        refine ⟨_, rfl, ?_⟩
        obtain ⟨S156, K157⟩ := St.call (Fa := []) (Fr := [F7, (is g2), F25]) S47 T151
        replace h6 := h6.move (K157.at 0 rfl)
        replace b3 := K157.blk 1 rfl b3
        replace h26 := h26.move (K157.at 2 rfl)
        have E158 := T151.ext
        replace h6 := h6.ext E158
        replace h26 := h26.ext E158
        obtain ⟨y159, h160, h161⟩ := Row.news h154
        obtain ⟨q162, M⟩ := chk M
        have S163 := S156.pull (F := F25) (Fr := [F155, F7, (is g2)]) 3 rfl rfl
        refine lve (d := 56) rfl rfl (by kernel_rfl) (e_append (d := st65) (n := x22.length) (xs := x22) (cap := c24) (A := A23) (ys := t147) (A2 := A152) (c2 := c153) (z := .agg #[.int .i64 0, .int .i64 0, .slice none 0 0]) (bytes := 40) S163 Try.underlying25 (by kernel_rfl) rfl (by decide) (by kernel_rfl) rfl (by kernel_rfl) h26 h160 h161 (show (x22.length + t147.length) * 40 ≤ _ by first | omega | (simp only [List.length_cons, List.length_nil]; omega)) (by decide)) ?_
        rintro _ w164 ⟨A165, c166, F167, rfl, h168, S169, K170⟩
        replace h6 := h6.move (K170.at 0 rfl)
        replace b3 := K170.blk 1 rfl b3
        refine lv (d := 2) rfl rfl (by kernel_rfl) (e_assign (v := .slice A165 ((x22 ++ t147).length) c166) (by kernel_rfl)) ?_
        refine wpList_nil ?_
        refine then_n ?_
        have S171 := S169.pull (F := (is g2)) (Fr := [F167, F7]) 2 rfl rfl
        have S172 := S171.pull (F := F7) (Fr := [(is g2), F167]) 2 rfl rfl
        exact ⟨k51, (by omega), _, H150, (x22 ++ t147), A165, c166, F167, true, (by omega), rfl, (by exact e42), (by exact e43), (by kernel_rfl), (by exact e45), (by kernel_rfl), h6, b3, h168, E158, S172, M⟩
      clear M
      rintro a105 w87 ⟨k107, z183, f88, H89, x91, A92, c93, F94, x96, z103, rfl, e97, e98, e99, e100, e101, h6, b3, h95, Y90, S102, M⟩
      rcases k107 with _ | k106
      · rw [spec_l5whole_2.l2] at M
        cases M
      rw [spec_l5whole_2.l2] at M
      refine wp_seq ?_
      refine wp_region_lit ?_
      refine lv (d := 57) rfl rfl (by kernel_rfl) (e_move (v := .bool x96) (by exact e101)) ?_
      refine lv (d := 58) rfl rfl (by kernel_rfl) (e_notv (c := x96) (by kernel_rfl)) ?_
      refine lv (d := 59) rfl rfl (by kernel_rfl) (e_move (v := .bool (decide (¬ (x96 = true)))) (by kernel_rfl)) ?_
      by_cases q173 : ¬ (x96 = true)
      · replace M := ifp q173 M
        refine lskip (t := 59) (c := true) rfl (by kernel_rfl) rfl (bt q173 (by kernel_rfl)) rfl rfl ?_
        refine lskip (t := 59) (c := true) rfl (by kernel_rfl) rfl (bt q173 (by kernel_rfl)) rfl rfl ?_
        refine lskip (t := 59) (c := true) rfl (by kernel_rfl) rfl (bt q173 (by kernel_rfl)) rfl rfl ?_
        refine lv (d := 63) rfl rfl (by kernel_rfl) (e_pick_t (v := .bool true) (bt q173 (by kernel_rfl)) rfl) ?_
        refine wpList_nil ?_
        refine then_n ?_
        refine cond_t rfl (by kernel_rfl) ?_
        refine wp_seq ?_
        refine wp_region_lit ?_
        refine lv (d := 6) rfl rfl (by kernel_rfl) (e_assign (v := .slice none 0 0) rfl) ?_
        refine lv (d := 7) rfl rfl (by kernel_rfl) (e_assign (v := .bool false) rfl) ?_
        refine wpList_nil ?_
        refine then_n ?_
        refine wp_ret ?_
        refine inb_r ?_
        refine then_r ?_
        refine then_r ?_
        refine inb_r ?_
        refine then_r ?_
        obtain rfl := Option.some.inj M
        have S174 := S102.unit
        have S175 := S174.pull (F := (is g2)) (Fr := [no, F7, F94]) 2 rfl rfl
        have S176 := S175.pull (F := F7) (Fr := [(is g2), no, F94]) 2 rfl rfl
        have S177 := St.first (Fa := [F7, (is g2), no]) (Fr := [F94]) S176
        exact ret2 rfl rfl rfl (show _ = .slice none 0 0 from (by kernel_rfl)) (show _ = .bool false from (by kernel_rfl)) ⟨none, 0, no, H89, rfl, h6, b3, (Row.nil _ _ _ _ no), S177⟩
      replace M := ifn q173 M
      refine lvg (d := 60) (t := 59) rfl (by kernel_rfl) rfl (bf q173 (by kernel_rfl)) rfl (by kernel_rfl) (e_move (v := .slice A92 x91.length c93) (by exact e99)) ?_
      refine lvg (d := 61) (t := 59) rfl (by kernel_rfl) rfl (bf q173 (by kernel_rfl)) rfl (by kernel_rfl) (e_len (A := A92) (n := x91.length) (c := c93) Try.underlying25 (by kernel_rfl)) ?_
      refine lvg (d := 62) (t := 59) rfl (by kernel_rfl) rfl (bf q173 (by kernel_rfl)) rfl (by kernel_rfl) (e_gtr (k := .i64) (a := (x91.length : Int)) (b := 2000) (by kernel_rfl) rfl) ?_
      refine lv (d := 63) rfl rfl (by kernel_rfl) (e_pick_f (v := .bool (decide ((x91.length : Int) > 2000))) (bf q173 (by kernel_rfl)) (by kernel_rfl)) ?_
      refine wpList_nil ?_
      refine then_n ?_
      by_cases q178 : (x91.length : Int) > 2000
      · replace M := ifp q178 M
        refine cond_t rfl (bt q178 (by kernel_rfl)) ?_
        refine wp_seq ?_
        refine wp_region_lit ?_
        refine lv (d := 6) rfl rfl (by kernel_rfl) (e_assign (v := .slice none 0 0) rfl) ?_
        refine lv (d := 7) rfl rfl (by kernel_rfl) (e_assign (v := .bool false) rfl) ?_
        refine wpList_nil ?_
        refine then_n ?_
        refine wp_ret ?_
        refine inb_r ?_
        refine then_r ?_
        refine then_r ?_
        refine inb_r ?_
        refine then_r ?_
        obtain rfl := Option.some.inj M
        have S179 := S102.unit
        have S180 := S179.pull (F := (is g2)) (Fr := [no, F7, F94]) 2 rfl rfl
        have S181 := S180.pull (F := F7) (Fr := [(is g2), no, F94]) 2 rfl rfl
        have S182 := St.first (Fa := [F7, (is g2), no]) (Fr := [F94]) S181
        exact ret2 rfl rfl rfl (show _ = .slice none 0 0 from (by kernel_rfl)) (show _ = .bool false from (by kernel_rfl)) ⟨none, 0, no, H89, rfl, h6, b3, (Row.nil _ _ _ _ no), S182⟩
      replace M := ifn q178 M
      refine cond_f rfl (bf q178 (by kernel_rfl)) ?_
      refine wp_skip ?_
      refine inb_n ?_
      refine then_n ?_
      refine wp_region_lit ?_
      refine lv (d := 15) rfl rfl (by kernel_rfl) (e_move (v := .int .i64 x27) (by exact e100)) ?_
      refine lv (d := 16) rfl rfl (by kernel_rfl) (e_add (k := .i64) (a := x27) (b := 1) (by kernel_rfl) rfl) ?_
      refine lv (d := 8) rfl rfl (by kernel_rfl) (e_assign (v := .int .i64 (IntKind.i64.wrap (x27 + 1))) (by kernel_rfl)) ?_
      refine wpList_nil ?_
      refine then_n ?_
      exact ⟨k106, (by omega), _, H89, x91, A92, c93, F94, (IntKind.i64.wrap (x27 + 1)), (by omega), rfl, (by exact e97), (by exact e98), (by exact e99), (by kernel_rfl), h6, b3, h95, (Y21.trans Y90), S102, M⟩
    replace M := ifn q38 M
    refine cond_f rfl (bf q38 (by kernel_rfl)) ?_
    refine wp_exit ?_
    refine then_e ?_
    refine then_e ?_
    refine inb_hit ?_
    refine then_n ?_
    refine wp_seq ?_
    refine wp_region_lit ?_
    refine lv (d := 64) rfl rfl (by kernel_rfl) (e_move (v := .slice A23 x22.length c24) (by exact e30)) ?_
    refine lv (d := 6) rfl rfl (by kernel_rfl) (e_assign (v := .slice A23 x22.length c24) (by kernel_rfl)) ?_
    refine lv (d := 7) rfl rfl (by kernel_rfl) (e_assign (v := .bool true) rfl) ?_
    refine wpList_nil ?_
    refine then_n ?_
    refine wp_ret ?_
    obtain rfl := Option.some.inj M
    exact ret2 rfl rfl rfl (show _ = .slice A23 x22.length c24 from (by kernel_rfl)) (show _ = .bool true from (by kernel_rfl)) ⟨A23, c24, F25, H20, rfl, h6, b3, h26, S32⟩
theorem spec_l5whole_2.calls (k : Nat) (w : World) (H : Hp) (x1 : GL5st) (g2 : Nat) (A4 : Option Addr) (c5 : Nat) (F7 : Foot) (x8 : List Cell) (A9 : Option Addr) (c10 : Nat) (x13 : List Cell) (A14 : Option Addr) (c15 : Nat) (F17 : Foot) (h6 : Row (ro st63) 63 H (hp w) F7 A4 c5 x1.sub_) (b3 : w.heap[g2]? = some (.cells #[.slice A4 x1.sub_.length c5, .int .i64 x1.pairs_] 106 (0, 0))) (h11 : Rd st65 H A9 x8) (l12 : x8.length ≤ c10) (h16 : Row st65 65 H (hp w) F17 A14 c15 x13) (S : Own [F7, (is g2), F17] H w) (r : (List Cell) × Bool) (M : spec_l5whole_2.f k x1 x8 x13 = some r) :
    Calls Try.prog 90 #[.pointer (some ⟨g2, 0, none⟩), .slice A9 x8.length c10, .slice A14 x13.length c15] w (fun e e_w => ∃ (A_1 : Option Addr) (c_1 : Nat) (F_1 : Foot) (H_ : Hp), e = .returned (.tuple #[.slice A_1 r.1.length c_1, .bool r.2]) ∧ Row (ro st63) 63 H_ (hp e_w) F7 A4 c5 x1.sub_ ∧ e_w.heap[g2]? = some (.cells #[.slice A4 x1.sub_.length c5, .int .i64 x1.pairs_] 106 (0, 0)) ∧ Row st65 65 H_ (hp e_w) F_1 A_1 c_1 r.1 ∧ St (anyOf [F7, (is g2), F17]) H w [F7, (is g2), F_1] H_ e_w) := (spec_l5whole_2.all (k + 1)) k (Nat.lt_succ_self k) w H x1 g2 A4 c5 F7 x8 A9 c10 x13 A14 c15 F17 h6 b3 h11 l12 h16 S r M

/-! spec_Unify -/
def spec_Unify.l0 : Nat → (Int × GL5st) → (List Binding) → Int → Option ((List Binding) × Int)
  | 0, _, _, _ => none
  | k72 + 1, t35, x58, x63 => (if x63 < (t35.2.sub_.length : Int) then (if 0 ≤ x63 then ((spec_l5whole_2.f k72 t35.2 ((t35.2.sub_.getD ((x63).toNat) z63).term) []).bind fun t93 => (if ¬ (t93.2 = true) then some ([], 3) else (if x58.length + 1 ≤ 4398046511104 then (spec_Unify.l0 k72 t35 (x58 ++ [(⟨(t35.2.sub_.getD ((x63).toNat) z63).var, t93.1⟩ : Binding)]) (IntKind.i64.wrap (x63 + 1))) else none))) else none) else some (x58, 0))
def spec_Unify.f (k : Nat) (x1 : List Cell) (x6 : List Cell) : Option ((List Binding) × Int) := ((spec_ValidTerm.f k x1).bind fun t11 => (if ¬ (t11 = true) then some ([], 1) else ((spec_ValidTerm.f k x6).bind fun t19 => (if ¬ (t19 = true) then some ([], 1) else ((spec_l5pair_2.f k (⟨[], 0⟩ : GL5st) x1 x6).bind fun t35 => (if t35.1 ≠ 0 then some ([], t35.1) else (if (t35.2.sub_.length : Int) > 1000 then some ([], 3) else (spec_Unify.l0 k t35 [] 0))))))))
theorem spec_Unify.calls (k : Nat) (w : World) (H : Hp) (x1 : List Cell) (A2 : Option Addr) (c3 : Nat) (x6 : List Cell) (A7 : Option Addr) (c8 : Nat) (h4 : Rd st65 H A2 x1) (l5 : x1.length ≤ c3) (h9 : Rd st65 H A7 x6) (l10 : x6.length ≤ c8) (S : Own [] H w) (r : (List Binding) × Int) (M : spec_Unify.f k x1 x6 = some r) :
    Calls Try.prog 49 #[.slice A2 x1.length c3, .slice A7 x6.length c8] w (fun e e_w => ∃ (A_1 : Option Addr) (c_1 : Nat) (F_1 : Foot) (H_ : Hp), e = .returned (.tuple #[.slice A_1 r.1.length c_1, .int .i64 r.2]) ∧ Row st63 63 H_ (hp e_w) F_1 A_1 c_1 r.1 ∧ St (anyOf []) H w [F_1] H_ e_w) := by
  rw [spec_Unify.f] at M
  refine enter (l := [.slice A2 x1.length c3, .slice A7 x6.length c8]) 73 Try.func49 rfl rfl rfl ?_
  have S0_ := S.st
  refine wp_seq ?_
  refine wp_region_lit ?_
  refine lv (d := 4) rfl rfl (by kernel_rfl) (e_assign (v := .slice none 0 0) rfl) ?_
  refine lv (d := 5) rfl rfl (by kernel_rfl) (e_assign (v := .int .i64 0) rfl) ?_
  refine wpList_nil ?_
  refine then_n ?_
  refine wp_seq ?_
  refine wp_seq ?_
  refine wp_region_lit ?_
  refine lv (d := 12) rfl rfl (by kernel_rfl) (e_move (v := .slice A2 x1.length c3) (by kernel_rfl)) ?_
  obtain ⟨t11, u12, M⟩ := bnd M
  refine lcall (d := 13) rfl rfl (by kernel_rfl) (e_call (l := [.tmp 12]) (vs := [.slice A2 x1.length c3]) Try.func15 (by kernel_rfl) rfl (by kernel_rfl) rfl) (spec_ValidTerm.calls k w H x1 A2 c3 h4 l5 S0_.own0 t11 u12) ?_
  rintro _ w13 ⟨rfl, C14⟩
  refine ⟨_, rfl, ?_⟩
  obtain ⟨S15, K16⟩ := S0_.still C14
  refine lv (d := 14) rfl rfl (by kernel_rfl) (e_notv (c := t11) (by kernel_rfl)) ?_
  refine lv (d := 15) rfl rfl (by kernel_rfl) (e_move (v := .bool (decide (¬ (t11 = true)))) (by kernel_rfl)) ?_
  by_cases q17 : ¬ (t11 = true)
  · replace M := ifp q17 M
    refine lskip (t := 15) (c := true) rfl (by kernel_rfl) rfl (bt q17 (by kernel_rfl)) rfl rfl ?_
    refine lskip (t := 15) (c := true) rfl (by kernel_rfl) rfl (bt q17 (by kernel_rfl)) rfl rfl ?_
    refine lskip (t := 15) (c := true) rfl (by kernel_rfl) rfl (bt q17 (by kernel_rfl)) rfl rfl ?_
    refine lv (d := 19) rfl rfl (by kernel_rfl) (e_pick_t (v := .bool true) (bt q17 (by kernel_rfl)) rfl) ?_
    refine wpList_nil ?_
    refine then_n ?_
    refine cond_t rfl (by kernel_rfl) ?_
    refine wp_seq ?_
    refine wp_region_lit ?_
    refine lv (d := 4) rfl rfl (by kernel_rfl) (e_assign (v := .slice none 0 0) rfl) ?_
    refine lv (d := 5) rfl rfl (by kernel_rfl) (e_assign (v := .int .i64 1) rfl) ?_
    refine wpList_nil ?_
    refine then_n ?_
    refine wp_ret ?_
    refine then_r ?_
    obtain rfl := Option.some.inj M
    have S18 := S15.unit
    exact ret2 rfl rfl rfl (show _ = .slice none 0 0 from (by kernel_rfl)) (show _ = .int .i64 1 from (by kernel_rfl)) ⟨none, 0, no, H, rfl, (Row.nil _ _ _ _ no), S18⟩
  replace M := ifn q17 M
  refine lvg (d := 16) (t := 15) rfl (by kernel_rfl) rfl (bf q17 (by kernel_rfl)) rfl (by kernel_rfl) (e_move (v := .slice A7 x6.length c8) (by kernel_rfl)) ?_
  obtain ⟨t19, u20, M⟩ := bnd M
  refine lcallg (d := 17) (t := 15) rfl (by kernel_rfl) rfl (bf q17 (by kernel_rfl)) rfl (by kernel_rfl) (e_call (l := [.tmp 16]) (vs := [.slice A7 x6.length c8]) Try.func15 (by kernel_rfl) rfl (by kernel_rfl) rfl) (spec_ValidTerm.calls k w13 H x6 A7 c8 h9 l10 S15.own0 t19 u20) ?_
  rintro _ w21 ⟨rfl, C22⟩
  refine ⟨_, rfl, ?_⟩
  obtain ⟨S23, K24⟩ := S15.still C22
  refine lvg (d := 18) (t := 15) rfl (by kernel_rfl) rfl (bf q17 (by kernel_rfl)) rfl (by kernel_rfl) (e_notv (c := t19) (by kernel_rfl)) ?_
  refine lv (d := 19) rfl rfl (by kernel_rfl) (e_pick_f (v := .bool (decide (¬ (t19 = true)))) (bf q17 (by kernel_rfl)) (by kernel_rfl)) ?_
  refine wpList_nil ?_
  refine then_n ?_
  by_cases q25 : ¬ (t19 = true)
  · replace M := ifp q25 M
    refine cond_t rfl (bt q25 (by kernel_rfl)) ?_
    refine wp_seq ?_
    refine wp_region_lit ?_
    refine lv (d := 4) rfl rfl (by kernel_rfl) (e_assign (v := .slice none 0 0) rfl) ?_
    refine lv (d := 5) rfl rfl (by kernel_rfl) (e_assign (v := .int .i64 1) rfl) ?_
    refine wpList_nil ?_
    refine then_n ?_
    refine wp_ret ?_
    refine then_r ?_
    obtain rfl := Option.some.inj M
    have S26 := S23.unit
    exact ret2 rfl rfl rfl (show _ = .slice none 0 0 from (by kernel_rfl)) (show _ = .int .i64 1 from (by kernel_rfl)) ⟨none, 0, no, H, rfl, (Row.nil _ _ _ _ no), S26⟩
  replace M := ifn q25 M
  refine cond_f rfl (bf q25 (by kernel_rfl)) ?_
  refine wp_skip ?_
  refine then_n ?_
  refine wp_seq ?_
  refine wp_region_lit ?_
  refine lv (d := 20) rfl rfl (by kernel_rfl) (show _ = Result.ok (Next.value (.agg #[.slice none 0 0, .int .i64 0])) w21 from by kernel_rfl) ?_
  refine lve (d := 21) rfl rfl (by kernel_rfl) (new_blk (v := fun g_ => .pointer (some ⟨g_, 0, none⟩)) (cs := #[.slice none 0 0, .int .i64 0]) (t := 106) S23 (by kernel_rfl)) ?_
  rintro _ w27 ⟨g28, rfl, b29, S30, K31⟩
  refine lv (d := 6) rfl rfl (by kernel_rfl) (e_assign (v := .pointer (some ⟨g28, 0, none⟩)) (by kernel_rfl)) ?_
  refine wpList_nil ?_
  refine then_n ?_
  refine wp_seq ?_
  refine wp_region_lit ?_
  refine lv (d := 22) rfl rfl (by kernel_rfl) (e_move (v := .pointer (some ⟨g28, 0, none⟩)) (by kernel_rfl)) ?_
  refine lv (d := 23) rfl rfl (by kernel_rfl) (e_move (v := .slice A2 x1.length c3) (by kernel_rfl)) ?_
  refine lv (d := 24) rfl rfl (by kernel_rfl) (e_move (v := .slice A7 x6.length c8) (by kernel_rfl)) ?_
  have S32 := S30.unit
  have S33 := S32.pull (F := (is g28)) (Fr := [no]) 1 rfl rfl
  have S34 := S33.pull (F := no) (Fr := [(is g28)]) 1 rfl rfl
  obtain ⟨t35, u36, M⟩ := bnd M
  refine lcall (d := 25) rfl rfl (by kernel_rfl) (e_call (l := [.tmp 22, .tmp 23, .tmp 24]) (vs := [.pointer (some ⟨g28, 0, none⟩), .slice A2 x1.length c3, .slice A7 x6.length c8]) Try.func89 (by kernel_rfl) rfl (by kernel_rfl) rfl) (spec_l5pair_2.calls k w27 H (⟨[], 0⟩ : GL5st) g28 none 0 no x1 A2 c3 x6 A7 c8 (Row.nil _ _ _ _ no) b29 h4 l5 h9 l10 (St.own' (Fa := [no, (is g28)]) (Fr := []) S34) t35 u36) ?_
  rintro _ w37 ⟨A40, c41, F43, H38, rfl, h42, b44, T39⟩
  refine ⟨_, rfl, ?_⟩
  obtain ⟨S45, K46⟩ := St.call (Fa := [no, (is g28)]) (Fr := []) S34 T39
  have E47 := T39.ext
  refine lv (d := 7) rfl rfl (by kernel_rfl) (e_assign (v := .int .i64 t35.1) (by kernel_rfl)) ?_
  refine wpList_nil ?_
  refine then_n ?_
  refine wp_seq ?_
  refine wp_seq ?_
  refine wp_region_lit ?_
  refine lv (d := 26) rfl rfl (by kernel_rfl) (e_move (v := .int .i64 t35.1) (by kernel_rfl)) ?_
  refine lv (d := 27) rfl rfl (by kernel_rfl) (e_neq (k := .i64) (a := t35.1) (b := 0) (by kernel_rfl) rfl) ?_
  refine wpList_nil ?_
  refine then_n ?_
  by_cases q48 : t35.1 ≠ 0
  · replace M := ifp q48 M
    refine cond_t rfl (bt q48 (by kernel_rfl)) ?_
    refine wp_seq ?_
    refine wp_region_lit ?_
    refine lv (d := 28) rfl rfl (by kernel_rfl) (e_move (v := .int .i64 t35.1) (by kernel_rfl)) ?_
    refine lv (d := 4) rfl rfl (by kernel_rfl) (e_assign (v := .slice none 0 0) rfl) ?_
    refine lv (d := 5) rfl rfl (by kernel_rfl) (e_assign (v := .int .i64 t35.1) (by kernel_rfl)) ?_
    refine wpList_nil ?_
    refine then_n ?_
    refine wp_ret ?_
    refine then_r ?_
    obtain rfl := Option.some.inj M
    have S49 := S45.unit
    have S50 := St.first (Fa := [no]) (Fr := [(is g28), F43]) S49
    exact ret2 rfl rfl rfl (show _ = .slice none 0 0 from (by kernel_rfl)) (show _ = .int .i64 t35.1 from (by kernel_rfl)) ⟨none, 0, no, H38, rfl, (Row.nil _ _ _ _ no), S50⟩
  replace M := ifn q48 M
  refine cond_f rfl (bf q48 (by kernel_rfl)) ?_
  refine wp_skip ?_
  refine then_n ?_
  refine wp_seq ?_
  refine wp_seq ?_
  refine wp_region_lit ?_
  refine lv (d := 29) rfl rfl (by kernel_rfl) (e_move (v := .pointer (some ⟨g28, 0, none⟩)) (by kernel_rfl)) ?_
  refine lv (d := 30) rfl rfl (by kernel_rfl) (e_nilCheck (ad := ⟨g28, 0, none⟩) (by kernel_rfl)) ?_
  refine lv (d := 31) rfl rfl (by kernel_rfl) (e_fieldAddr (b := g28) (off := 0) (o := 0) Try.underlying106 rfl rfl (sz := 1) (by kernel_rfl) (by decide) (by kernel_rfl)) ?_
  refine lv (d := 32) rfl rfl (by kernel_rfl) (e_load1 (ad := ⟨g28, 0 + 0, none⟩) (v := .slice A40 t35.2.sub_.length c41) Try.underlying52 rfl (by kernel_rfl) (blk_cell b44 rfl)) ?_
  refine lv (d := 33) rfl rfl (by kernel_rfl) (e_len (A := A40) (n := t35.2.sub_.length) (c := c41) Try.underlying52 (by kernel_rfl)) ?_
  refine lv (d := 34) rfl rfl (by kernel_rfl) (e_gtr (k := .i64) (a := (t35.2.sub_.length : Int)) (b := 1000) (by kernel_rfl) rfl) ?_
  refine wpList_nil ?_
  refine then_n ?_
  by_cases q51 : (t35.2.sub_.length : Int) > 1000
  · replace M := ifp q51 M
    refine cond_t rfl (bt q51 (by kernel_rfl)) ?_
    refine wp_seq ?_
    refine wp_region_lit ?_
    refine lv (d := 4) rfl rfl (by kernel_rfl) (e_assign (v := .slice none 0 0) rfl) ?_
    refine lv (d := 5) rfl rfl (by kernel_rfl) (e_assign (v := .int .i64 3) rfl) ?_
    refine wpList_nil ?_
    refine then_n ?_
    refine wp_ret ?_
    refine then_r ?_
    obtain rfl := Option.some.inj M
    have S52 := S45.unit
    have S53 := St.first (Fa := [no]) (Fr := [(is g28), F43]) S52
    exact ret2 rfl rfl rfl (show _ = .slice none 0 0 from (by kernel_rfl)) (show _ = .int .i64 3 from (by kernel_rfl)) ⟨none, 0, no, H38, rfl, (Row.nil _ _ _ _ no), S53⟩
  replace M := ifn q51 M
  refine cond_f rfl (bf q51 (by kernel_rfl)) ?_
  refine wp_skip ?_
  refine then_n ?_
  refine wp_seq ?_
  refine wp_region_lit ?_
  refine lv (d := 8) rfl rfl (by kernel_rfl) (e_assign (v := .slice none 0 0) rfl) ?_
  refine wpList_nil ?_
  refine then_n ?_
  refine wp_seq ?_
  refine wp_seq ?_
  refine wp_region_lit ?_
  refine lv (d := 9) rfl rfl (by kernel_rfl) (e_assign (v := .int .i64 0) rfl) ?_
  refine wpList_nil ?_
  refine then_n ?_
  refine wp_block ?_
  have S73 := S45.unit
  have S74 := S73.pull (F := F43) (Fr := [no, (is g28)]) 2 rfl rfl
  have S75 := S74.pull (F := (is g28)) (Fr := [F43, no]) 2 rfl rfl
  refine wp_loop_g (fun k70 a71 w54 => ∃ (f55 : Nat → Value) (H56 : Hp) (x58 : List Binding) (A59 : Option Addr) (c60 : Nat) (F61 : Foot) (x63 : Int), a71 = mk 73 f55 ∧ f55 6 = .pointer (some ⟨g28, 0, none⟩) ∧ f55 8 = .slice A59 x58.length c60 ∧ f55 9 = .int .i64 x63 ∧ w54.heap[g28]? = some (.cells #[.slice A40 t35.2.sub_.length c41, .int .i64 t35.2.pairs_] 106 (0, 0)) ∧ Row (ro st63) 63 H56 (hp w54) F43 A40 c41 t35.2.sub_ ∧ Row st63 63 H56 (hp w54) F61 A59 c60 x58 ∧ Ext H38 H56 ∧ St (anyOf []) H w [(is g28), F43, F61] H56 w54 ∧ spec_Unify.l0 k70 t35 x58 x63 = some r) k ⟨_, H38, [], none, 0, no, 0, rfl, (by kernel_rfl), (by kernel_rfl), (by kernel_rfl), b44, h42, (Row.nil _ _ _ _ _), (Ext.refl _), S75, M⟩ ?_
  clear M
  rintro k70 a71 w54 ⟨f55, H56, x58, A59, c60, F61, x63, rfl, e64, e65, e66, b44, h42, h62, Y57, S67, M⟩
  rcases k70 with _ | k72
  · rw [spec_Unify.l0] at M
    cases M
  rw [spec_Unify.l0] at M
  refine wp_seq ?_
  refine wp_seq ?_
  refine wp_region_lit ?_
  refine lv (d := 35) rfl rfl (by kernel_rfl) (e_move (v := .int .i64 x63) (by exact e66)) ?_
  refine lv (d := 36) rfl rfl (by kernel_rfl) (e_move (v := .pointer (some ⟨g28, 0, none⟩)) (by exact e64)) ?_
  refine lv (d := 37) rfl rfl (by kernel_rfl) (e_nilCheck (ad := ⟨g28, 0, none⟩) (by kernel_rfl)) ?_
  refine lv (d := 38) rfl rfl (by kernel_rfl) (e_fieldAddr (b := g28) (off := 0) (o := 0) Try.underlying106 rfl rfl (sz := 1) (by kernel_rfl) (by decide) (by kernel_rfl)) ?_
  refine lv (d := 39) rfl rfl (by kernel_rfl) (e_load1 (ad := ⟨g28, 0 + 0, none⟩) (v := .slice A40 t35.2.sub_.length c41) Try.underlying52 rfl (by kernel_rfl) (blk_cell b44 rfl)) ?_
  refine lv (d := 40) rfl rfl (by kernel_rfl) (e_len (A := A40) (n := t35.2.sub_.length) (c := c41) Try.underlying52 (by kernel_rfl)) ?_
  refine lv (d := 41) rfl rfl (by kernel_rfl) (e_lss (k := .i64) (a := x63) (b := (t35.2.sub_.length : Int)) (by kernel_rfl) (by kernel_rfl)) ?_
  refine wpList_nil ?_
  refine then_n ?_
  by_cases q76 : x63 < (t35.2.sub_.length : Int)
  · replace M := ifp q76 M
    refine cond_t rfl (bt q76 (by kernel_rfl)) ?_
    refine wp_skip ?_
    refine then_n ?_
    refine wp_seq ?_
    refine wp_block ?_
    refine wp_seq ?_
    refine wp_region_lit ?_
    refine lv (d := 45) rfl rfl (by kernel_rfl) (e_move (v := .pointer (some ⟨g28, 0, none⟩)) (by exact e64)) ?_
    refine lv (d := 46) rfl rfl (by kernel_rfl) (e_move (v := .pointer (some ⟨g28, 0, none⟩)) (by exact e64)) ?_
    refine lv (d := 47) rfl rfl (by kernel_rfl) (e_nilCheck (ad := ⟨g28, 0, none⟩) (by kernel_rfl)) ?_
    refine lv (d := 48) rfl rfl (by kernel_rfl) (e_fieldAddr (b := g28) (off := 0) (o := 0) Try.underlying106 rfl rfl (sz := 1) (by kernel_rfl) (by decide) (by kernel_rfl)) ?_
    refine lv (d := 49) rfl rfl (by kernel_rfl) (e_load1 (ad := ⟨g28, 0 + 0, none⟩) (v := .slice A40 t35.2.sub_.length c41) Try.underlying52 rfl (by kernel_rfl) (blk_cell b44 rfl)) ?_
    refine lv (d := 50) rfl rfl (by kernel_rfl) (e_move (v := .int .i64 x63) (by exact e66)) ?_
    obtain ⟨q77, M⟩ := chk M
    obtain ⟨b78, e80⟩ := Row.addr h42 (show (x63).toNat < t35.2.sub_.length by omega)
    refine lv (d := 51) rfl rfl (by kernel_rfl) (e_indexAddr (b := b78) (off := 0) (n := t35.2.sub_.length) (c := c41) (sz := 2) (i := x63) (k := .i64) Try.underlying52 e80 (by kernel_rfl) (by kernel_rfl) (by kernel_rfl) q77 q76) ?_
    refine lv (d := 52) rfl rfl (by kernel_rfl) (e_fieldAddr (b := b78) (off := 0 + (x63 : Int).toNat * 2) (o := 1) Try.underlying63 rfl rfl (sz := 1) (by kernel_rfl) (by decide) (by kernel_rfl)) ?_
    obtain ⟨y81, F82, r83, s84, k85⟩ := Row.at h42 e80 (getD_some z63 (show (x63).toNat < t35.2.sub_.length by omega))
    obtain ⟨A86, c87, rfl, l88, h89⟩ := st63_open r83
    refine lv (d := 53) rfl rfl (by kernel_rfl) (e_load1 (ad := ⟨b78, 0 + (x63 : Int).toNat * 2 + 1, none⟩) (v := .slice A86 ((t35.2.sub_.getD ((x63).toNat) z63).term).length c87) Try.underlying25 rfl (by kernel_rfl) (hpx (k85 1 _ rfl))) ?_
    have S90 := S67.unit
    have S91 := S90.pull (F := (is g28)) (Fr := [no, F43, F61]) 1 rfl rfl
    have S92 := S91.pull (F := F43) (Fr := [(is g28), no, F61]) 2 rfl rfl
    obtain ⟨t93, u94, M⟩ := bnd M
    refine lcall (d := 54) rfl rfl (by kernel_rfl) (e_call (l := [.tmp 45, .tmp 53, .const (.slice none 0 0)]) (vs := [.pointer (some ⟨g28, 0, none⟩), .slice A86 ((t35.2.sub_.getD ((x63).toNat) z63).term).length c87, .slice none 0 0]) Try.func90 (by kernel_rfl) rfl (by kernel_rfl) rfl) (spec_l5whole_2.calls k72 w54 H56 t35.2 g28 A40 c41 F43 ((t35.2.sub_.getD ((x63).toNat) z63).term) A86 c87 [] none 0 no h42 b44 h89 l88 (Row.nil _ _ _ _ no) (St.own' (Fa := [F43, (is g28), no]) (Fr := [F61]) S92) t93 u94) ?_
    rintro _ w95 ⟨A100, c101, F103, H96, rfl, h98, b99, h102, T97⟩
    refine ⟨_, rfl, ?_⟩
    obtain ⟨S104, K105⟩ := St.call (Fa := [F43, (is g28), no]) (Fr := [F61]) S92 T97
    replace h62 := h62.move (K105.at 0 rfl)
    have E106 := T97.ext
    replace h62 := h62.ext E106
    refine lv (d := 44) rfl rfl (by kernel_rfl) (e_move (v := .tuple #[.slice A100 t93.1.length c101, .bool t93.2]) (by kernel_rfl)) ?_
    refine lv (d := 55) rfl rfl (by kernel_rfl) (e_extract (vs := #[.slice A100 t93.1.length c101, .bool t93.2]) (v := .slice A100 t93.1.length c101) (by kernel_rfl) rfl) ?_
    refine lv (d := 56) rfl rfl (by kernel_rfl) (e_extract (vs := #[.slice A100 t93.1.length c101, .bool t93.2]) (v := .bool t93.2) (by kernel_rfl) rfl) ?_
    refine lv (d := 10) rfl rfl (by kernel_rfl) (e_assign (v := .slice A100 t93.1.length c101) (by kernel_rfl)) ?_
    refine lv (d := 11) rfl rfl (by kernel_rfl) (e_assign (v := .bool t93.2) (by kernel_rfl)) ?_
    refine wpList_nil ?_
    refine then_n ?_
    refine wp_seq ?_
    refine wp_seq ?_
    refine wp_region_lit ?_
    refine lv (d := 57) rfl rfl (by kernel_rfl) (e_move (v := .bool t93.2) (by kernel_rfl)) ?_
    refine lv (d := 58) rfl rfl (by kernel_rfl) (e_notv (c := t93.2) (by kernel_rfl)) ?_
    refine wpList_nil ?_
    refine then_n ?_
    by_cases q107 : ¬ (t93.2 = true)
    · replace M := ifp q107 M
      refine cond_t rfl (bt q107 (by kernel_rfl)) ?_
      refine wp_seq ?_
      refine wp_region_lit ?_
      refine lv (d := 4) rfl rfl (by kernel_rfl) (e_assign (v := .slice none 0 0) rfl) ?_
      refine lv (d := 5) rfl rfl (by kernel_rfl) (e_assign (v := .int .i64 3) rfl) ?_
      refine wpList_nil ?_
      refine then_n ?_
      refine wp_ret ?_
      refine then_r ?_
      refine inb_r ?_
      refine then_r ?_
      refine then_r ?_
      refine inb_r ?_
      refine then_r ?_
      obtain rfl := Option.some.inj M
      have S108 := S104.unit
      have S109 := St.first (Fa := [no]) (Fr := [F43, (is g28), F103, F61]) S108
      exact ret2 rfl rfl rfl (show _ = .slice none 0 0 from (by kernel_rfl)) (show _ = .int .i64 3 from (by kernel_rfl)) ⟨none, 0, no, H96, rfl, (Row.nil _ _ _ _ no), S109⟩
    replace M := ifn q107 M
    refine cond_f rfl (bf q107 (by kernel_rfl)) ?_
    refine wp_skip ?_
    refine then_n ?_
    refine wp_region_lit ?_
    refine lv (d := 59) rfl rfl (by kernel_rfl) (e_move (v := .slice A59 x58.length c60) (by exact e65)) ?_
    refine lv (d := 60) rfl rfl (by kernel_rfl) (e_move (v := .pointer (some ⟨g28, 0, none⟩)) (by exact e64)) ?_
    refine lv (d := 61) rfl rfl (by kernel_rfl) (e_nilCheck (ad := ⟨g28, 0, none⟩) (by kernel_rfl)) ?_
    refine lv (d := 62) rfl rfl (by kernel_rfl) (e_fieldAddr (b := g28) (off := 0) (o := 0) Try.underlying106 rfl rfl (sz := 1) (by kernel_rfl) (by decide) (by kernel_rfl)) ?_
    refine lv (d := 63) rfl rfl (by kernel_rfl) (e_load1 (ad := ⟨g28, 0 + 0, none⟩) (v := .slice A40 t35.2.sub_.length c41) Try.underlying52 rfl (by kernel_rfl) (blk_cell b99 rfl)) ?_
    refine lv (d := 64) rfl rfl (by kernel_rfl) (e_move (v := .int .i64 x63) (by exact e66)) ?_
    obtain ⟨b110, e112⟩ := Row.addr h98 (show (x63).toNat < t35.2.sub_.length by omega)
    refine lv (d := 65) rfl rfl (by kernel_rfl) (e_indexAddr (b := b110) (off := 0) (n := t35.2.sub_.length) (c := c41) (sz := 2) (i := x63) (k := .i64) Try.underlying52 e112 (by kernel_rfl) (by kernel_rfl) (by kernel_rfl) q77 q76) ?_
    refine lv (d := 66) rfl rfl (by kernel_rfl) (e_fieldAddr (b := b110) (off := 0 + (x63 : Int).toNat * 2) (o := 0) Try.underlying63 rfl rfl (sz := 1) (by kernel_rfl) (by decide) (by kernel_rfl)) ?_
    refine lv (d := 67) rfl rfl (by kernel_rfl) (e_load1 (ad := ⟨b110, 0 + (x63 : Int).toNat * 2 + 0, none⟩) (v := .int .i64 ((t35.2.sub_.getD ((x63).toNat) z63).var)) Try.underlying3 rfl (by kernel_rfl) (hpx (Row.pick (j := 0) (u := .int .i64 ((t35.2.sub_.getD ((x63).toNat) z63).var)) h98 e112 (getD_some z63 (show (x63).toNat < t35.2.sub_.length by omega)) (fun _ _ o_ => st63_r0 o_)))) ?_
    refine lv (d := 68) rfl rfl (by kernel_rfl) (e_move (v := .slice A100 t93.1.length c101) (by kernel_rfl)) ?_
    refine lv (d := 69) rfl rfl (by kernel_rfl) (show _ = Result.ok (Next.value (.agg #[.int .i64 ((t35.2.sub_.getD ((x63).toNat) z63).var), .slice A100 t93.1.length c101])) w95 from by kernel_rfl) ?_
    refine lve (d := 70) rfl rfl (by kernel_rfl) (new_blk (v := fun g_ => .slice (some ⟨g_, 0, none⟩) 1 1) (cs := #[.int .i64 ((t35.2.sub_.getD ((x63).toNat) z63).var), .slice A100 t93.1.length c101]) (t := 63) S104 (by kernel_rfl)) ?_
    rintro _ w113 ⟨g114, rfl, b115, S116, K117⟩
    replace h98 := h98.move (K117.at 0 rfl)
    replace b99 := K117.blk 1 rfl b99
    replace h102 := h102.move (K117.at 2 rfl)
    replace h62 := h62.move (K117.at 3 rfl)
    obtain ⟨q118, M⟩ := chk M
    have S119 := S116.pull (F := F103) (Fr := [(is g114), F43, (is g28), F61]) 3 rfl rfl
    have S120 := S119.pull (F := F61) (Fr := [F103, (is g114), F43, (is g28)]) 4 rfl rfl
    refine lve (d := 71) rfl rfl (by kernel_rfl) (e_append (d := st63) (n := x58.length) (xs := x58) (cap := c60) (A := A59) (ys := [(⟨(t35.2.sub_.getD ((x63).toNat) z63).var, t93.1⟩ : Binding)]) (A2 := (some ⟨g114, 0, none⟩)) (c2 := 1) (z := .agg #[.int .i64 0, .slice none 0 0]) (bytes := 32) S120 Try.underlying52 (by kernel_rfl) rfl (by decide) (by kernel_rfl) rfl (by kernel_rfl) h62 (elsO_one1 (st63_mkO (x := (⟨(t35.2.sub_.getD ((x63).toNat) z63).var, t93.1⟩ : Binding)) h102)) (.inr (blk_news b115 rfl)) (show (x58.length + [(⟨(t35.2.sub_.getD ((x63).toNat) z63).var, t93.1⟩ : Binding)].length) * 32 ≤ _ by first | omega | (simp only [List.length_cons, List.length_nil]; omega)) (by decide)) ?_
    rintro _ w121 ⟨A122, c123, F124, rfl, h125, S126, K127⟩
    replace b115 := K127.blk 0 rfl b115
    replace h98 := h98.move (K127.at 1 rfl)
    replace b99 := K127.blk 2 rfl b99
    refine lv (d := 8) rfl rfl (by kernel_rfl) (e_assign (v := .slice A122 ((x58 ++ [(⟨(t35.2.sub_.getD ((x63).toNat) z63).var, t93.1⟩ : Binding)]).length) c123) (by kernel_rfl)) ?_
    refine wpList_nil ?_
    refine inb_n ?_
    refine then_n ?_
    refine wp_region_lit ?_
    refine lv (d := 42) rfl rfl (by kernel_rfl) (e_move (v := .int .i64 x63) (by exact e66)) ?_
    refine lv (d := 43) rfl rfl (by kernel_rfl) (e_add (k := .i64) (a := x63) (b := 1) (by kernel_rfl) rfl) ?_
    refine lv (d := 9) rfl rfl (by kernel_rfl) (e_assign (v := .int .i64 (IntKind.i64.wrap (x63 + 1))) (by kernel_rfl)) ?_
    refine wpList_nil ?_
    refine then_n ?_
    have S128 := S126.pull (F := F43) (Fr := [F124, (is g114), (is g28)]) 2 rfl rfl
    have S129 := S128.pull (F := (is g28)) (Fr := [F43, F124, (is g114)]) 3 rfl rfl
    have S130 := St.first (Fa := [(is g28), F43, F124]) (Fr := [(is g114)]) S129
    exact ⟨k72, (by omega), _, H96, (x58 ++ [(⟨(t35.2.sub_.getD ((x63).toNat) z63).var, t93.1⟩ : Binding)]), A122, c123, F124, (IntKind.i64.wrap (x63 + 1)), rfl, (by exact e64), (by kernel_rfl), (by kernel_rfl), b99, h98, h125, (Y57.trans E106), S130, M⟩
  replace M := ifn q76 M
  refine cond_f rfl (bf q76 (by kernel_rfl)) ?_
  refine wp_exit ?_
  refine then_e ?_
  refine then_e ?_
  refine inb_hit ?_
  refine then_n ?_
  refine wp_seq ?_
  refine wp_region_lit ?_
  refine lv (d := 72) rfl rfl (by kernel_rfl) (e_move (v := .slice A59 x58.length c60) (by exact e65)) ?_
  refine lv (d := 4) rfl rfl (by kernel_rfl) (e_assign (v := .slice A59 x58.length c60) (by kernel_rfl)) ?_
  refine lv (d := 5) rfl rfl (by kernel_rfl) (e_assign (v := .int .i64 0) rfl) ?_
  refine wpList_nil ?_
  refine then_n ?_
  refine wp_ret ?_
  obtain rfl := Option.some.inj M
  have S131 := S67.pull (F := F61) (Fr := [(is g28), F43]) 2 rfl rfl
  have S132 := St.first (Fa := [F61]) (Fr := [(is g28), F43]) S131
  exact ret2 rfl rfl rfl (show _ = .slice A59 x58.length c60 from (by kernel_rfl)) (show _ = .int .i64 0 from (by kernel_rfl)) ⟨A59, c60, F61, H56, rfl, h62, S132⟩

/-! impl_cellOk -/
def impl_cellOk.f (x1 : Cell) : Option Bool := (if x1.kind = 0 then (if x1.n ≥ 0 then (if x1.n ≤ 1000000 then some (decide ((x1.text.length : Int) = 0)) else some false) else some false) else (if x1.kind = 1 then (if x1.n ≥ (-1000000000000000) then (if x1.n ≤ 1000000000000000 then some (decide ((x1.text.length : Int) = 0)) else some false) else some false) else (if x1.kind = 2 then (if x1.n = 0 then some (decide ((x1.text.length : Int) ≤ 100)) else some false) else (if x1.kind = 3 then (if x1.n ≥ 1 then (if x1.n ≤ 20 then some (decide ((x1.text.length : Int) ≤ 100)) else some false) else some false) else some false))))
theorem impl_cellOk.calls (w : World) (H : Hp) (x1 : Cell) (A2 : Option Addr) (c3 : Nat) (h4 : Rd tByte H A2 x1.text) (l5 : x1.text.length ≤ c3) (S : Own [] H w) (r : Bool) (M : impl_cellOk.f x1 = some r) :
    Calls Try.prog 58 #[.agg #[.int .i64 x1.kind, .int .i64 x1.n, .slice A2 x1.text.length c3]] w (fun e e_w => e = .returned (.bool r) ∧ Chg no w e_w) := by
  rw [impl_cellOk.f] at M
  refine enter (l := [.agg #[.int .i64 x1.kind, .int .i64 x1.n, .slice A2 x1.text.length c3]]) 64 Try.func58 rfl rfl rfl ?_
  have S0_ := S.st
  refine wp_seq ?_
  refine wp_region_lit ?_
  refine lve (d := 1) rfl rfl (by kernel_rfl) (new_blk (v := fun g_ => .pointer (some ⟨g_, 0, none⟩)) (cs := #[.int .i64 x1.kind, .int .i64 x1.n, .slice A2 x1.text.length c3]) (t := 65) S0_ (by kernel_rfl)) ?_
  rintro _ w6 ⟨g7, rfl, b9, S10, K11⟩
  refine lv (d := 2) rfl rfl (by kernel_rfl) (e_assign (v := .bool false) rfl) ?_
  refine wpList_nil ?_
  refine then_n ?_
  refine wp_seq ?_
  refine wp_seq ?_
  refine wp_region_lit ?_
  refine lv (d := 3) rfl rfl (by kernel_rfl) (e_fieldAddr (b := g7) (off := 0) (o := 0) Try.underlying65 rfl rfl (sz := 1) (by kernel_rfl) (by decide) (by kernel_rfl)) ?_
  refine lv (d := 4) rfl rfl (by kernel_rfl) (e_load1 (ad := ⟨g7, 0 + 0, none⟩) (v := .int .i64 x1.kind) Try.underlying3 rfl (by kernel_rfl) (blk_cell b9 rfl)) ?_
  refine wpList_nil ?_
  refine then_n ?_
  refine wp_block ?_
  refine wp_seq ?_
  refine wp_region_lit ?_
  refine lv (d := 6) rfl rfl (by kernel_rfl) (e_eql (k := .i64) (a := x1.kind) (b := 0) (by kernel_rfl) rfl) ?_
  refine lv (d := 5) rfl rfl (by kernel_rfl) (e_assign (v := .bool (decide (x1.kind = 0))) (by kernel_rfl)) ?_
  refine wpList_nil ?_
  refine then_n ?_
  by_cases q12 : x1.kind = 0
  · replace M := ifp q12 M
    refine cond_t rfl (bt q12 (by kernel_rfl)) ?_
    refine wp_seq ?_
    refine wp_region_lit ?_
    refine lv (d := 7) rfl rfl (by kernel_rfl) (e_fieldAddr (b := g7) (off := 0) (o := 1) Try.underlying65 rfl rfl (sz := 1) (by kernel_rfl) (by decide) (by kernel_rfl)) ?_
    refine lv (d := 8) rfl rfl (by kernel_rfl) (e_load1 (ad := ⟨g7, 0 + 1, none⟩) (v := .int .i64 x1.n) Try.underlying3 rfl (by kernel_rfl) (blk_cell b9 rfl)) ?_
    refine lv (d := 9) rfl rfl (by kernel_rfl) (e_geq (k := .i64) (a := x1.n) (b := 0) (by kernel_rfl) rfl) ?_
    refine lv (d := 10) rfl rfl (by kernel_rfl) (e_move (v := .bool (decide (x1.n ≥ 0))) (by kernel_rfl)) ?_
    by_cases q13 : x1.n ≥ 0
    · replace M := ifp q13 M
      refine lvg (d := 11) (t := 10) rfl (by kernel_rfl) rfl (bt q13 (by kernel_rfl)) rfl (by kernel_rfl) (e_fieldAddr (b := g7) (off := 0) (o := 1) Try.underlying65 rfl rfl (sz := 1) (by kernel_rfl) (by decide) (by kernel_rfl)) ?_
      refine lvg (d := 12) (t := 10) rfl (by kernel_rfl) rfl (bt q13 (by kernel_rfl)) rfl (by kernel_rfl) (e_load1 (ad := ⟨g7, 0 + 1, none⟩) (v := .int .i64 x1.n) Try.underlying3 rfl (by kernel_rfl) (blk_cell b9 rfl)) ?_
      refine lvg (d := 13) (t := 10) rfl (by kernel_rfl) rfl (bt q13 (by kernel_rfl)) rfl (by kernel_rfl) (e_leq (k := .i64) (a := x1.n) (b := 1000000) (by kernel_rfl) rfl) ?_
      refine lv (d := 14) rfl rfl (by kernel_rfl) (e_pick_t (v := .bool (decide (x1.n ≤ 1000000))) (bt q13 (by kernel_rfl)) (by kernel_rfl)) ?_
      refine lv (d := 15) rfl rfl (by kernel_rfl) (e_move (v := .bool (decide (x1.n ≤ 1000000))) (by kernel_rfl)) ?_
      by_cases q14 : x1.n ≤ 1000000
      · replace M := ifp q14 M
        refine lvg (d := 16) (t := 15) rfl (by kernel_rfl) rfl (bt q14 (by kernel_rfl)) rfl (by kernel_rfl) (e_fieldAddr (b := g7) (off := 0) (o := 2) Try.underlying65 rfl rfl (sz := 1) (by kernel_rfl) (by decide) (by kernel_rfl)) ?_
        refine lvg (d := 17) (t := 15) rfl (by kernel_rfl) rfl (bt q14 (by kernel_rfl)) rfl (by kernel_rfl) (e_load1 (ad := ⟨g7, 0 + 2, none⟩) (v := .slice A2 x1.text.length c3) Try.underlying59 rfl (by kernel_rfl) (blk_cell b9 rfl)) ?_
        refine lvg (d := 18) (t := 15) rfl (by kernel_rfl) rfl (bt q14 (by kernel_rfl)) rfl (by kernel_rfl) (e_len (A := A2) (n := x1.text.length) (c := c3) Try.underlying59 (by kernel_rfl)) ?_
        refine lvg (d := 19) (t := 15) rfl (by kernel_rfl) rfl (bt q14 (by kernel_rfl)) rfl (by kernel_rfl) (e_eql (k := .i64) (a := (x1.text.length : Int)) (b := 0) (by kernel_rfl) rfl) ?_
        refine lv (d := 20) rfl rfl (by kernel_rfl) (e_pick_t (v := .bool (decide ((x1.text.length : Int) = 0))) (bt q14 (by kernel_rfl)) (by kernel_rfl)) ?_
        refine lv (d := 2) rfl rfl (by kernel_rfl) (e_assign (v := .bool (decide ((x1.text.length : Int) = 0))) (by kernel_rfl)) ?_
        refine wpList_nil ?_
        refine then_n ?_
        refine wp_ret ?_
        refine inb_r ?_
        refine then_r ?_
        obtain rfl := Option.some.inj M
        exact ret1 rfl rfl  (show _ = .bool (decide ((x1.text.length : Int) = 0)) from (by kernel_rfl)) ⟨rfl, S10.chg⟩
      replace M := ifn q14 M
      refine lskip (t := 15) (c := false) rfl (by kernel_rfl) rfl (bf q14 (by kernel_rfl)) rfl rfl ?_
      refine lskip (t := 15) (c := false) rfl (by kernel_rfl) rfl (bf q14 (by kernel_rfl)) rfl rfl ?_
      refine lskip (t := 15) (c := false) rfl (by kernel_rfl) rfl (bf q14 (by kernel_rfl)) rfl rfl ?_
      refine lskip (t := 15) (c := false) rfl (by kernel_rfl) rfl (bf q14 (by kernel_rfl)) rfl rfl ?_
      refine lv (d := 20) rfl rfl (by kernel_rfl) (e_pick_f (v := .bool false) (bf q14 (by kernel_rfl)) rfl) ?_
      refine lv (d := 2) rfl rfl (by kernel_rfl) (e_assign (v := .bool false) (by kernel_rfl)) ?_
      refine wpList_nil ?_
      refine then_n ?_
      refine wp_ret ?_
      refine inb_r ?_
      refine then_r ?_
      obtain rfl := Option.some.inj M
      exact ret1 rfl rfl  (show _ = .bool false from (by kernel_rfl)) ⟨rfl, S10.chg⟩
    replace M := ifn q13 M
    refine lskip (t := 10) (c := false) rfl (by kernel_rfl) rfl (bf q13 (by kernel_rfl)) rfl rfl ?_
    refine lskip (t := 10) (c := false) rfl (by kernel_rfl) rfl (bf q13 (by kernel_rfl)) rfl rfl ?_
    refine lskip (t := 10) (c := false) rfl (by kernel_rfl) rfl (bf q13 (by kernel_rfl)) rfl rfl ?_
    refine lv (d := 14) rfl rfl (by kernel_rfl) (e_pick_f (v := .bool false) (bf q13 (by kernel_rfl)) rfl) ?_
    refine lv (d := 15) rfl rfl (by kernel_rfl) (e_move (v := .bool false) (by kernel_rfl)) ?_
    refine lskip (t := 15) (c := false) rfl (by kernel_rfl) rfl (by kernel_rfl) rfl rfl ?_
    refine lskip (t := 15) (c := false) rfl (by kernel_rfl) rfl (by kernel_rfl) rfl rfl ?_
    refine lskip (t := 15) (c := false) rfl (by kernel_rfl) rfl (by kernel_rfl) rfl rfl ?_
    refine lskip (t := 15) (c := false) rfl (by kernel_rfl) rfl (by kernel_rfl) rfl rfl ?_
    refine lv (d := 20) rfl rfl (by kernel_rfl) (e_pick_f (v := .bool false) (by kernel_rfl) rfl) ?_
    refine lv (d := 2) rfl rfl (by kernel_rfl) (e_assign (v := .bool false) (by kernel_rfl)) ?_
    refine wpList_nil ?_
    refine then_n ?_
    refine wp_ret ?_
    refine inb_r ?_
    refine then_r ?_
    obtain rfl := Option.some.inj M
    exact ret1 rfl rfl  (show _ = .bool false from (by kernel_rfl)) ⟨rfl, S10.chg⟩
  replace M := ifn q12 M
  refine cond_f rfl (bf q12 (by kernel_rfl)) ?_
  refine wp_seq ?_
  refine wp_region_lit ?_
  refine lv (d := 22) rfl rfl (by kernel_rfl) (e_eql (k := .i64) (a := x1.kind) (b := 1) (by kernel_rfl) rfl) ?_
  refine lv (d := 21) rfl rfl (by kernel_rfl) (e_assign (v := .bool (decide (x1.kind = 1))) (by kernel_rfl)) ?_
  refine wpList_nil ?_
  refine then_n ?_
  by_cases q15 : x1.kind = 1
  · replace M := ifp q15 M
    refine cond_t rfl (bt q15 (by kernel_rfl)) ?_
    refine wp_seq ?_
    refine wp_region_lit ?_
    refine lv (d := 23) rfl rfl (by kernel_rfl) (e_fieldAddr (b := g7) (off := 0) (o := 1) Try.underlying65 rfl rfl (sz := 1) (by kernel_rfl) (by decide) (by kernel_rfl)) ?_
    refine lv (d := 24) rfl rfl (by kernel_rfl) (e_load1 (ad := ⟨g7, 0 + 1, none⟩) (v := .int .i64 x1.n) Try.underlying3 rfl (by kernel_rfl) (blk_cell b9 rfl)) ?_
    refine lv (d := 25) rfl rfl (by kernel_rfl) (e_geq (k := .i64) (a := x1.n) (b := (-1000000000000000)) (by kernel_rfl) rfl) ?_
    refine lv (d := 26) rfl rfl (by kernel_rfl) (e_move (v := .bool (decide (x1.n ≥ (-1000000000000000)))) (by kernel_rfl)) ?_
    by_cases q16 : x1.n ≥ (-1000000000000000)
    · replace M := ifp q16 M
      refine lvg (d := 27) (t := 26) rfl (by kernel_rfl) rfl (bt q16 (by kernel_rfl)) rfl (by kernel_rfl) (e_fieldAddr (b := g7) (off := 0) (o := 1) Try.underlying65 rfl rfl (sz := 1) (by kernel_rfl) (by decide) (by kernel_rfl)) ?_
      refine lvg (d := 28) (t := 26) rfl (by kernel_rfl) rfl (bt q16 (by kernel_rfl)) rfl (by kernel_rfl) (e_load1 (ad := ⟨g7, 0 + 1, none⟩) (v := .int .i64 x1.n) Try.underlying3 rfl (by kernel_rfl) (blk_cell b9 rfl)) ?_
      refine lvg (d := 29) (t := 26) rfl (by kernel_rfl) rfl (bt q16 (by kernel_rfl)) rfl (by kernel_rfl) (e_leq (k := .i64) (a := x1.n) (b := 1000000000000000) (by kernel_rfl) rfl) ?_
      refine lv (d := 30) rfl rfl (by kernel_rfl) (e_pick_t (v := .bool (decide (x1.n ≤ 1000000000000000))) (bt q16 (by kernel_rfl)) (by kernel_rfl)) ?_
      refine lv (d := 31) rfl rfl (by kernel_rfl) (e_move (v := .bool (decide (x1.n ≤ 1000000000000000))) (by kernel_rfl)) ?_
      by_cases q17 : x1.n ≤ 1000000000000000
      · replace M := ifp q17 M
        refine lvg (d := 32) (t := 31) rfl (by kernel_rfl) rfl (bt q17 (by kernel_rfl)) rfl (by kernel_rfl) (e_fieldAddr (b := g7) (off := 0) (o := 2) Try.underlying65 rfl rfl (sz := 1) (by kernel_rfl) (by decide) (by kernel_rfl)) ?_
        refine lvg (d := 33) (t := 31) rfl (by kernel_rfl) rfl (bt q17 (by kernel_rfl)) rfl (by kernel_rfl) (e_load1 (ad := ⟨g7, 0 + 2, none⟩) (v := .slice A2 x1.text.length c3) Try.underlying59 rfl (by kernel_rfl) (blk_cell b9 rfl)) ?_
        refine lvg (d := 34) (t := 31) rfl (by kernel_rfl) rfl (bt q17 (by kernel_rfl)) rfl (by kernel_rfl) (e_len (A := A2) (n := x1.text.length) (c := c3) Try.underlying59 (by kernel_rfl)) ?_
        refine lvg (d := 35) (t := 31) rfl (by kernel_rfl) rfl (bt q17 (by kernel_rfl)) rfl (by kernel_rfl) (e_eql (k := .i64) (a := (x1.text.length : Int)) (b := 0) (by kernel_rfl) rfl) ?_
        refine lv (d := 36) rfl rfl (by kernel_rfl) (e_pick_t (v := .bool (decide ((x1.text.length : Int) = 0))) (bt q17 (by kernel_rfl)) (by kernel_rfl)) ?_
        refine lv (d := 2) rfl rfl (by kernel_rfl) (e_assign (v := .bool (decide ((x1.text.length : Int) = 0))) (by kernel_rfl)) ?_
        refine wpList_nil ?_
        refine then_n ?_
        refine wp_ret ?_
        refine inb_r ?_
        refine then_r ?_
        obtain rfl := Option.some.inj M
        exact ret1 rfl rfl  (show _ = .bool (decide ((x1.text.length : Int) = 0)) from (by kernel_rfl)) ⟨rfl, S10.chg⟩
      replace M := ifn q17 M
      refine lskip (t := 31) (c := false) rfl (by kernel_rfl) rfl (bf q17 (by kernel_rfl)) rfl rfl ?_
      refine lskip (t := 31) (c := false) rfl (by kernel_rfl) rfl (bf q17 (by kernel_rfl)) rfl rfl ?_
      refine lskip (t := 31) (c := false) rfl (by kernel_rfl) rfl (bf q17 (by kernel_rfl)) rfl rfl ?_
      refine lskip (t := 31) (c := false) rfl (by kernel_rfl) rfl (bf q17 (by kernel_rfl)) rfl rfl ?_
      refine lv (d := 36) rfl rfl (by kernel_rfl) (e_pick_f (v := .bool false) (bf q17 (by kernel_rfl)) rfl) ?_
      refine lv (d := 2) rfl rfl (by kernel_rfl) (e_assign (v := .bool false) (by kernel_rfl)) ?_
      refine wpList_nil ?_
      refine then_n ?_
      refine wp_ret ?_
      refine inb_r ?_
      refine then_r ?_
      obtain rfl := Option.some.inj M
      exact ret1 rfl rfl  (show _ = .bool false from (by kernel_rfl)) ⟨rfl, S10.chg⟩
    replace M := ifn q16 M
    refine lskip (t := 26) (c := false) rfl (by kernel_rfl) rfl (bf q16 (by kernel_rfl)) rfl rfl ?_
    refine lskip (t := 26) (c := false) rfl (by kernel_rfl) rfl (bf q16 (by kernel_rfl)) rfl rfl ?_
    refine lskip (t := 26) (c := false) rfl (by kernel_rfl) rfl (bf q16 (by kernel_rfl)) rfl rfl ?_
    refine lv (d := 30) rfl rfl (by kernel_rfl) (e_pick_f (v := .bool false) (bf q16 (by kernel_rfl)) rfl) ?_
    refine lv (d := 31) rfl rfl (by kernel_rfl) (e_move (v := .bool false) (by kernel_rfl)) ?_
    refine lskip (t := 31) (c := false) rfl (by kernel_rfl) rfl (by kernel_rfl) rfl rfl ?_
    refine lskip (t := 31) (c := false) rfl (by kernel_rfl) rfl (by kernel_rfl) rfl rfl ?_
    refine lskip (t := 31) (c := false) rfl (by kernel_rfl) rfl (by kernel_rfl) rfl rfl ?_
    refine lskip (t := 31) (c := false) rfl (by kernel_rfl) rfl (by kernel_rfl) rfl rfl ?_
    refine lv (d := 36) rfl rfl (by kernel_rfl) (e_pick_f (v := .bool false) (by kernel_rfl) rfl) ?_
    refine lv (d := 2) rfl rfl (by kernel_rfl) (e_assign (v := .bool false) (by kernel_rfl)) ?_
    refine wpList_nil ?_
    refine then_n ?_
    refine wp_ret ?_
    refine inb_r ?_
    refine then_r ?_
    obtain rfl := Option.some.inj M
    exact ret1 rfl rfl  (show _ = .bool false from (by kernel_rfl)) ⟨rfl, S10.chg⟩
  replace M := ifn q15 M
  refine cond_f rfl (bf q15 (by kernel_rfl)) ?_
  refine wp_seq ?_
  refine wp_region_lit ?_
  refine lv (d := 38) rfl rfl (by kernel_rfl) (e_eql (k := .i64) (a := x1.kind) (b := 2) (by kernel_rfl) rfl) ?_
  refine lv (d := 37) rfl rfl (by kernel_rfl) (e_assign (v := .bool (decide (x1.kind = 2))) (by kernel_rfl)) ?_
  refine wpList_nil ?_
  refine then_n ?_
  by_cases q18 : x1.kind = 2
  · replace M := ifp q18 M
    refine cond_t rfl (bt q18 (by kernel_rfl)) ?_
    refine wp_seq ?_
    refine wp_region_lit ?_
    refine lv (d := 39) rfl rfl (by kernel_rfl) (e_fieldAddr (b := g7) (off := 0) (o := 1) Try.underlying65 rfl rfl (sz := 1) (by kernel_rfl) (by decide) (by kernel_rfl)) ?_
    refine lv (d := 40) rfl rfl (by kernel_rfl) (e_load1 (ad := ⟨g7, 0 + 1, none⟩) (v := .int .i64 x1.n) Try.underlying3 rfl (by kernel_rfl) (blk_cell b9 rfl)) ?_
    refine lv (d := 41) rfl rfl (by kernel_rfl) (e_eql (k := .i64) (a := x1.n) (b := 0) (by kernel_rfl) rfl) ?_
    refine lv (d := 42) rfl rfl (by kernel_rfl) (e_move (v := .bool (decide (x1.n = 0))) (by kernel_rfl)) ?_
    by_cases q19 : x1.n = 0
    · replace M := ifp q19 M
      refine lvg (d := 43) (t := 42) rfl (by kernel_rfl) rfl (bt q19 (by kernel_rfl)) rfl (by kernel_rfl) (e_fieldAddr (b := g7) (off := 0) (o := 2) Try.underlying65 rfl rfl (sz := 1) (by kernel_rfl) (by decide) (by kernel_rfl)) ?_
      refine lvg (d := 44) (t := 42) rfl (by kernel_rfl) rfl (bt q19 (by kernel_rfl)) rfl (by kernel_rfl) (e_load1 (ad := ⟨g7, 0 + 2, none⟩) (v := .slice A2 x1.text.length c3) Try.underlying59 rfl (by kernel_rfl) (blk_cell b9 rfl)) ?_
      refine lvg (d := 45) (t := 42) rfl (by kernel_rfl) rfl (bt q19 (by kernel_rfl)) rfl (by kernel_rfl) (e_len (A := A2) (n := x1.text.length) (c := c3) Try.underlying59 (by kernel_rfl)) ?_
      refine lvg (d := 46) (t := 42) rfl (by kernel_rfl) rfl (bt q19 (by kernel_rfl)) rfl (by kernel_rfl) (e_leq (k := .i64) (a := (x1.text.length : Int)) (b := 100) (by kernel_rfl) rfl) ?_
      refine lv (d := 47) rfl rfl (by kernel_rfl) (e_pick_t (v := .bool (decide ((x1.text.length : Int) ≤ 100))) (bt q19 (by kernel_rfl)) (by kernel_rfl)) ?_
      refine lv (d := 2) rfl rfl (by kernel_rfl) (e_assign (v := .bool (decide ((x1.text.length : Int) ≤ 100))) (by kernel_rfl)) ?_
      refine wpList_nil ?_
      refine then_n ?_
      refine wp_ret ?_
      refine inb_r ?_
      refine then_r ?_
      obtain rfl := Option.some.inj M
      exact ret1 rfl rfl  (show _ = .bool (decide ((x1.text.length : Int) ≤ 100)) from (by kernel_rfl)) ⟨rfl, S10.chg⟩
    replace M := ifn q19 M
    refine lskip (t := 42) (c := false) rfl (by kernel_rfl) rfl (bf q19 (by kernel_rfl)) rfl rfl ?_
    refine lskip (t := 42) (c := false) rfl (by kernel_rfl) rfl (bf q19 (by kernel_rfl)) rfl rfl ?_
    refine lskip (t := 42) (c := false) rfl (by kernel_rfl) rfl (bf q19 (by kernel_rfl)) rfl rfl ?_
    refine lskip (t := 42) (c := false) rfl (by kernel_rfl) rfl (bf q19 (by kernel_rfl)) rfl rfl ?_
    refine lv (d := 47) rfl rfl (by kernel_rfl) (e_pick_f (v := .bool false) (bf q19 (by kernel_rfl)) rfl) ?_
    refine lv (d := 2) rfl rfl (by kernel_rfl) (e_assign (v := .bool false) (by kernel_rfl)) ?_
    refine wpList_nil ?_
    refine then_n ?_
    refine wp_ret ?_
    refine inb_r ?_
    refine then_r ?_
    obtain rfl := Option.some.inj M
    exact ret1 rfl rfl  (show _ = .bool false from (by kernel_rfl)) ⟨rfl, S10.chg⟩
  replace M := ifn q18 M
  refine cond_f rfl (bf q18 (by kernel_rfl)) ?_
  refine wp_seq ?_
  refine wp_region_lit ?_
  refine lv (d := 49) rfl rfl (by kernel_rfl) (e_eql (k := .i64) (a := x1.kind) (b := 3) (by kernel_rfl) rfl) ?_
  refine lv (d := 48) rfl rfl (by kernel_rfl) (e_assign (v := .bool (decide (x1.kind = 3))) (by kernel_rfl)) ?_
  refine wpList_nil ?_
  refine then_n ?_
  by_cases q20 : x1.kind = 3
  · replace M := ifp q20 M
    refine cond_t rfl (bt q20 (by kernel_rfl)) ?_
    refine wp_seq ?_
    refine wp_region_lit ?_
    refine lv (d := 50) rfl rfl (by kernel_rfl) (e_fieldAddr (b := g7) (off := 0) (o := 1) Try.underlying65 rfl rfl (sz := 1) (by kernel_rfl) (by decide) (by kernel_rfl)) ?_
    refine lv (d := 51) rfl rfl (by kernel_rfl) (e_load1 (ad := ⟨g7, 0 + 1, none⟩) (v := .int .i64 x1.n) Try.underlying3 rfl (by kernel_rfl) (blk_cell b9 rfl)) ?_
    refine lv (d := 52) rfl rfl (by kernel_rfl) (e_geq (k := .i64) (a := x1.n) (b := 1) (by kernel_rfl) rfl) ?_
    refine lv (d := 53) rfl rfl (by kernel_rfl) (e_move (v := .bool (decide (x1.n ≥ 1))) (by kernel_rfl)) ?_
    by_cases q21 : x1.n ≥ 1
    · replace M := ifp q21 M
      refine lvg (d := 54) (t := 53) rfl (by kernel_rfl) rfl (bt q21 (by kernel_rfl)) rfl (by kernel_rfl) (e_fieldAddr (b := g7) (off := 0) (o := 1) Try.underlying65 rfl rfl (sz := 1) (by kernel_rfl) (by decide) (by kernel_rfl)) ?_
      refine lvg (d := 55) (t := 53) rfl (by kernel_rfl) rfl (bt q21 (by kernel_rfl)) rfl (by kernel_rfl) (e_load1 (ad := ⟨g7, 0 + 1, none⟩) (v := .int .i64 x1.n) Try.underlying3 rfl (by kernel_rfl) (blk_cell b9 rfl)) ?_
      refine lvg (d := 56) (t := 53) rfl (by kernel_rfl) rfl (bt q21 (by kernel_rfl)) rfl (by kernel_rfl) (e_leq (k := .i64) (a := x1.n) (b := 20) (by kernel_rfl) rfl) ?_
      refine lv (d := 57) rfl rfl (by kernel_rfl) (e_pick_t (v := .bool (decide (x1.n ≤ 20))) (bt q21 (by kernel_rfl)) (by kernel_rfl)) ?_
      refine lv (d := 58) rfl rfl (by kernel_rfl) (e_move (v := .bool (decide (x1.n ≤ 20))) (by kernel_rfl)) ?_
      by_cases q22 : x1.n ≤ 20
      · replace M := ifp q22 M
        refine lvg (d := 59) (t := 58) rfl (by kernel_rfl) rfl (bt q22 (by kernel_rfl)) rfl (by kernel_rfl) (e_fieldAddr (b := g7) (off := 0) (o := 2) Try.underlying65 rfl rfl (sz := 1) (by kernel_rfl) (by decide) (by kernel_rfl)) ?_
        refine lvg (d := 60) (t := 58) rfl (by kernel_rfl) rfl (bt q22 (by kernel_rfl)) rfl (by kernel_rfl) (e_load1 (ad := ⟨g7, 0 + 2, none⟩) (v := .slice A2 x1.text.length c3) Try.underlying59 rfl (by kernel_rfl) (blk_cell b9 rfl)) ?_
        refine lvg (d := 61) (t := 58) rfl (by kernel_rfl) rfl (bt q22 (by kernel_rfl)) rfl (by kernel_rfl) (e_len (A := A2) (n := x1.text.length) (c := c3) Try.underlying59 (by kernel_rfl)) ?_
        refine lvg (d := 62) (t := 58) rfl (by kernel_rfl) rfl (bt q22 (by kernel_rfl)) rfl (by kernel_rfl) (e_leq (k := .i64) (a := (x1.text.length : Int)) (b := 100) (by kernel_rfl) rfl) ?_
        refine lv (d := 63) rfl rfl (by kernel_rfl) (e_pick_t (v := .bool (decide ((x1.text.length : Int) ≤ 100))) (bt q22 (by kernel_rfl)) (by kernel_rfl)) ?_
        refine lv (d := 2) rfl rfl (by kernel_rfl) (e_assign (v := .bool (decide ((x1.text.length : Int) ≤ 100))) (by kernel_rfl)) ?_
        refine wpList_nil ?_
        refine then_n ?_
        refine wp_ret ?_
        refine inb_r ?_
        refine then_r ?_
        obtain rfl := Option.some.inj M
        exact ret1 rfl rfl  (show _ = .bool (decide ((x1.text.length : Int) ≤ 100)) from (by kernel_rfl)) ⟨rfl, S10.chg⟩
      replace M := ifn q22 M
      refine lskip (t := 58) (c := false) rfl (by kernel_rfl) rfl (bf q22 (by kernel_rfl)) rfl rfl ?_
      refine lskip (t := 58) (c := false) rfl (by kernel_rfl) rfl (bf q22 (by kernel_rfl)) rfl rfl ?_
      refine lskip (t := 58) (c := false) rfl (by kernel_rfl) rfl (bf q22 (by kernel_rfl)) rfl rfl ?_
      refine lskip (t := 58) (c := false) rfl (by kernel_rfl) rfl (bf q22 (by kernel_rfl)) rfl rfl ?_
      refine lv (d := 63) rfl rfl (by kernel_rfl) (e_pick_f (v := .bool false) (bf q22 (by kernel_rfl)) rfl) ?_
      refine lv (d := 2) rfl rfl (by kernel_rfl) (e_assign (v := .bool false) (by kernel_rfl)) ?_
      refine wpList_nil ?_
      refine then_n ?_
      refine wp_ret ?_
      refine inb_r ?_
      refine then_r ?_
      obtain rfl := Option.some.inj M
      exact ret1 rfl rfl  (show _ = .bool false from (by kernel_rfl)) ⟨rfl, S10.chg⟩
    replace M := ifn q21 M
    refine lskip (t := 53) (c := false) rfl (by kernel_rfl) rfl (bf q21 (by kernel_rfl)) rfl rfl ?_
    refine lskip (t := 53) (c := false) rfl (by kernel_rfl) rfl (bf q21 (by kernel_rfl)) rfl rfl ?_
    refine lskip (t := 53) (c := false) rfl (by kernel_rfl) rfl (bf q21 (by kernel_rfl)) rfl rfl ?_
    refine lv (d := 57) rfl rfl (by kernel_rfl) (e_pick_f (v := .bool false) (bf q21 (by kernel_rfl)) rfl) ?_
    refine lv (d := 58) rfl rfl (by kernel_rfl) (e_move (v := .bool false) (by kernel_rfl)) ?_
    refine lskip (t := 58) (c := false) rfl (by kernel_rfl) rfl (by kernel_rfl) rfl rfl ?_
    refine lskip (t := 58) (c := false) rfl (by kernel_rfl) rfl (by kernel_rfl) rfl rfl ?_
    refine lskip (t := 58) (c := false) rfl (by kernel_rfl) rfl (by kernel_rfl) rfl rfl ?_
    refine lskip (t := 58) (c := false) rfl (by kernel_rfl) rfl (by kernel_rfl) rfl rfl ?_
    refine lv (d := 63) rfl rfl (by kernel_rfl) (e_pick_f (v := .bool false) (by kernel_rfl) rfl) ?_
    refine lv (d := 2) rfl rfl (by kernel_rfl) (e_assign (v := .bool false) (by kernel_rfl)) ?_
    refine wpList_nil ?_
    refine then_n ?_
    refine wp_ret ?_
    refine inb_r ?_
    refine then_r ?_
    obtain rfl := Option.some.inj M
    exact ret1 rfl rfl  (show _ = .bool false from (by kernel_rfl)) ⟨rfl, S10.chg⟩
  replace M := ifn q20 M
  refine cond_f rfl (bf q20 (by kernel_rfl)) ?_
  refine wp_skip ?_
  refine inb_n ?_
  refine then_n ?_
  refine wp_seq ?_
  refine wp_region_lit ?_
  refine lv (d := 2) rfl rfl (by kernel_rfl) (e_assign (v := .bool false) rfl) ?_
  refine wpList_nil ?_
  refine then_n ?_
  refine wp_ret ?_
  obtain rfl := Option.some.inj M
  exact ret1 rfl rfl  (show _ = .bool false from (by kernel_rfl)) ⟨rfl, S10.chg⟩

/-! impl_ValidTerm -/
def impl_ValidTerm.l0 : Nat → (List Cell) → Int → Int → Option Bool
  | 0, _, _, _ => none
  | k20 + 1, x1, x9, x10 => (if x10 < (x1.length : Int) then (if 0 ≤ x10 then (if x9 = 0 then some false else ((impl_cellOk.f (x1.getD ((x10).toNat) z65)).bind fun t43 => (if ¬ (t43 = true) then some false else (if ((x1.getD ((x10).toNat) z65).kind) = 3 then (impl_ValidTerm.l0 k20 x1 (IntKind.i64.wrap ((IntKind.i64.wrap (x9 - 1)) + ((x1.getD ((x10).toNat) z65).n))) (IntKind.i64.wrap (x10 + 1))) else (impl_ValidTerm.l0 k20 x1 (IntKind.i64.wrap (x9 - 1)) (IntKind.i64.wrap (x10 + 1))))))) else none) else some (decide (x9 = 0)))
def impl_ValidTerm.f (k : Nat) (x1 : List Cell) : Option Bool := (if (x1.length : Int) > 2000 then some false else (impl_ValidTerm.l0 k x1 1 0))
theorem impl_ValidTerm.calls (k : Nat) (w : World) (H : Hp) (x1 : List Cell) (A2 : Option Addr) (c3 : Nat) (h4 : Rd st65 H A2 x1) (l5 : x1.length ≤ c3) (S : Own [] H w) (r : Bool) (M : impl_ValidTerm.f k x1 = some r) :
    Calls Try.prog 17 #[.slice A2 x1.length c3] w (fun e e_w => e = .returned (.bool r) ∧ Chg no w e_w) := by
  rw [impl_ValidTerm.f] at M
  refine enter (l := [.slice A2 x1.length c3]) 34 Try.func17 rfl rfl rfl ?_
  have S0_ := S.st
  refine wp_seq ?_
  refine wp_region_lit ?_
  refine lv (d := 2) rfl rfl (by kernel_rfl) (e_assign (v := .bool false) rfl) ?_
  refine wpList_nil ?_
  refine then_n ?_
  refine wp_seq ?_
  refine wp_seq ?_
  refine wp_region_lit ?_
  refine lv (d := 6) rfl rfl (by kernel_rfl) (e_move (v := .slice A2 x1.length c3) (by kernel_rfl)) ?_
  refine lv (d := 7) rfl rfl (by kernel_rfl) (e_len (A := A2) (n := x1.length) (c := c3) Try.underlying25 (by kernel_rfl)) ?_
  refine lv (d := 8) rfl rfl (by kernel_rfl) (e_gtr (k := .i64) (a := (x1.length : Int)) (b := 2000) (by kernel_rfl) rfl) ?_
  refine wpList_nil ?_
  refine then_n ?_
  by_cases q6 : (x1.length : Int) > 2000
  · replace M := ifp q6 M
    refine cond_t rfl (bt q6 (by kernel_rfl)) ?_
    refine wp_seq ?_
    refine wp_region_lit ?_
    refine lv (d := 2) rfl rfl (by kernel_rfl) (e_assign (v := .bool false) rfl) ?_
    refine wpList_nil ?_
    refine then_n ?_
    refine wp_ret ?_
    refine then_r ?_
    obtain rfl := Option.some.inj M
    exact ret1 rfl rfl  (show _ = .bool false from (by kernel_rfl)) ⟨rfl, S0_.chg⟩
  replace M := ifn q6 M
  refine cond_f rfl (bf q6 (by kernel_rfl)) ?_
  refine wp_skip ?_
  refine then_n ?_
  refine wp_seq ?_
  refine wp_region_lit ?_
  refine lv (d := 3) rfl rfl (by kernel_rfl) (e_assign (v := .int .i64 1) rfl) ?_
  refine wpList_nil ?_
  refine then_n ?_
  refine wp_seq ?_
  refine wp_seq ?_
  refine wp_region_lit ?_
  refine lv (d := 9) rfl rfl (by kernel_rfl) (e_move (v := .slice A2 x1.length c3) (by kernel_rfl)) ?_
  refine lv (d := 10) rfl rfl (by kernel_rfl) (e_len (A := A2) (n := x1.length) (c := c3) Try.underlying25 (by kernel_rfl)) ?_
  refine lv (d := 11) rfl rfl (by kernel_rfl) (e_move (v := .int .i64 0) rfl) ?_
  refine wpList_nil ?_
  refine then_n ?_
  refine wp_block ?_
  refine wp_loop_g (fun k18 a19 w7 => ∃ (f8 : Nat → Value) (x9 : Int) (x10 : Int), a19 = mk 34 f8 ∧ f8 3 = .int .i64 x9 ∧ f8 9 = .slice A2 x1.length c3 ∧ f8 10 = .int .i64 (x1.length : Int) ∧ f8 11 = .int .i64 x10 ∧ St (anyOf []) H w [] H w7 ∧ impl_ValidTerm.l0 k18 x1 x9 x10 = some r) k ⟨_, 1, 0, rfl, (by kernel_rfl), (by kernel_rfl), (by kernel_rfl), (by kernel_rfl), S0_, M⟩ ?_
  clear M
  rintro k18 a19 w7 ⟨f8, x9, x10, rfl, e11, e12, e13, e14, S15, M⟩
  rcases k18 with _ | k20
  · rw [impl_ValidTerm.l0] at M
    cases M
  rw [impl_ValidTerm.l0] at M
  refine wp_seq ?_
  refine wp_region_lit ?_
  refine lv (d := 12) rfl rfl (by kernel_rfl) (e_lss (k := .i64) (a := x10) (b := (x1.length : Int)) (by exact e14) (by exact e13)) ?_
  refine wpList_nil ?_
  refine then_n ?_
  refine wp_seq ?_
  by_cases q21 : x10 < (x1.length : Int)
  · replace M := ifp q21 M
    refine cond_t rfl (bt q21 (by kernel_rfl)) ?_
    refine wp_skip ?_
    refine then_n ?_
    refine wp_seq ?_
    refine wp_block ?_
    refine wp_seq ?_
    refine wp_region_lit ?_
    obtain ⟨q22, M⟩ := chk M
    obtain ⟨b23, o24, e25⟩ := Rd.addr h4 (show (x10).toNat < x1.length by omega)
    obtain ⟨y26, r27, k28⟩ := Rd.at h4 e25 (getD_some z65 (show (x10).toNat < x1.length by omega))
    obtain ⟨A29, c30, rfl, l31, h32⟩ := st65_open r27
    refine lv (d := 13) rfl rfl (by kernel_rfl) (e_indexAddr (b := b23) (off := o24) (n := x1.length) (c := c3) (sz := 3) (i := x10) (k := .i64) Try.underlying25 e25 (by kernel_rfl) (by exact e12) (by exact e14) q22 q21) ?_
    refine lv (d := 14) rfl rfl (by kernel_rfl) (e_loadS (b := b23) (off := o24 + (x10 : Int).toNat * 3) (cs := [.int .i64 ((x1.getD ((x10).toNat) z65).kind), .int .i64 ((x1.getD ((x10).toNat) z65).n), .slice A29 ((x1.getD ((x10).toNat) z65).text).length c30]) Try.underlying65 rfl (by kernel_rfl) (by kernel_rfl) (fun j_ u_ e_ => (hpx (S15.inv.cell (k28 j_ u_ e_))))) ?_
    refine lve (d := 5) rfl rfl (by kernel_rfl) (new_blk (v := fun g_ => .pointer (some ⟨g_, 0, none⟩)) (cs := #[.int .i64 0, .int .i64 0, .slice none 0 0]) (t := 65) S15 (by kernel_rfl)) ?_
    rintro _ w33 ⟨g34, rfl, b35, S36, K37⟩
    refine lse rfl rfl (by kernel_rfl) (e_store (g := g34) (o := 0) (v := .agg #[.int .i64 ((x1.getD ((x10).toNat) z65).kind), .int .i64 ((x1.getD ((x10).toNat) z65).n), .slice A29 ((x1.getD ((x10).toNat) z65).text).length c30]) (cur' := #[.int .i64 ((x1.getD ((x10).toNat) z65).kind), .int .i64 ((x1.getD ((x10).toNat) z65).n), .slice A29 ((x1.getD ((x10).toNat) z65).text).length c30]) (vs := [.int .i64 ((x1.getD ((x10).toNat) z65).kind), .int .i64 ((x1.getD ((x10).toNat) z65).n), .slice A29 ((x1.getD ((x10).toNat) z65).text).length c30]) S36 (by kernel_rfl) (by kernel_rfl) rfl (by kernel_rfl) b35 (Nat.le_of_ble_eq_true rfl) (List.forall_mem_cons.2 ⟨rfl, (List.forall_mem_cons.2 ⟨rfl, (List.forall_mem_cons.2 ⟨rfl, (fun _ h_ => by cases h_)⟩)⟩)⟩) rfl) ?_
    rintro w38 ⟨b39, S40, K41⟩
    clear b35
    refine wpList_nil ?_
    refine then_n ?_
    refine wp_seq ?_
    refine wp_seq ?_
    refine wp_region_lit ?_
    refine lv (d := 15) rfl rfl (by kernel_rfl) (e_move (v := .int .i64 x9) (by exact e11)) ?_
    refine lv (d := 16) rfl rfl (by kernel_rfl) (e_eql (k := .i64) (a := x9) (b := 0) (by kernel_rfl) rfl) ?_
    refine lv (d := 17) rfl rfl (by kernel_rfl) (e_move (v := .bool (decide (x9 = 0))) (by kernel_rfl)) ?_
    by_cases q42 : x9 = 0
    · replace M := ifp q42 M
      refine lskip (t := 17) (c := true) rfl (by kernel_rfl) rfl (bt q42 (by kernel_rfl)) rfl rfl ?_
      refine lskip (t := 17) (c := true) rfl (by kernel_rfl) rfl (bt q42 (by kernel_rfl)) rfl rfl ?_
      refine lskip (t := 17) (c := true) rfl (by kernel_rfl) rfl (bt q42 (by kernel_rfl)) rfl rfl ?_
      refine lv (d := 21) rfl rfl (by kernel_rfl) (e_pick_t (v := .bool true) (bt q42 (by kernel_rfl)) rfl) ?_
      refine wpList_nil ?_
      refine then_n ?_
      refine cond_t rfl (by kernel_rfl) ?_
      refine wp_seq ?_
      refine wp_region_lit ?_
      refine lv (d := 2) rfl rfl (by kernel_rfl) (e_assign (v := .bool false) rfl) ?_
      refine wpList_nil ?_
      refine then_n ?_
      refine wp_ret ?_
      refine then_r ?_
      refine inb_r ?_
      refine then_r ?_
      refine then_r ?_
      refine inb_r ?_
      refine then_r ?_
      obtain rfl := Option.some.inj M
      exact ret1 rfl rfl  (show _ = .bool false from (by kernel_rfl)) ⟨rfl, S40.chg⟩
    replace M := ifn q42 M
    refine lvg (d := 18) (t := 17) rfl (by kernel_rfl) rfl (bf q42 (by kernel_rfl)) rfl (by kernel_rfl) (e_loadS (b := g34) (off := 0) (cs := [.int .i64 ((x1.getD ((x10).toNat) z65).kind), .int .i64 ((x1.getD ((x10).toNat) z65).n), .slice A29 ((x1.getD ((x10).toNat) z65).text).length c30]) Try.underlying65 rfl (by kernel_rfl) (by kernel_rfl) (blk_cells b39 rfl)) ?_
    obtain ⟨t43, u44, M⟩ := bnd M
    refine lcallg (d := 19) (t := 17) rfl (by kernel_rfl) rfl (bf q42 (by kernel_rfl)) rfl (by kernel_rfl) (e_call (l := [.tmp 18]) (vs := [.agg #[.int .i64 ((x1.getD ((x10).toNat) z65).kind), .int .i64 ((x1.getD ((x10).toNat) z65).n), .slice A29 ((x1.getD ((x10).toNat) z65).text).length c30]]) Try.func58 (by kernel_rfl) rfl (by kernel_rfl) rfl) (impl_cellOk.calls w38 H (x1.getD ((x10).toNat) z65) A29 c30 h32 l31 S40.own0 t43 u44) ?_
    rintro _ w45 ⟨rfl, C46⟩
    refine ⟨_, rfl, ?_⟩
    obtain ⟨S47, K48⟩ := S40.still C46
    replace b39 := K48.blk 0 rfl b39
    refine lvg (d := 20) (t := 17) rfl (by kernel_rfl) rfl (bf q42 (by kernel_rfl)) rfl (by kernel_rfl) (e_notv (c := t43) (by kernel_rfl)) ?_
    refine lv (d := 21) rfl rfl (by kernel_rfl) (e_pick_f (v := .bool (decide (¬ (t43 = true)))) (bf q42 (by kernel_rfl)) (by kernel_rfl)) ?_
    refine wpList_nil ?_
    refine then_n ?_
    by_cases q49 : ¬ (t43 = true)
    · replace M := ifp q49 M
      refine cond_t rfl (bt q49 (by kernel_rfl)) ?_
      refine wp_seq ?_
      refine wp_region_lit ?_
      refine lv (d := 2) rfl rfl (by kernel_rfl) (e_assign (v := .bool false) rfl) ?_
      refine wpList_nil ?_
      refine then_n ?_
      refine wp_ret ?_
      refine then_r ?_
      refine inb_r ?_
      refine then_r ?_
      refine then_r ?_
      refine inb_r ?_
      refine then_r ?_
      obtain rfl := Option.some.inj M
      exact ret1 rfl rfl  (show _ = .bool false from (by kernel_rfl)) ⟨rfl, S47.chg⟩
    replace M := ifn q49 M
    refine cond_f rfl (bf q49 (by kernel_rfl)) ?_
    refine wp_skip ?_
    refine then_n ?_
    refine wp_seq ?_
    refine wp_region_lit ?_
    refine lv (d := 22) rfl rfl (by kernel_rfl) (e_move (v := .int .i64 x9) (by exact e11)) ?_
    refine lv (d := 23) rfl rfl (by kernel_rfl) (e_sub (k := .i64) (a := x9) (b := 1) (by kernel_rfl) rfl) ?_
    refine lv (d := 3) rfl rfl (by kernel_rfl) (e_assign (v := .int .i64 (IntKind.i64.wrap (x9 - 1))) (by kernel_rfl)) ?_
    refine wpList_nil ?_
    refine then_n ?_
    refine wp_seq ?_
    refine wp_region_lit ?_
    refine lv (d := 24) rfl rfl (by kernel_rfl) (e_fieldAddr (b := g34) (off := 0) (o := 0) Try.underlying65 rfl rfl (sz := 1) (by kernel_rfl) (by decide) (by kernel_rfl)) ?_
    refine lv (d := 25) rfl rfl (by kernel_rfl) (e_load1 (ad := ⟨g34, 0 + 0, none⟩) (v := .int .i64 ((x1.getD ((x10).toNat) z65).kind)) Try.underlying3 rfl (by kernel_rfl) (blk_cell b39 rfl)) ?_
    refine lv (d := 26) rfl rfl (by kernel_rfl) (e_eql (k := .i64) (a := (x1.getD ((x10).toNat) z65).kind) (b := 3) (by kernel_rfl) rfl) ?_
    refine wpList_nil ?_
    refine then_n ?_
    by_cases q50 : ((x1.getD ((x10).toNat) z65).kind) = 3
    · replace M := ifp q50 M
      refine cond_t rfl (bt q50 (by kernel_rfl)) ?_
      refine wp_region_lit ?_
      refine lv (d := 27) rfl rfl (by kernel_rfl) (e_move (v := .int .i64 (IntKind.i64.wrap (x9 - 1))) (by kernel_rfl)) ?_
      refine lv (d := 28) rfl rfl (by kernel_rfl) (e_fieldAddr (b := g34) (off := 0) (o := 1) Try.underlying65 rfl rfl (sz := 1) (by kernel_rfl) (by decide) (by kernel_rfl)) ?_
      refine lv (d := 29) rfl rfl (by kernel_rfl) (e_load1 (ad := ⟨g34, 0 + 1, none⟩) (v := .int .i64 ((x1.getD ((x10).toNat) z65).n)) Try.underlying3 rfl (by kernel_rfl) (blk_cell b39 rfl)) ?_
      refine lv (d := 30) rfl rfl (by kernel_rfl) (e_add (k := .i64) (a := (IntKind.i64.wrap (x9 - 1))) (b := (x1.getD ((x10).toNat) z65).n) (by kernel_rfl) (by kernel_rfl)) ?_
      refine lv (d := 3) rfl rfl (by kernel_rfl) (e_assign (v := .int .i64 (IntKind.i64.wrap ((IntKind.i64.wrap (x9 - 1)) + ((x1.getD ((x10).toNat) z65).n)))) (by kernel_rfl)) ?_
      refine wpList_nil ?_
      refine inb_n ?_
      refine then_n ?_
      refine wp_region_lit ?_
      refine lv (d := 31) rfl rfl (by kernel_rfl) (e_add (k := .i64) (a := x10) (b := 1) (by exact e14) rfl) ?_
      refine lv (d := 11) rfl rfl (by kernel_rfl) (e_move (v := .int .i64 (IntKind.i64.wrap (x10 + 1))) (by kernel_rfl)) ?_
      refine wpList_nil ?_
      refine then_n ?_
      have S51 := St.first (Fa := []) (Fr := [(is g34)]) S47
      exact ⟨k20, (by omega), _, (IntKind.i64.wrap ((IntKind.i64.wrap (x9 - 1)) + ((x1.getD ((x10).toNat) z65).n))), (IntKind.i64.wrap (x10 + 1)), rfl, (by kernel_rfl), (by exact e12), (by exact e13), (by kernel_rfl), S51, M⟩
    replace M := ifn q50 M
    refine cond_f rfl (bf q50 (by kernel_rfl)) ?_
    refine wp_skip ?_
    refine inb_n ?_
    refine then_n ?_
    refine wp_region_lit ?_
    refine lv (d := 31) rfl rfl (by kernel_rfl) (e_add (k := .i64) (a := x10) (b := 1) (by exact e14) rfl) ?_
    refine lv (d := 11) rfl rfl (by kernel_rfl) (e_move (v := .int .i64 (IntKind.i64.wrap (x10 + 1))) (by kernel_rfl)) ?_
    refine wpList_nil ?_
    refine then_n ?_
    have S52 := St.first (Fa := []) (Fr := [(is g34)]) S47
    exact ⟨k20, (by omega), _, (IntKind.i64.wrap (x9 - 1)), (IntKind.i64.wrap (x10 + 1)), rfl, (by kernel_rfl), (by exact e12), (by exact e13), (by kernel_rfl), S52, M⟩
  replace M := ifn q21 M
  refine cond_f rfl (bf q21 (by kernel_rfl)) ?_
  refine wp_exit ?_
  refine then_e ?_
  refine then_e ?_
  refine inb_hit ?_
  refine then_n ?_
  refine wp_seq ?_
  refine wp_region_lit ?_
  refine lv (d := 32) rfl rfl (by kernel_rfl) (e_move (v := .int .i64 x9) (by exact e11)) ?_
  refine lv (d := 33) rfl rfl (by kernel_rfl) (e_eql (k := .i64) (a := x9) (b := 0) (by kernel_rfl) rfl) ?_
  refine lv (d := 2) rfl rfl (by kernel_rfl) (e_assign (v := .bool (decide (x9 = 0))) (by kernel_rfl)) ?_
  refine wpList_nil ?_
  refine then_n ?_
  refine wp_ret ?_
  obtain rfl := Option.some.inj M
  exact ret1 rfl rfl  (show _ = .bool (decide (x9 = 0)) from (by kernel_rfl)) ⟨rfl, S15.chg⟩

/-! impl_fromCells -/
mutual
def impl_fromCells.l0 : Nat → (List Cell) → (List Cell) → Int → (List Tm) → Option (Tm × (List Cell))
  | 0, _, _, _, _ => none
  | k61 + 1, x1, x41, x46, x47 => (if x46 < ((x1.getD 0 z65).n) then ((impl_fromCells.f k61 x41).bind fun t66 => (if x47.length + 1 ≤ 17592186044416 then (impl_fromCells.l0 k61 x1 t66.2 (IntKind.i64.wrap (x46 + 1)) (x47 ++ [t66.1])) else none)) else some ((Tm.mk ((x1.getD 0 z65).kind) ((x1.getD 0 z65).n) ((x1.getD 0 z65).text) x47), x41))
def impl_fromCells.f : Nat → (List Cell) → Option (Tm × (List Cell))
  | 0, _ => none
  | k1_ + 1, x1 => (if 0 < (x1.length : Int) then (if 1 ≤ (x1.length : Int) then (if ((x1.getD 0 z65).kind) = 3 then (impl_fromCells.l0 k1_ x1 (x1.drop ((1 : Int).toNat)) 0 []) else some ((Tm.mk ((x1.getD 0 z65).kind) ((x1.getD 0 z65).n) ((x1.getD 0 z65).text) []), (x1.drop ((1 : Int).toNat)))) else none) else none)
end
theorem impl_fromCells.all : ∀ (K : Nat), (∀ (k : Nat), k < K → ∀ (w : World) (H : Hp) (x1 : List Cell) (A2 : Option Addr) (c3 : Nat) (h4 : Rd st65 H A2 x1) (l5 : x1.length ≤ c3) (S : Own [] H w) (r : Tm × (List Cell)) (M : impl_fromCells.f k x1 = some r), Calls Try.prog 108 #[.slice A2 x1.length c3] w (fun e e_w => ∃ (g_1 : Nat) (A_1 : Option Addr) (c_1 : Nat) (H_ : Hp), e = .returned (.tuple #[.pointer (some ⟨g_1, 0, none⟩), .slice A_1 r.2.length c_1]) ∧ NodeR 125 H_ r.1 (.pointer (some ⟨g_1, 0, none⟩)) ∧ Rd st65 H_ A_1 r.2 ∧ r.2.length ≤ c_1 ∧ St (anyOf []) H w [] H_ e_w)) := by
  intro K
  induction K with
  | zero => intro k hk; omega
  | succ K ih =>
    intro k hk w H x1 A2 c3 h4 l5 S r M
    rcases k with _ | k1_
    · rw [impl_fromCells.f] at M
      cases M
    rw [impl_fromCells.f] at M
    refine enter (l := [.slice A2 x1.length c3]) 48 Try.func108 rfl rfl rfl ?_
    have S0_ := S.st
    refine wp_seq ?_
    refine wp_region_lit ?_
    refine lv (d := 2) rfl rfl (by kernel_rfl) (e_assign (v := .pointer none) rfl) ?_
    refine lv (d := 3) rfl rfl (by kernel_rfl) (e_assign (v := .slice none 0 0) rfl) ?_
    refine wpList_nil ?_
    refine then_n ?_
    refine wp_seq ?_
    refine wp_region_lit ?_
    refine lv (d := 8) rfl rfl (by kernel_rfl) (e_move (v := .slice A2 x1.length c3) (by kernel_rfl)) ?_
    obtain ⟨q6, M⟩ := chk M
    obtain ⟨b7, o8, e9⟩ := Rd.addr h4 (show 0 < x1.length by omega)
    obtain ⟨y10, r11, k12⟩ := Rd.at h4 e9 (getD_some z65 (show 0 < x1.length by omega))
    obtain ⟨A13, c14, rfl, l15, h16⟩ := st65_open r11
    refine lv (d := 9) rfl rfl (by kernel_rfl) (e_indexAddr (b := b7) (off := o8) (n := x1.length) (c := c3) (sz := 3) (i := 0) (k := .i64) Try.underlying25 e9 (by kernel_rfl) (by kernel_rfl) rfl (by omega) q6) ?_
    refine lv (d := 10) rfl rfl (by kernel_rfl) (e_loadS (b := b7) (off := o8 + (0 : Int).toNat * 3) (cs := [.int .i64 ((x1.getD 0 z65).kind), .int .i64 ((x1.getD 0 z65).n), .slice A13 ((x1.getD 0 z65).text).length c14]) Try.underlying65 rfl (by kernel_rfl) (by kernel_rfl) (fun j_ u_ e_ => (hpx (S0_.inv.cell (k12 j_ u_ e_))))) ?_
    refine lve (d := 4) rfl rfl (by kernel_rfl) (new_blk (v := fun g_ => .pointer (some ⟨g_, 0, none⟩)) (cs := #[.int .i64 0, .int .i64 0, .slice none 0 0]) (t := 65) S0_ (by kernel_rfl)) ?_
    rintro _ w17 ⟨g18, rfl, b19, S20, K21⟩
    refine lse rfl rfl (by kernel_rfl) (e_store (g := g18) (o := 0) (v := .agg #[.int .i64 ((x1.getD 0 z65).kind), .int .i64 ((x1.getD 0 z65).n), .slice A13 ((x1.getD 0 z65).text).length c14]) (cur' := #[.int .i64 ((x1.getD 0 z65).kind), .int .i64 ((x1.getD 0 z65).n), .slice A13 ((x1.getD 0 z65).text).length c14]) (vs := [.int .i64 ((x1.getD 0 z65).kind), .int .i64 ((x1.getD 0 z65).n), .slice A13 ((x1.getD 0 z65).text).length c14]) S20 (by kernel_rfl) (by kernel_rfl) rfl (by kernel_rfl) b19 (Nat.le_of_ble_eq_true rfl) (List.forall_mem_cons.2 ⟨rfl, (List.forall_mem_cons.2 ⟨rfl, (List.forall_mem_cons.2 ⟨rfl, (fun _ h_ => by cases h_)⟩)⟩)⟩) rfl) ?_
    rintro w22 ⟨b23, S24, K25⟩
    clear b19
    refine wpList_nil ?_
    refine then_n ?_
    refine wp_seq ?_
    refine wp_region_lit ?_
    refine lv (d := 11) rfl rfl (by kernel_rfl) (e_move (v := .slice A2 x1.length c3) (by kernel_rfl)) ?_
    obtain ⟨q26, M⟩ := chk M
    obtain ⟨A27, h30, l29, h28⟩ := Rd.sub1 (d := st65) (n := x1.length) (m := 3) (cap := c3) (a := 1) rfl h4 (by decide) q26 rfl l5
    refine lv (d := 12) rfl rfl (by kernel_rfl) (e_slice_l (n := x1.length) (m := 3) (cap := c3) (A := A2) (a := 1) (k := .i64) Try.underlying25 (by kernel_rfl) (by kernel_rfl) rfl (by decide) q26 l5 h30) ?_
    refine lv (d := 0) rfl rfl (by kernel_rfl) (e_assign (v := .slice A27 (x1.drop ((1 : Int).toNat)).length (c3 - ((1 : Int).toNat))) (by kernel_rfl)) ?_
    refine wpList_nil ?_
    refine then_n ?_
    refine wp_seq ?_
    refine wp_region_lit ?_
    refine lv (d := 13) rfl rfl (by kernel_rfl) (e_fieldAddr (b := g18) (off := 0) (o := 0) Try.underlying65 rfl rfl (sz := 1) (by kernel_rfl) (by decide) (by kernel_rfl)) ?_
    refine lv (d := 14) rfl rfl (by kernel_rfl) (e_load1 (ad := ⟨g18, 0 + 0, none⟩) (v := .int .i64 ((x1.getD 0 z65).kind)) Try.underlying3 rfl (by kernel_rfl) (blk_cell b23 rfl)) ?_
    refine lv (d := 15) rfl rfl (by kernel_rfl) (e_fieldAddr (b := g18) (off := 0) (o := 1) Try.underlying65 rfl rfl (sz := 1) (by kernel_rfl) (by decide) (by kernel_rfl)) ?_
    refine lv (d := 16) rfl rfl (by kernel_rfl) (e_load1 (ad := ⟨g18, 0 + 1, none⟩) (v := .int .i64 ((x1.getD 0 z65).n)) Try.underlying3 rfl (by kernel_rfl) (blk_cell b23 rfl)) ?_
    refine lv (d := 17) rfl rfl (by kernel_rfl) (e_fieldAddr (b := g18) (off := 0) (o := 2) Try.underlying65 rfl rfl (sz := 1) (by kernel_rfl) (by decide) (by kernel_rfl)) ?_
    refine lv (d := 18) rfl rfl (by kernel_rfl) (e_load1 (ad := ⟨g18, 0 + 2, none⟩) (v := .slice A13 ((x1.getD 0 z65).text).length c14) Try.underlying59 rfl (by kernel_rfl) (blk_cell b23 rfl)) ?_
    refine lv (d := 19) rfl rfl (by kernel_rfl) (e_conv_bs (A := A13) (n := ((x1.getD 0 z65).text).length) (c := c14) (xs := (x1.getD 0 z65).text) Try.underlying59 Try.underlying5 Try.underlying9 (by kernel_rfl) rfl (Rd.bytesE S24.inv h16)) ?_
    refine lv (d := 20) rfl rfl (by kernel_rfl) (show _ = Result.ok (Next.value (.agg #[.int .i64 ((x1.getD 0 z65).kind), .int .i64 ((x1.getD 0 z65).n), str ((x1.getD 0 z65).text), .slice none 0 0])) w22 from by kernel_rfl) ?_
    refine lve (d := 21) rfl rfl (by kernel_rfl) (new_blk (v := fun g_ => .pointer (some ⟨g_, 0, none⟩)) (cs := #[.int .i64 ((x1.getD 0 z65).kind), .int .i64 ((x1.getD 0 z65).n), str ((x1.getD 0 z65).text), .slice none 0 0]) (t := 125) S24 (by kernel_rfl)) ?_
    rintro _ w31 ⟨g32, rfl, b33, S34, K35⟩
    replace b23 := K35.blk 0 rfl b23
    refine lv (d := 5) rfl rfl (by kernel_rfl) (e_assign (v := .pointer (some ⟨g32, 0, none⟩)) (by kernel_rfl)) ?_
    refine wpList_nil ?_
    refine then_n ?_
    refine wp_seq ?_
    refine wp_seq ?_
    refine wp_region_lit ?_
    refine lv (d := 22) rfl rfl (by kernel_rfl) (e_fieldAddr (b := g18) (off := 0) (o := 0) Try.underlying65 rfl rfl (sz := 1) (by kernel_rfl) (by decide) (by kernel_rfl)) ?_
    refine lv (d := 23) rfl rfl (by kernel_rfl) (e_load1 (ad := ⟨g18, 0 + 0, none⟩) (v := .int .i64 ((x1.getD 0 z65).kind)) Try.underlying3 rfl (by kernel_rfl) (blk_cell b23 rfl)) ?_
    refine lv (d := 24) rfl rfl (by kernel_rfl) (e_eql (k := .i64) (a := (x1.getD 0 z65).kind) (b := 3) (by kernel_rfl) rfl) ?_
    refine wpList_nil ?_
    refine then_n ?_
    by_cases q36 : ((x1.getD 0 z65).kind) = 3
    · replace M := ifp q36 M
      refine cond_t rfl (bt q36 (by kernel_rfl)) ?_
      refine wp_seq ?_
      refine wp_region_lit ?_
      refine lv (d := 6) rfl rfl (by kernel_rfl) (e_assign (v := .int .i64 0) rfl) ?_
      refine wpList_nil ?_
      refine then_n ?_
      refine wp_block ?_
      have S62 := S34.unit
      have S63 := S62.pull (F := (is g18)) (Fr := [no, (is g32)]) 2 rfl rfl
      have S64 := S63.pull (F := (is g32)) (Fr := [(is g18), no]) 2 rfl rfl
      refine wp_loop_g (fun k59 a60 w37 => ∃ (f38 : Nat → Value) (H39 : Hp) (x41 : List Cell) (A42 : Option Addr) (c43 : Nat) (x46 : Int) (x47 : List Tm) (A48 : Option Addr) (c49 : Nat) (F50 : Foot), k59 < K ∧ a60 = mk 48 f38 ∧ f38 0 = .slice A42 x41.length c43 ∧ f38 4 = .pointer (some ⟨g18, 0, none⟩) ∧ f38 5 = .pointer (some ⟨g32, 0, none⟩) ∧ f38 6 = .int .i64 x46 ∧ w37.heap[g32]? = some (.cells #[.int .i64 ((x1.getD 0 z65).kind), .int .i64 ((x1.getD 0 z65).n), str ((x1.getD 0 z65).text), .slice A48 x47.length c49] 125 (0, 0)) ∧ w37.heap[g18]? = some (.cells #[.int .i64 ((x1.getD 0 z65).kind), .int .i64 ((x1.getD 0 z65).n), .slice A13 ((x1.getD 0 z65).text).length c14] 65 (0, 0)) ∧ Row (node 125) 74 H39 (hp w37) F50 A48 c49 x47 ∧ Rd st65 H39 A42 x41 ∧ x41.length ≤ c43 ∧ Ext H H39 ∧ St (anyOf []) H w [(is g32), (is g18), F50] H39 w37 ∧ impl_fromCells.l0 k59 x1 x41 x46 x47 = some r) k1_ ⟨_, H, (x1.drop ((1 : Int).toNat)), A27, (c3 - ((1 : Int).toNat)), 0, [], none, 0, no, (by omega), rfl, (by kernel_rfl), (by kernel_rfl), (by kernel_rfl), (by kernel_rfl), b33, b23, (Row.nil _ _ _ _ _), h28, l29, (Ext.refl _), S64, M⟩ ?_
      clear M
      rintro k59 a60 w37 ⟨f38, H39, x41, A42, c43, x46, x47, A48, c49, F50, z57, rfl, e52, e53, e54, e55, b33, b23, h51, h44, l45, Y40, S56, M⟩
      rcases k59 with _ | k61
      · rw [impl_fromCells.l0] at M
        cases M
      rw [impl_fromCells.l0] at M
      refine wp_seq ?_
      refine wp_seq ?_
      refine wp_region_lit ?_
      refine lv (d := 25) rfl rfl (by kernel_rfl) (e_move (v := .int .i64 x46) (by exact e55)) ?_
      refine lv (d := 26) rfl rfl (by kernel_rfl) (e_fieldAddr (b := g18) (off := 0) (o := 1) Try.underlying65 rfl rfl (sz := 1) (by kernel_rfl) (by decide) (by exact e53)) ?_
      refine lv (d := 27) rfl rfl (by kernel_rfl) (e_load1 (ad := ⟨g18, 0 + 1, none⟩) (v := .int .i64 ((x1.getD 0 z65).n)) Try.underlying3 rfl (by kernel_rfl) (blk_cell b23 rfl)) ?_
      refine lv (d := 28) rfl rfl (by kernel_rfl) (e_lss (k := .i64) (a := x46) (b := (x1.getD 0 z65).n) (by kernel_rfl) (by kernel_rfl)) ?_
      refine wpList_nil ?_
      refine then_n ?_
      by_cases q65 : x46 < ((x1.getD 0 z65).n)
      · replace M := ifp q65 M
        refine cond_t rfl (bt q65 (by kernel_rfl)) ?_
        refine wp_skip ?_
        refine then_n ?_
        refine wp_seq ?_
        refine wp_block ?_
        refine wp_seq ?_
        refine wp_region_lit ?_
        refine lv (d := 7) rfl rfl (by kernel_rfl) (e_assign (v := .pointer none) rfl) ?_
        refine wpList_nil ?_
        refine then_n ?_
        refine wp_seq ?_
        refine wp_region_lit ?_
        refine lv (d := 32) rfl rfl (by kernel_rfl) (e_move (v := .slice A42 x41.length c43) (by exact e52)) ?_
        obtain ⟨t66, u67, M⟩ := bnd M
        refine lcall (d := 33) rfl rfl (by kernel_rfl) (e_call (l := [.tmp 32]) (vs := [.slice A42 x41.length c43]) Try.func108 (by kernel_rfl) rfl (by kernel_rfl) rfl) (ih k61 (by omega) w37 H39 x41 A42 c43 h44 l45 (St.own' (Fa := []) (Fr := [(is g32), (is g18), F50]) S56) t66 u67) ?_
        rintro _ w68 ⟨g71, A73, c74, H69, rfl, h72, h75, l76, T70⟩
        refine ⟨_, rfl, ?_⟩
        obtain ⟨S77, K78⟩ := St.call (Fa := []) (Fr := [(is g32), (is g18), F50]) S56 T70
        replace b33 := K78.blk 0 rfl b33
        replace b23 := K78.blk 1 rfl b23
        replace h51 := h51.move (K78.at 2 rfl)
        have E79 := T70.ext
        replace h51 := h51.ext E79
        refine lv (d := 31) rfl rfl (by kernel_rfl) (e_move (v := .tuple #[.pointer (some ⟨g71, 0, none⟩), .slice A73 t66.2.length c74]) (by kernel_rfl)) ?_
        refine lv (d := 34) rfl rfl (by kernel_rfl) (e_extract (vs := #[.pointer (some ⟨g71, 0, none⟩), .slice A73 t66.2.length c74]) (v := .pointer (some ⟨g71, 0, none⟩)) (by kernel_rfl) rfl) ?_
        refine lv (d := 35) rfl rfl (by kernel_rfl) (e_extract (vs := #[.pointer (some ⟨g71, 0, none⟩), .slice A73 t66.2.length c74]) (v := .slice A73 t66.2.length c74) (by kernel_rfl) rfl) ?_
        refine lv (d := 7) rfl rfl (by kernel_rfl) (e_assign (v := .pointer (some ⟨g71, 0, none⟩)) (by kernel_rfl)) ?_
        refine lv (d := 0) rfl rfl (by kernel_rfl) (e_assign (v := .slice A73 t66.2.length c74) (by kernel_rfl)) ?_
        refine wpList_nil ?_
        refine then_n ?_
        refine wp_region_lit ?_
        refine lv (d := 36) rfl rfl (by kernel_rfl) (e_move (v := .pointer (some ⟨g32, 0, none⟩)) (by exact e54)) ?_
        refine lv (d := 37) rfl rfl (by kernel_rfl) (e_move (v := .pointer (some ⟨g32, 0, none⟩)) (by exact e54)) ?_
        refine lv (d := 38) rfl rfl (by kernel_rfl) (e_nilCheck (ad := ⟨g32, 0, none⟩) (by kernel_rfl)) ?_
        refine lv (d := 39) rfl rfl (by kernel_rfl) (e_fieldAddr (b := g32) (off := 0) (o := 3) Try.underlying125 rfl rfl (sz := 1) (by kernel_rfl) (by decide) (by kernel_rfl)) ?_
        refine lv (d := 40) rfl rfl (by kernel_rfl) (e_load1 (ad := ⟨g32, 0 + 3, none⟩) (v := .slice A48 x47.length c49) Try.underlying87 rfl (by kernel_rfl) (blk_cell b33 rfl)) ?_
        refine lv (d := 41) rfl rfl (by kernel_rfl) (e_move (v := .pointer (some ⟨g71, 0, none⟩)) (by kernel_rfl)) ?_
        refine lve (d := 42) rfl rfl (by kernel_rfl) (new_blk (v := fun g_ => .slice (some ⟨g_, 0, none⟩) 1 1) (cs := #[.pointer (some ⟨g71, 0, none⟩)]) (t := 74) S77 (by kernel_rfl)) ?_
        rintro _ w80 ⟨g81, rfl, b82, S83, K84⟩
        replace b33 := K84.blk 0 rfl b33
        replace b23 := K84.blk 1 rfl b23
        replace h51 := h51.move (K84.at 2 rfl)
        obtain ⟨q85, M⟩ := chk M
        have S86 := S83.pull (F := F50) (Fr := [(is g81), (is g32), (is g18)]) 3 rfl rfl
        have S87 := S86.unit
        have S88 := S87.pull (F := F50) (Fr := [no, (is g81), (is g32), (is g18)]) 1 rfl rfl
        refine lve (d := 43) rfl rfl (by kernel_rfl) (e_append (d := (node 125)) (n := x47.length) (xs := x47) (cap := c49) (A := A48) (ys := [t66.1]) (A2 := (some ⟨g81, 0, none⟩)) (c2 := 1) (z := .pointer none) (bytes := 8) S88 Try.underlying87 (by kernel_rfl) rfl (by decide) (by kernel_rfl) rfl (by kernel_rfl) h51 (elsO_one1 ⟨_, rfl, h72⟩) (.inr (blk_news b82 rfl)) (show (x47.length + [t66.1].length) * 8 ≤ _ by first | omega | (simp only [List.length_cons, List.length_nil]; omega)) (by decide)) ?_
        rintro _ w89 ⟨A90, c91, F92, rfl, h93, S94, K95⟩
        replace b82 := K95.blk 0 rfl b82
        replace b33 := K95.blk 1 rfl b33
        replace b23 := K95.blk 2 rfl b23
        refine lv (d := 44) rfl rfl (by kernel_rfl) (e_nilCheck (ad := ⟨g32, 0, none⟩) (by kernel_rfl)) ?_
        refine lv (d := 45) rfl rfl (by kernel_rfl) (e_fieldAddr (b := g32) (off := 0) (o := 3) Try.underlying125 rfl rfl (sz := 1) (by kernel_rfl) (by decide) (by kernel_rfl)) ?_
        have S96 := S94.pull (F := (is g32)) (Fr := [F92, (is g81), (is g18)]) 2 rfl rfl
        refine lse rfl rfl (by kernel_rfl) (e_store (g := g32) (o := 0 + 3) (v := .slice A90 ((x47 ++ [t66.1]).length) c91) (cur' := #[.int .i64 ((x1.getD 0 z65).kind), .int .i64 ((x1.getD 0 z65).n), str ((x1.getD 0 z65).text), .slice A90 ((x47 ++ [t66.1]).length) c91]) (vs := [.slice A90 ((x47 ++ [t66.1]).length) c91]) S96 (by kernel_rfl) (by kernel_rfl) rfl (by kernel_rfl) b33 (Nat.le_of_ble_eq_true rfl) (List.forall_mem_cons.2 ⟨rfl, (fun _ h_ => by cases h_)⟩) rfl) ?_
        rintro w97 ⟨b98, S99, K100⟩
        replace h93 := h93.move (K100.at 0 rfl)
        replace b82 := K100.blk 1 rfl b82
        replace b23 := K100.blk 2 rfl b23
        clear b33
        refine wpList_nil ?_
        refine inb_n ?_
        refine then_n ?_
        refine wp_region_lit ?_
        refine lv (d := 29) rfl rfl (by kernel_rfl) (e_move (v := .int .i64 x46) (by exact e55)) ?_
        refine lv (d := 30) rfl rfl (by kernel_rfl) (e_add (k := .i64) (a := x46) (b := 1) (by kernel_rfl) rfl) ?_
        refine lv (d := 6) rfl rfl (by kernel_rfl) (e_assign (v := .int .i64 (IntKind.i64.wrap (x46 + 1))) (by kernel_rfl)) ?_
        refine wpList_nil ?_
        refine then_n ?_
        have S101 := S99.pull (F := F92) (Fr := [(is g32), (is g81), (is g18)]) 1 rfl rfl
        have S102 := S101.pull (F := (is g18)) (Fr := [F92, (is g32), (is g81)]) 3 rfl rfl
        have S103 := S102.pull (F := (is g32)) (Fr := [(is g18), F92, (is g81)]) 2 rfl rfl
        have S104 := St.first (Fa := [(is g32), (is g18), F92]) (Fr := [(is g81)]) S103
        exact ⟨k61, (by omega), _, H69, t66.2, A73, c74, (IntKind.i64.wrap (x46 + 1)), (x47 ++ [t66.1]), A90, c91, F92, (by omega), rfl, (by kernel_rfl), (by exact e53), (by exact e54), (by kernel_rfl), b98, b23, h93, h75, l76, (Y40.trans E79), S104, M⟩
      replace M := ifn q65 M
      refine cond_f rfl (bf q65 (by kernel_rfl)) ?_
      refine wp_exit ?_
      refine then_e ?_
      refine then_e ?_
      refine inb_hit ?_
      refine then_n ?_
      refine wp_seq ?_
      refine wp_region_lit ?_
      refine lv (d := 46) rfl rfl (by kernel_rfl) (e_move (v := .pointer (some ⟨g32, 0, none⟩)) (by exact e54)) ?_
      refine lv (d := 47) rfl rfl (by kernel_rfl) (e_move (v := .slice A42 x41.length c43) (by exact e52)) ?_
      refine lv (d := 2) rfl rfl (by kernel_rfl) (e_assign (v := .pointer (some ⟨g32, 0, none⟩)) (by kernel_rfl)) ?_
      refine lv (d := 3) rfl rfl (by kernel_rfl) (e_assign (v := .slice A42 x41.length c43) (by kernel_rfl)) ?_
      refine wpList_nil ?_
      refine then_n ?_
      refine wp_ret ?_
      have l105 := h51.le
      have S106 := S56.pull (F := F50) (Fr := [(is g32), (is g18)]) 2 rfl rfl
      obtain ⟨H107, S108, E109, h110, z111⟩ := S106.frzRow h51
      obtain ⟨H112, S113, E114, h115, z116⟩ := S108.frzBlk b33
      have h117 : NodeR 125 H112 (Tm.mk ((x1.getD 0 z65).kind) ((x1.getD 0 z65).n) ((x1.getD 0 z65).text) x47) (.pointer (some ⟨g32, 0, none⟩)) := node_mk (A := A48) (c := c49) h115 rfl l105 (h110.ext E114)
      obtain rfl := Option.some.inj M
      have S118 := St.first (Fa := []) (Fr := [(is g18)]) S113
      exact ret2 rfl rfl rfl (show _ = .pointer (some ⟨g32, 0, none⟩) from (by kernel_rfl)) (show _ = .slice A42 x41.length c43 from (by kernel_rfl)) ⟨g32, A42, c43, H112, rfl, h117, (h44.ext (E109.trans E114)), l45, S118⟩
    replace M := ifn q36 M
    refine cond_f rfl (bf q36 (by kernel_rfl)) ?_
    refine wp_skip ?_
    refine then_n ?_
    refine wp_seq ?_
    refine wp_region_lit ?_
    refine lv (d := 46) rfl rfl (by kernel_rfl) (e_move (v := .pointer (some ⟨g32, 0, none⟩)) (by kernel_rfl)) ?_
    refine lv (d := 47) rfl rfl (by kernel_rfl) (e_move (v := .slice A27 (x1.drop ((1 : Int).toNat)).length (c3 - ((1 : Int).toNat))) (by kernel_rfl)) ?_
    refine lv (d := 2) rfl rfl (by kernel_rfl) (e_assign (v := .pointer (some ⟨g32, 0, none⟩)) (by kernel_rfl)) ?_
    refine lv (d := 3) rfl rfl (by kernel_rfl) (e_assign (v := .slice A27 (x1.drop ((1 : Int).toNat)).length (c3 - ((1 : Int).toNat))) (by kernel_rfl)) ?_
    refine wpList_nil ?_
    refine then_n ?_
    refine wp_ret ?_
    obtain ⟨H119, S120, E121, h122, z123⟩ := S34.frzBlk b33
    have h124 : NodeR 125 H119 (Tm.mk ((x1.getD 0 z65).kind) ((x1.getD 0 z65).n) ((x1.getD 0 z65).text) []) (.pointer (some ⟨g32, 0, none⟩)) := node_mk (A := none) (c := 0) h122 rfl (Nat.le_refl _) (Rd.nil _ _ _)
    obtain rfl := Option.some.inj M
    have S125 := St.first (Fa := []) (Fr := [(is g18)]) S120
    exact ret2 rfl rfl rfl (show _ = .pointer (some ⟨g32, 0, none⟩) from (by kernel_rfl)) (show _ = .slice A27 (x1.drop ((1 : Int).toNat)).length (c3 - ((1 : Int).toNat)) from (by kernel_rfl)) ⟨g32, A27, (c3 - ((1 : Int).toNat)), H119, rfl, h124, (h28.ext E121), l29, S125⟩
theorem impl_fromCells.calls (k : Nat) (w : World) (H : Hp) (x1 : List Cell) (A2 : Option Addr) (c3 : Nat) (h4 : Rd st65 H A2 x1) (l5 : x1.length ≤ c3) (S : Own [] H w) (r : Tm × (List Cell)) (M : impl_fromCells.f k x1 = some r) :
    Calls Try.prog 108 #[.slice A2 x1.length c3] w (fun e e_w => ∃ (g_1 : Nat) (A_1 : Option Addr) (c_1 : Nat) (H_ : Hp), e = .returned (.tuple #[.pointer (some ⟨g_1, 0, none⟩), .slice A_1 r.2.length c_1]) ∧ NodeR 125 H_ r.1 (.pointer (some ⟨g_1, 0, none⟩)) ∧ Rd st65 H_ A_1 r.2 ∧ r.2.length ≤ c_1 ∧ St (anyOf []) H w [] H_ e_w) := (impl_fromCells.all (k + 1)) k (Nat.lt_succ_self k) w H x1 A2 c3 h4 l5 S r M

/-! impl_tree -/
def impl_tree.f (k : Nat) (x1 : List Cell) : Option Tm := ((impl_fromCells.f k x1).bind fun t6 => some t6.1)
theorem impl_tree.calls (k : Nat) (w : World) (H : Hp) (x1 : List Cell) (A2 : Option Addr) (c3 : Nat) (h4 : Rd st65 H A2 x1) (l5 : x1.length ≤ c3) (S : Own [] H w) (r : Tm) (M : impl_tree.f k x1 = some r) :
    Calls Try.prog 62 #[.slice A2 x1.length c3] w (fun e e_w => ∃ (g_1 : Nat) (H_ : Hp), e = .returned (.pointer (some ⟨g_1, 0, none⟩)) ∧ NodeR 125 H_ r (.pointer (some ⟨g_1, 0, none⟩)) ∧ St (anyOf []) H w [] H_ e_w) := by
  rw [impl_tree.f] at M
  refine enter (l := [.slice A2 x1.length c3]) 11 Try.func62 rfl rfl rfl ?_
  have S0_ := S.st
  refine wp_seq ?_
  refine wp_region_lit ?_
  refine lv (d := 2) rfl rfl (by kernel_rfl) (e_assign (v := .pointer none) rfl) ?_
  refine wpList_nil ?_
  refine then_n ?_
  refine wp_seq ?_
  refine wp_region_lit ?_
  refine lv (d := 6) rfl rfl (by kernel_rfl) (e_move (v := .slice A2 x1.length c3) (by kernel_rfl)) ?_
  obtain ⟨t6, u7, M⟩ := bnd M
  refine lcall (d := 7) rfl rfl (by kernel_rfl) (e_call (l := [.tmp 6]) (vs := [.slice A2 x1.length c3]) Try.func108 (by kernel_rfl) rfl (by kernel_rfl) rfl) (impl_fromCells.calls k w H x1 A2 c3 h4 l5 (St.own' (Fa := []) (Fr := []) S0_) t6 u7) ?_
  rintro _ w8 ⟨g11, A13, c14, H9, rfl, h12, h15, l16, T10⟩
  refine ⟨_, rfl, ?_⟩
  obtain ⟨S17, K18⟩ := St.call (Fa := []) (Fr := []) S0_ T10
  have E19 := T10.ext
  refine lv (d := 5) rfl rfl (by kernel_rfl) (e_move (v := .tuple #[.pointer (some ⟨g11, 0, none⟩), .slice A13 t6.2.length c14]) (by kernel_rfl)) ?_
  refine lv (d := 8) rfl rfl (by kernel_rfl) (e_extract (vs := #[.pointer (some ⟨g11, 0, none⟩), .slice A13 t6.2.length c14]) (v := .pointer (some ⟨g11, 0, none⟩)) (by kernel_rfl) rfl) ?_
  refine lv (d := 9) rfl rfl (by kernel_rfl) (e_extract (vs := #[.pointer (some ⟨g11, 0, none⟩), .slice A13 t6.2.length c14]) (v := .slice A13 t6.2.length c14) (by kernel_rfl) rfl) ?_
  refine lv (d := 3) rfl rfl (by kernel_rfl) (e_assign (v := .pointer (some ⟨g11, 0, none⟩)) (by kernel_rfl)) ?_
  refine lv (d := 4) rfl rfl (by kernel_rfl) (e_assign (v := .slice A13 t6.2.length c14) (by kernel_rfl)) ?_
  refine wpList_nil ?_
  refine then_n ?_
  refine wp_seq ?_
  refine wp_region_lit ?_
  refine lv (d := 10) rfl rfl (by kernel_rfl) (e_move (v := .pointer (some ⟨g11, 0, none⟩)) (by kernel_rfl)) ?_
  refine lv (d := 2) rfl rfl (by kernel_rfl) (e_assign (v := .pointer (some ⟨g11, 0, none⟩)) (by kernel_rfl)) ?_
  refine wpList_nil ?_
  refine then_n ?_
  refine wp_ret ?_
  obtain rfl := Option.some.inj M
  exact ret1 rfl rfl  (show _ = .pointer (some ⟨g11, 0, none⟩) from (by kernel_rfl)) ⟨g11, H9, rfl, h12, S17⟩

/-! impl_bindings_get -/
structure GPair where
  x_ : Tm
  y_ : Tm
  deriving Inhabited
def st143 : Ty GPair := iso (pair (node 125) (node 125)) (fun x => (x.x_, x.y_))
theorem st143_open {H : Hp} {x : GPair} {cs : List Value} (h : st143.R H x cs) : ∃ (g0 : Nat) (g1 : Nat), cs = [.pointer (some ⟨g0, 0, none⟩), .pointer (some ⟨g1, 0, none⟩)] ∧ NodeR 125 H x.x_ (.pointer (some ⟨g0, 0, none⟩)) ∧ NodeR 125 H x.y_ (.pointer (some ⟨g1, 0, none⟩)) := by
  obtain ⟨_, _, rfl, ⟨v0, rfl, h0⟩, ⟨v1, rfl, h1⟩⟩ := h
  obtain ⟨g0, rfl⟩ := node_ptr h0
  obtain ⟨g1, rfl⟩ := node_ptr h1
  exact ⟨g0, g1, rfl, h0, h1⟩
theorem st143_mkR {H : Hp} {x : GPair} {g0 : Nat} {g1 : Nat} (h0 : NodeR 125 H x.x_ (.pointer (some ⟨g0, 0, none⟩))) (h1 : NodeR 125 H x.y_ (.pointer (some ⟨g1, 0, none⟩))) : st143.R H x [.pointer (some ⟨g0, 0, none⟩), .pointer (some ⟨g1, 0, none⟩)] := ⟨[.pointer (some ⟨g0, 0, none⟩)], [.pointer (some ⟨g1, 0, none⟩)], rfl, ⟨_, rfl, h0⟩, ⟨_, rfl, h1⟩⟩
theorem st143_mkO {H X : Hp} {x : GPair} {g0 : Nat} {g1 : Nat} (h0 : NodeR 125 H x.x_ (.pointer (some ⟨g0, 0, none⟩))) (h1 : NodeR 125 H x.y_ (.pointer (some ⟨g1, 0, none⟩))) : st143.O H X no x [.pointer (some ⟨g0, 0, none⟩), .pointer (some ⟨g1, 0, none⟩)] := (pairO0 (a := (node 125)) (b := (node 125)) (x := (x.x_, x.y_)) (c0 := [.pointer (some ⟨g0, 0, none⟩)]) (c1 := [.pointer (some ⟨g1, 0, none⟩)]) (F := no) ⟨_, rfl, h0⟩ ⟨_, rfl, h1⟩)
theorem st143_openO {H X : Hp} {F : Foot} {x : GPair} {cs : List Value} (h : st143.O H X F x cs) : ∃ (g0 : Nat) (g1 : Nat), cs = [.pointer (some ⟨g0, 0, none⟩), .pointer (some ⟨g1, 0, none⟩)] ∧ NodeR 125 H x.x_ (.pointer (some ⟨g0, 0, none⟩)) ∧ NodeR 125 H x.y_ (.pointer (some ⟨g1, 0, none⟩)) := by
  obtain ⟨_, _, K0, L0, rfl, ⟨v0, rfl, h0⟩, ⟨v1, rfl, h1⟩, d0, s0⟩ := h
  obtain ⟨g0, rfl⟩ := node_ptr h0
  obtain ⟨g1, rfl⟩ := node_ptr h1
  exact ⟨g0, g1, rfl, h0, h1⟩
def impl_bindings_get.f (x1 : List (Int × Tm)) (x4 : Int) : Option (Option Tm) := (if (mget x1 x4).isSome = true then some (some ((mget x1 x4).getD (Tm.mk 0 0 [] []))) else some none)
theorem impl_bindings_get.calls (w : World) (H : Hp) (x1 : List (Int × Tm)) (g2 : Nat) (x4 : Int) (h3 : MapO encI (node 125) H (hp w) g2 x1) (S : Own [(is g2)] H w) (r : Option Tm) (M : impl_bindings_get.f x1 x4 = some r) :
    Calls Try.prog 169 #[.map (some g2), .int .i64 x4] w (fun e e_w => ∃ (p_1 : Option Addr) (H_ : Hp), e = .returned (.pointer p_1) ∧ MapO encI (node 125) H_ (hp e_w) g2 x1 ∧ NodeQ 125 H_ r (.pointer p_1) ∧ St (anyOf [(is g2)]) H w [(is g2)] H_ e_w) := by
  rw [impl_bindings_get.f] at M
  refine enter (l := [.map (some g2), .int .i64 x4]) 8 Try.func169 rfl rfl rfl ?_
  have S0_ := S.st
  refine wp_seq ?_
  refine wp_region_lit ?_
  refine lv (d := 4) rfl rfl (by kernel_rfl) (e_assign (v := .pointer none) rfl) ?_
  refine wpList_nil ?_
  refine then_n ?_
  refine wp_seq ?_
  refine wp_region_lit ?_
  refine lv (d := 5) rfl rfl (by kernel_rfl) (e_move (v := .map (some g2)) (by kernel_rfl)) ?_
  refine lv (d := 6) rfl rfl (by kernel_rfl) (e_move (v := .int .i64 x4) (by kernel_rfl)) ?_
  by_cases q5 : (mget x1 x4).isSome = true
  · replace M := ifp q5 M
    obtain ⟨v6, r7, k8⟩ := MapO.look h3 keyI (some_getD q5 (Tm.mk 0 0 [] []))
    obtain ⟨v9, e10, h11⟩ := r7
    obtain rfl := cons1 e10
    obtain ⟨g12, rfl⟩ := node_ptr h11
    refine lv (d := 7) rfl rfl (by kernel_rfl) (e_look1v (k := x4) k8 keyI Try.underlying109 Try.underlying3 (by kernel_rfl) (by kernel_rfl) (.pointer none) (by kernel_rfl)) ?_
    refine lv (d := 4) rfl rfl (by kernel_rfl) (e_assign (v := .pointer (some ⟨g12, 0, none⟩)) (by kernel_rfl)) ?_
    refine wpList_nil ?_
    refine then_n ?_
    refine wp_ret ?_
    obtain rfl := Option.some.inj M
    exact ret1 rfl rfl  (show _ = .pointer (some ⟨g12, 0, none⟩) from (by kernel_rfl)) ⟨(some ⟨g12, 0, none⟩), H, rfl, h3, (NodeQ.of h11), S0_⟩
  replace M := ifn q5 M
  refine lv (d := 7) rfl rfl (by kernel_rfl) (e_look1_f (k := x4) h3 keyI Try.underlying109 Try.underlying3 (by kernel_rfl) (by kernel_rfl) (is_none q5) (.pointer none) (by kernel_rfl)) ?_
  refine lv (d := 4) rfl rfl (by kernel_rfl) (e_assign (v := .pointer none) (by kernel_rfl)) ?_
  refine wpList_nil ?_
  refine then_n ?_
  refine wp_ret ?_
  obtain rfl := Option.some.inj M
  exact ret1 rfl rfl  (show _ = .pointer none from (by kernel_rfl)) ⟨none, H, rfl, h3, NodeQ.nil, S0_⟩

/-! impl_walk -/
def impl_walk.l0 : Nat → (List (Int × Tm)) → (Option Tm) → Option Tm
  | 0, _, _ => none
  | k21 + 1, x1, x11 => (if x11.isSome = true then (if ((x11.getD (Tm.mk 0 0 [] [])).kind) = 0 then ((impl_bindings_get.f x1 ((x11.getD (Tm.mk 0 0 [] [])).n)).bind fun t56 => (if ¬ (t56.isSome = true) then some (x11.getD (Tm.mk 0 0 [] [])) else (impl_walk.l0 k21 x1 t56))) else some (x11.getD (Tm.mk 0 0 [] []))) else none)
def impl_walk.f (k : Nat) (x1 : List (Int × Tm)) (x4 : Tm) : Option Tm := (impl_walk.l0 k x1 (some x4))
theorem impl_walk.calls (k : Nat) (w : World) (H : Hp) (x1 : List (Int × Tm)) (g2 : Nat) (x4 : Tm) (g5 : Nat) (h3 : MapO encI (node 125) H (hp w) g2 x1) (h6 : NodeR 125 H x4 (.pointer (some ⟨g5, 0, none⟩))) (S : Own [(is g2)] H w) (r : Tm) (M : impl_walk.f k x1 x4 = some r) :
    Calls Try.prog 119 #[.iface 109 (.map (some g2)), .pointer (some ⟨g5, 0, none⟩)] w (fun e e_w => ∃ (g_1 : Nat) (H_ : Hp), e = .returned (.pointer (some ⟨g_1, 0, none⟩)) ∧ MapO encI (node 125) H_ (hp e_w) g2 x1 ∧ NodeR 125 H_ r (.pointer (some ⟨g_1, 0, none⟩)) ∧ St (anyOf [(is g2)]) H w [(is g2)] H_ e_w) := by
  rw [impl_walk.f] at M
  refine enter (l := [.iface 109 (.map (some g2)), .pointer (some ⟨g5, 0, none⟩)]) 25 Try.func119 rfl rfl rfl ?_
  have S0_ := S.st
  refine wp_seq ?_
  refine wp_region_lit ?_
  refine lv (d := 4) rfl rfl (by kernel_rfl) (e_assign (v := .pointer none) rfl) ?_
  refine wpList_nil ?_
  refine then_n ?_
  refine wp_seq ?_
  refine wp_block ?_
  refine wp_loop_g (fun k19 a20 w7 => ∃ (f8 : Nat → Value) (H9 : Hp) (x11 : Option Tm) (p12 : Option Addr), a20 = mk 25 f8 ∧ f8 0 = .iface 109 (.map (some g2)) ∧ f8 1 = .pointer p12 ∧ MapO encI (node 125) H9 (hp w7) g2 x1 ∧ NodeQ 125 H9 x11 (.pointer p12) ∧ Ext H H9 ∧ St (anyOf [(is g2)]) H w [(is g2)] H9 w7 ∧ impl_walk.l0 k19 x1 x11 = some r) k ⟨_, H, (some x4), (some ⟨g5, 0, none⟩), rfl, (by kernel_rfl), (by kernel_rfl), h3, (NodeQ.of h6), (Ext.refl _), S0_, M⟩ ?_
  clear M
  rintro k19 a20 w7 ⟨f8, H9, x11, p12, rfl, e14, e15, h3, h13, Y10, S16, M⟩
  rcases k19 with _ | k21
  · rw [impl_walk.l0] at M
    cases M
  rw [impl_walk.l0] at M
  refine wp_seq ?_
  refine wp_seq ?_
  refine wp_region_lit ?_
  refine lv (d := 6) rfl rfl (by kernel_rfl) (e_move (v := .pointer p12) (by exact e15)) ?_
  obtain ⟨q22, M⟩ := chk M
  obtain ⟨g23, e24, h25⟩ := NodeQ.get h13 q22 (Tm.mk 0 0 [] [])
  subst e24
  refine lv (d := 7) rfl rfl (by kernel_rfl) (e_nilCheck (ad := ⟨g23, 0, none⟩) (by kernel_rfl)) ?_
  refine lv (d := 8) rfl rfl (by kernel_rfl) (e_fieldAddr (b := g23) (off := 0) (o := 0) Try.underlying125 rfl rfl (sz := 1) (by kernel_rfl) (by decide) (by kernel_rfl)) ?_
  obtain ⟨A26, c27, y28, q29, h30, h31, l32, h33⟩ := node_open h25
  refine lv (d := 9) rfl rfl (by kernel_rfl) (e_load1 (ad := ⟨g23, 0 + 0, none⟩) (v := .int .i64 (x11.getD (Tm.mk 0 0 [] [])).kind) Try.underlying3 rfl (by kernel_rfl) (blk_cells (S16.inv _ _ h30) h31 0 _ rfl)) ?_
  refine lv (d := 10) rfl rfl (by kernel_rfl) (e_eql (k := .i64) (a := (x11.getD (Tm.mk 0 0 [] [])).kind) (b := 0) (by kernel_rfl) rfl) ?_
  refine wpList_nil ?_
  refine then_n ?_
  by_cases q34 : ((x11.getD (Tm.mk 0 0 [] [])).kind) = 0
  · replace M := ifp q34 M
    refine cond_t rfl (bt q34 (by kernel_rfl)) ?_
    refine wp_skip ?_
    refine then_n ?_
    refine wp_block ?_
    refine wp_seq ?_
    refine region_mix (S := (fun (L_ : Array Bool) (w_ : World) => Ext H9 (hp w_) ∧ True)) (by kernel_rfl) S16 ?_
    intro w35 S36 K37 hc38
    have hs39 : (fun (L_ : Array Bool) (w_ : World) => Ext H9 (hp w_) ∧ True) (Array.replicate 10 false) w35 := ⟨S36.inv, trivial⟩
    replace h3 := h3.move (K37.at 0 rfl)
    refine xv (i := 0) (d := 11) rfl rfl rfl (by kernel_rfl) (by kernel_rfl) (fun _ _ => Iff.rfl) hc38 hs39 (fun L_ w_ hc_ hu_ hs_ => e_move (v := .iface 109 (.map (some g2))) (by exact e14)) ?_; intro hc40 hs41
    refine xv (i := 1) (d := 12) rfl rfl rfl (by kernel_rfl) (by kernel_rfl) (fun _ _ => Iff.rfl) hc40 hs41 (fun L_ w_ hc_ hu_ hs_ => e_move (v := .pointer (some ⟨g23, 0, none⟩)) (by exact e15)) ?_; intro hc42 hs43
    refine xv (i := 2) (d := 13) rfl rfl rfl (by kernel_rfl) (by kernel_rfl) (fun _ _ => Iff.rfl) hc42 hs43 (fun L_ w_ hc_ hu_ hs_ => e_nilCheck (ad := ⟨g23, 0, none⟩) (by kernel_rfl)) ?_; intro hc44 hs45
    refine xv (i := 3) (d := 14) rfl rfl rfl (by kernel_rfl) (by kernel_rfl) (fun _ _ => Iff.rfl) hc44 hs45 (fun L_ w_ hc_ hu_ hs_ => e_fieldAddr (b := g23) (off := 0) (o := 1) Try.underlying125 rfl rfl (sz := 1) (by kernel_rfl) (by decide) (by kernel_rfl)) ?_; intro hc46 hs47
    refine xv (i := 4) (d := 15) rfl rfl rfl (by kernel_rfl) (by kernel_rfl) (fun _ _ => Iff.rfl) hc46 hs47 (fun L_ w_ hc_ hu_ hs_ => e_load1 (ad := ⟨g23, 0 + 1, none⟩) (v := .int .i64 (x11.getD (Tm.mk 0 0 [] [])).n) Try.underlying3 rfl (by kernel_rfl) (blk_cells (hs_.1 _ _ h30) h31 1 _ rfl)) ?_; intro hc48 hs49
    refine xone (i := 5) (by kernel_rfl) hc48 ?_
    refine yo (i := 5) (d := 16) rfl rfl (wanted_none rfl _) (by kernel_rfl) (by kernel_rfl) (fun _ _ => Iff.rfl) hs49 (e_makeFuncM (n := "loop.example/s00095/impl.get") (v := .iface 109 (.map (some g2))) (by kernel_rfl)) ?_; intro hc50 hs51
    refine xone (i := 6) (by kernel_rfl) hc50 ?_
    refine yo (i := 6) (d := 17) rfl rfl (wanted_none rfl _) (by kernel_rfl) (by kernel_rfl) (fun _ _ => Iff.rfl) hs51 (e_nilCheckM (n := "loop.example/s00095/impl.get") (t := 109) (v := .map (some g2)) (by kernel_rfl) (by kernel_rfl)) ?_; intro hc52 hs53
    refine xone (i := 7) (by kernel_rfl) hc52 ?_
    refine yo (i := 7) (d := 18) rfl rfl (wanted_none rfl _) (by kernel_rfl) (by kernel_rfl) (fun _ _ => Iff.rfl) hs53 (e_move (v := .iface 109 (.map (some g2))) (by kernel_rfl)) ?_; intro hc54 hs55
    obtain ⟨t56, u57, M⟩ := bnd M
    refine xone (i := 8) (by kernel_rfl) hc54 ?_
    refine yc (i := 8) rfl (wanted_none rfl _) (by kernel_rfl) (by kernel_rfl) (e_invoke (f := 169) (t := 109) (n := "loop.example/s00095/impl.get") (l := [.tmp 15]) (vs := [.int .i64 (x11.getD (Tm.mk 0 0 [] [])).n]) (by kernel_rfl) (by kernel_rfl) (by kernel_rfl)) (impl_bindings_get.calls w35 H9 x1 g2 ((x11.getD (Tm.mk 0 0 [] [])).n) h3 (St.own' (Fa := [(is g2)]) (Fr := []) S36) t56 u57) ?_
    rintro hc64 _ w58 ⟨p62, H59, rfl, h61, h63, T60⟩
    refine ⟨_, rfl, ?_⟩
    obtain ⟨S65, K66⟩ := St.call (Fa := [(is g2)]) (Fr := []) S36 T60
    have E67 := T60.ext
    refine ⟨⟨(Ext.trans E67 S65.inv), trivial⟩, fun hs68 => ?_⟩
    refine xone (i := 9) (by kernel_rfl) hc64 ?_
    refine yo (i := 9) (d := 5) rfl rfl (wanted_none rfl _) (by kernel_rfl) (by kernel_rfl) (fun _ _ => Iff.rfl) hs68 (e_assign (v := .pointer p62) (by kernel_rfl)) ?_; intro hc69 hs70
    refine xn (by kernel_rfl) ?_ _
    refine then_n ?_
    refine wp_seq ?_
    refine wp_seq ?_
    refine wp_region_lit ?_
    refine lv (d := 20) rfl rfl (by kernel_rfl) (e_move (v := .pointer p62) (by kernel_rfl)) ?_
    refine lv (d := 21) rfl rfl (by kernel_rfl) (e_qeql (p := p62) h63 Try.underlying74 (by kernel_rfl) rfl) ?_
    refine wpList_nil ?_
    refine then_n ?_
    by_cases q71 : ¬ (t56.isSome = true)
    · replace M := ifp q71 M
      refine cond_t rfl (bt q71 (by kernel_rfl)) ?_
      refine wp_seq ?_
      refine wp_region_lit ?_
      refine lv (d := 22) rfl rfl (by kernel_rfl) (e_move (v := .pointer (some ⟨g23, 0, none⟩)) (by exact e15)) ?_
      refine lv (d := 4) rfl rfl (by kernel_rfl) (e_assign (v := .pointer (some ⟨g23, 0, none⟩)) (by kernel_rfl)) ?_
      refine wpList_nil ?_
      refine then_n ?_
      refine wp_ret ?_
      refine then_r ?_
      refine inb_r ?_
      refine then_r ?_
      refine inb_r ?_
      refine then_r ?_
      obtain rfl := Option.some.inj M
      exact ret1 rfl rfl  (show _ = .pointer (some ⟨g23, 0, none⟩) from (by kernel_rfl)) ⟨g23, H59, rfl, h61, (h25.ext' E67), S65⟩
    replace M := ifn q71 M
    refine cond_f rfl (bf q71 (by kernel_rfl)) ?_
    refine wp_skip ?_
    refine then_n ?_
    refine wp_region_lit ?_
    refine lv (d := 23) rfl rfl (by kernel_rfl) (e_move (v := .pointer p62) (by kernel_rfl)) ?_
    refine lv (d := 1) rfl rfl (by kernel_rfl) (e_assign (v := .pointer p62) (by kernel_rfl)) ?_
    refine wpList_nil ?_
    refine inb_n ?_
    refine then_n ?_
    exact ⟨k21, (by omega), _, H59, t56, p62, rfl, (by exact e14), (by kernel_rfl), h61, h63, (Y10.trans E67), S65, M⟩
  replace M := ifn q34 M
  refine cond_f rfl (bf q34 (by kernel_rfl)) ?_
  refine wp_exit ?_
  refine then_e ?_
  refine then_e ?_
  refine inb_hit ?_
  refine then_n ?_
  refine wp_seq ?_
  refine wp_region_lit ?_
  refine lv (d := 24) rfl rfl (by kernel_rfl) (e_move (v := .pointer (some ⟨g23, 0, none⟩)) (by exact e15)) ?_
  refine lv (d := 4) rfl rfl (by kernel_rfl) (e_assign (v := .pointer (some ⟨g23, 0, none⟩)) (by kernel_rfl)) ?_
  refine wpList_nil ?_
  refine then_n ?_
  refine wp_ret ?_
  obtain rfl := Option.some.inj M
  exact ret1 rfl rfl  (show _ = .pointer (some ⟨g23, 0, none⟩) from (by kernel_rfl)) ⟨g23, H9, rfl, h3, h25, S16⟩

/-! impl_bindings_set -/
def impl_bindings_set.f (x1 : List (Int × Tm)) (x4 : Int) (x5 : Tm) : Option (List (Int × Tm)) := some (mset x1 x4 x5)
theorem impl_bindings_set.calls (w : World) (H : Hp) (x1 : List (Int × Tm)) (g2 : Nat) (x4 : Int) (x5 : Tm) (g6 : Nat) (h3 : MapO encI (node 125) H (hp w) g2 x1) (h7 : NodeR 125 H x5 (.pointer (some ⟨g6, 0, none⟩))) (S : Own [(is g2)] H w) (r : List (Int × Tm)) (M : impl_bindings_set.f x1 x4 x5 = some r) :
    Calls Try.prog 170 #[.map (some g2), .int .i64 x4, .pointer (some ⟨g6, 0, none⟩)] w (fun e e_w => ∃ (H_ : Hp), e = .returned (.tuple #[]) ∧ MapO encI (node 125) H_ (hp e_w) g2 r ∧ St (anyOf [(is g2)]) H w [(is g2)] H_ e_w) := by
  rw [impl_bindings_set.f] at M
  refine enter (l := [.map (some g2), .int .i64 x4, .pointer (some ⟨g6, 0, none⟩)]) 9 Try.func170 rfl rfl rfl ?_
  have S0_ := S.st
  refine wp_region_lit ?_
  refine lv (d := 6) rfl rfl (by kernel_rfl) (e_move (v := .map (some g2)) (by kernel_rfl)) ?_
  refine lv (d := 7) rfl rfl (by kernel_rfl) (e_move (v := .int .i64 x4) (by kernel_rfl)) ?_
  refine lv (d := 8) rfl rfl (by kernel_rfl) (e_move (v := .pointer (some ⟨g6, 0, none⟩)) (by kernel_rfl)) ?_
  refine lse rfl rfl (by kernel_rfl) (e_mapUpdate (k := x4) (a := x5) S0_ h3 keyI Try.underlying109 Try.underlying3 (by kernel_rfl) (by kernel_rfl) (by kernel_rfl) ⟨_, rfl, h7⟩) ?_
  rintro w8 ⟨h9, S10, K11⟩
  clear h3
  refine wpList_nil ?_
  obtain rfl := Option.some.inj M
  exact end0 rfl ⟨H, rfl, h9, S10⟩
end Go.Proofs.Ytognefkopbbdnaa
