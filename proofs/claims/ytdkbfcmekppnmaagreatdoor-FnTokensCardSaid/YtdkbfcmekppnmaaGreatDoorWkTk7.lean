import Derived.Test.YtdkbfcmekppnmaaGreatDoorWkTk6
namespace Go.Proofs.YtdkbfcmekppnmaaGreatDoor
open Go.Sx Go.Sy IntKind Tryz
attribute [local irreducible] Go.wpList Go.wpStill Go.wpQuiet Go.Code.wp
set_option maxRecDepth 100000
set_option maxHeartbeats 1000000
set_option linter.unusedVariables false
set_option linter.unusedSimpArgs false
def impl_lexer_put.f (x1 : GLexer) (x8 : Int) (x9 : Int) (x10 : List UInt8) (x11 : Int) : Option GLexer := (if x8 = 1 then (if (x10.length : Int) > 100 then ((impl_lexer_fault.f x1 3 x1.at_).bind fun t16 => some t16) else (if x10.length ≤ 9223372036854775807 then (if x1.tokens_.length + 1 ≤ 2513169434916 then some (⟨x1.s_, x9, (x1.tokens_ ++ [(⟨x8, x1.at_, (i64.wrap (x9 - x1.at_)), x10, x11⟩ : Token)]), x1.code_, x1.place_⟩ : GLexer) else none) else none)) else (if x8 = 2 then (if (x10.length : Int) > 100 then ((impl_lexer_fault.f x1 3 x1.at_).bind fun t124 => some t124) else (if x10.length ≤ 9223372036854775807 then (if x1.tokens_.length + 1 ≤ 2513169434916 then some (⟨x1.s_, x9, (x1.tokens_ ++ [(⟨x8, x1.at_, (i64.wrap (x9 - x1.at_)), x10, x11⟩ : Token)]), x1.code_, x1.place_⟩ : GLexer) else none) else none)) else (if x8 = 4 then (if (x10.length : Int) > 100 then ((impl_lexer_fault.f x1 3 x1.at_).bind fun t232 => some t232) else (if x10.length ≤ 9223372036854775807 then (if x1.tokens_.length + 1 ≤ 2513169434916 then some (⟨x1.s_, x9, (x1.tokens_ ++ [(⟨x8, x1.at_, (i64.wrap (x9 - x1.at_)), x10, x11⟩ : Token)]), x1.code_, x1.place_⟩ : GLexer) else none) else none)) else (if x10.length ≤ 9223372036854775807 then (if x1.tokens_.length + 1 ≤ 2513169434916 then some (⟨x1.s_, x9, (x1.tokens_ ++ [(⟨x8, x1.at_, (i64.wrap (x9 - x1.at_)), x10, x11⟩ : Token)]), x1.code_, x1.place_⟩ : GLexer) else none) else none))))
theorem impl_lexer_put.calls {w : World} {H : Hp} (x1 : GLexer) {g2 : Nat} {A4 : Option Addr} {c5 : Nat} {F7 : Foot} {x8 : Int} {x9 : Int} {x10 : List UInt8} {x11 : Int} (h6 : Row st28 28 H (hp w) F7 A4 c5 x1.tokens_) (b3 : w.heap[g2]? = some (.cells #[str x1.s_, .int .i64 x1.at_, .slice A4 x1.tokens_.length c5, .int .i64 x1.code_, .int .i64 x1.place_] 39 (0, 0))) (S : Own [F7, (is g2)] H w) {r : GLexer} (M : impl_lexer_put.f x1 x8 x9 x10 x11 = some r) :
  Calls Tryz.prog 45 #[.pointer (some ⟨g2, 0, none⟩), .int .i64 x8, .int .i64 x9, str x10, .int .i64 x11] w (fun e e_w => ∃ (A_1 : Option Addr) (c_1 : Nat) (F_1 : Foot) (H_ : Hp), e = .returned (.tuple #[]) ∧ Row st28 28 H_ (hp e_w) F_1 A_1 c_1 r.tokens_ ∧ e_w.heap[g2]? = some (.cells #[str r.s_, .int .i64 r.at_, .slice A_1 r.tokens_.length c_1, .int .i64 r.code_, .int .i64 r.place_] 39 (0, 0)) ∧ St (anyOf [F7, (is g2)]) H w [(is g2), F_1] H_ e_w) := by
 rw [impl_lexer_put.f] at M
 refine enter (l := [.pointer (some ⟨g2, 0, none⟩), .int .i64 x8, .int .i64 x9, str x10, .int .i64 x11]) 59 func45 rfl rfl rfl ?_
 have S0_ := S.st
 refine wQ (wQ (wR (lP 3 ?_)))
 obtain ⟨q12, M⟩ | ⟨q12, M⟩ := ifc M
 ·refine lP1 9 12 (bT q12) (lH 22 20 (e_slen (p := x10) underlying9 kr) (lP 2 (wN (tN ?_))))
  obtain ⟨q13, M⟩ | ⟨q13, M⟩ := ifc M
  ·refine cT (bT q13) (wQ (wR (lP 4 (lV 29 (eB 1 b3) ?_))))
   have S15 := S0_.pulls [F7, (is g2)] [1, 1] rfl
   obtain ⟨t16, u17, M⟩ := bnd M
   refine lC 30 (eE func38) (impl_lexer_fault.calls x1 h6 b3 (St.own' (Fa := [F7, (is g2)]) (Fr := []) S15) u17) ?_
   rintro _ w18 ⟨A21, c22, F24, H19, rfl, h23, b25, T20⟩
   refine ⟨_, rfl, ?_⟩
   obtain ⟨S26, K27⟩ := St.call (Fa := [F7, (is g2)]) (Fr := []) S15 T20
   have E28 := T20.ext
   refine wN (tN (wT (tR ?_)))
   obtain rfl := sj M
   exact Go.Sy.ret0 rfl ⟨A21, c22, F24, H19, rfl, h23, b25, S26⟩
  refine cF (bF q13) (wK (tN (wQ ?_)))
  refine region_mix (S := (fun (L_ : Array Bool) (w_ : World) => Ext H (hp w_) ∧ (L_.getD 24 true = false → (∀ b_, (is g2) b_ → hp w_ b_ = hp w b_)))) kr S0_ ?_
  intro w29 S30 K31 hc32
  have o33 := b3
  have hs34 : (fun (L_ : Array Bool) (w_ : World) => Ext H (hp w_) ∧ (L_.getD 24 true = false → (∀ b_, (is g2) b_ → hp w_ b_ = hp w b_))) (Array.replicate 25 false) w29 := ⟨S30.inv, (fun _ => (fun b_ h_ => K31.at 1 rfl b_ h_))⟩
  replace h6 := h6.move (K31.a 0)
  replace b3 := K31.b 1 b3
  refine xW 0 31 rfl (fun L_ w_ => by simp only [getD_set_ne true (show (0 : Nat) ≠ 24 by decide)]) hc32 hs34 (fun L_ w_ hc_ hu_ hs_ => eM (.pointer (some ⟨g2, 0, none⟩))) ?_; intro hc35 hs36
  refine xW 1 32 rfl (fun L_ w_ => by simp only [getD_set_ne true (show (1 : Nat) ≠ 24 by decide)]) hc35 hs36 (fun L_ w_ hc_ hu_ hs_ => eM (.pointer (some ⟨g2, 0, none⟩))) ?_; intro hc37 hs38
  refine xW 2 33 rfl (fun L_ w_ => by simp only [getD_set_ne true (show (2 : Nat) ≠ 24 by decide)]) hc37 hs38 (fun L_ w_ hc_ hu_ hs_ => eN ⟨g2, 0, none⟩) ?_; intro hc39 hs40
  refine xW 3 34 rfl (fun L_ w_ => by simp only [getD_set_ne true (show (3 : Nat) ≠ 24 by decide)]) hc39 hs40 (fun L_ w_ hc_ hu_ hs_ => eD g2 0 2 1 underlying39) ?_; intro hc41 hs42
  refine xW 4 35 rfl (fun L_ w_ => by simp only [getD_set_ne true (show (4 : Nat) ≠ 24 by decide)]) hc41 hs42 (fun L_ w_ hc_ hu_ hs_ => eB 2 (((hs_.2 (unl 9 24 4 hc_ hu_ kr)) _ rfl).trans o33)) ?_; intro hc43 hs44
  refine xW 5 36 rfl (fun L_ w_ => by simp only [getD_set_ne true (show (5 : Nat) ≠ 24 by decide)]) hc43 hs44 (fun L_ w_ hc_ hu_ hs_ => eM (.int .i64 x8)) ?_; intro hc45 hs46
  refine xW 6 37 rfl (fun L_ w_ => by simp only [getD_set_ne true (show (6 : Nat) ≠ 24 by decide)]) hc45 hs46 (fun L_ w_ hc_ hu_ hs_ => eM (.pointer (some ⟨g2, 0, none⟩))) ?_; intro hc47 hs48
  refine xW 7 38 rfl (fun L_ w_ => by simp only [getD_set_ne true (show (7 : Nat) ≠ 24 by decide)]) hc47 hs48 (fun L_ w_ hc_ hu_ hs_ => eN ⟨g2, 0, none⟩) ?_; intro hc49 hs50
  refine xW 8 39 rfl (fun L_ w_ => by simp only [getD_set_ne true (show (8 : Nat) ≠ 24 by decide)]) hc49 hs50 (fun L_ w_ hc_ hu_ hs_ => eD g2 0 1 1 underlying39) ?_; intro hc51 hs52
  refine xW 9 40 rfl (fun L_ w_ => by simp only [getD_set_ne true (show (9 : Nat) ≠ 24 by decide)]) hc51 hs52 (fun L_ w_ hc_ hu_ hs_ => eB 1 (((hs_.2 (unl 9 24 9 hc_ hu_ kr)) _ rfl).trans o33)) ?_; intro hc53 hs54
  refine xW 10 41 rfl (fun L_ w_ => by simp only [getD_set_ne true (show (10 : Nat) ≠ 24 by decide)]) hc53 hs54 (fun L_ w_ hc_ hu_ hs_ => eM (.int .i64 x9)) ?_; intro hc55 hs56
  refine xW 11 42 rfl (fun L_ w_ => by simp only [getD_set_ne true (show (11 : Nat) ≠ 24 by decide)]) hc55 hs56 (fun L_ w_ hc_ hu_ hs_ => eM (.pointer (some ⟨g2, 0, none⟩))) ?_; intro hc57 hs58
  refine xW 12 43 rfl (fun L_ w_ => by simp only [getD_set_ne true (show (12 : Nat) ≠ 24 by decide)]) hc57 hs58 (fun L_ w_ hc_ hu_ hs_ => eN ⟨g2, 0, none⟩) ?_; intro hc59 hs60
  refine xW 13 44 rfl (fun L_ w_ => by simp only [getD_set_ne true (show (13 : Nat) ≠ 24 by decide)]) hc59 hs60 (fun L_ w_ hc_ hu_ hs_ => eD g2 0 1 1 underlying39) ?_; intro hc61 hs62
  refine xW 14 45 rfl (fun L_ w_ => by simp only [getD_set_ne true (show (14 : Nat) ≠ 24 by decide)]) hc61 hs62 (fun L_ w_ hc_ hu_ hs_ => eB 1 (((hs_.2 (unl 9 24 14 hc_ hu_ kr)) _ rfl).trans o33)) ?_; intro hc63 hs64
  refine xW 15 46 rfl (fun L_ w_ => by simp only [getD_set_ne true (show (15 : Nat) ≠ 24 by decide)]) hc63 hs64 (fun L_ w_ hc_ hu_ hs_ => e_sub (k := .i64) (a := x9) (b := x1.at_) kr kr) ?_; intro hc65 hs66
  refine xW 16 47 rfl (fun L_ w_ => by simp only [getD_set_ne true (show (16 : Nat) ≠ 24 by decide)]) hc65 hs66 (fun L_ w_ hc_ hu_ hs_ => eM (str x10)) ?_; intro hc67 hs68
  refine xW 18 49 rfl (fun L_ w_ => by simp only [getD_set_ne true (show (18 : Nat) ≠ 24 by decide)]) hc67 hs68 (fun L_ w_ hc_ hu_ hs_ => eM (.int .i64 x11)) ?_; intro hc69 hs70
  obtain ⟨q71, M⟩ := chk M
  refine xO 17 hc69 ?_
  refine yE 17 48 rfl (e_conv_sb (xs := x10) S30 underlying9 underlying22 underlying5 kr q71) ?_
  rintro hc79 _ w72 ⟨A73, c74, F75, rfl, h76, S77, K78⟩
  replace h6 := h6.move (K78.a 0)
  replace b3 := K78.b 1 b3
  refine ⟨⟨S77.inv, (fun q_ => (fun b_ h_ => (K78.at 1 rfl b_ h_).trans ((hs70.2 (by decide +kernel)) b_ h_)))⟩, fun hs80 => ?_⟩
  refine xO 19 hc79 ?_
  refine yP 19 50 rfl (fun L_ w_ => by simp only [getD_set_ne true (show (19 : Nat) ≠ 24 by decide)]) hs80 (show _ = Result.ok (Next.value (.agg #[.int .i64 x8, .int .i64 x1.at_, .int .i64 (i64.wrap (x9 - x1.at_)), .slice A73 x10.length c74, .int .i64 x11])) w72 from by kernel_rfl) ?_; intro hc81 hs82
  refine xO 20 hc81 ?_
  refine yE 20 51 rfl (new_blk (v := fun g_ => .slice (some ⟨g_, 0, none⟩) 1 1) (cs := #[.int .i64 x8, .int .i64 x1.at_, .int .i64 (i64.wrap (x9 - x1.at_)), .slice A73 x10.length c74, .int .i64 x11]) (t := 28) S77 kr) ?_
  rintro hc88 _ w83 ⟨g84, rfl, b85, S86, K87⟩
  replace h76 := h76.move (K87.a 0)
  replace h6 := h6.move (K87.a 1)
  replace b3 := K87.b 2 b3
  refine ⟨⟨S86.inv, (fun q_ => (fun b_ h_ => (K87.at 2 rfl b_ h_).trans ((hs82.2 (by decide +kernel)) b_ h_)))⟩, fun hs89 => ?_⟩
  obtain ⟨q90, M⟩ := chk M
  have S92 := S86.pulls [F7, F75, (is g84), (is g2)] [1, 2] rfl
  refine xO 21 hc88 ?_
  refine yE 21 52 rfl (e_append (d := st28) (n := x1.tokens_.length) (xs := x1.tokens_) (cap := c5) (A := A4) (ys := [(⟨x8, x1.at_, (i64.wrap (x9 - x1.at_)), x10, x11⟩ : Token)]) (A2 := (some ⟨g84, 0, none⟩)) (c2 := 1) (z := .agg #[.int .i64 0, .int .i64 0, .int .i64 0, .slice none 0 0, .int .i64 0]) (bytes := 56) S92 underlying24 kr rfl (by decide) kr rfl kr h6 (elsO_one1 (st28_mkO (x := (⟨x8, x1.at_, (i64.wrap (x9 - x1.at_)), x10, x11⟩ : Token)) h76)) (.inr (blk_news b85 rfl)) (show (x1.tokens_.length + [(⟨x8, x1.at_, (i64.wrap (x9 - x1.at_)), x10, x11⟩ : Token)].length) * 56 ≤ _ by first | omega | (simp only [List.length_cons, List.length_nil]; omega)) (by decide)) ?_
  rintro hc100 _ w93 ⟨A94, c95, F96, rfl, h97, S98, K99⟩
  replace b3 := K99.b 1 b3
  refine ⟨⟨S98.inv, (fun q_ => (fun b_ h_ => (K99.at 1 rfl b_ h_).trans ((hs89.2 (by decide +kernel)) b_ h_)))⟩, fun hs101 => ?_⟩
  refine xO 22 hc100 ?_
  refine yP 22 53 rfl (fun L_ w_ => by simp only [getD_set_ne true (show (22 : Nat) ≠ 24 by decide)]) hs101 (eN ⟨g2, 0, none⟩) ?_; intro hc102 hs103
  refine xO 23 hc102 ?_
  refine yP 23 54 rfl (fun L_ w_ => by simp only [getD_set_ne true (show (23 : Nat) ≠ 24 by decide)]) hs103 (eD g2 0 2 1 underlying39) ?_; intro hc104 hs105
  have S106 := S98.pulls [(is g2), F96, (is g84)] [2] rfl
  refine xO 24 hc104 ?_
  refine yS 24 rfl (eS g2 (0 + 2) (.slice A94 ((x1.tokens_ ++ [(⟨x8, x1.at_, (i64.wrap (x9 - x1.at_)), x10, x11⟩ : Token)]).length) c95) #[str x1.s_, .int .i64 x1.at_, .slice A94 ((x1.tokens_ ++ [(⟨x8, x1.at_, (i64.wrap (x9 - x1.at_)), x10, x11⟩ : Token)]).length) c95, .int .i64 x1.code_, .int .i64 x1.place_] [.slice A94 ((x1.tokens_ ++ [(⟨x8, x1.at_, (i64.wrap (x9 - x1.at_)), x10, x11⟩ : Token)]).length) c95] S106 b3) ?_
  rintro hc111 w107 ⟨b108, S109, K110⟩
  replace h97 := h97.move (K110.a 0)
  refine ⟨⟨S109.inv, (fun q_ => absurd q_ (by decide +kernel))⟩, fun hs112 => ?_⟩
  clear b3
  refine xn kr ?_ _
  refine tN (wR (lP 4 ?_))
  refine lE (eS g2 (0 + 1) (.int .i64 x9) #[str x1.s_, .int .i64 x9, .slice A94 ((x1.tokens_ ++ [(⟨x8, x1.at_, (i64.wrap (x9 - x1.at_)), x10, x11⟩ : Token)]).length) c95, .int .i64 x1.code_, .int .i64 x1.place_] [.int .i64 x9] S109 b108) ?_
  rintro w113 ⟨b114, S115, K116⟩
  replace h97 := h97.move (K116.a 0)
  clear b108
  refine wN ?_
  obtain rfl := sj M
  have S118 := S115.pulls [(is g2), F96, (is g84)] [1, 1] rfl
  have S119 := St.first (Fa := [(is g2), F96]) (Fr := [(is g84)]) S118
  exact end0 rfl ⟨A94, c95, F96, H, rfl, h97, b114, S119⟩
 refine lP1 4 12 (bF q12) ?_
 obtain ⟨q120, M⟩ | ⟨q120, M⟩ := ifc M
 ·refine lP1 5 16 (bT q120) (lH 22 20 (e_slen (p := x10) underlying9 kr) (lP 2 (wN (tN ?_))))
  obtain ⟨q121, M⟩ | ⟨q121, M⟩ := ifc M
  ·refine cT (bT q121) (wQ (wR (lP 4 (lV 29 (eB 1 b3) ?_))))
   have S123 := S0_.pulls [F7, (is g2)] [1, 1] rfl
   obtain ⟨t124, u125, M⟩ := bnd M
   refine lC 30 (eE func38) (impl_lexer_fault.calls x1 h6 b3 (St.own' (Fa := [F7, (is g2)]) (Fr := []) S123) u125) ?_
   rintro _ w126 ⟨A129, c130, F132, H127, rfl, h131, b133, T128⟩
   refine ⟨_, rfl, ?_⟩
   obtain ⟨S134, K135⟩ := St.call (Fa := [F7, (is g2)]) (Fr := []) S123 T128
   have E136 := T128.ext
   refine wN (tN (wT (tR ?_)))
   obtain rfl := sj M
   exact Go.Sy.ret0 rfl ⟨A129, c130, F132, H127, rfl, h131, b133, S134⟩
  refine cF (bF q121) (wK (tN (wQ ?_)))
  refine region_mix (S := (fun (L_ : Array Bool) (w_ : World) => Ext H (hp w_) ∧ (L_.getD 24 true = false → (∀ b_, (is g2) b_ → hp w_ b_ = hp w b_)))) kr S0_ ?_
  intro w137 S138 K139 hc140
  have o141 := b3
  have hs142 : (fun (L_ : Array Bool) (w_ : World) => Ext H (hp w_) ∧ (L_.getD 24 true = false → (∀ b_, (is g2) b_ → hp w_ b_ = hp w b_))) (Array.replicate 25 false) w137 := ⟨S138.inv, (fun _ => (fun b_ h_ => K139.at 1 rfl b_ h_))⟩
  replace h6 := h6.move (K139.a 0)
  replace b3 := K139.b 1 b3
  refine xW 0 31 rfl (fun L_ w_ => by simp only [getD_set_ne true (show (0 : Nat) ≠ 24 by decide)]) hc140 hs142 (fun L_ w_ hc_ hu_ hs_ => eM (.pointer (some ⟨g2, 0, none⟩))) ?_; intro hc143 hs144
  refine xW 1 32 rfl (fun L_ w_ => by simp only [getD_set_ne true (show (1 : Nat) ≠ 24 by decide)]) hc143 hs144 (fun L_ w_ hc_ hu_ hs_ => eM (.pointer (some ⟨g2, 0, none⟩))) ?_; intro hc145 hs146
  refine xW 2 33 rfl (fun L_ w_ => by simp only [getD_set_ne true (show (2 : Nat) ≠ 24 by decide)]) hc145 hs146 (fun L_ w_ hc_ hu_ hs_ => eN ⟨g2, 0, none⟩) ?_; intro hc147 hs148
  refine xW 3 34 rfl (fun L_ w_ => by simp only [getD_set_ne true (show (3 : Nat) ≠ 24 by decide)]) hc147 hs148 (fun L_ w_ hc_ hu_ hs_ => eD g2 0 2 1 underlying39) ?_; intro hc149 hs150
  refine xW 4 35 rfl (fun L_ w_ => by simp only [getD_set_ne true (show (4 : Nat) ≠ 24 by decide)]) hc149 hs150 (fun L_ w_ hc_ hu_ hs_ => eB 2 (((hs_.2 (unl 9 24 4 hc_ hu_ kr)) _ rfl).trans o141)) ?_; intro hc151 hs152
  refine xW 5 36 rfl (fun L_ w_ => by simp only [getD_set_ne true (show (5 : Nat) ≠ 24 by decide)]) hc151 hs152 (fun L_ w_ hc_ hu_ hs_ => eM (.int .i64 x8)) ?_; intro hc153 hs154
  refine xW 6 37 rfl (fun L_ w_ => by simp only [getD_set_ne true (show (6 : Nat) ≠ 24 by decide)]) hc153 hs154 (fun L_ w_ hc_ hu_ hs_ => eM (.pointer (some ⟨g2, 0, none⟩))) ?_; intro hc155 hs156
  refine xW 7 38 rfl (fun L_ w_ => by simp only [getD_set_ne true (show (7 : Nat) ≠ 24 by decide)]) hc155 hs156 (fun L_ w_ hc_ hu_ hs_ => eN ⟨g2, 0, none⟩) ?_; intro hc157 hs158
  refine xW 8 39 rfl (fun L_ w_ => by simp only [getD_set_ne true (show (8 : Nat) ≠ 24 by decide)]) hc157 hs158 (fun L_ w_ hc_ hu_ hs_ => eD g2 0 1 1 underlying39) ?_; intro hc159 hs160
  refine xW 9 40 rfl (fun L_ w_ => by simp only [getD_set_ne true (show (9 : Nat) ≠ 24 by decide)]) hc159 hs160 (fun L_ w_ hc_ hu_ hs_ => eB 1 (((hs_.2 (unl 9 24 9 hc_ hu_ kr)) _ rfl).trans o141)) ?_; intro hc161 hs162
  refine xW 10 41 rfl (fun L_ w_ => by simp only [getD_set_ne true (show (10 : Nat) ≠ 24 by decide)]) hc161 hs162 (fun L_ w_ hc_ hu_ hs_ => eM (.int .i64 x9)) ?_; intro hc163 hs164
  refine xW 11 42 rfl (fun L_ w_ => by simp only [getD_set_ne true (show (11 : Nat) ≠ 24 by decide)]) hc163 hs164 (fun L_ w_ hc_ hu_ hs_ => eM (.pointer (some ⟨g2, 0, none⟩))) ?_; intro hc165 hs166
  refine xW 12 43 rfl (fun L_ w_ => by simp only [getD_set_ne true (show (12 : Nat) ≠ 24 by decide)]) hc165 hs166 (fun L_ w_ hc_ hu_ hs_ => eN ⟨g2, 0, none⟩) ?_; intro hc167 hs168
  refine xW 13 44 rfl (fun L_ w_ => by simp only [getD_set_ne true (show (13 : Nat) ≠ 24 by decide)]) hc167 hs168 (fun L_ w_ hc_ hu_ hs_ => eD g2 0 1 1 underlying39) ?_; intro hc169 hs170
  refine xW 14 45 rfl (fun L_ w_ => by simp only [getD_set_ne true (show (14 : Nat) ≠ 24 by decide)]) hc169 hs170 (fun L_ w_ hc_ hu_ hs_ => eB 1 (((hs_.2 (unl 9 24 14 hc_ hu_ kr)) _ rfl).trans o141)) ?_; intro hc171 hs172
  refine xW 15 46 rfl (fun L_ w_ => by simp only [getD_set_ne true (show (15 : Nat) ≠ 24 by decide)]) hc171 hs172 (fun L_ w_ hc_ hu_ hs_ => e_sub (k := .i64) (a := x9) (b := x1.at_) kr kr) ?_; intro hc173 hs174
  refine xW 16 47 rfl (fun L_ w_ => by simp only [getD_set_ne true (show (16 : Nat) ≠ 24 by decide)]) hc173 hs174 (fun L_ w_ hc_ hu_ hs_ => eM (str x10)) ?_; intro hc175 hs176
  refine xW 18 49 rfl (fun L_ w_ => by simp only [getD_set_ne true (show (18 : Nat) ≠ 24 by decide)]) hc175 hs176 (fun L_ w_ hc_ hu_ hs_ => eM (.int .i64 x11)) ?_; intro hc177 hs178
  obtain ⟨q179, M⟩ := chk M
  refine xO 17 hc177 ?_
  refine yE 17 48 rfl (e_conv_sb (xs := x10) S138 underlying9 underlying22 underlying5 kr q179) ?_
  rintro hc187 _ w180 ⟨A181, c182, F183, rfl, h184, S185, K186⟩
  replace h6 := h6.move (K186.a 0)
  replace b3 := K186.b 1 b3
  refine ⟨⟨S185.inv, (fun q_ => (fun b_ h_ => (K186.at 1 rfl b_ h_).trans ((hs178.2 (by decide +kernel)) b_ h_)))⟩, fun hs188 => ?_⟩
  refine xO 19 hc187 ?_
  refine yP 19 50 rfl (fun L_ w_ => by simp only [getD_set_ne true (show (19 : Nat) ≠ 24 by decide)]) hs188 (show _ = Result.ok (Next.value (.agg #[.int .i64 x8, .int .i64 x1.at_, .int .i64 (i64.wrap (x9 - x1.at_)), .slice A181 x10.length c182, .int .i64 x11])) w180 from by kernel_rfl) ?_; intro hc189 hs190
  refine xO 20 hc189 ?_
  refine yE 20 51 rfl (new_blk (v := fun g_ => .slice (some ⟨g_, 0, none⟩) 1 1) (cs := #[.int .i64 x8, .int .i64 x1.at_, .int .i64 (i64.wrap (x9 - x1.at_)), .slice A181 x10.length c182, .int .i64 x11]) (t := 28) S185 kr) ?_
  rintro hc196 _ w191 ⟨g192, rfl, b193, S194, K195⟩
  replace h184 := h184.move (K195.a 0)
  replace h6 := h6.move (K195.a 1)
  replace b3 := K195.b 2 b3
  refine ⟨⟨S194.inv, (fun q_ => (fun b_ h_ => (K195.at 2 rfl b_ h_).trans ((hs190.2 (by decide +kernel)) b_ h_)))⟩, fun hs197 => ?_⟩
  obtain ⟨q198, M⟩ := chk M
  have S200 := S194.pulls [F7, F183, (is g192), (is g2)] [1, 2] rfl
  refine xO 21 hc196 ?_
  refine yE 21 52 rfl (e_append (d := st28) (n := x1.tokens_.length) (xs := x1.tokens_) (cap := c5) (A := A4) (ys := [(⟨x8, x1.at_, (i64.wrap (x9 - x1.at_)), x10, x11⟩ : Token)]) (A2 := (some ⟨g192, 0, none⟩)) (c2 := 1) (z := .agg #[.int .i64 0, .int .i64 0, .int .i64 0, .slice none 0 0, .int .i64 0]) (bytes := 56) S200 underlying24 kr rfl (by decide) kr rfl kr h6 (elsO_one1 (st28_mkO (x := (⟨x8, x1.at_, (i64.wrap (x9 - x1.at_)), x10, x11⟩ : Token)) h184)) (.inr (blk_news b193 rfl)) (show (x1.tokens_.length + [(⟨x8, x1.at_, (i64.wrap (x9 - x1.at_)), x10, x11⟩ : Token)].length) * 56 ≤ _ by first | omega | (simp only [List.length_cons, List.length_nil]; omega)) (by decide)) ?_
  rintro hc208 _ w201 ⟨A202, c203, F204, rfl, h205, S206, K207⟩
  replace b3 := K207.b 1 b3
  refine ⟨⟨S206.inv, (fun q_ => (fun b_ h_ => (K207.at 1 rfl b_ h_).trans ((hs197.2 (by decide +kernel)) b_ h_)))⟩, fun hs209 => ?_⟩
  refine xO 22 hc208 ?_
  refine yP 22 53 rfl (fun L_ w_ => by simp only [getD_set_ne true (show (22 : Nat) ≠ 24 by decide)]) hs209 (eN ⟨g2, 0, none⟩) ?_; intro hc210 hs211
  refine xO 23 hc210 ?_
  refine yP 23 54 rfl (fun L_ w_ => by simp only [getD_set_ne true (show (23 : Nat) ≠ 24 by decide)]) hs211 (eD g2 0 2 1 underlying39) ?_; intro hc212 hs213
  have S214 := S206.pulls [(is g2), F204, (is g192)] [2] rfl
  refine xO 24 hc212 ?_
  refine yS 24 rfl (eS g2 (0 + 2) (.slice A202 ((x1.tokens_ ++ [(⟨x8, x1.at_, (i64.wrap (x9 - x1.at_)), x10, x11⟩ : Token)]).length) c203) #[str x1.s_, .int .i64 x1.at_, .slice A202 ((x1.tokens_ ++ [(⟨x8, x1.at_, (i64.wrap (x9 - x1.at_)), x10, x11⟩ : Token)]).length) c203, .int .i64 x1.code_, .int .i64 x1.place_] [.slice A202 ((x1.tokens_ ++ [(⟨x8, x1.at_, (i64.wrap (x9 - x1.at_)), x10, x11⟩ : Token)]).length) c203] S214 b3) ?_
  rintro hc219 w215 ⟨b216, S217, K218⟩
  replace h205 := h205.move (K218.a 0)
  refine ⟨⟨S217.inv, (fun q_ => absurd q_ (by decide +kernel))⟩, fun hs220 => ?_⟩
  clear b3
  refine xn kr ?_ _
  refine tN (wR (lP 4 ?_))
  refine lE (eS g2 (0 + 1) (.int .i64 x9) #[str x1.s_, .int .i64 x9, .slice A202 ((x1.tokens_ ++ [(⟨x8, x1.at_, (i64.wrap (x9 - x1.at_)), x10, x11⟩ : Token)]).length) c203, .int .i64 x1.code_, .int .i64 x1.place_] [.int .i64 x9] S217 b216) ?_
  rintro w221 ⟨b222, S223, K224⟩
  replace h205 := h205.move (K224.a 0)
  clear b216
  refine wN ?_
  obtain rfl := sj M
  have S226 := S223.pulls [(is g2), F204, (is g192)] [1, 1] rfl
  have S227 := St.first (Fa := [(is g2), F204]) (Fr := [(is g192)]) S226
  exact end0 rfl ⟨A202, c203, F204, H, rfl, h205, b222, S227⟩
 refine lP1 4 16 (bF q120) ?_
 obtain ⟨q228, M⟩ | ⟨q228, M⟩ := ifd M
 ·refine lP1 4 20 (bF q228) (wN (tN (cond_f rfl kr (wK (tN (wQ ?_))))))
  refine region_mix (S := (fun (L_ : Array Bool) (w_ : World) => Ext H (hp w_) ∧ (L_.getD 24 true = false → (∀ b_, (is g2) b_ → hp w_ b_ = hp w b_)))) kr S0_ ?_
  intro w336 S337 K338 hc339
  have o340 := b3
  have hs341 : (fun (L_ : Array Bool) (w_ : World) => Ext H (hp w_) ∧ (L_.getD 24 true = false → (∀ b_, (is g2) b_ → hp w_ b_ = hp w b_))) (Array.replicate 25 false) w336 := ⟨S337.inv, (fun _ => (fun b_ h_ => K338.at 1 rfl b_ h_))⟩
  replace h6 := h6.move (K338.a 0)
  replace b3 := K338.b 1 b3
  refine xW 0 31 rfl (fun L_ w_ => by simp only [getD_set_ne true (show (0 : Nat) ≠ 24 by decide)]) hc339 hs341 (fun L_ w_ hc_ hu_ hs_ => eM (.pointer (some ⟨g2, 0, none⟩))) ?_; intro hc342 hs343
  refine xW 1 32 rfl (fun L_ w_ => by simp only [getD_set_ne true (show (1 : Nat) ≠ 24 by decide)]) hc342 hs343 (fun L_ w_ hc_ hu_ hs_ => eM (.pointer (some ⟨g2, 0, none⟩))) ?_; intro hc344 hs345
  refine xW 2 33 rfl (fun L_ w_ => by simp only [getD_set_ne true (show (2 : Nat) ≠ 24 by decide)]) hc344 hs345 (fun L_ w_ hc_ hu_ hs_ => eN ⟨g2, 0, none⟩) ?_; intro hc346 hs347
  refine xW 3 34 rfl (fun L_ w_ => by simp only [getD_set_ne true (show (3 : Nat) ≠ 24 by decide)]) hc346 hs347 (fun L_ w_ hc_ hu_ hs_ => eD g2 0 2 1 underlying39) ?_; intro hc348 hs349
  refine xW 4 35 rfl (fun L_ w_ => by simp only [getD_set_ne true (show (4 : Nat) ≠ 24 by decide)]) hc348 hs349 (fun L_ w_ hc_ hu_ hs_ => eB 2 (((hs_.2 (unl 9 24 4 hc_ hu_ kr)) _ rfl).trans o340)) ?_; intro hc350 hs351
  refine xW 5 36 rfl (fun L_ w_ => by simp only [getD_set_ne true (show (5 : Nat) ≠ 24 by decide)]) hc350 hs351 (fun L_ w_ hc_ hu_ hs_ => eM (.int .i64 x8)) ?_; intro hc352 hs353
  refine xW 6 37 rfl (fun L_ w_ => by simp only [getD_set_ne true (show (6 : Nat) ≠ 24 by decide)]) hc352 hs353 (fun L_ w_ hc_ hu_ hs_ => eM (.pointer (some ⟨g2, 0, none⟩))) ?_; intro hc354 hs355
  refine xW 7 38 rfl (fun L_ w_ => by simp only [getD_set_ne true (show (7 : Nat) ≠ 24 by decide)]) hc354 hs355 (fun L_ w_ hc_ hu_ hs_ => eN ⟨g2, 0, none⟩) ?_; intro hc356 hs357
  refine xW 8 39 rfl (fun L_ w_ => by simp only [getD_set_ne true (show (8 : Nat) ≠ 24 by decide)]) hc356 hs357 (fun L_ w_ hc_ hu_ hs_ => eD g2 0 1 1 underlying39) ?_; intro hc358 hs359
  refine xW 9 40 rfl (fun L_ w_ => by simp only [getD_set_ne true (show (9 : Nat) ≠ 24 by decide)]) hc358 hs359 (fun L_ w_ hc_ hu_ hs_ => eB 1 (((hs_.2 (unl 9 24 9 hc_ hu_ kr)) _ rfl).trans o340)) ?_; intro hc360 hs361
  refine xW 10 41 rfl (fun L_ w_ => by simp only [getD_set_ne true (show (10 : Nat) ≠ 24 by decide)]) hc360 hs361 (fun L_ w_ hc_ hu_ hs_ => eM (.int .i64 x9)) ?_; intro hc362 hs363
  refine xW 11 42 rfl (fun L_ w_ => by simp only [getD_set_ne true (show (11 : Nat) ≠ 24 by decide)]) hc362 hs363 (fun L_ w_ hc_ hu_ hs_ => eM (.pointer (some ⟨g2, 0, none⟩))) ?_; intro hc364 hs365
  refine xW 12 43 rfl (fun L_ w_ => by simp only [getD_set_ne true (show (12 : Nat) ≠ 24 by decide)]) hc364 hs365 (fun L_ w_ hc_ hu_ hs_ => eN ⟨g2, 0, none⟩) ?_; intro hc366 hs367
  refine xW 13 44 rfl (fun L_ w_ => by simp only [getD_set_ne true (show (13 : Nat) ≠ 24 by decide)]) hc366 hs367 (fun L_ w_ hc_ hu_ hs_ => eD g2 0 1 1 underlying39) ?_; intro hc368 hs369
  refine xW 14 45 rfl (fun L_ w_ => by simp only [getD_set_ne true (show (14 : Nat) ≠ 24 by decide)]) hc368 hs369 (fun L_ w_ hc_ hu_ hs_ => eB 1 (((hs_.2 (unl 9 24 14 hc_ hu_ kr)) _ rfl).trans o340)) ?_; intro hc370 hs371
  refine xW 15 46 rfl (fun L_ w_ => by simp only [getD_set_ne true (show (15 : Nat) ≠ 24 by decide)]) hc370 hs371 (fun L_ w_ hc_ hu_ hs_ => e_sub (k := .i64) (a := x9) (b := x1.at_) kr kr) ?_; intro hc372 hs373
  refine xW 16 47 rfl (fun L_ w_ => by simp only [getD_set_ne true (show (16 : Nat) ≠ 24 by decide)]) hc372 hs373 (fun L_ w_ hc_ hu_ hs_ => eM (str x10)) ?_; intro hc374 hs375
  refine xW 18 49 rfl (fun L_ w_ => by simp only [getD_set_ne true (show (18 : Nat) ≠ 24 by decide)]) hc374 hs375 (fun L_ w_ hc_ hu_ hs_ => eM (.int .i64 x11)) ?_; intro hc376 hs377
  obtain ⟨q378, M⟩ := chk M
  refine xO 17 hc376 ?_
  refine yE 17 48 rfl (e_conv_sb (xs := x10) S337 underlying9 underlying22 underlying5 kr q378) ?_
  rintro hc386 _ w379 ⟨A380, c381, F382, rfl, h383, S384, K385⟩
  replace h6 := h6.move (K385.a 0)
  replace b3 := K385.b 1 b3
  refine ⟨⟨S384.inv, (fun q_ => (fun b_ h_ => (K385.at 1 rfl b_ h_).trans ((hs377.2 (by decide +kernel)) b_ h_)))⟩, fun hs387 => ?_⟩
  refine xO 19 hc386 ?_
  refine yP 19 50 rfl (fun L_ w_ => by simp only [getD_set_ne true (show (19 : Nat) ≠ 24 by decide)]) hs387 (show _ = Result.ok (Next.value (.agg #[.int .i64 x8, .int .i64 x1.at_, .int .i64 (i64.wrap (x9 - x1.at_)), .slice A380 x10.length c381, .int .i64 x11])) w379 from by kernel_rfl) ?_; intro hc388 hs389
  refine xO 20 hc388 ?_
  refine yE 20 51 rfl (new_blk (v := fun g_ => .slice (some ⟨g_, 0, none⟩) 1 1) (cs := #[.int .i64 x8, .int .i64 x1.at_, .int .i64 (i64.wrap (x9 - x1.at_)), .slice A380 x10.length c381, .int .i64 x11]) (t := 28) S384 kr) ?_
  rintro hc395 _ w390 ⟨g391, rfl, b392, S393, K394⟩
  replace h383 := h383.move (K394.a 0)
  replace h6 := h6.move (K394.a 1)
  replace b3 := K394.b 2 b3
  refine ⟨⟨S393.inv, (fun q_ => (fun b_ h_ => (K394.at 2 rfl b_ h_).trans ((hs389.2 (by decide +kernel)) b_ h_)))⟩, fun hs396 => ?_⟩
  obtain ⟨q397, M⟩ := chk M
  have S399 := S393.pulls [F7, F382, (is g391), (is g2)] [1, 2] rfl
  refine xO 21 hc395 ?_
  refine yE 21 52 rfl (e_append (d := st28) (n := x1.tokens_.length) (xs := x1.tokens_) (cap := c5) (A := A4) (ys := [(⟨x8, x1.at_, (i64.wrap (x9 - x1.at_)), x10, x11⟩ : Token)]) (A2 := (some ⟨g391, 0, none⟩)) (c2 := 1) (z := .agg #[.int .i64 0, .int .i64 0, .int .i64 0, .slice none 0 0, .int .i64 0]) (bytes := 56) S399 underlying24 kr rfl (by decide) kr rfl kr h6 (elsO_one1 (st28_mkO (x := (⟨x8, x1.at_, (i64.wrap (x9 - x1.at_)), x10, x11⟩ : Token)) h383)) (.inr (blk_news b392 rfl)) (show (x1.tokens_.length + [(⟨x8, x1.at_, (i64.wrap (x9 - x1.at_)), x10, x11⟩ : Token)].length) * 56 ≤ _ by first | omega | (simp only [List.length_cons, List.length_nil]; omega)) (by decide)) ?_
  rintro hc407 _ w400 ⟨A401, c402, F403, rfl, h404, S405, K406⟩
  replace b3 := K406.b 1 b3
  refine ⟨⟨S405.inv, (fun q_ => (fun b_ h_ => (K406.at 1 rfl b_ h_).trans ((hs396.2 (by decide +kernel)) b_ h_)))⟩, fun hs408 => ?_⟩
  refine xO 22 hc407 ?_
  refine yP 22 53 rfl (fun L_ w_ => by simp only [getD_set_ne true (show (22 : Nat) ≠ 24 by decide)]) hs408 (eN ⟨g2, 0, none⟩) ?_; intro hc409 hs410
  refine xO 23 hc409 ?_
  refine yP 23 54 rfl (fun L_ w_ => by simp only [getD_set_ne true (show (23 : Nat) ≠ 24 by decide)]) hs410 (eD g2 0 2 1 underlying39) ?_; intro hc411 hs412
  have S413 := S405.pulls [(is g2), F403, (is g391)] [2] rfl
  refine xO 24 hc411 ?_
  refine yS 24 rfl (eS g2 (0 + 2) (.slice A401 ((x1.tokens_ ++ [(⟨x8, x1.at_, (i64.wrap (x9 - x1.at_)), x10, x11⟩ : Token)]).length) c402) #[str x1.s_, .int .i64 x1.at_, .slice A401 ((x1.tokens_ ++ [(⟨x8, x1.at_, (i64.wrap (x9 - x1.at_)), x10, x11⟩ : Token)]).length) c402, .int .i64 x1.code_, .int .i64 x1.place_] [.slice A401 ((x1.tokens_ ++ [(⟨x8, x1.at_, (i64.wrap (x9 - x1.at_)), x10, x11⟩ : Token)]).length) c402] S413 b3) ?_
  rintro hc418 w414 ⟨b415, S416, K417⟩
  replace h404 := h404.move (K417.a 0)
  refine ⟨⟨S416.inv, (fun q_ => absurd q_ (by decide +kernel))⟩, fun hs419 => ?_⟩
  clear b3
  refine xn kr ?_ _
  refine tN (wR (lP 4 ?_))
  refine lE (eS g2 (0 + 1) (.int .i64 x9) #[str x1.s_, .int .i64 x9, .slice A401 ((x1.tokens_ ++ [(⟨x8, x1.at_, (i64.wrap (x9 - x1.at_)), x10, x11⟩ : Token)]).length) c402, .int .i64 x1.code_, .int .i64 x1.place_] [.int .i64 x9] S416 b415) ?_
  rintro w420 ⟨b421, S422, K423⟩
  replace h404 := h404.move (K423.a 0)
  clear b415
  refine wN ?_
  obtain rfl := sj M
  have S425 := S422.pulls [(is g2), F403, (is g391)] [1, 1] rfl
  have S426 := St.first (Fa := [(is g2), F403]) (Fr := [(is g391)]) S425
  exact end0 rfl ⟨A401, c402, F403, H, rfl, h404, b421, S426⟩
 refine lP1 1 20 (bT q228) (lG 22 20 (bT q228) (e_slen (p := x10) underlying9 kr) (lP1 2 20 (bT q228) (wN (tN ?_))))
 obtain ⟨q229, M⟩ | ⟨q229, M⟩ := ifc M
 ·refine cT (bT q229) (wQ (wR (lP 4 (lV 29 (eB 1 b3) ?_))))
  have S231 := S0_.pulls [F7, (is g2)] [1, 1] rfl
  obtain ⟨t232, u233, M⟩ := bnd M
  refine lC 30 (eE func38) (impl_lexer_fault.calls x1 h6 b3 (St.own' (Fa := [F7, (is g2)]) (Fr := []) S231) u233) ?_
  rintro _ w234 ⟨A237, c238, F240, H235, rfl, h239, b241, T236⟩
  refine ⟨_, rfl, ?_⟩
  obtain ⟨S242, K243⟩ := St.call (Fa := [F7, (is g2)]) (Fr := []) S231 T236
  have E244 := T236.ext
  refine wN (tN (wT (tR ?_)))
  obtain rfl := sj M
  exact Go.Sy.ret0 rfl ⟨A237, c238, F240, H235, rfl, h239, b241, S242⟩
 refine cF (bF q229) (wK (tN (wQ ?_)))
 refine region_mix (S := (fun (L_ : Array Bool) (w_ : World) => Ext H (hp w_) ∧ (L_.getD 24 true = false → (∀ b_, (is g2) b_ → hp w_ b_ = hp w b_)))) kr S0_ ?_
 intro w245 S246 K247 hc248
 have o249 := b3
 have hs250 : (fun (L_ : Array Bool) (w_ : World) => Ext H (hp w_) ∧ (L_.getD 24 true = false → (∀ b_, (is g2) b_ → hp w_ b_ = hp w b_))) (Array.replicate 25 false) w245 := ⟨S246.inv, (fun _ => (fun b_ h_ => K247.at 1 rfl b_ h_))⟩
 replace h6 := h6.move (K247.a 0)
 replace b3 := K247.b 1 b3
 refine xW 0 31 rfl (fun L_ w_ => by simp only [getD_set_ne true (show (0 : Nat) ≠ 24 by decide)]) hc248 hs250 (fun L_ w_ hc_ hu_ hs_ => eM (.pointer (some ⟨g2, 0, none⟩))) ?_; intro hc251 hs252
 refine xW 1 32 rfl (fun L_ w_ => by simp only [getD_set_ne true (show (1 : Nat) ≠ 24 by decide)]) hc251 hs252 (fun L_ w_ hc_ hu_ hs_ => eM (.pointer (some ⟨g2, 0, none⟩))) ?_; intro hc253 hs254
 refine xW 2 33 rfl (fun L_ w_ => by simp only [getD_set_ne true (show (2 : Nat) ≠ 24 by decide)]) hc253 hs254 (fun L_ w_ hc_ hu_ hs_ => eN ⟨g2, 0, none⟩) ?_; intro hc255 hs256
 refine xW 3 34 rfl (fun L_ w_ => by simp only [getD_set_ne true (show (3 : Nat) ≠ 24 by decide)]) hc255 hs256 (fun L_ w_ hc_ hu_ hs_ => eD g2 0 2 1 underlying39) ?_; intro hc257 hs258
 refine xW 4 35 rfl (fun L_ w_ => by simp only [getD_set_ne true (show (4 : Nat) ≠ 24 by decide)]) hc257 hs258 (fun L_ w_ hc_ hu_ hs_ => eB 2 (((hs_.2 (unl 9 24 4 hc_ hu_ kr)) _ rfl).trans o249)) ?_; intro hc259 hs260
 refine xW 5 36 rfl (fun L_ w_ => by simp only [getD_set_ne true (show (5 : Nat) ≠ 24 by decide)]) hc259 hs260 (fun L_ w_ hc_ hu_ hs_ => eM (.int .i64 x8)) ?_; intro hc261 hs262
 refine xW 6 37 rfl (fun L_ w_ => by simp only [getD_set_ne true (show (6 : Nat) ≠ 24 by decide)]) hc261 hs262 (fun L_ w_ hc_ hu_ hs_ => eM (.pointer (some ⟨g2, 0, none⟩))) ?_; intro hc263 hs264
 refine xW 7 38 rfl (fun L_ w_ => by simp only [getD_set_ne true (show (7 : Nat) ≠ 24 by decide)]) hc263 hs264 (fun L_ w_ hc_ hu_ hs_ => eN ⟨g2, 0, none⟩) ?_; intro hc265 hs266
 refine xW 8 39 rfl (fun L_ w_ => by simp only [getD_set_ne true (show (8 : Nat) ≠ 24 by decide)]) hc265 hs266 (fun L_ w_ hc_ hu_ hs_ => eD g2 0 1 1 underlying39) ?_; intro hc267 hs268
 refine xW 9 40 rfl (fun L_ w_ => by simp only [getD_set_ne true (show (9 : Nat) ≠ 24 by decide)]) hc267 hs268 (fun L_ w_ hc_ hu_ hs_ => eB 1 (((hs_.2 (unl 9 24 9 hc_ hu_ kr)) _ rfl).trans o249)) ?_; intro hc269 hs270
 refine xW 10 41 rfl (fun L_ w_ => by simp only [getD_set_ne true (show (10 : Nat) ≠ 24 by decide)]) hc269 hs270 (fun L_ w_ hc_ hu_ hs_ => eM (.int .i64 x9)) ?_; intro hc271 hs272
 refine xW 11 42 rfl (fun L_ w_ => by simp only [getD_set_ne true (show (11 : Nat) ≠ 24 by decide)]) hc271 hs272 (fun L_ w_ hc_ hu_ hs_ => eM (.pointer (some ⟨g2, 0, none⟩))) ?_; intro hc273 hs274
 refine xW 12 43 rfl (fun L_ w_ => by simp only [getD_set_ne true (show (12 : Nat) ≠ 24 by decide)]) hc273 hs274 (fun L_ w_ hc_ hu_ hs_ => eN ⟨g2, 0, none⟩) ?_; intro hc275 hs276
 refine xW 13 44 rfl (fun L_ w_ => by simp only [getD_set_ne true (show (13 : Nat) ≠ 24 by decide)]) hc275 hs276 (fun L_ w_ hc_ hu_ hs_ => eD g2 0 1 1 underlying39) ?_; intro hc277 hs278
 refine xW 14 45 rfl (fun L_ w_ => by simp only [getD_set_ne true (show (14 : Nat) ≠ 24 by decide)]) hc277 hs278 (fun L_ w_ hc_ hu_ hs_ => eB 1 (((hs_.2 (unl 9 24 14 hc_ hu_ kr)) _ rfl).trans o249)) ?_; intro hc279 hs280
 refine xW 15 46 rfl (fun L_ w_ => by simp only [getD_set_ne true (show (15 : Nat) ≠ 24 by decide)]) hc279 hs280 (fun L_ w_ hc_ hu_ hs_ => e_sub (k := .i64) (a := x9) (b := x1.at_) kr kr) ?_; intro hc281 hs282
 refine xW 16 47 rfl (fun L_ w_ => by simp only [getD_set_ne true (show (16 : Nat) ≠ 24 by decide)]) hc281 hs282 (fun L_ w_ hc_ hu_ hs_ => eM (str x10)) ?_; intro hc283 hs284
 refine xW 18 49 rfl (fun L_ w_ => by simp only [getD_set_ne true (show (18 : Nat) ≠ 24 by decide)]) hc283 hs284 (fun L_ w_ hc_ hu_ hs_ => eM (.int .i64 x11)) ?_; intro hc285 hs286
 obtain ⟨q287, M⟩ := chk M
 refine xO 17 hc285 ?_
 refine yE 17 48 rfl (e_conv_sb (xs := x10) S246 underlying9 underlying22 underlying5 kr q287) ?_
 rintro hc295 _ w288 ⟨A289, c290, F291, rfl, h292, S293, K294⟩
 replace h6 := h6.move (K294.a 0)
 replace b3 := K294.b 1 b3
 refine ⟨⟨S293.inv, (fun q_ => (fun b_ h_ => (K294.at 1 rfl b_ h_).trans ((hs286.2 (by decide +kernel)) b_ h_)))⟩, fun hs296 => ?_⟩
 refine xO 19 hc295 ?_
 refine yP 19 50 rfl (fun L_ w_ => by simp only [getD_set_ne true (show (19 : Nat) ≠ 24 by decide)]) hs296 (show _ = Result.ok (Next.value (.agg #[.int .i64 x8, .int .i64 x1.at_, .int .i64 (i64.wrap (x9 - x1.at_)), .slice A289 x10.length c290, .int .i64 x11])) w288 from by kernel_rfl) ?_; intro hc297 hs298
 refine xO 20 hc297 ?_
 refine yE 20 51 rfl (new_blk (v := fun g_ => .slice (some ⟨g_, 0, none⟩) 1 1) (cs := #[.int .i64 x8, .int .i64 x1.at_, .int .i64 (i64.wrap (x9 - x1.at_)), .slice A289 x10.length c290, .int .i64 x11]) (t := 28) S293 kr) ?_
 rintro hc304 _ w299 ⟨g300, rfl, b301, S302, K303⟩
 replace h292 := h292.move (K303.a 0)
 replace h6 := h6.move (K303.a 1)
 replace b3 := K303.b 2 b3
 refine ⟨⟨S302.inv, (fun q_ => (fun b_ h_ => (K303.at 2 rfl b_ h_).trans ((hs298.2 (by decide +kernel)) b_ h_)))⟩, fun hs305 => ?_⟩
 obtain ⟨q306, M⟩ := chk M
 have S308 := S302.pulls [F7, F291, (is g300), (is g2)] [1, 2] rfl
 refine xO 21 hc304 ?_
 refine yE 21 52 rfl (e_append (d := st28) (n := x1.tokens_.length) (xs := x1.tokens_) (cap := c5) (A := A4) (ys := [(⟨x8, x1.at_, (i64.wrap (x9 - x1.at_)), x10, x11⟩ : Token)]) (A2 := (some ⟨g300, 0, none⟩)) (c2 := 1) (z := .agg #[.int .i64 0, .int .i64 0, .int .i64 0, .slice none 0 0, .int .i64 0]) (bytes := 56) S308 underlying24 kr rfl (by decide) kr rfl kr h6 (elsO_one1 (st28_mkO (x := (⟨x8, x1.at_, (i64.wrap (x9 - x1.at_)), x10, x11⟩ : Token)) h292)) (.inr (blk_news b301 rfl)) (show (x1.tokens_.length + [(⟨x8, x1.at_, (i64.wrap (x9 - x1.at_)), x10, x11⟩ : Token)].length) * 56 ≤ _ by first | omega | (simp only [List.length_cons, List.length_nil]; omega)) (by decide)) ?_
 rintro hc316 _ w309 ⟨A310, c311, F312, rfl, h313, S314, K315⟩
 replace b3 := K315.b 1 b3
 refine ⟨⟨S314.inv, (fun q_ => (fun b_ h_ => (K315.at 1 rfl b_ h_).trans ((hs305.2 (by decide +kernel)) b_ h_)))⟩, fun hs317 => ?_⟩
 refine xO 22 hc316 ?_
 refine yP 22 53 rfl (fun L_ w_ => by simp only [getD_set_ne true (show (22 : Nat) ≠ 24 by decide)]) hs317 (eN ⟨g2, 0, none⟩) ?_; intro hc318 hs319
 refine xO 23 hc318 ?_
 refine yP 23 54 rfl (fun L_ w_ => by simp only [getD_set_ne true (show (23 : Nat) ≠ 24 by decide)]) hs319 (eD g2 0 2 1 underlying39) ?_; intro hc320 hs321
 have S322 := S314.pulls [(is g2), F312, (is g300)] [2] rfl
 refine xO 24 hc320 ?_
 refine yS 24 rfl (eS g2 (0 + 2) (.slice A310 ((x1.tokens_ ++ [(⟨x8, x1.at_, (i64.wrap (x9 - x1.at_)), x10, x11⟩ : Token)]).length) c311) #[str x1.s_, .int .i64 x1.at_, .slice A310 ((x1.tokens_ ++ [(⟨x8, x1.at_, (i64.wrap (x9 - x1.at_)), x10, x11⟩ : Token)]).length) c311, .int .i64 x1.code_, .int .i64 x1.place_] [.slice A310 ((x1.tokens_ ++ [(⟨x8, x1.at_, (i64.wrap (x9 - x1.at_)), x10, x11⟩ : Token)]).length) c311] S322 b3) ?_
 rintro hc327 w323 ⟨b324, S325, K326⟩
 replace h313 := h313.move (K326.a 0)
 refine ⟨⟨S325.inv, (fun q_ => absurd q_ (by decide +kernel))⟩, fun hs328 => ?_⟩
 clear b3
 refine xn kr ?_ _
 refine tN (wR (lP 4 ?_))
 refine lE (eS g2 (0 + 1) (.int .i64 x9) #[str x1.s_, .int .i64 x9, .slice A310 ((x1.tokens_ ++ [(⟨x8, x1.at_, (i64.wrap (x9 - x1.at_)), x10, x11⟩ : Token)]).length) c311, .int .i64 x1.code_, .int .i64 x1.place_] [.int .i64 x9] S325 b324) ?_
 rintro w329 ⟨b330, S331, K332⟩
 replace h313 := h313.move (K332.a 0)
 clear b324
 refine wN ?_
 obtain rfl := sj M
 have S334 := S331.pulls [(is g2), F312, (is g300)] [1, 1] rfl
 have S335 := St.first (Fa := [(is g2), F312]) (Fr := [(is g300)]) S334
 exact end0 rfl ⟨A310, c311, F312, H, rfl, h313, b330, S335⟩
def impl_lexer_run.l0 : Nat → GLexer → Int → Int → Option GLexer
 | 0, _, _, _ => none
 | k17 + 1, x1, x8, x11 => (if x11 < (x1.s_.length : Int) then (if 0 ≤ x11 then ((impl_isAlnum.f (x1.s_.getD (x11 : Int).toNat (0 : UInt8))).bind fun t20 => (if t20 = true then (impl_lexer_run.l0 k17 x1 x8 (i64.wrap (x11 + 1))) else (if 0 ≤ x1.at_ then (if x1.at_ ≤ x11 then (if x11 ≤ (x1.s_.length : Int) then ((impl_lexer_put.f x1 x8 x11 ((x1.s_.drop (x1.at_ : Int).toNat).take ((x11 : Int).toNat - (x1.at_ : Int).toNat)) 0).bind fun t64 => some t64) else none) else none) else none))) else none) else (if 0 ≤ x1.at_ then (if x1.at_ ≤ x11 then (if x11 ≤ (x1.s_.length : Int) then ((impl_lexer_put.f x1 x8 x11 ((x1.s_.drop (x1.at_ : Int).toNat).take ((x11 : Int).toNat - (x1.at_ : Int).toNat)) 0).bind fun t116 => some t116) else none) else none) else none))
def impl_lexer_run.f (k : Nat) (x1 : GLexer) (x8 : Int) : Option GLexer := (impl_lexer_run.l0 k x1 x8 x1.at_)
theorem impl_lexer_run.calls {k : Nat} {w : World} {H : Hp} (x1 : GLexer) {g2 : Nat} {A4 : Option Addr} {c5 : Nat} {F7 : Foot} {x8 : Int} (h6 : Row st28 28 H (hp w) F7 A4 c5 x1.tokens_) (b3 : w.heap[g2]? = some (.cells #[str x1.s_, .int .i64 x1.at_, .slice A4 x1.tokens_.length c5, .int .i64 x1.code_, .int .i64 x1.place_] 39 (0, 0))) (S : Own [F7, (is g2)] H w) {r : GLexer} (M : impl_lexer_run.f k x1 x8 = some r) :
  Calls Tryz.prog 40 #[.pointer (some ⟨g2, 0, none⟩), .int .i64 x8, .func (.func 41) #[] #[]] w (fun e e_w => ∃ (A_1 : Option Addr) (c_1 : Nat) (F_1 : Foot) (H_ : Hp), e = .returned (.tuple #[]) ∧ Row st28 28 H_ (hp e_w) F_1 A_1 c_1 r.tokens_ ∧ e_w.heap[g2]? = some (.cells #[str r.s_, .int .i64 r.at_, .slice A_1 r.tokens_.length c_1, .int .i64 r.code_, .int .i64 r.place_] 39 (0, 0)) ∧ St (anyOf [F7, (is g2)]) H w [(is g2), F_1] H_ e_w) := by
 rw [impl_lexer_run.f] at M
 refine enter (l := [.pointer (some ⟨g2, 0, none⟩), .int .i64 x8, .func (.func 41) #[] #[]]) 44 func40 rfl rfl rfl ?_
 have S0_ := S.st
 refine wQ (wR (lP 3 (lV 10 (eB 1 b3) (lP 1 (wN (tN (wQ (wp_block ?_))))))))
 refine wp_loop_g (fun k15 a16 w9 => ∃ (f10 : Nat → Value) (x11 : Int), a16 = mk 44 (upd (upd (upd (upd f10 0 (.pointer (some ⟨g2, 0, none⟩))) 1 (.int .i64 x8)) 2 (.func (.func 41) #[] #[])) 6 (.int .i64 x11)) ∧ Row st28 28 H (hp w9) F7 A4 c5 x1.tokens_ ∧ w9.heap[g2]? = some (.cells #[str x1.s_, .int .i64 x1.at_, .slice A4 x1.tokens_.length c5, .int .i64 x1.code_, .int .i64 x1.place_] 39 (0, 0)) ∧ St (anyOf [F7, (is g2)]) H w [F7, (is g2)] H w9 ∧ impl_lexer_run.l0 k15 x1 x8 x11 = some r) k ⟨_, x1.at_, (hdw (hdc (hdc (hdc (hdc rfl kr) kr) kr) kr)), h6, b3, S0_, M⟩ ?_
 clear M
 rintro k15 a16 w9 ⟨f10, x11, rfl, h6, b3, S12, M⟩
 rcases k15 with _ | k17
 ·rw [impl_lexer_run.l0] at M
  cases M
 rw [impl_lexer_run.l0] at M
 refine wQ (wQ (wR (lP 4 (lV 15 (eB 0 b3) (lV 16 (e_slen (p := x1.s_) underlying9 kr) (lP 2 ?_))))))
 obtain ⟨q18, M⟩ | ⟨q18, M⟩ := ifd M
 ·refine lP1 9 18 (bF q18) (wN (tN (cond_f rfl kr (wp_exit (tE (tE (inb_hit (tN ?_))))))))
  refine region_mix (S := (fun (L_ : Array Bool) (w_ : World) => Ext H (hp w_) ∧ (L_.getD 13 true = false → (∀ b_, (is g2) b_ → hp w_ b_ = hp w9 b_)))) kr S12 ?_
  intro w79 S80 K81 hc82
  have o83 := b3
  have hs84 : (fun (L_ : Array Bool) (w_ : World) => Ext H (hp w_) ∧ (L_.getD 13 true = false → (∀ b_, (is g2) b_ → hp w_ b_ = hp w9 b_))) (Array.replicate 14 false) w79 := ⟨S80.inv, (fun _ => (fun b_ h_ => K81.at 1 rfl b_ h_))⟩
  replace h6 := h6.move (K81.a 0)
  replace b3 := K81.b 1 b3
  refine xW 0 30 rfl (fun L_ w_ => by simp only [getD_set_ne true (show (0 : Nat) ≠ 13 by decide)]) hc82 hs84 (fun L_ w_ hc_ hu_ hs_ => eM (.pointer (some ⟨g2, 0, none⟩))) ?_; intro hc85 hs86
  refine xW 1 31 rfl (fun L_ w_ => by simp only [getD_set_ne true (show (1 : Nat) ≠ 13 by decide)]) hc85 hs86 (fun L_ w_ hc_ hu_ hs_ => eM (.int .i64 x8)) ?_; intro hc87 hs88
  refine xW 2 32 rfl (fun L_ w_ => by simp only [getD_set_ne true (show (2 : Nat) ≠ 13 by decide)]) hc87 hs88 (fun L_ w_ hc_ hu_ hs_ => eM (.int .i64 x11)) ?_; intro hc89 hs90
  refine xW 3 33 rfl (fun L_ w_ => by simp only [getD_set_ne true (show (3 : Nat) ≠ 13 by decide)]) hc89 hs90 (fun L_ w_ hc_ hu_ hs_ => eM (.pointer (some ⟨g2, 0, none⟩))) ?_; intro hc91 hs92
  refine xW 4 34 rfl (fun L_ w_ => by simp only [getD_set_ne true (show (4 : Nat) ≠ 13 by decide)]) hc91 hs92 (fun L_ w_ hc_ hu_ hs_ => eN ⟨g2, 0, none⟩) ?_; intro hc93 hs94
  refine xW 5 35 rfl (fun L_ w_ => by simp only [getD_set_ne true (show (5 : Nat) ≠ 13 by decide)]) hc93 hs94 (fun L_ w_ hc_ hu_ hs_ => eD g2 0 0 1 underlying39) ?_; intro hc95 hs96
  refine xW 6 36 rfl (fun L_ w_ => by simp only [getD_set_ne true (show (6 : Nat) ≠ 13 by decide)]) hc95 hs96 (fun L_ w_ hc_ hu_ hs_ => eB 0 (((hs_.2 (unl 9 13 6 hc_ hu_ kr)) _ rfl).trans o83)) ?_; intro hc97 hs98
  refine xW 7 37 rfl (fun L_ w_ => by simp only [getD_set_ne true (show (7 : Nat) ≠ 13 by decide)]) hc97 hs98 (fun L_ w_ hc_ hu_ hs_ => eM (.pointer (some ⟨g2, 0, none⟩))) ?_; intro hc99 hs100
  refine xW 8 38 rfl (fun L_ w_ => by simp only [getD_set_ne true (show (8 : Nat) ≠ 13 by decide)]) hc99 hs100 (fun L_ w_ hc_ hu_ hs_ => eN ⟨g2, 0, none⟩) ?_; intro hc101 hs102
  refine xW 9 39 rfl (fun L_ w_ => by simp only [getD_set_ne true (show (9 : Nat) ≠ 13 by decide)]) hc101 hs102 (fun L_ w_ hc_ hu_ hs_ => eD g2 0 1 1 underlying39) ?_; intro hc103 hs104
  refine xW 10 40 rfl (fun L_ w_ => by simp only [getD_set_ne true (show (10 : Nat) ≠ 13 by decide)]) hc103 hs104 (fun L_ w_ hc_ hu_ hs_ => eB 1 (((hs_.2 (unl 9 13 10 hc_ hu_ kr)) _ rfl).trans o83)) ?_; intro hc105 hs106
  refine xO 11 hc105 ?_
  refine yP 11 41 rfl (fun L_ w_ => by simp only [getD_set_ne true (show (11 : Nat) ≠ 13 by decide)]) hs106 (eM (.int .i64 x11)) ?_; intro hc107 hs108
  obtain ⟨q109, M⟩ := chk M
  obtain ⟨q110, M⟩ := chk M
  obtain ⟨q111, M⟩ := chk M
  refine xO 12 hc107 ?_
  refine yP 12 42 rfl (fun L_ w_ => by simp only [getD_set_ne true (show (12 : Nat) ≠ 13 by decide)]) hs108 (e_sslice_lh (p := x1.s_) (a := x1.at_) (b := x11) (k := .i64) (k2 := .i64) underlying9 kr kr kr q109 q110 q111) ?_; intro hc112 hs113
  have S115 := S80.pulls [F7, (is g2)] [1, 1] rfl
  obtain ⟨t116, u117, M⟩ := bnd M
  refine xO 13 hc112 ?_
  refine yC 13 rfl (eE func45) (impl_lexer_put.calls x1 h6 b3 (St.own' (Fa := [F7, (is g2)]) (Fr := []) S115) u117) ?_
  rintro hc126 _ w118 ⟨A121, c122, F124, H119, rfl, h123, b125, T120⟩
  refine ⟨_, rfl, ?_⟩
  obtain ⟨S127, K128⟩ := St.call (Fa := [F7, (is g2)]) (Fr := []) S115 T120
  have E129 := T120.ext
  refine ⟨⟨(Ext.trans E129 S127.inv), (fun q_ => absurd q_ (by decide +kernel))⟩, fun hs130 => ?_⟩
  refine xn kr ?_ _
  obtain rfl := sj M
  exact end0 rfl ⟨A121, c122, F124, H119, rfl, h123, b125, S127⟩
 refine lP1 4 18 (bT q18) (lG 23 18 (bT q18) (eB 0 b3) (lP1 1 18 (bT q18) ?_))
 obtain ⟨q19, M⟩ := chk M
 refine lG 25 18 (bT q18) (e_sindex (p := x1.s_) (i := x11) (k := .i64) underlying9 kr kr q19 q18) ?_
 obtain ⟨t20, u21, M⟩ := bnd M
 refine lcallg (d := 26) (t := 18) rfl kr rfl (bT q18) rfl kr (e_callv (l := [.tmp 25]) (vs := [.int .u8 ((x1.s_.getD (x11 : Int).toNat (0 : UInt8)).toNat : Int)]) (cs := []) func41 kr rfl kr kr) (impl_isAlnum.calls  S12.own0 u21) ?_
 rintro _ w22 ⟨rfl, C23⟩
 refine ⟨_, rfl, ?_⟩
 obtain ⟨S24, K25⟩ := S12.still C23
 replace h6 := h6.move (K25.a 0)
 replace b3 := K25.b 1 b3
 refine lP1 1 18 (bT q18) (wN (tN ?_))
 obtain ⟨q26, M⟩ | ⟨q26, M⟩ := ifc M
 ·refine cT (bvt q26 kr) (wK (tN (wp_block (wR (lP 3 (wN (inb_n (tN ?_))))))))
  exact ⟨k17, (by omega), _, (i64.wrap (x11 + 1)), (hdw (hdc (hdc (hdc (hdc rfl kr) kr) kr) kr)), h6, b3, S24, M⟩
 refine cF (bvf q26 kr) (wp_exit (tE (tE (inb_hit (tN ?_)))))
 refine region_mix (S := (fun (L_ : Array Bool) (w_ : World) => Ext H (hp w_) ∧ (L_.getD 13 true = false → (∀ b_, (is g2) b_ → hp w_ b_ = hp w22 b_)))) kr S24 ?_
 intro w27 S28 K29 hc30
 have o31 := b3
 have hs32 : (fun (L_ : Array Bool) (w_ : World) => Ext H (hp w_) ∧ (L_.getD 13 true = false → (∀ b_, (is g2) b_ → hp w_ b_ = hp w22 b_))) (Array.replicate 14 false) w27 := ⟨S28.inv, (fun _ => (fun b_ h_ => K29.at 1 rfl b_ h_))⟩
 replace h6 := h6.move (K29.a 0)
 replace b3 := K29.b 1 b3
 refine xW 0 30 rfl (fun L_ w_ => by simp only [getD_set_ne true (show (0 : Nat) ≠ 13 by decide)]) hc30 hs32 (fun L_ w_ hc_ hu_ hs_ => eM (.pointer (some ⟨g2, 0, none⟩))) ?_; intro hc33 hs34
 refine xW 1 31 rfl (fun L_ w_ => by simp only [getD_set_ne true (show (1 : Nat) ≠ 13 by decide)]) hc33 hs34 (fun L_ w_ hc_ hu_ hs_ => eM (.int .i64 x8)) ?_; intro hc35 hs36
 refine xW 2 32 rfl (fun L_ w_ => by simp only [getD_set_ne true (show (2 : Nat) ≠ 13 by decide)]) hc35 hs36 (fun L_ w_ hc_ hu_ hs_ => eM (.int .i64 x11)) ?_; intro hc37 hs38
 refine xW 3 33 rfl (fun L_ w_ => by simp only [getD_set_ne true (show (3 : Nat) ≠ 13 by decide)]) hc37 hs38 (fun L_ w_ hc_ hu_ hs_ => eM (.pointer (some ⟨g2, 0, none⟩))) ?_; intro hc39 hs40
 refine xW 4 34 rfl (fun L_ w_ => by simp only [getD_set_ne true (show (4 : Nat) ≠ 13 by decide)]) hc39 hs40 (fun L_ w_ hc_ hu_ hs_ => eN ⟨g2, 0, none⟩) ?_; intro hc41 hs42
 refine xW 5 35 rfl (fun L_ w_ => by simp only [getD_set_ne true (show (5 : Nat) ≠ 13 by decide)]) hc41 hs42 (fun L_ w_ hc_ hu_ hs_ => eD g2 0 0 1 underlying39) ?_; intro hc43 hs44
 refine xW 6 36 rfl (fun L_ w_ => by simp only [getD_set_ne true (show (6 : Nat) ≠ 13 by decide)]) hc43 hs44 (fun L_ w_ hc_ hu_ hs_ => eB 0 (((hs_.2 (unl 9 13 6 hc_ hu_ kr)) _ rfl).trans o31)) ?_; intro hc45 hs46
 refine xW 7 37 rfl (fun L_ w_ => by simp only [getD_set_ne true (show (7 : Nat) ≠ 13 by decide)]) hc45 hs46 (fun L_ w_ hc_ hu_ hs_ => eM (.pointer (some ⟨g2, 0, none⟩))) ?_; intro hc47 hs48
 refine xW 8 38 rfl (fun L_ w_ => by simp only [getD_set_ne true (show (8 : Nat) ≠ 13 by decide)]) hc47 hs48 (fun L_ w_ hc_ hu_ hs_ => eN ⟨g2, 0, none⟩) ?_; intro hc49 hs50
 refine xW 9 39 rfl (fun L_ w_ => by simp only [getD_set_ne true (show (9 : Nat) ≠ 13 by decide)]) hc49 hs50 (fun L_ w_ hc_ hu_ hs_ => eD g2 0 1 1 underlying39) ?_; intro hc51 hs52
 refine xW 10 40 rfl (fun L_ w_ => by simp only [getD_set_ne true (show (10 : Nat) ≠ 13 by decide)]) hc51 hs52 (fun L_ w_ hc_ hu_ hs_ => eB 1 (((hs_.2 (unl 9 13 10 hc_ hu_ kr)) _ rfl).trans o31)) ?_; intro hc53 hs54
 refine xO 11 hc53 ?_
 refine yP 11 41 rfl (fun L_ w_ => by simp only [getD_set_ne true (show (11 : Nat) ≠ 13 by decide)]) hs54 (eM (.int .i64 x11)) ?_; intro hc55 hs56
 obtain ⟨q57, M⟩ := chk M
 obtain ⟨q58, M⟩ := chk M
 obtain ⟨q59, M⟩ := chk M
 refine xO 12 hc55 ?_
 refine yP 12 42 rfl (fun L_ w_ => by simp only [getD_set_ne true (show (12 : Nat) ≠ 13 by decide)]) hs56 (e_sslice_lh (p := x1.s_) (a := x1.at_) (b := x11) (k := .i64) (k2 := .i64) underlying9 kr kr kr q57 q58 q59) ?_; intro hc60 hs61
 have S63 := S28.pulls [F7, (is g2)] [1, 1] rfl
 obtain ⟨t64, u65, M⟩ := bnd M
 refine xO 13 hc60 ?_
 refine yC 13 rfl (eE func45) (impl_lexer_put.calls x1 h6 b3 (St.own' (Fa := [F7, (is g2)]) (Fr := []) S63) u65) ?_
 rintro hc74 _ w66 ⟨A69, c70, F72, H67, rfl, h71, b73, T68⟩
 refine ⟨_, rfl, ?_⟩
 obtain ⟨S75, K76⟩ := St.call (Fa := [F7, (is g2)]) (Fr := []) S63 T68
 have E77 := T68.ext
 refine ⟨⟨(Ext.trans E77 S75.inv), (fun q_ => absurd q_ (by decide +kernel))⟩, fun hs78 => ?_⟩
 refine xn kr ?_ _
 obtain rfl := sj M
 exact end0 rfl ⟨A69, c70, F72, H67, rfl, h71, b73, S75⟩
def impl_hexValue.f (x1 : UInt8) : Option Int := ((impl_isDigit.f x1).bind fun t2 => (if t2 = true then some ((b8 ((x1.toNat : Int) - 48)).toNat : Int) else (if (x1.toNat : Int) ≥ 97 then (if (x1.toNat : Int) ≤ 102 then some (i64.wrap (((b8 ((x1.toNat : Int) - 97)).toNat : Int) + 10)) else (if (x1.toNat : Int) ≥ 65 then (if (x1.toNat : Int) ≤ 70 then some (i64.wrap (((b8 ((x1.toNat : Int) - 65)).toNat : Int) + 10)) else some 99) else some 99)) else (if (x1.toNat : Int) ≥ 65 then (if (x1.toNat : Int) ≤ 70 then some (i64.wrap (((b8 ((x1.toNat : Int) - 65)).toNat : Int) + 10)) else some 99) else some 99))))
theorem impl_hexValue.calls {w : World} {H : Hp} {x1 : UInt8} (S : Own [] H w) {r : Int} (M : impl_hexValue.f x1 = some r) :
  Calls Tryz.prog 69 #[.int .u8 (x1.toNat : Int)] w (fun e e_w => e = .returned (.int .i64 r) ∧ Chg no w e_w) := by
 rw [impl_hexValue.f] at M
 refine enter (l := [.int .u8 (x1.toNat : Int)]) 31 func69 rfl rfl rfl ?_
 have S0_ := S.st
 refine wQ (wR (lP 1 (wN (tN (wQ (wp_block (wQ (wR (lP 1 ?_)))))))))
 obtain ⟨t2, u3, M⟩ := bnd M
 refine lC 5 (eE func43) (impl_isDigit.calls  S0_.own0 u3) ?_
 rintro _ w4 ⟨rfl, C5⟩
 refine ⟨_, rfl, ?_⟩
 obtain ⟨S6, K7⟩ := S0_.still C5
 refine lP 1 (wN (tN ?_))
 obtain ⟨q8, M⟩ | ⟨q8, M⟩ := ifc M
 ·refine cT (bvt q8 kr) (wQ (wR (lP 1 (lV 7 (e_sub8 (a := (x1.toNat : Int)) (b := 48) kr rfl) (lV 8 (e_conv_8i (a := (b8 ((x1.toNat : Int) - 48))) kr underlying3 kr) (lP 1 (wN (tN (wT (inb_r (tR ?_)))))))))))
  obtain rfl := sj M
  exact ret1 rfl rfl  kr ⟨rfl, S6.chg⟩
 refine cF (bvf q8 kr) (wQ (wR (lP 3 ?_)))
 obtain ⟨q9, M⟩ | ⟨q9, M⟩ := ifd M
 ·refine lP1 4 12 (bF q9) (wN (tN (cond_f rfl kr (wQ (wR (lP 3 ?_))))))
  obtain ⟨q13, M⟩ | ⟨q13, M⟩ := ifd M
  ·refine lP1 4 23 (bF q13) (wN (tN (cond_f rfl kr (wK (inb_n (tN (wQ (wR (lP 1 (wN (tN (wT ?_))))))))))))
   obtain rfl := sj M
   exact ret1 rfl rfl  kr ⟨rfl, S6.chg⟩
  refine lP1 4 23 (bT q13) (wN (tN ?_))
  obtain ⟨q14, M⟩ | ⟨q14, M⟩ := ifd M
  ·refine cF (bF q14) (wK (inb_n (tN (wQ (wR (lP 1 (wN (tN (wT ?_)))))))))
   obtain rfl := sj M
   exact ret1 rfl rfl  kr ⟨rfl, S6.chg⟩
  refine cT (bT q14) (wQ (wR (lP 1 (lV 28 (e_sub8 (a := (x1.toNat : Int)) (b := 65) kr rfl) (lV 29 (e_conv_8i (a := (b8 ((x1.toNat : Int) - 65))) kr underlying3 kr) (lP 2 (wN (tN (wT (inb_r (tR ?_)))))))))))
  obtain rfl := sj M
  exact ret1 rfl rfl  kr ⟨rfl, S6.chg⟩
 refine lP1 4 12 (bT q9) (wN (tN ?_))
 obtain ⟨q10, M⟩ | ⟨q10, M⟩ := ifc M
 ·refine cT (bT q10) (wQ (wR (lP 1 (lV 17 (e_sub8 (a := (x1.toNat : Int)) (b := 97) kr rfl) (lV 18 (e_conv_8i (a := (b8 ((x1.toNat : Int) - 97))) kr underlying3 kr) (lP 2 (wN (tN (wT (inb_r (tR ?_)))))))))))
  obtain rfl := sj M
  exact ret1 rfl rfl  kr ⟨rfl, S6.chg⟩
 refine cF (bF q10) (wQ (wR (lP 3 ?_)))
 obtain ⟨q11, M⟩ | ⟨q11, M⟩ := ifd M
 ·refine lP1 4 23 (bF q11) (wN (tN (cond_f rfl kr (wK (inb_n (tN (wQ (wR (lP 1 (wN (tN (wT ?_))))))))))))
  obtain rfl := sj M
  exact ret1 rfl rfl  kr ⟨rfl, S6.chg⟩
 refine lP1 4 23 (bT q11) (wN (tN ?_))
 obtain ⟨q12, M⟩ | ⟨q12, M⟩ := ifd M
 ·refine cF (bF q12) (wK (inb_n (tN (wQ (wR (lP 1 (wN (tN (wT ?_)))))))))
  obtain rfl := sj M
  exact ret1 rfl rfl  kr ⟨rfl, S6.chg⟩
 refine cT (bT q12) (wQ (wR (lP 1 (lV 28 (e_sub8 (a := (x1.toNat : Int)) (b := 65) kr rfl) (lV 29 (e_conv_8i (a := (b8 ((x1.toNat : Int) - 65))) kr underlying3 kr) (lP 2 (wN (tN (wT (inb_r (tR ?_)))))))))))
 obtain rfl := sj M
 exact ret1 rfl rfl  kr ⟨rfl, S6.chg⟩
def impl_lexer_escape.l1 : Nat → GLexer → Int → Int → Int → Option ((List UInt8) × Int × Bool)
 | 0, _, _, _, _ => none
 | k38 + 1, x1, x8, x31, x32 => (if x32 < (x1.s_.length : Int) then (if x32 < (i64.wrap (x8 + 4)) then (if 0 ≤ x32 then ((impl_hexValue.f (x1.s_.getD (x32 : Int).toNat (0 : UInt8))).bind fun t42 => (if t42 < 16 then ((impl_hexValue.f (x1.s_.getD (x32 : Int).toNat (0 : UInt8))).bind fun t49 => (impl_lexer_escape.l1 k38 x1 x8 (i64.wrap ((i64.wrap (x31 * 16)) + t49)) (i64.wrap (x32 + 1)))) else (if x32 = (i64.wrap (x8 + 2)) then some (([] : List UInt8), 0, false) else (if x32 ≥ (x1.s_.length : Int) then some (([] : List UInt8), 0, false) else (if ((x1.s_.getD (x32 : Int).toNat (0 : UInt8)).toNat : Int) ≠ 92 then some (([] : List UInt8), 0, false) else some ([(b8 (x31))], (i64.wrap (x32 + 1)), true)))))) else none) else (if x32 = (i64.wrap (x8 + 2)) then some (([] : List UInt8), 0, false) else (if x32 ≥ (x1.s_.length : Int) then some (([] : List UInt8), 0, false) else (if 0 ≤ x32 then (if ((x1.s_.getD (x32 : Int).toNat (0 : UInt8)).toNat : Int) ≠ 92 then some (([] : List UInt8), 0, false) else some ([(b8 (x31))], (i64.wrap (x32 + 1)), true)) else none)))) else (if x32 = (i64.wrap (x8 + 2)) then some (([] : List UInt8), 0, false) else (if x32 ≥ (x1.s_.length : Int) then some (([] : List UInt8), 0, false) else (if 0 ≤ x32 then (if x32 < (x1.s_.length : Int) then (if ((x1.s_.getD (x32 : Int).toNat (0 : UInt8)).toNat : Int) ≠ 92 then some (([] : List UInt8), 0, false) else some ([(b8 (x31))], (i64.wrap (x32 + 1)), true)) else none) else none))))
def impl_lexer_escape.l0 (k : Nat) (x1 : GLexer) (x8 : Int) (x14 : Bool) : Option ((List UInt8) × Int × Bool) := (if x14 = true then (if (i64.wrap (x8 + 1)) ≤ (i64.wrap (x8 + 2)) then (if (i64.wrap (x8 + 2)) ≤ (x1.s_.length : Int) then some (((x1.s_.drop ((i64.wrap (x8 + 1)) : Int).toNat).take (((i64.wrap (x8 + 2)) : Int).toNat - ((i64.wrap (x8 + 1)) : Int).toNat)), (i64.wrap (x8 + 2)), true) else none) else none) else (if ((x1.s_.getD ((i64.wrap (x8 + 1)) : Int).toNat (0 : UInt8)).toNat : Int) = 110 then some (([10] : List UInt8), (i64.wrap (x8 + 2)), true) else (if ((x1.s_.getD ((i64.wrap (x8 + 1)) : Int).toNat (0 : UInt8)).toNat : Int) = 116 then some (([9] : List UInt8), (i64.wrap (x8 + 2)), true) else (if ((x1.s_.getD ((i64.wrap (x8 + 1)) : Int).toNat (0 : UInt8)).toNat : Int) = 114 then some (([13] : List UInt8), (i64.wrap (x8 + 2)), true) else (if ((x1.s_.getD ((i64.wrap (x8 + 1)) : Int).toNat (0 : UInt8)).toNat : Int) = 10 then some (([] : List UInt8), (i64.wrap (x8 + 2)), true) else (if ((x1.s_.getD ((i64.wrap (x8 + 1)) : Int).toNat (0 : UInt8)).toNat : Int) = 120 then (impl_lexer_escape.l1 k x1 x8 0 (i64.wrap (x8 + 2))) else some (([] : List UInt8), 0, false)))))))
def impl_lexer_escape.f (k : Nat) (x1 : GLexer) (x8 : Int) : Option ((List UInt8) × Int × Bool) := (if (i64.wrap (x8 + 1)) ≥ (x1.s_.length : Int) then some (([] : List UInt8), 0, false) else (if 0 ≤ (i64.wrap (x8 + 1)) then (if (i64.wrap (x8 + 1)) < (x1.s_.length : Int) then (if ((x1.s_.getD ((i64.wrap (x8 + 1)) : Int).toNat (0 : UInt8)).toNat : Int) = 92 then (impl_lexer_escape.l0 k x1 x8 (decide (((x1.s_.getD ((i64.wrap (x8 + 1)) : Int).toNat (0 : UInt8)).toNat : Int) = 92))) else (if ((x1.s_.getD ((i64.wrap (x8 + 1)) : Int).toNat (0 : UInt8)).toNat : Int) = 39 then (impl_lexer_escape.l0 k x1 x8 (decide (((x1.s_.getD ((i64.wrap (x8 + 1)) : Int).toNat (0 : UInt8)).toNat : Int) = 39))) else (impl_lexer_escape.l0 k x1 x8 (decide (((x1.s_.getD ((i64.wrap (x8 + 1)) : Int).toNat (0 : UInt8)).toNat : Int) = 34))))) else none) else none))
theorem impl_lexer_escape.calls {k : Nat} {w : World} {H : Hp} (x1 : GLexer) {g2 : Nat} {A4 : Option Addr} {c5 : Nat} {x8 : Int} (h6 : Rd st28 H A4 x1.tokens_) (l7 : x1.tokens_.length ≤ c5) (b3 : H g2 = some (.cells #[str x1.s_, .int .i64 x1.at_, .slice A4 x1.tokens_.length c5, .int .i64 x1.code_, .int .i64 x1.place_] 39 (0, 0))) (S : Own [] H w) {r : (List UInt8) × Int × Bool} (M : impl_lexer_escape.f k x1 x8 = some r) :
  Calls Tryz.prog 70 #[.pointer (some ⟨g2, 0, none⟩), .int .i64 x8] w (fun e e_w => e = .returned (.tuple #[str r.1, .int .i64 r.2.1, .bool r.2.2]) ∧ Chg no w e_w) := by
 rw [impl_lexer_escape.f] at M
 refine enter (l := [.pointer (some ⟨g2, 0, none⟩), .int .i64 x8]) 124 func70 rfl rfl rfl ?_
 have S0_ := S.st
 refine wQ (wR (lP 3 (wN (tN (wQ (wQ (wR (lP 5 (lV 15 (eB 0 (S0_.inv _ _ b3)) (lV 16 (e_slen (p := x1.s_) underlying9 kr) (lP 1 (wN (tN ?_)))))))))))))
 obtain ⟨q9, M⟩ | ⟨q9, M⟩ := ifc M
 ·refine cT (bT q9) (wQ (wR (lP 3 (wN (tN (wT (tR ?_)))))))
  obtain rfl := sj M
  exact ret3 rfl rfl rfl rfl kr kr kr ⟨rfl, S0_.chg⟩
 refine cF (bF q9) (wK (tN (wQ (wQ (wR (lP 3 (lV 21 (eB 0 (S0_.inv _ _ b3)) (lP 2 ?_))))))))
 obtain ⟨q10, M⟩ := chk M
 obtain ⟨q11, M⟩ := chk M
 refine lV 24 (e_sindex (p := x1.s_) (i := (i64.wrap (x8 + 1))) (k := .i64) underlying9 kr kr q10 q11) (lP 1 (wN (tN (wQ (wR (lP 1 (wN (tN (wp_block ?_)))))))))
 refine wp_seq_cut (fun a18 w12 => ∃ (f13 : Nat → Value) (x14 : Bool), a18 = mk 124 (upd (upd (upd (upd f13 0 (.pointer (some ⟨g2, 0, none⟩))) 1 (.int .i64 x8)) 25 (.int .u8 ((x1.s_.getD ((i64.wrap (x8 + 1)) : Int).toNat (0 : UInt8)).toNat : Int))) 26 (.bool x14)) ∧ St (anyOf []) H w [] H w12 ∧ impl_lexer_escape.l0 k x1 x8 x14 = some r) ?_ ?_
 ·refine wQ (wR (lP 2 (wN (tN ?_))))
  obtain ⟨q19, M⟩ | ⟨q19, M⟩ := ifc M
  ·refine cT (bT q19) (wK (tN ?_))
   exact ⟨_, (decide (((x1.s_.getD ((i64.wrap (x8 + 1)) : Int).toNat (0 : UInt8)).toNat : Int) = 92)), (hdw (hdc (hdc (hdc (hdc rfl kr) kr) kr) kr)), S0_, M⟩
  refine cF (bF q19) (wQ (wR (lP 2 (wN (tN ?_)))))
  obtain ⟨q20, M⟩ | ⟨q20, M⟩ := ifc M
  ·refine cT (bT q20) (wK (tN ?_))
   exact ⟨_, (decide (((x1.s_.getD ((i64.wrap (x8 + 1)) : Int).toNat (0 : UInt8)).toNat : Int) = 39)), (hdw (hdc (hdc (hdc (hdc rfl kr) kr) kr) kr)), S0_, M⟩
  refine cF (bF q20) (wR (lP 2 (wN (tN ?_))))
  exact ⟨_, (decide (((x1.s_.getD ((i64.wrap (x8 + 1)) : Int).toNat (0 : UInt8)).toNat : Int) = 34)), (hdw (hdc (hdc (hdc (hdc rfl kr) kr) kr) kr)), S0_, M⟩
 clear M
 rintro a18 w12 ⟨f13, x14, rfl, S15, M⟩
 rw [impl_lexer_escape.l0] at M
 obtain ⟨q21, M⟩ | ⟨q21, M⟩ := ifc M
 ·refine cT (bvt q21 kr) (wQ (wR (lP 3 (lV 33 (eB 0 (S15.inv _ _ b3)) (lP 4 ?_)))))
  obtain ⟨q22, M⟩ := chk M
  obtain ⟨q23, M⟩ := chk M
  refine lV 38 (e_sslice_lh (p := x1.s_) (a := (i64.wrap (x8 + 1))) (b := (i64.wrap (x8 + 2))) (k := .i64) (k2 := .i64) underlying9 kr kr kr q10 q22 q23) (lP 5 (wN (tN (wT (inb_r (tR ?_))))))
  obtain rfl := sj M
  exact ret3 rfl rfl rfl rfl kr kr kr ⟨rfl, S15.chg⟩
 refine cF (bvf q21 kr) (wQ (wR (lP 2 (wN (tN ?_)))))
 obtain ⟨q24, M⟩ | ⟨q24, M⟩ := ifc M
 ·refine cT (bT q24) (wQ (wR (lP 5 (wN (tN (wT (inb_r (tR ?_))))))))
  obtain rfl := sj M
  exact ret3 rfl rfl rfl rfl kr kr kr ⟨rfl, S15.chg⟩
 refine cF (bF q24) (wQ (wR (lP 2 (wN (tN ?_)))))
 obtain ⟨q25, M⟩ | ⟨q25, M⟩ := ifc M
 ·refine cT (bT q25) (wQ (wR (lP 5 (wN (tN (wT (inb_r (tR ?_))))))))
  obtain rfl := sj M
  exact ret3 rfl rfl rfl rfl kr kr kr ⟨rfl, S15.chg⟩
 refine cF (bF q25) (wQ (wR (lP 2 (wN (tN ?_)))))
 obtain ⟨q26, M⟩ | ⟨q26, M⟩ := ifc M
 ·refine cT (bT q26) (wQ (wR (lP 5 (wN (tN (wT (inb_r (tR ?_))))))))
  obtain rfl := sj M
  exact ret3 rfl rfl rfl rfl kr kr kr ⟨rfl, S15.chg⟩
 refine cF (bF q26) (wQ (wR (lP 2 (wN (tN ?_)))))
 obtain ⟨q27, M⟩ | ⟨q27, M⟩ := ifc M
 ·refine cT (bT q27) (wQ (wR (lP 5 (wN (tN (wT (inb_r (tR ?_))))))))
  obtain rfl := sj M
  exact ret3 rfl rfl rfl rfl kr kr kr ⟨rfl, S15.chg⟩
 refine cF (bF q27) (wQ (wR (lP 2 (wN (tN ?_)))))
 obtain ⟨q28, M⟩ | ⟨q28, M⟩ := ifd M
 ·refine cF (bF q28) (wK (inb_n (tN (wQ (wR (lP 3 (wN (tN (wT ?_)))))))))
  obtain rfl := sj M
  exact ret3 rfl rfl rfl rfl kr kr kr ⟨rfl, S15.chg⟩
 refine cT (bT q28) (wQ (wR (lP 4 (wN (tN (wQ (wp_block ?_)))))))
 refine wp_loop_g (fun k36 a37 w29 => ∃ (f30 : Nat → Value) (x31 : Int) (x32 : Int), a37 = mk 124 (upd (upd (upd (upd f30 0 (.pointer (some ⟨g2, 0, none⟩))) 1 (.int .i64 x8)) 8 (.int .i64 x31)) 9 (.int .i64 x32)) ∧ St (anyOf []) H w [] H w29 ∧ impl_lexer_escape.l1 k36 x1 x8 x31 x32 = some r) k ⟨_, 0, (i64.wrap (x8 + 2)), (hdw (hdc (hdc (hdc (hdc rfl kr) kr) kr) kr)), S15, M⟩ ?_
 clear M
 rintro k36 a37 w29 ⟨f30, x31, x32, rfl, S33, M⟩
 rcases k36 with _ | k38
 ·rw [impl_lexer_escape.l1] at M
  cases M
 rw [impl_lexer_escape.l1] at M
 refine wQ (wQ (wR (lP 4 (lV 65 (eB 0 (S33.inv _ _ b3)) (lV 66 (e_slen (p := x1.s_) underlying9 kr) (lP 2 ?_))))))
 obtain ⟨q39, M⟩ | ⟨q39, M⟩ := ifd M
 ·refine lP1 15 68 (bF q39) (wN (tN (cond_f rfl kr (wp_exit (tE (tE (inb_hit (tN (wQ (wQ (wR (lP 5 ?_))))))))))))
  obtain ⟨q80, M⟩ | ⟨q80, M⟩ := ifc M
  ·refine lP1 17 100 (bT q80) (wN (tN (cond_t rfl kr (wQ (wR (lP 3 (wN (tN (wT (tR (inb_r (tR ?_))))))))))))
   obtain rfl := sj M
   exact ret3 rfl rfl rfl rfl kr kr kr ⟨rfl, S33.chg⟩
  refine lP1 4 100 (bF q80) (lG 105 100 (bF q80) (eB 0 (S33.inv _ _ b3)) (lG 106 100 (bF q80) (e_slen (p := x1.s_) underlying9 kr) (lP1 3 100 (bF q80) ?_)))
  obtain ⟨q81, M⟩ | ⟨q81, M⟩ := ifc M
  ·refine lP1 8 109 (bT q81) (wN (tN (cond_t rfl kr (wQ (wR (lP 3 (wN (tN (wT (tR (inb_r (tR ?_))))))))))))
   obtain rfl := sj M
   exact ret3 rfl rfl rfl rfl kr kr kr ⟨rfl, S33.chg⟩
  refine lP1 3 109 (bF q81) (lG 113 109 (bF q81) (eB 0 (S33.inv _ _ b3)) (lP1 1 109 (bF q81) ?_))
  obtain ⟨q82, M⟩ := chk M
  obtain ⟨q83, M⟩ := chk M
  refine lG 115 109 (bF q81) (e_sindex (p := x1.s_) (i := x32) (k := .i64) underlying9 kr kr q82 q83) (lG 116 109 (bF q81) (eNe .u8 ((x1.s_.getD (x32 : Int).toNat (0 : UInt8)).toNat : Int) 92) (lP1 1 109 (bF q81) (wN (tN ?_))))
  obtain ⟨q84, M⟩ | ⟨q84, M⟩ := ifc M
  ·refine cT (bT q84) (wQ (wR (lP 3 (wN (tN (wT (tR (inb_r (tR ?_)))))))))
   obtain rfl := sj M
   exact ret3 rfl rfl rfl rfl kr kr kr ⟨rfl, S33.chg⟩
  refine cF (bF q84) (wK (tN (wQ (wR (lP 1 (lV 119 (e_conv_i8 (k := .i64) (a := x31) kr underlying5 kr) ?_))))))
  refine lW 120 (new_blk (v := fun g_ => .slice (some ⟨g_, 0, none⟩) 1 1) (cs := #[.int .u8 ((b8 (x31)).toNat : Int)]) (t := 5) S33 kr) ?_
  rintro _ w85 ⟨g86, rfl, b87, S88, K89⟩
  have S90 := S88.unit
  have S91 := S90.pulls [(is g86), no] [1] rfl
  obtain ⟨h92, S93⟩ := row_lit (d := tByte) (xs := [(b8 (x31))]) S91 b87 rfl (elsO_one1 rfl) (Nat.le_of_ble_eq_true rfl)
  refine lV 121 (e_conv_bs (A := (some ⟨g86, 0, none⟩)) (n := 1) (c := 1) (xs := [(b8 (x31))]) underlying22 underlying5 underlying9 kr rfl (Row.bytes h92)) (lP 5 (wN (tN (wT (inb_r (tR ?_))))))
  obtain rfl := sj M
  exact ret3 rfl rfl rfl rfl kr kr kr ⟨rfl, S93.chg⟩
 refine lP1 6 68 (bT q39) ?_
 obtain ⟨q40, M⟩ | ⟨q40, M⟩ := ifd M
 ·refine lP1 9 74 (bF q40) (wN (tN (cond_f rfl kr (wp_exit (tE (tE (inb_hit (tN (wQ (wQ (wR (lP 5 ?_))))))))))))
  obtain ⟨q67, M⟩ | ⟨q67, M⟩ := ifc M
  ·refine lP1 17 100 (bT q67) (wN (tN (cond_t rfl kr (wQ (wR (lP 3 (wN (tN (wT (tR (inb_r (tR ?_))))))))))))
   obtain rfl := sj M
   exact ret3 rfl rfl rfl rfl kr kr kr ⟨rfl, S33.chg⟩
  refine lP1 4 100 (bF q67) (lG 105 100 (bF q67) (eB 0 (S33.inv _ _ b3)) (lG 106 100 (bF q67) (e_slen (p := x1.s_) underlying9 kr) (lP1 3 100 (bF q67) ?_)))
  obtain ⟨q68, M⟩ | ⟨q68, M⟩ := ifc M
  ·refine lP1 8 109 (bT q68) (wN (tN (cond_t rfl kr (wQ (wR (lP 3 (wN (tN (wT (tR (inb_r (tR ?_))))))))))))
   obtain rfl := sj M
   exact ret3 rfl rfl rfl rfl kr kr kr ⟨rfl, S33.chg⟩
  refine lP1 3 109 (bF q68) (lG 113 109 (bF q68) (eB 0 (S33.inv _ _ b3)) (lP1 1 109 (bF q68) ?_))
  obtain ⟨q69, M⟩ := chk M
  refine lG 115 109 (bF q68) (e_sindex (p := x1.s_) (i := x32) (k := .i64) underlying9 kr kr q69 q39) (lG 116 109 (bF q68) (eNe .u8 ((x1.s_.getD (x32 : Int).toNat (0 : UInt8)).toNat : Int) 92) (lP1 1 109 (bF q68) (wN (tN ?_))))
  obtain ⟨q70, M⟩ | ⟨q70, M⟩ := ifc M
  ·refine cT (bT q70) (wQ (wR (lP 3 (wN (tN (wT (tR (inb_r (tR ?_)))))))))
   obtain rfl := sj M
   exact ret3 rfl rfl rfl rfl kr kr kr ⟨rfl, S33.chg⟩
  refine cF (bF q70) (wK (tN (wQ (wR (lP 1 (lV 119 (e_conv_i8 (k := .i64) (a := x31) kr underlying5 kr) ?_))))))
  refine lW 120 (new_blk (v := fun g_ => .slice (some ⟨g_, 0, none⟩) 1 1) (cs := #[.int .u8 ((b8 (x31)).toNat : Int)]) (t := 5) S33 kr) ?_
  rintro _ w71 ⟨g72, rfl, b73, S74, K75⟩
  have S76 := S74.unit
  have S77 := S76.pulls [(is g72), no] [1] rfl
  obtain ⟨h78, S79⟩ := row_lit (d := tByte) (xs := [(b8 (x31))]) S77 b73 rfl (elsO_one1 rfl) (Nat.le_of_ble_eq_true rfl)
  refine lV 121 (e_conv_bs (A := (some ⟨g72, 0, none⟩)) (n := 1) (c := 1) (xs := [(b8 (x31))]) underlying22 underlying5 underlying9 kr rfl (Row.bytes h78)) (lP 5 (wN (tN (wT (inb_r (tR ?_))))))
  obtain rfl := sj M
  exact ret3 rfl rfl rfl rfl kr kr kr ⟨rfl, S79.chg⟩
 refine lP1 3 74 (bT q40) (lG 78 74 (bT q40) (eB 0 (S33.inv _ _ b3)) (lP1 1 74 (bT q40) ?_))
 obtain ⟨q41, M⟩ := chk M
 refine lG 80 74 (bT q40) (e_sindex (p := x1.s_) (i := x32) (k := .i64) underlying9 kr kr q41 q39) ?_
 obtain ⟨t42, u43, M⟩ := bnd M
 refine lcallg (d := 81) (t := 74) rfl kr rfl (bT q40) rfl kr (eE func69) (impl_hexValue.calls  S33.own0 u43) ?_
 rintro _ w44 ⟨rfl, C45⟩
 refine ⟨_, rfl, ?_⟩
 obtain ⟨S46, K47⟩ := S33.still C45
 refine lP1 2 74 (bT q40) (wN (tN ?_))
 obtain ⟨q48, M⟩ | ⟨q48, M⟩ := ifc M
 ·refine cT (bT q48) (wK (tN (wp_block (wQ (wR (lP 5 (lV 89 (eB 0 (S46.inv _ _ b3)) (lP 1 (lV 91 (e_sindex (p := x1.s_) (i := x32) (k := .i64) underlying9 kr kr q41 q39) ?_)))))))))
  obtain ⟨t49, u50, M⟩ := bnd M
  refine lC 92 (eE func69) (impl_hexValue.calls  S46.own0 u50) ?_
  rintro _ w51 ⟨rfl, C52⟩
  refine ⟨_, rfl, ?_⟩
  obtain ⟨S53, K54⟩ := S46.still C52
  refine lP 2 (wN (tN (wR (lP 3 (wN (inb_n (tN ?_)))))))
  exact ⟨k38, (by omega), _, (i64.wrap ((i64.wrap (x31 * 16)) + t49)), (i64.wrap (x32 + 1)), (hdw (hdc (hdc (hdc (hdc rfl kr) kr) kr) kr)), S53, M⟩
 refine cF (bF q48) (wp_exit (tE (tE (inb_hit (tN (wQ (wQ (wR (lP 5 ?_)))))))))
 obtain ⟨q55, M⟩ | ⟨q55, M⟩ := ifc M
 ·refine lP1 17 100 (bT q55) (wN (tN (cond_t rfl kr (wQ (wR (lP 3 (wN (tN (wT (tR (inb_r (tR ?_))))))))))))
  obtain rfl := sj M
  exact ret3 rfl rfl rfl rfl kr kr kr ⟨rfl, S46.chg⟩
 refine lP1 4 100 (bF q55) (lG 105 100 (bF q55) (eB 0 (S46.inv _ _ b3)) (lG 106 100 (bF q55) (e_slen (p := x1.s_) underlying9 kr) (lP1 3 100 (bF q55) ?_)))
 obtain ⟨q56, M⟩ | ⟨q56, M⟩ := ifc M
 ·refine lP1 8 109 (bT q56) (wN (tN (cond_t rfl kr (wQ (wR (lP 3 (wN (tN (wT (tR (inb_r (tR ?_))))))))))))
  obtain rfl := sj M
  exact ret3 rfl rfl rfl rfl kr kr kr ⟨rfl, S46.chg⟩
 refine lP1 3 109 (bF q56) (lG 113 109 (bF q56) (eB 0 (S46.inv _ _ b3)) (lP1 1 109 (bF q56) (lG 115 109 (bF q56) (e_sindex (p := x1.s_) (i := x32) (k := .i64) underlying9 kr kr q41 q39) (lG 116 109 (bF q56) (eNe .u8 ((x1.s_.getD (x32 : Int).toNat (0 : UInt8)).toNat : Int) 92) (lP1 1 109 (bF q56) (wN (tN ?_)))))))
 obtain ⟨q57, M⟩ | ⟨q57, M⟩ := ifc M
 ·refine cT (bT q57) (wQ (wR (lP 3 (wN (tN (wT (tR (inb_r (tR ?_)))))))))
  obtain rfl := sj M
  exact ret3 rfl rfl rfl rfl kr kr kr ⟨rfl, S46.chg⟩
 refine cF (bF q57) (wK (tN (wQ (wR (lP 1 (lV 119 (e_conv_i8 (k := .i64) (a := x31) kr underlying5 kr) ?_))))))
 refine lW 120 (new_blk (v := fun g_ => .slice (some ⟨g_, 0, none⟩) 1 1) (cs := #[.int .u8 ((b8 (x31)).toNat : Int)]) (t := 5) S46 kr) ?_
 rintro _ w58 ⟨g59, rfl, b60, S61, K62⟩
 have S63 := S61.unit
 have S64 := S63.pulls [(is g59), no] [1] rfl
 obtain ⟨h65, S66⟩ := row_lit (d := tByte) (xs := [(b8 (x31))]) S64 b60 rfl (elsO_one1 rfl) (Nat.le_of_ble_eq_true rfl)
 refine lV 121 (e_conv_bs (A := (some ⟨g59, 0, none⟩)) (n := 1) (c := 1) (xs := [(b8 (x31))]) underlying22 underlying5 underlying9 kr rfl (Row.bytes h65)) (lP 5 (wN (tN (wT (inb_r (tR ?_))))))
 obtain rfl := sj M
 exact ret3 rfl rfl rfl rfl kr kr kr ⟨rfl, S66.chg⟩
def impl_isPrint.f (x1 : UInt8) : Option Bool := (if (x1.toNat : Int) ≥ 32 then some (decide ((x1.toNat : Int) ≠ 127)) else some false)
theorem impl_isPrint.calls {w : World} {H : Hp} {x1 : UInt8} (S : Own [] H w) {r : Bool} (M : impl_isPrint.f x1 = some r) :
  Calls Tryz.prog 71 #[.int .u8 (x1.toNat : Int)] w (fun e e_w => e = .returned (.bool r) ∧ Chg no w e_w) := by
 rw [impl_isPrint.f] at M
 refine enter (l := [.int .u8 (x1.toNat : Int)]) 9 func71 rfl rfl rfl ?_
 have S0_ := S.st
 refine wQ (wR (lP 1 (wN (tN (wQ (wR (lP 3 ?_)))))))
 obtain ⟨q2, M⟩ | ⟨q2, M⟩ := ifd M
 ·refine lP1 4 5 (bF q2) (wN (tN (wT ?_)))
  obtain rfl := sj M
  exact ret1 rfl rfl  kr ⟨rfl, S0_.chg⟩
 refine lP1 1 5 (bT q2) (lG 7 5 (bT q2) (eNe .u8 (x1.toNat : Int) 127) (lP1 2 5 (bT q2) (wN (tN (wT ?_)))))
 obtain rfl := sj M
 exact ret1 rfl rfl  kr ⟨rfl, S0_.chg⟩
def impl_lexer_number_c1.l0 : Nat → Int → GLexer → Int → Int → Option (Int × Int)
 | 0, _, _, _, _ => none
 | k26 + 1, x1, x5, x19, x20 => (if x19 < (x5.s_.length : Int) then (if 0 ≤ x19 then ((impl_hexValue.f (x5.s_.getD (x19 : Int).toNat (0 : UInt8))).bind fun t29 => (if t29 < x1 then (if x20 ≤ 1000000000000000 then ((impl_hexValue.f (x5.s_.getD (x19 : Int).toNat (0 : UInt8))).bind fun t63 => (impl_lexer_number_c1.l0 k26 x1 x5 (i64.wrap (x19 + 1)) (i64.wrap ((i64.wrap (x20 * x1)) + t63)))) else (impl_lexer_number_c1.l0 k26 x1 x5 (i64.wrap (x19 + 1)) x20)) else some (x19, x20))) else none) else some (x19, x20))
def impl_lexer_number_c1.f (k : Nat) (x1 : Int) (x2 : Int) (x5 : GLexer) (x14 : Int) : Option (Int × Int) := (impl_lexer_number_c1.l0 k x1 x5 x2 x14)
theorem impl_lexer_number_c1.calls {k : Nat} {w : World} {H : Hp} {x1 : Int} {x2 : Int} {g3 : Nat} (x5 : GLexer) {g6 : Nat} {A8 : Option Addr} {c9 : Nat} {F11 : Foot} {g12 : Nat} {x14 : Int} {g15 : Nat} (b4 : w.heap[g3]? = some (.cells #[.int .i64 x2] 3 (0, 0))) (h10 : Row st28 28 H (hp w) F11 A8 c9 x5.tokens_) (b7 : w.heap[g6]? = some (.cells #[str x5.s_, .int .i64 x5.at_, .slice A8 x5.tokens_.length c9, .int .i64 x5.code_, .int .i64 x5.place_] 39 (0, 0))) (b13 : w.heap[g12]? = some (.cells #[.pointer (some ⟨g6, 0, none⟩)] 37 (0, 0))) (b16 : w.heap[g15]? = some (.cells #[.int .i64 x14] 3 (0, 0))) (S : Own [(is g3), F11, (is g6), (is g12), (is g15)] H w) {r : Int × Int} (M : impl_lexer_number_c1.f k x1 x2 x5 x14 = some r) :
  Calls Tryz.prog 68 #[.int .i64 x1, .pointer (some ⟨g3, 0, none⟩), .pointer (some ⟨g12, 0, none⟩), .pointer (some ⟨g15, 0, none⟩)] w (fun e e_w => ∃ (H_ : Hp), e = .returned (.tuple #[]) ∧ e_w.heap[g3]? = some (.cells #[.int .i64 r.1] 3 (0, 0)) ∧ Row st28 28 H_ (hp e_w) F11 A8 c9 x5.tokens_ ∧ e_w.heap[g6]? = some (.cells #[str x5.s_, .int .i64 x5.at_, .slice A8 x5.tokens_.length c9, .int .i64 x5.code_, .int .i64 x5.place_] 39 (0, 0)) ∧ e_w.heap[g12]? = some (.cells #[.pointer (some ⟨g6, 0, none⟩)] 37 (0, 0)) ∧ e_w.heap[g15]? = some (.cells #[.int .i64 r.2] 3 (0, 0)) ∧ St (anyOf [(is g3), F11, (is g6), (is g12), (is g15)]) H w [(is g3), F11, (is g6), (is g12), (is g15)] H_ e_w) := by
 rw [impl_lexer_number_c1.f] at M
 refine enter (l := [.int .i64 x1, .pointer (some ⟨g3, 0, none⟩), .pointer (some ⟨g12, 0, none⟩), .pointer (some ⟨g15, 0, none⟩)]) 38 func68 rfl rfl rfl ?_
 have S0_ := S.st
 refine wp_block ?_
 refine wp_loop_g (fun k24 a25 w17 => ∃ (f18 : Nat → Value) (x19 : Int) (x20 : Int), a25 = mk 38 (upd (upd (upd (upd f18 0 (.int .i64 x1)) 1 (.pointer (some ⟨g3, 0, none⟩))) 2 (.pointer (some ⟨g12, 0, none⟩))) 3 (.pointer (some ⟨g15, 0, none⟩))) ∧ w17.heap[g3]? = some (.cells #[.int .i64 x19] 3 (0, 0)) ∧ Row st28 28 H (hp w17) F11 A8 c9 x5.tokens_ ∧ w17.heap[g6]? = some (.cells #[str x5.s_, .int .i64 x5.at_, .slice A8 x5.tokens_.length c9, .int .i64 x5.code_, .int .i64 x5.place_] 39 (0, 0)) ∧ w17.heap[g12]? = some (.cells #[.pointer (some ⟨g6, 0, none⟩)] 37 (0, 0)) ∧ w17.heap[g15]? = some (.cells #[.int .i64 x20] 3 (0, 0)) ∧ St (anyOf [(is g3), F11, (is g6), (is g12), (is g15)]) H w [(is g3), F11, (is g6), (is g12), (is g15)] H w17 ∧ impl_lexer_number_c1.l0 k24 x1 x5 x19 x20 = some r) k ⟨_, x2, x14, (hdw (hdc (hdc (hdc (hdc rfl kr) kr) kr) kr)), b4, h10, b7, b13, b16, S0_, M⟩ ?_
 clear M
 rintro k24 a25 w17 ⟨f18, x19, x20, rfl, b4, h10, b7, b13, b16, S21, M⟩
 rcases k24 with _ | k26
 ·rw [impl_lexer_number_c1.l0] at M
  cases M
 rw [impl_lexer_number_c1.l0] at M
 refine wQ (wQ ?_)
 refine region_quiet kr kr (qV 5 (fun wq_ hq_ => eL ⟨g3, 0, none⟩ (.int .i64 x19) underlying3 (blk_cell ((S21.still hq_).2.blk 0 rfl b4) rfl)) (qV 6 (fun wq_ hq_ => eL ⟨g12, 0, none⟩ (.pointer (some ⟨g6, 0, none⟩)) underlying37 (blk_cell ((S21.still hq_).2.blk 3 rfl b13) rfl)) (qV 7 (fun wq_ hq_ => eN ⟨g6, 0, none⟩) (qV 8 (fun wq_ hq_ => eD g6 0 0 1 underlying39) (qV 9 (fun wq_ hq_ => eB 0 ((S21.still hq_).2.blk 2 rfl b7)) (qV 10 (fun wq_ hq_ => e_slen (p := x5.s_) underlying9 kr) (qV 11 (fun wq_ hq_ => eLt .i64 x19 (x5.s_.length : Int)) (qV 12 (fun wq_ hq_ => eM (.bool (decide (x19 < (x5.s_.length : Int))))) ?_))))))))
 obtain ⟨q27, M⟩ | ⟨q27, M⟩ := ifd M
 ·refine qP1 9 12 (bF q27) (qV 22 (fun wq_ hq_ => eF (.bool false) (bF q27)) ?_)
  refine wpQuiet_nil ?_
  intro w94 C97
  obtain ⟨S95, K96⟩ := S21.still C97
  replace b4 := K96.b 0 b4
  replace h10 := h10.move (K96.a 1)
  replace b7 := K96.b 2 b7
  replace b13 := K96.b 3 b13
  replace b16 := K96.b 4 b16
  refine tN (cond_f rfl kr (wp_exit (tE (tE (inb_hit ?_)))))
  obtain rfl := sj M
  exact end0 rfl ⟨H, rfl, b4, h10, b7, b13, b16, S95⟩
 refine qG 13 12 (bT q27) (fun wq_ hq_ => eL ⟨g12, 0, none⟩ (.pointer (some ⟨g6, 0, none⟩)) underlying37 (blk_cell ((S21.still hq_).2.blk 3 rfl b13) rfl)) (qG 14 12 (bT q27) (fun wq_ hq_ => eN ⟨g6, 0, none⟩) (qG 15 12 (bT q27) (fun wq_ hq_ => eD g6 0 0 1 underlying39) (qG 16 12 (bT q27) (fun wq_ hq_ => eB 0 ((S21.still hq_).2.blk 2 rfl b7)) (qG 17 12 (bT q27) (fun wq_ hq_ => eL ⟨g3, 0, none⟩ (.int .i64 x19) underlying3 (blk_cell ((S21.still hq_).2.blk 0 rfl b4) rfl)) ?_))))
 obtain ⟨q28, M⟩ := chk M
 refine qG 18 12 (bT q27) (fun wq_ hq_ => e_sindex (p := x5.s_) (i := x19) (k := .i64) underlying9 kr kr q28 q27) ?_
 obtain ⟨t29, u30, M⟩ := bnd M
 refine qcallg (v := .int .i64 t29) (d := 19) (t := 12) rfl kr rfl (bT q27) rfl kr (fun w_ => eE func69) (fun wq_ hq_ => (by obtain ⟨S_, K_⟩ := S21.still hq_; replace b4 := K_.b 0 b4; replace h10 := h10.move (K_.a 1); replace b7 := K_.b 2 b7; replace b13 := K_.b 3 b13; replace b16 := K_.b 4 b16; exact (impl_hexValue.calls  S_.own0 u30))) (qG 20 12 (bT q27) (fun wq_ hq_ => eM (.int .i64 x1)) (qG 21 12 (bT q27) (fun wq_ hq_ => eLt .i64 t29 x1) (qV 22 (fun wq_ hq_ => eT (.bool (decide (t29 < x1))) (bT q27)) ?_)))
 refine wpQuiet_nil ?_
 intro w31 C34
 obtain ⟨S32, K33⟩ := S21.still C34
 replace b4 := K33.b 0 b4
 replace h10 := h10.move (K33.a 1)
 replace b7 := K33.b 2 b7
 replace b13 := K33.b 3 b13
 replace b16 := K33.b 4 b16
 refine tN ?_
 obtain ⟨q35, M⟩ | ⟨q35, M⟩ := ifd M
 ·refine cF (bF q35) (wp_exit (tE (tE (inb_hit ?_))))
  obtain rfl := sj M
  exact end0 rfl ⟨H, rfl, b4, h10, b7, b13, b16, S32⟩
 refine cT (bT q35) (wK (tN (wp_block (wQ (wQ (wR (lV 23 (eL ⟨g15, 0, none⟩ (.int .i64 x20) underlying3 (blk_cell b16 rfl)) (lP 1 (wN (tN ?_))))))))))
 obtain ⟨q36, M⟩ | ⟨q36, M⟩ := ifd M
 ·refine cF (bF q36) (wK (tN (wR (lV 36 (eL ⟨g3, 0, none⟩ (.int .i64 x19) underlying3 (blk_cell b4 rfl)) (lP 1 ?_)))))
  refine lE (eS g3 0 (.int .i64 (i64.wrap (x19 + 1))) #[.int .i64 (i64.wrap (x19 + 1))] [.int .i64 (i64.wrap (x19 + 1))] S32 b4) ?_
  rintro w90 ⟨b91, S92, K93⟩
  replace h10 := h10.move (K93.a 0)
  replace b7 := K93.b 1 b7
  replace b13 := K93.b 2 b13
  replace b16 := K93.b 3 b16
  clear b4
  refine wN (inb_n (tN ?_))
  exact ⟨k26, (by omega), _, (i64.wrap (x19 + 1)), x20, (hdw (hdc (hdc (hdc (hdc rfl kr) kr) kr) kr)), b91, h10, b7, b13, b16, S92, M⟩
 refine cT (bT q36) ?_
 refine region_mix (S := (fun (L_ : Array Bool) (w_ : World) => Ext H (hp w_) ∧ (∀ b_, (is g6) b_ → hp w_ b_ = hp w31 b_) ∧ (∀ b_, (is g12) b_ → hp w_ b_ = hp w31 b_) ∧ (L_.getD 11 true = false → (∀ b_, (is g15) b_ → hp w_ b_ = hp w31 b_)))) kr S32 ?_
 intro w37 S38 K39 hc40
 have o41 := b7
 have o42 := b13
 have o43 := b16
 have hs44 : (fun (L_ : Array Bool) (w_ : World) => Ext H (hp w_) ∧ (∀ b_, (is g6) b_ → hp w_ b_ = hp w31 b_) ∧ (∀ b_, (is g12) b_ → hp w_ b_ = hp w31 b_) ∧ (L_.getD 11 true = false → (∀ b_, (is g15) b_ → hp w_ b_ = hp w31 b_))) (Array.replicate 12 false) w37 := ⟨S38.inv, (fun b_ h_ => K39.at 2 rfl b_ h_), (fun b_ h_ => K39.at 3 rfl b_ h_), (fun _ => (fun b_ h_ => K39.at 4 rfl b_ h_))⟩
 replace b4 := K39.b 0 b4
 replace h10 := h10.move (K39.a 1)
 replace b7 := K39.b 2 b7
 replace b13 := K39.b 3 b13
 replace b16 := K39.b 4 b16
 refine xW 0 25 rfl (fun L_ w_ => by simp only [getD_set_ne true (show (0 : Nat) ≠ 11 by decide)]) hc40 hs44 (fun L_ w_ hc_ hu_ hs_ => eL ⟨g15, 0, none⟩ (.int .i64 x20) underlying3 (blk_cell (((hs_.2.2.2 (unl 9 11 0 hc_ hu_ kr)) _ rfl).trans o43) rfl)) ?_; intro hc45 hs46
 refine xW 1 26 rfl (fun L_ w_ => by simp only [getD_set_ne true (show (1 : Nat) ≠ 11 by decide)]) hc45 hs46 (fun L_ w_ hc_ hu_ hs_ => eM (.int .i64 x1)) ?_; intro hc47 hs48
 refine xW 2 27 rfl (fun L_ w_ => by simp only [getD_set_ne true (show (2 : Nat) ≠ 11 by decide)]) hc47 hs48 (fun L_ w_ hc_ hu_ hs_ => e_mul (k := .i64) (a := x20) (b := x1) kr kr) ?_; intro hc49 hs50
 refine xW 3 28 rfl (fun L_ w_ => by simp only [getD_set_ne true (show (3 : Nat) ≠ 11 by decide)]) hc49 hs50 (fun L_ w_ hc_ hu_ hs_ => eL ⟨g12, 0, none⟩ (.pointer (some ⟨g6, 0, none⟩)) underlying37 (blk_cell ((hs_.2.2.1 _ rfl).trans o42) rfl)) ?_; intro hc51 hs52
 refine xW 4 29 rfl (fun L_ w_ => by simp only [getD_set_ne true (show (4 : Nat) ≠ 11 by decide)]) hc51 hs52 (fun L_ w_ hc_ hu_ hs_ => eN ⟨g6, 0, none⟩) ?_; intro hc53 hs54
 refine xW 5 30 rfl (fun L_ w_ => by simp only [getD_set_ne true (show (5 : Nat) ≠ 11 by decide)]) hc53 hs54 (fun L_ w_ hc_ hu_ hs_ => eD g6 0 0 1 underlying39) ?_; intro hc55 hs56
 refine xW 6 31 rfl (fun L_ w_ => by simp only [getD_set_ne true (show (6 : Nat) ≠ 11 by decide)]) hc55 hs56 (fun L_ w_ hc_ hu_ hs_ => eB 0 ((hs_.2.1 _ rfl).trans o41)) ?_; intro hc57 hs58
 refine xO 7 hc57 ?_
 refine yP 7 32 rfl (fun L_ w_ => by simp only [getD_set_ne true (show (7 : Nat) ≠ 11 by decide)]) hs58 (eL ⟨g3, 0, none⟩ (.int .i64 x19) underlying3 (blk_cell b4 rfl)) ?_; intro hc59 hs60
 refine xO 8 hc59 ?_
 refine yP 8 33 rfl (fun L_ w_ => by simp only [getD_set_ne true (show (8 : Nat) ≠ 11 by decide)]) hs60 (e_sindex (p := x5.s_) (i := x19) (k := .i64) underlying9 kr kr q28 q27) ?_; intro hc61 hs62
 obtain ⟨t63, u64, M⟩ := bnd M
 refine xO 9 hc61 ?_
 refine yC 9 rfl (eE func69) (impl_hexValue.calls  S38.own0 u64) ?_
 rintro hc67 _ w65 ⟨rfl, C66⟩
 refine ⟨_, rfl, ?_⟩
 obtain ⟨S68, K69⟩ := S38.still C66
 replace b4 := K69.b 0 b4
 replace h10 := h10.move (K69.a 1)
 replace b7 := K69.b 2 b7
 replace b13 := K69.b 3 b13
 replace b16 := K69.b 4 b16
 refine ⟨⟨S68.inv, (fun b_ h_ => (K69.at 2 rfl b_ h_).trans (hs62.2.1 b_ h_)), (fun b_ h_ => (K69.at 3 rfl b_ h_).trans (hs62.2.2.1 b_ h_)), (fun q_ => (fun b_ h_ => (K69.at 4 rfl b_ h_).trans ((hs62.2.2.2 (by decide +kernel)) b_ h_)))⟩, fun hs70 => ?_⟩
 refine xO 10 hc67 ?_
 refine yP 10 35 rfl (fun L_ w_ => by simp only [getD_set_ne true (show (10 : Nat) ≠ 11 by decide)]) hs70 (eAdd .i64 (i64.wrap (x20 * x1)) t63) ?_; intro hc71 hs72
 have S73 := S68.pulls [(is g15), (is g3), F11, (is g6), (is g12)] [4] rfl
 refine xO 11 hc71 ?_
 refine yS 11 rfl (eS g15 0 (.int .i64 (i64.wrap ((i64.wrap (x20 * x1)) + t63))) #[.int .i64 (i64.wrap ((i64.wrap (x20 * x1)) + t63))] [.int .i64 (i64.wrap ((i64.wrap (x20 * x1)) + t63))] S73 b16) ?_
 rintro hc78 w74 ⟨b75, S76, K77⟩
 replace b4 := K77.b 0 b4
 replace h10 := h10.move (K77.a 1)
 replace b7 := K77.b 2 b7
 replace b13 := K77.b 3 b13
 refine ⟨⟨S76.inv, (fun b_ h_ => (K77.at 2 rfl b_ h_).trans (hs72.2.1 b_ h_)), (fun b_ h_ => (K77.at 3 rfl b_ h_).trans (hs72.2.2.1 b_ h_)), (fun q_ => absurd q_ (by decide +kernel))⟩, fun hs79 => ?_⟩
 clear b16
 refine xn kr ?_ _
 refine tN (wR (lV 36 (eL ⟨g3, 0, none⟩ (.int .i64 x19) underlying3 (blk_cell b4 rfl)) (lP 1 ?_)))
 have S80 := S76.pulls [(is g3), (is g15), F11, (is g6), (is g12)] [1] rfl
 refine lE (eS g3 0 (.int .i64 (i64.wrap (x19 + 1))) #[.int .i64 (i64.wrap (x19 + 1))] [.int .i64 (i64.wrap (x19 + 1))] S80 b4) ?_
 rintro w81 ⟨b82, S83, K84⟩
 replace b75 := K84.b 0 b75
 replace h10 := h10.move (K84.a 1)
 replace b7 := K84.b 2 b7
 replace b13 := K84.b 3 b13
 clear b4
 refine wN (inb_n (tN ?_))
 have S89 := S83.pulls [(is g3), F11, (is g6), (is g12), (is g15)] [1, 4, 4, 4, 4] rfl
 exact ⟨k26, (by omega), _, (i64.wrap (x19 + 1)), (i64.wrap ((i64.wrap (x20 * x1)) + t63)), (hdw (hdc (hdc (hdc (hdc rfl kr) kr) kr) kr)), b82, h10, b7, b13, b75, S89, M⟩
end Go.Proofs.YtdkbfcmekppnmaaGreatDoor
