import Derived.Test.YtdkbfcmekppnmaaGreatDoorWkTk7
namespace Go.Proofs.YtdkbfcmekppnmaaGreatDoor
open Go.Sx Go.Sy IntKind Tryz
attribute [local irreducible] Go.wpList Go.wpStill Go.wpQuiet Go.Code.wp
set_option maxRecDepth 100000
set_option maxHeartbeats 1000000
set_option linter.unusedVariables false
set_option linter.unusedSimpArgs false
def impl_lexer_number.l1 (_k : Nat) (x1 : GLexer) (x135 : List UInt8) (x136 : Int) (x137 : List Token) (x142 : Int) (x143 : Int) (x144 : Int) (x145 : Int) : Option GLexer := (if x145 < (x135.length : Int) then (if 0 ≤ x145 then ((impl_isAlnum.f (x135.getD (x145 : Int).toNat (0 : UInt8))).bind fun t542 => (if t542 = true then ((impl_lexer_fault.f (⟨x135, x136, x137, x142, x143⟩ : GLexer) 2 x1.at_).bind fun t551 => some t551) else (if x144 > 1000000000000000 then ((impl_lexer_fault.f (⟨x135, x136, x137, x142, x143⟩ : GLexer) 3 x1.at_).bind fun t570 => some t570) else ((impl_lexer_put.f (⟨x135, x136, x137, x142, x143⟩ : GLexer) 3 x145 ([] : List UInt8) x144).bind fun t588 => some t588)))) else none) else (if x144 > 1000000000000000 then ((impl_lexer_fault.f (⟨x135, x136, x137, x142, x143⟩ : GLexer) 3 x1.at_).bind fun t611 => some t611) else ((impl_lexer_put.f (⟨x135, x136, x137, x142, x143⟩ : GLexer) 3 x145 ([] : List UInt8) x144).bind fun t629 => some t629)))
def impl_lexer_number.l0 (k : Nat) (x1 : GLexer) (x35 : Int) : Option GLexer := (if 0 ≤ x1.at_ then (if x1.at_ < (x1.s_.length : Int) then (if ((x1.s_.getD (x1.at_ : Int).toNat (0 : UInt8)).toNat : Int) = 48 then ((impl_lexer_peek.f x1 1).bind fun t153 => (if (t153.toNat : Int) = 39 then (if (i64.wrap (x1.at_ + 2)) ≥ (x1.s_.length : Int) then ((impl_lexer_fault.f x1 2 x1.at_).bind fun t183 => (if t183.code_ ≠ 0 then some t183 else (impl_lexer_number.l1 0 x1 t183.s_ t183.at_ t183.tokens_ t183.code_ t183.place_ 0 (i64.wrap (x1.at_ + 2))))) else (if 0 ≤ (i64.wrap (x1.at_ + 2)) then (if (i64.wrap (x1.at_ + 2)) < (x1.s_.length : Int) then (if ((x1.s_.getD ((i64.wrap (x1.at_ + 2)) : Int).toNat (0 : UInt8)).toNat : Int) = 39 then ((impl_lexer_peek.f x1 3).bind fun t211 => (if (t211.toNat : Int) ≠ 39 then ((impl_lexer_fault.f x1 2 x1.at_).bind fun t233 => (if t233.code_ ≠ 0 then some t233 else (impl_lexer_number.l1 0 x1 t233.s_ t233.at_ t233.tokens_ t233.code_ t233.place_ 39 (i64.wrap ((i64.wrap (x1.at_ + 2)) + 2))))) else (if x1.code_ ≠ 0 then some x1 else (impl_lexer_number.l1 0 x1 x1.s_ x1.at_ x1.tokens_ x1.code_ x1.place_ 39 (i64.wrap ((i64.wrap (x1.at_ + 2)) + 2)))))) else (if ((x1.s_.getD ((i64.wrap (x1.at_ + 2)) : Int).toNat (0 : UInt8)).toNat : Int) = 92 then ((impl_lexer_escape.f k x1 (i64.wrap (x1.at_ + 2))).bind fun t288 => (if ¬ (t288.2.2 = true) then ((impl_lexer_fault.f x1 2 x1.at_).bind fun t310 => some t310) else (if t288.1 = ([] : List UInt8) then ((impl_lexer_fault.f x1 2 x1.at_).bind fun t329 => some t329) else (if 0 < (t288.1.length : Int) then (if x1.code_ ≠ 0 then some x1 else (impl_lexer_number.l1 0 x1 x1.s_ x1.at_ x1.tokens_ x1.code_ x1.place_ ((t288.1.getD (0 : Int).toNat (0 : UInt8)).toNat : Int) t288.2.1)) else none)))) else ((impl_isPrint.f (x1.s_.getD ((i64.wrap (x1.at_ + 2)) : Int).toNat (0 : UInt8))).bind fun t365 => (if t365 = true then (if x1.code_ ≠ 0 then some x1 else (impl_lexer_number.l1 0 x1 x1.s_ x1.at_ x1.tokens_ x1.code_ x1.place_ ((x1.s_.getD ((i64.wrap (x1.at_ + 2)) : Int).toNat (0 : UInt8)).toNat : Int) (i64.wrap ((i64.wrap (x1.at_ + 2)) + 1)))) else ((impl_lexer_fault.f x1 2 x1.at_).bind fun t416 => (if t416.code_ ≠ 0 then some t416 else (impl_lexer_number.l1 0 x1 t416.s_ t416.at_ t416.tokens_ t416.code_ t416.place_ 0 (i64.wrap (x1.at_ + 2))))))))) else none) else none)) else (if x35 ≠ 10 then ((impl_lexer_number_c1.f k x35 (i64.wrap (x1.at_ + 2)) x1 0).bind fun t448 => (impl_lexer_number.l1 0 x1 x1.s_ x1.at_ x1.tokens_ x1.code_ x1.place_ t448.2 t448.1)) else ((impl_lexer_number_c1.f k 10 x1.at_ x1 0).bind fun t471 => (impl_lexer_number.l1 0 x1 x1.s_ x1.at_ x1.tokens_ x1.code_ x1.place_ t471.2 t471.1))))) else (if x35 ≠ 10 then ((impl_lexer_number_c1.f k x35 (i64.wrap (x1.at_ + 2)) x1 0).bind fun t499 => (impl_lexer_number.l1 0 x1 x1.s_ x1.at_ x1.tokens_ x1.code_ x1.place_ t499.2 t499.1)) else ((impl_lexer_number_c1.f k 10 x1.at_ x1 0).bind fun t522 => (impl_lexer_number.l1 0 x1 x1.s_ x1.at_ x1.tokens_ x1.code_ x1.place_ t522.2 t522.1)))) else none) else none)
def impl_lexer_number.f (k : Nat) (x1 : GLexer) : Option GLexer := (if 0 ≤ x1.at_ then (if x1.at_ < (x1.s_.length : Int) then (if ((x1.s_.getD (x1.at_ : Int).toNat (0 : UInt8)).toNat : Int) = 48 then ((impl_lexer_peek.f x1 1).bind fun t60 => (if ((mget (mset (mset (mset [] (120 : UInt8) 16) (111 : UInt8) 8) (98 : UInt8) 2) t60).getD (0 : Int)) = 0 then (impl_lexer_number.l0 k x1 10) else ((impl_lexer_peek.f x1 2).bind fun t86 => ((impl_hexValue.f t86).bind fun t105 => (if t105 ≥ ((mget (mset (mset (mset [] (120 : UInt8) 16) (111 : UInt8) 8) (98 : UInt8) 2) t60).getD (0 : Int)) then (impl_lexer_number.l0 k x1 10) else (if (i64.wrap (x1.at_ + 2)) ≥ (x1.s_.length : Int) then (impl_lexer_number.l0 k x1 10) else (impl_lexer_number.l0 k x1 ((mget (mset (mset (mset [] (120 : UInt8) 16) (111 : UInt8) 8) (98 : UInt8) 2) t60).getD (0 : Int))))))))) else (impl_lexer_number.l0 k x1 10)) else none) else none)
theorem impl_lexer_number.calls {k : Nat} {w : World} {H : Hp} (x1 : GLexer) {g2 : Nat} {A4 : Option Addr} {c5 : Nat} {F7 : Foot} (h6 : Row st28 28 H (hp w) F7 A4 c5 x1.tokens_) (b3 : w.heap[g2]? = some (.cells #[str x1.s_, .int .i64 x1.at_, .slice A4 x1.tokens_.length c5, .int .i64 x1.code_, .int .i64 x1.place_] 39 (0, 0))) (S : Own [F7, (is g2)] H w) {r : GLexer} (M : impl_lexer_number.f k x1 = some r) :
  Calls Tryz.prog 44 #[.pointer (some ⟨g2, 0, none⟩)] w (fun e e_w => ∃ (A_1 : Option Addr) (c_1 : Nat) (F_1 : Foot) (H_ : Hp), e = .returned (.tuple #[]) ∧ Row st28 28 H_ (hp e_w) F_1 A_1 c_1 r.tokens_ ∧ e_w.heap[g2]? = some (.cells #[str r.s_, .int .i64 r.at_, .slice A_1 r.tokens_.length c_1, .int .i64 r.code_, .int .i64 r.place_] 39 (0, 0)) ∧ St (anyOf [F7, (is g2)]) H w [(is g2), F_1] H_ e_w) := by
 rw [impl_lexer_number.f] at M
 refine enter (l := [.pointer (some ⟨g2, 0, none⟩)]) 180 func44 rfl rfl rfl ?_
 have S0_ := S.st
 refine wQ (wR ?_)
 refine lW 1 (nB #[.pointer (some ⟨g2, 0, none⟩)] 37 S0_) ?_
 rintro _ w8 ⟨g9, rfl, b10, S11, K12⟩
 replace h6 := h6.move (K12.a 0)
 replace b3 := K12.b 1 b3
 refine wN (tN (wQ (wR (lV 10 (eL ⟨g9, 0, none⟩ (.pointer (some ⟨g2, 0, none⟩)) underlying37 (blk_cell b10 rfl)) (lP 2 (lV 13 (eB 1 b3) (lP 1 (wN (tN (wQ (wR (lP 1 ?_))))))))))))
 refine lW 3 (nB #[.int .i64 0] 3 S11) ?_
 rintro _ w13 ⟨g14, rfl, b15, S16, K17⟩
 replace b10 := K17.b 0 b10
 replace h6 := h6.move (K17.a 1)
 replace b3 := K17.b 2 b3
 refine lW 4 (nB #[.int .i64 0] 3 S16) ?_
 rintro _ w18 ⟨g19, rfl, b20, S21, K22⟩
 replace b15 := K22.b 0 b15
 replace b10 := K22.b 1 b10
 replace h6 := h6.move (K22.a 2)
 replace b3 := K22.b 3 b3
 have S23 := S21.pulls [(is g14), (is g19), (is g9), F7, (is g2)] [1] rfl
 refine lE (eS g14 0 (.int .i64 0) #[.int .i64 0] [.int .i64 0] S23 b15) ?_
 rintro w24 ⟨b25, S26, K27⟩
 replace b20 := K27.b 0 b20
 replace b10 := K27.b 1 b10
 replace h6 := h6.move (K27.a 2)
 replace b3 := K27.b 3 b3
 clear b15
 have S28 := S26.pulls [(is g19), (is g14), (is g9), F7, (is g2)] [1] rfl
 refine lE (eS g19 0 (.int .i64 x1.at_) #[.int .i64 x1.at_] [.int .i64 x1.at_] S28 b20) ?_
 rintro w29 ⟨b30, S31, K32⟩
 replace b25 := K32.b 0 b25
 replace b10 := K32.b 1 b10
 replace h6 := h6.move (K32.a 2)
 replace b3 := K32.b 3 b3
 clear b20
 refine wN (tN (wQ (wR (lV 15 (e_makeFunc (cs := [.tmp 4, .tmp 1, .tmp 3]) (vs := [.pointer (some ⟨g19, 0, none⟩), .pointer (some ⟨g9, 0, none⟩), .pointer (some ⟨g14, 0, none⟩)]) kr) (lP 1 (wN (tN (wQ (wR (lP 1 (wN (tN ?_))))))))))))
 refine wp_seq_cut (fun a39 w33 => ∃ (f34 : Nat → Value) (x35 : Int), a39 = mk 180 (upd (upd (upd (upd (upd (upd f34 1 (.pointer (some ⟨g9, 0, none⟩))) 2 (.int .i64 x1.at_)) 3 (.pointer (some ⟨g14, 0, none⟩))) 4 (.pointer (some ⟨g19, 0, none⟩))) 5 (.func (.func 68) #[] #[.pointer (some ⟨g19, 0, none⟩), .pointer (some ⟨g9, 0, none⟩), .pointer (some ⟨g14, 0, none⟩)])) 6 (.int .i64 x35)) ∧ w33.heap[g19]? = some (.cells #[.int .i64 x1.at_] 3 (0, 0)) ∧ w33.heap[g14]? = some (.cells #[.int .i64 0] 3 (0, 0)) ∧ w33.heap[g9]? = some (.cells #[.pointer (some ⟨g2, 0, none⟩)] 37 (0, 0)) ∧ Row st28 28 H (hp w33) F7 A4 c5 x1.tokens_ ∧ w33.heap[g2]? = some (.cells #[str x1.s_, .int .i64 x1.at_, .slice A4 x1.tokens_.length c5, .int .i64 x1.code_, .int .i64 x1.place_] 39 (0, 0)) ∧ St (anyOf [F7, (is g2)]) H w [(is g19), (is g14), (is g9), F7, (is g2)] H w33 ∧ impl_lexer_number.l0 k x1 x35 = some r) ?_ ?_
 ·refine wQ (wR (lV 16 (eL ⟨g9, 0, none⟩ (.pointer (some ⟨g2, 0, none⟩)) underlying37 (blk_cell b10 rfl)) (lP 2 (lV 19 (eB 0 b3) (lP 1 ?_)))))
  obtain ⟨q40, M⟩ := chk M
  obtain ⟨q41, M⟩ := chk M
  refine lV 21 (e_sindex (p := x1.s_) (i := x1.at_) (k := .i64) underlying9 kr kr q40 q41) (lP 1 (wN (tN ?_)))
  obtain ⟨q42, M⟩ | ⟨q42, M⟩ := ifd M
  ·refine cF (bF q42) (wK (tN ?_))
   exact ⟨_, 10, (hdw (hdc (hdc (hdc (hdc (hdc (hdc rfl kr) kr) kr) kr) kr) kr)), b30, b25, b10, h6, b3, S31, M⟩
  refine cT (bT q42) (wQ (wR ?_))
  refine lW 23 (e_makeMap S31 encB tInt) ?_
  rintro _ w43 ⟨g44, rfl, h45, S46, K47⟩
  replace b30 := K47.b 0 b30
  replace b25 := K47.b 1 b25
  replace b10 := K47.b 2 b10
  replace h6 := h6.move (K47.a 3)
  replace b3 := K47.b 4 b3
  refine lE (e_insert (k := (120 : UInt8)) (a := 16) S46 h45 keyB underlying89 underlying5 kr rfl rfl rfl) ?_
  rintro w48 ⟨h49, S50, K51⟩
  replace b30 := K51.b 0 b30
  replace b25 := K51.b 1 b25
  replace b10 := K51.b 2 b10
  replace h6 := h6.move (K51.a 3)
  replace b3 := K51.b 4 b3
  clear h45
  refine lE (e_insert (k := (111 : UInt8)) (a := 8) S50 h49 keyB underlying89 underlying5 kr rfl rfl rfl) ?_
  rintro w52 ⟨h53, S54, K55⟩
  replace b30 := K55.b 0 b30
  replace b25 := K55.b 1 b25
  replace b10 := K55.b 2 b10
  replace h6 := h6.move (K55.a 3)
  replace b3 := K55.b 4 b3
  clear h49
  refine lE (e_insert (k := (98 : UInt8)) (a := 2) S54 h53 keyB underlying89 underlying5 kr rfl rfl rfl) ?_
  rintro w56 ⟨h57, S58, K59⟩
  replace b30 := K59.b 0 b30
  replace b25 := K59.b 1 b25
  replace b10 := K59.b 2 b10
  replace h6 := h6.move (K59.a 3)
  replace b3 := K59.b 4 b3
  clear h53
  refine lP 1 (lV 25 (eL ⟨g9, 0, none⟩ (.pointer (some ⟨g2, 0, none⟩)) underlying37 (blk_cell b10 rfl)) ?_)
  obtain ⟨t60, u61, M⟩ := bnd M
  refine lC 26 (eE func37) (by have l62 := h6.le; have S63 := S58.pull (F := F7) (Fr := [(is g44), (is g19), (is g14), (is g9), (is g2)]) 4 rfl rfl; obtain ⟨H64, S65, E66, h67, z68⟩ := S63.frzRow h6; replace h57 := h57.ext E66; have S69 := S65.pull (F := (is g2)) (Fr := [(is g44), (is g19), (is g14), (is g9)]) 4 rfl rfl; obtain ⟨H70, S71, E72, h73, z74⟩ := S69.frzBlk b3; replace h57 := h57.ext E72; exact (impl_lexer_peek.calls x1 (h67.ext E72) l62 h73 S71.own0 u61)) ?_
  rintro _ w75 ⟨rfl, C76⟩
  refine ⟨_, rfl, ?_⟩
  obtain ⟨S77, K78⟩ := S58.still C76
  replace h57 := h57.move (K78.a 0)
  replace b30 := K78.b 1 b30
  replace b25 := K78.b 2 b25
  replace b10 := K78.b 3 b10
  replace h6 := h6.move (K78.a 4)
  replace b3 := K78.b 5 b3
  refine lV 27 (e_look1_s (k := t60) (0 : Int) h57 keyB underlying89 underlying5 kr kr kr) (lP 1 (wN (tN (wQ (wR (lP 3 ?_))))))
  obtain ⟨q79, M⟩ | ⟨q79, M⟩ := ifc M
  ·refine lP1 16 30 (bT q79) (wN (tN (cond_t rfl kr (wR (lP 1 (wN (tN ?_)))))))
   have S84 := S77.pulls [(is g19), (is g14), (is g9), F7, (is g2), (is g44)] [5, 5, 5, 5, 5] rfl
   have S85 := St.first (Fa := [(is g19), (is g14), (is g9), F7, (is g2)]) (Fr := [(is g44)]) S84
   exact ⟨_, 10, (hdw (hdc (hdc (hdc (hdc (hdc (hdc rfl kr) kr) kr) kr) kr) kr)), b30, b25, b10, h6, b3, S85, M⟩
  refine lG 31 30 (bF q79) (eL ⟨g9, 0, none⟩ (.pointer (some ⟨g2, 0, none⟩)) underlying37 (blk_cell b10 rfl)) ?_
  obtain ⟨t86, u87, M⟩ := bnd M
  refine lcallg (d := 32) (t := 30) rfl kr rfl (bF q79) rfl kr (eE func37) (by have l88 := h6.le; have S89 := S77.pull (F := F7) (Fr := [(is g44), (is g19), (is g14), (is g9), (is g2)]) 4 rfl rfl; obtain ⟨H90, S91, E92, h93, z94⟩ := S89.frzRow h6; replace h57 := h57.ext E92; have S95 := S91.pull (F := (is g2)) (Fr := [(is g44), (is g19), (is g14), (is g9)]) 4 rfl rfl; obtain ⟨H96, S97, E98, h99, z100⟩ := S95.frzBlk b3; replace h57 := h57.ext E98; exact (impl_lexer_peek.calls x1 (h93.ext E98) l88 h99 S97.own0 u87)) ?_
  rintro _ w101 ⟨rfl, C102⟩
  refine ⟨_, rfl, ?_⟩
  obtain ⟨S103, K104⟩ := S77.still C102
  replace b30 := K104.b 1 b30
  replace b25 := K104.b 2 b25
  replace b10 := K104.b 3 b10
  replace h6 := h6.move (K104.a 4)
  replace b3 := K104.b 5 b3
  obtain ⟨t105, u106, M⟩ := bnd M
  refine lcallg (d := 33) (t := 30) rfl kr rfl (bF q79) rfl kr (eE func69) (impl_hexValue.calls  S103.own0 u106) ?_
  rintro _ w107 ⟨rfl, C108⟩
  refine ⟨_, rfl, ?_⟩
  obtain ⟨S109, K110⟩ := S103.still C108
  replace b30 := K110.b 1 b30
  replace b25 := K110.b 2 b25
  replace b10 := K110.b 3 b10
  replace h6 := h6.move (K110.a 4)
  replace b3 := K110.b 5 b3
  refine lP1 4 30 (bF q79) ?_
  obtain ⟨q111, M⟩ | ⟨q111, M⟩ := ifc M
  ·refine lP1 9 37 (bT q111) (wN (tN (cond_t rfl kr (wR (lP 1 (wN (tN ?_)))))))
   have S116 := S109.pulls [(is g19), (is g14), (is g9), F7, (is g2), (is g44)] [5, 5, 5, 5, 5] rfl
   have S117 := St.first (Fa := [(is g19), (is g14), (is g9), F7, (is g2)]) (Fr := [(is g44)]) S116
   exact ⟨_, 10, (hdw (hdc (hdc (hdc (hdc (hdc (hdc rfl kr) kr) kr) kr) kr) kr)), b30, b25, b10, h6, b3, S117, M⟩
  refine lP1 2 37 (bF q111) (lG 40 37 (bF q111) (eL ⟨g9, 0, none⟩ (.pointer (some ⟨g2, 0, none⟩)) underlying37 (blk_cell b10 rfl)) (lP1 2 37 (bF q111) (lG 43 37 (bF q111) (eB 0 b3) (lG 44 37 (bF q111) (e_slen (p := x1.s_) underlying9 kr) (lP1 2 37 (bF q111) (wN (tN ?_)))))))
  obtain ⟨q118, M⟩ | ⟨q118, M⟩ := ifc M
  ·refine cT (bT q118) (wR (lP 1 (wN (tN ?_))))
   have S123 := S109.pulls [(is g19), (is g14), (is g9), F7, (is g2), (is g44)] [5, 5, 5, 5, 5] rfl
   have S124 := St.first (Fa := [(is g19), (is g14), (is g9), F7, (is g2)]) (Fr := [(is g44)]) S123
   exact ⟨_, 10, (hdw (hdc (hdc (hdc (hdc (hdc (hdc rfl kr) kr) kr) kr) kr) kr)), b30, b25, b10, h6, b3, S124, M⟩
  refine cF (bF q118) (wK (tN ?_))
  have S129 := S109.pulls [(is g19), (is g14), (is g9), F7, (is g2), (is g44)] [5, 5, 5, 5, 5] rfl
  have S130 := St.first (Fa := [(is g19), (is g14), (is g9), F7, (is g2)]) (Fr := [(is g44)]) S129
  exact ⟨_, ((mget (mset (mset (mset [] (120 : UInt8) 16) (111 : UInt8) 8) (98 : UInt8) 2) t60).getD (0 : Int)), (hdw (hdc (hdc (hdc (hdc (hdc (hdc rfl kr) kr) kr) kr) kr) kr)), b30, b25, b10, h6, b3, S130, M⟩
 clear M
 rintro a39 w33 ⟨f34, x35, rfl, b30, b25, b10, h6, b3, S36, M⟩
 rw [impl_lexer_number.l0] at M
 refine wp_seq_cut (fun a149 w131 => ∃ (f132 : Nat → Value) (H133 : Hp) (x135 : List UInt8) (x136 : Int) (x137 : List Token) (A138 : Option Addr) (c139 : Nat) (F140 : Foot) (x142 : Int) (x143 : Int) (x144 : Int) (x145 : Int), a149 = mk 180 (upd (upd (upd (upd f132 1 (.pointer (some ⟨g9, 0, none⟩))) 2 (.int .i64 x1.at_)) 3 (.pointer (some ⟨g14, 0, none⟩))) 4 (.pointer (some ⟨g19, 0, none⟩))) ∧ w131.heap[g19]? = some (.cells #[.int .i64 x145] 3 (0, 0)) ∧ w131.heap[g14]? = some (.cells #[.int .i64 x144] 3 (0, 0)) ∧ w131.heap[g9]? = some (.cells #[.pointer (some ⟨g2, 0, none⟩)] 37 (0, 0)) ∧ w131.heap[g2]? = some (.cells #[str x135, .int .i64 x136, .slice A138 x137.length c139, .int .i64 x142, .int .i64 x143] 39 (0, 0)) ∧ Row st28 28 H133 (hp w131) F140 A138 c139 x137 ∧ Ext H H133 ∧ St (anyOf [F7, (is g2)]) H w [(is g19), (is g14), (is g9), (is g2), F140] H133 w131 ∧ impl_lexer_number.l1 0 x1 x135 x136 x137 x142 x143 x144 x145 = some r) ?_ ?_
 ·refine wp_block (wQ (wR (lV 50 (eL ⟨g9, 0, none⟩ (.pointer (some ⟨g2, 0, none⟩)) underlying37 (blk_cell b10 rfl)) (lP 2 (lV 53 (eB 0 b3) (lP 1 ?_))))))
  obtain ⟨q150, M⟩ := chk M
  obtain ⟨q151, M⟩ := chk M
  refine lV 55 (e_sindex (p := x1.s_) (i := x1.at_) (k := .i64) underlying9 kr kr q150 q151) (lP 2 ?_)
  obtain ⟨q152, M⟩ | ⟨q152, M⟩ := ifd M
  ·refine lP1 5 57 (bF q152) (wN (tN (cond_f rfl kr (wQ (wR (lP 1 (lV 146 (eNe .i64 x35 10) (lP 1 (wN (tN ?_))))))))))
   obtain ⟨q489, M⟩ | ⟨q489, M⟩ := ifd M
   ·refine cF (bF q489) (wR (lP 1 ?_))
    have S521 := S36.pulls [(is g19), F7, (is g2), (is g9), (is g14)] [1, 2, 4, 4, 4] rfl
    obtain ⟨t522, u523, M⟩ := bnd M
    refine lC 48 (e_callv (l := [.const (.int .i64 10)]) (vs := [.int .i64 10]) (cs := [.pointer (some ⟨g19, 0, none⟩), .pointer (some ⟨g9, 0, none⟩), .pointer (some ⟨g14, 0, none⟩)]) func68 kr rfl kr kr) (impl_lexer_number_c1.calls x1 b30 h6 b3 b10 b25 (St.own' (Fa := [(is g19), F7, (is g2), (is g9), (is g14)]) (Fr := []) S521) u523) ?_
    rintro _ w524 ⟨H525, rfl, b527, h528, b529, b530, b531, T526⟩
    refine ⟨_, rfl, ?_⟩
    obtain ⟨S532, K533⟩ := St.call (Fa := [(is g19), F7, (is g2), (is g9), (is g14)]) (Fr := []) S521 T526
    have E534 := T526.ext
    refine wN (inb_n (tN ?_))
    have S539 := S532.pulls [(is g19), (is g14), (is g9), (is g2), F7] [1, 2, 3, 4, 4] rfl
    exact ⟨_, H525, x1.s_, x1.at_, x1.tokens_, A4, c5, F7, x1.code_, x1.place_, t522.2, t522.1, (hdw (hdc (hdc (hdc (hdc rfl kr) kr) kr) kr)), b527, b531, b530, b529, h528, E534, S539, M⟩
   refine cT (bT q489) (wQ (wR (lP 2 ?_)))
   refine lE (eS g19 0 (.int .i64 (i64.wrap (x1.at_ + 2))) #[.int .i64 (i64.wrap (x1.at_ + 2))] [.int .i64 (i64.wrap (x1.at_ + 2))] S36 b30) ?_
   rintro w490 ⟨b491, S492, K493⟩
   replace b25 := K493.b 0 b25
   replace b10 := K493.b 1 b10
   replace h6 := h6.move (K493.a 2)
   replace b3 := K493.b 3 b3
   clear b30
   refine wN (tN (wR (lP 2 ?_)))
   have S498 := S492.pulls [(is g19), F7, (is g2), (is g9), (is g14)] [1, 2, 4, 4, 4] rfl
   obtain ⟨t499, u500, M⟩ := bnd M
   refine lC 151 (e_callv (l := [.tmp 150]) (vs := [.int .i64 x35]) (cs := [.pointer (some ⟨g19, 0, none⟩), .pointer (some ⟨g9, 0, none⟩), .pointer (some ⟨g14, 0, none⟩)]) func68 kr rfl kr kr) (impl_lexer_number_c1.calls x1 b491 h6 b3 b10 b25 (St.own' (Fa := [(is g19), F7, (is g2), (is g9), (is g14)]) (Fr := []) S498) u500) ?_
   rintro _ w501 ⟨H502, rfl, b504, h505, b506, b507, b508, T503⟩
   refine ⟨_, rfl, ?_⟩
   obtain ⟨S509, K510⟩ := St.call (Fa := [(is g19), F7, (is g2), (is g9), (is g14)]) (Fr := []) S498 T503
   have E511 := T503.ext
   refine wN (inb_n (tN ?_))
   have S516 := S509.pulls [(is g19), (is g14), (is g9), (is g2), F7] [1, 2, 3, 4, 4] rfl
   exact ⟨_, H502, x1.s_, x1.at_, x1.tokens_, A4, c5, F7, x1.code_, x1.place_, t499.2, t499.1, (hdw (hdc (hdc (hdc (hdc rfl kr) kr) kr) kr)), b504, b508, b507, b506, h505, E511, S516, M⟩
  refine lG 58 57 (bT q152) (eL ⟨g9, 0, none⟩ (.pointer (some ⟨g2, 0, none⟩)) underlying37 (blk_cell b10 rfl)) ?_
  obtain ⟨t153, u154, M⟩ := bnd M
  refine lcallg (d := 59) (t := 57) rfl kr rfl (bT q152) rfl kr (eE func37) (by have l155 := h6.le; have S156 := S36.pull (F := F7) (Fr := [(is g19), (is g14), (is g9), (is g2)]) 3 rfl rfl; obtain ⟨H157, S158, E159, h160, z161⟩ := S156.frzRow h6; have S162 := S158.pull (F := (is g2)) (Fr := [(is g19), (is g14), (is g9)]) 3 rfl rfl; obtain ⟨H163, S164, E165, h166, z167⟩ := S162.frzBlk b3; exact (impl_lexer_peek.calls x1 (h160.ext E165) l155 h166 S164.own0 u154)) ?_
  rintro _ w168 ⟨rfl, C169⟩
  refine ⟨_, rfl, ?_⟩
  obtain ⟨S170, K171⟩ := S36.still C169
  replace b30 := K171.b 0 b30
  replace b25 := K171.b 1 b25
  replace b10 := K171.b 2 b10
  replace h6 := h6.move (K171.a 3)
  replace b3 := K171.b 4 b3
  refine lP1 3 57 (bT q152) (wN (tN ?_))
  obtain ⟨q172, M⟩ | ⟨q172, M⟩ := ifd M
  ·refine cF (bF q172) (wQ (wR (lP 1 (lV 146 (eNe .i64 x35 10) (lP 1 (wN (tN ?_)))))))
   obtain ⟨q438, M⟩ | ⟨q438, M⟩ := ifd M
   ·refine cF (bF q438) (wR (lP 1 ?_))
    have S470 := S170.pulls [(is g19), F7, (is g2), (is g9), (is g14)] [1, 2, 4, 4, 4] rfl
    obtain ⟨t471, u472, M⟩ := bnd M
    refine lC 48 (e_callv (l := [.const (.int .i64 10)]) (vs := [.int .i64 10]) (cs := [.pointer (some ⟨g19, 0, none⟩), .pointer (some ⟨g9, 0, none⟩), .pointer (some ⟨g14, 0, none⟩)]) func68 kr rfl kr kr) (impl_lexer_number_c1.calls x1 b30 h6 b3 b10 b25 (St.own' (Fa := [(is g19), F7, (is g2), (is g9), (is g14)]) (Fr := []) S470) u472) ?_
    rintro _ w473 ⟨H474, rfl, b476, h477, b478, b479, b480, T475⟩
    refine ⟨_, rfl, ?_⟩
    obtain ⟨S481, K482⟩ := St.call (Fa := [(is g19), F7, (is g2), (is g9), (is g14)]) (Fr := []) S470 T475
    have E483 := T475.ext
    refine wN (inb_n (tN ?_))
    have S488 := S481.pulls [(is g19), (is g14), (is g9), (is g2), F7] [1, 2, 3, 4, 4] rfl
    exact ⟨_, H474, x1.s_, x1.at_, x1.tokens_, A4, c5, F7, x1.code_, x1.place_, t471.2, t471.1, (hdw (hdc (hdc (hdc (hdc rfl kr) kr) kr) kr)), b476, b480, b479, b478, h477, E483, S488, M⟩
   refine cT (bT q438) (wQ (wR (lP 2 ?_)))
   refine lE (eS g19 0 (.int .i64 (i64.wrap (x1.at_ + 2))) #[.int .i64 (i64.wrap (x1.at_ + 2))] [.int .i64 (i64.wrap (x1.at_ + 2))] S170 b30) ?_
   rintro w439 ⟨b440, S441, K442⟩
   replace b25 := K442.b 0 b25
   replace b10 := K442.b 1 b10
   replace h6 := h6.move (K442.a 2)
   replace b3 := K442.b 3 b3
   clear b30
   refine wN (tN (wR (lP 2 ?_)))
   have S447 := S441.pulls [(is g19), F7, (is g2), (is g9), (is g14)] [1, 2, 4, 4, 4] rfl
   obtain ⟨t448, u449, M⟩ := bnd M
   refine lC 151 (e_callv (l := [.tmp 150]) (vs := [.int .i64 x35]) (cs := [.pointer (some ⟨g19, 0, none⟩), .pointer (some ⟨g9, 0, none⟩), .pointer (some ⟨g14, 0, none⟩)]) func68 kr rfl kr kr) (impl_lexer_number_c1.calls x1 b440 h6 b3 b10 b25 (St.own' (Fa := [(is g19), F7, (is g2), (is g9), (is g14)]) (Fr := []) S447) u449) ?_
   rintro _ w450 ⟨H451, rfl, b453, h454, b455, b456, b457, T452⟩
   refine ⟨_, rfl, ?_⟩
   obtain ⟨S458, K459⟩ := St.call (Fa := [(is g19), F7, (is g2), (is g9), (is g14)]) (Fr := []) S447 T452
   have E460 := T452.ext
   refine wN (inb_n (tN ?_))
   have S465 := S458.pulls [(is g19), (is g14), (is g9), (is g2), F7] [1, 2, 3, 4, 4] rfl
   exact ⟨_, H451, x1.s_, x1.at_, x1.tokens_, A4, c5, F7, x1.code_, x1.place_, t448.2, t448.1, (hdw (hdc (hdc (hdc (hdc rfl kr) kr) kr) kr)), b453, b457, b456, b455, h454, E460, S465, M⟩
  refine cT (bT q172) (wQ (wR (lP 2 ?_)))
  refine lE (eS g19 0 (.int .i64 (i64.wrap (x1.at_ + 2))) #[.int .i64 (i64.wrap (x1.at_ + 2))] [.int .i64 (i64.wrap (x1.at_ + 2))] S170 b30) ?_
  rintro w173 ⟨b174, S175, K176⟩
  replace b25 := K176.b 0 b25
  replace b10 := K176.b 1 b10
  replace h6 := h6.move (K176.a 2)
  replace b3 := K176.b 3 b3
  clear b30
  refine wN (tN (wQ (wp_block (wQ ?_))))
  refine region_still kr kr S175 ?_
  intro w177 S178 K179
  replace b174 := K179.b 0 b174
  replace b25 := K179.b 1 b25
  replace b10 := K179.b 2 b10
  replace h6 := h6.move (K179.a 3)
  replace b3 := K179.b 4 b3
  refine sV 68 (eL ⟨g19, 0, none⟩ (.int .i64 (i64.wrap (x1.at_ + 2))) underlying3 (blk_cell b174 rfl)) (sV 69 (eL ⟨g9, 0, none⟩ (.pointer (some ⟨g2, 0, none⟩)) underlying37 (blk_cell b10 rfl)) (sP 2 (sV 72 (eB 0 b3) (sV 73 (e_slen (p := x1.s_) underlying9 kr) (sP 2 (wpStill_nil (tN ?_)))))))
  obtain ⟨q180, M⟩ | ⟨q180, M⟩ := ifc M
  ·refine cT (bT q180) (wR (lV 75 (eL ⟨g9, 0, none⟩ (.pointer (some ⟨g2, 0, none⟩)) underlying37 (blk_cell b10 rfl)) (lP 1 ?_)))
   have S182 := S178.pulls [F7, (is g2), (is g19), (is g14), (is g9)] [4, 4] rfl
   obtain ⟨t183, u184, M⟩ := bnd M
   refine lC 77 (eE func38) (impl_lexer_fault.calls x1 h6 b3 (St.own' (Fa := [F7, (is g2)]) (Fr := [(is g19), (is g14), (is g9)]) S182) u184) ?_
   rintro _ w185 ⟨A188, c189, F191, H186, rfl, h190, b192, T187⟩
   refine ⟨_, rfl, ?_⟩
   obtain ⟨S193, K194⟩ := St.call (Fa := [F7, (is g2)]) (Fr := [(is g19), (is g14), (is g9)]) S182 T187
   replace b174 := K194.b 0 b174
   replace b25 := K194.b 1 b25
   replace b10 := K194.b 2 b10
   have E195 := T187.ext
   refine wN (inb_n (tN (wQ (wR (lV 139 (eL ⟨g9, 0, none⟩ (.pointer (some ⟨g2, 0, none⟩)) underlying37 (blk_cell b10 rfl)) (lP 2 (lV 142 (eB 3 b192) (lV 143 (eNe .i64 t183.code_ 0) (wN (tN ?_))))))))))
   obtain ⟨q196, M⟩ | ⟨q196, M⟩ := ifc M
   ·refine cT (bT q196) (wT (inb_r (tR ?_)))
    obtain rfl := sj M
    have S198 := S193.pulls [(is g2), F191, (is g19), (is g14), (is g9)] [1, 1] rfl
    have S199 := St.first (Fa := [(is g2), F191]) (Fr := [(is g19), (is g14), (is g9)]) S198
    exact Go.Sy.ret0 rfl ⟨A188, c189, F191, H186, rfl, h190, b192, S199⟩
   refine cF (bF q196) (wK (inb_n (tN ?_)))
   have S204 := S193.pulls [(is g19), (is g14), (is g9), (is g2), F191] [1, 1, 4, 4, 4] rfl
   exact ⟨_, H186, t183.s_, t183.at_, t183.tokens_, A188, c189, F191, t183.code_, t183.place_, 0, (i64.wrap (x1.at_ + 2)), (hdw (hdc (hdc (hdc (hdc rfl kr) kr) kr) kr)), b174, b25, b10, b192, h190, E195, S204, M⟩
  refine cF (bF q180) (wQ ?_)
  refine region_still kr kr S178 ?_
  intro w205 S206 K207
  replace b174 := K207.b 0 b174
  replace b25 := K207.b 1 b25
  replace b10 := K207.b 2 b10
  replace h6 := h6.move (K207.a 3)
  replace b3 := K207.b 4 b3
  refine sV 79 (eL ⟨g9, 0, none⟩ (.pointer (some ⟨g2, 0, none⟩)) underlying37 (blk_cell b10 rfl)) (sP 2 (sV 82 (eB 0 b3) (sV 83 (eL ⟨g19, 0, none⟩ (.int .i64 (i64.wrap (x1.at_ + 2))) underlying3 (blk_cell b174 rfl)) ?_)))
  obtain ⟨q208, M⟩ := chk M
  obtain ⟨q209, M⟩ := chk M
  refine sV 84 (e_sindex (p := x1.s_) (i := (i64.wrap (x1.at_ + 2))) (k := .i64) underlying9 kr kr q208 q209) (sP 2 (wpStill_nil (tN ?_)))
  obtain ⟨q210, M⟩ | ⟨q210, M⟩ := ifc M
  ·refine cT (bT q210) (wQ (wQ (wR (lV 86 (eL ⟨g9, 0, none⟩ (.pointer (some ⟨g2, 0, none⟩)) underlying37 (blk_cell b10 rfl)) ?_))))
   obtain ⟨t211, u212, M⟩ := bnd M
   refine lC 87 (eE func37) (by have l213 := h6.le; have S214 := S206.pull (F := F7) (Fr := [(is g19), (is g14), (is g9), (is g2)]) 3 rfl rfl; obtain ⟨H215, S216, E217, h218, z219⟩ := S214.frzRow h6; have S220 := S216.pull (F := (is g2)) (Fr := [(is g19), (is g14), (is g9)]) 3 rfl rfl; obtain ⟨H221, S222, E223, h224, z225⟩ := S220.frzBlk b3; exact (impl_lexer_peek.calls x1 (h218.ext E223) l213 h224 S222.own0 u212)) ?_
   rintro _ w226 ⟨rfl, C227⟩
   refine ⟨_, rfl, ?_⟩
   obtain ⟨S228, K229⟩ := S206.still C227
   replace b174 := K229.b 0 b174
   replace b25 := K229.b 1 b25
   replace b10 := K229.b 2 b10
   replace h6 := h6.move (K229.a 3)
   replace b3 := K229.b 4 b3
   refine lV 88 (eNe .u8 (t211.toNat : Int) 39) (wN (tN ?_))
   obtain ⟨q230, M⟩ | ⟨q230, M⟩ := ifd M
   ·refine cF (bF q230) (wK (tN (wQ (wR ?_))))
    have S265 := S228.pulls [(is g14), (is g19), (is g9), F7, (is g2)] [1] rfl
    refine lE (eS g14 0 (.int .i64 39) #[.int .i64 39] [.int .i64 39] S265 b25) ?_
    rintro w266 ⟨b267, S268, K269⟩
    replace b174 := K269.b 0 b174
    replace b10 := K269.b 1 b10
    replace h6 := h6.move (K269.a 2)
    replace b3 := K269.b 3 b3
    clear b25
    refine wN (tN (wR (lV 92 (eL ⟨g19, 0, none⟩ (.int .i64 (i64.wrap (x1.at_ + 2))) underlying3 (blk_cell b174 rfl)) (lP 1 ?_))))
    have S270 := S268.pulls [(is g19), (is g14), (is g9), F7, (is g2)] [1] rfl
    refine lE (eS g19 0 (.int .i64 (i64.wrap ((i64.wrap (x1.at_ + 2)) + 2))) #[.int .i64 (i64.wrap ((i64.wrap (x1.at_ + 2)) + 2))] [.int .i64 (i64.wrap ((i64.wrap (x1.at_ + 2)) + 2))] S270 b174) ?_
    rintro w271 ⟨b272, S273, K274⟩
    replace b267 := K274.b 0 b267
    replace b10 := K274.b 1 b10
    replace h6 := h6.move (K274.a 2)
    replace b3 := K274.b 3 b3
    clear b174
    refine wN (inb_n (tN (wQ (wR (lV 139 (eL ⟨g9, 0, none⟩ (.pointer (some ⟨g2, 0, none⟩)) underlying37 (blk_cell b10 rfl)) (lP 2 (lV 142 (eB 3 b3) (lV 143 (eNe .i64 x1.code_ 0) (wN (tN ?_))))))))))
    obtain ⟨q275, M⟩ | ⟨q275, M⟩ := ifc M
    ·refine cT (bT q275) (wT (inb_r (tR ?_)))
     obtain rfl := sj M
     have S277 := S273.pulls [(is g2), F7, (is g19), (is g14), (is g9)] [3, 4] rfl
     have S278 := St.first (Fa := [(is g2), F7]) (Fr := [(is g19), (is g14), (is g9)]) S277
     exact Go.Sy.ret0 rfl ⟨A4, c5, F7, H, rfl, h6, b3, S278⟩
    refine cF (bF q275) (wK (inb_n (tN ?_)))
    have S283 := S273.pulls [(is g19), (is g14), (is g9), (is g2), F7] [3, 4, 4, 4, 4] rfl
    exact ⟨_, H, x1.s_, x1.at_, x1.tokens_, A4, c5, F7, x1.code_, x1.place_, 39, (i64.wrap ((i64.wrap (x1.at_ + 2)) + 2)), (hdw (hdc (hdc (hdc (hdc rfl kr) kr) kr) kr)), b272, b267, b10, b3, h6, (Ext.refl _), S283, M⟩
   refine cT (bT q230) (wR (lV 89 (eL ⟨g9, 0, none⟩ (.pointer (some ⟨g2, 0, none⟩)) underlying37 (blk_cell b10 rfl)) (lP 1 ?_)))
   have S232 := S228.pulls [F7, (is g2), (is g19), (is g14), (is g9)] [4, 4] rfl
   obtain ⟨t233, u234, M⟩ := bnd M
   refine lC 91 (eE func38) (impl_lexer_fault.calls x1 h6 b3 (St.own' (Fa := [F7, (is g2)]) (Fr := [(is g19), (is g14), (is g9)]) S232) u234) ?_
   rintro _ w235 ⟨A238, c239, F241, H236, rfl, h240, b242, T237⟩
   refine ⟨_, rfl, ?_⟩
   obtain ⟨S243, K244⟩ := St.call (Fa := [F7, (is g2)]) (Fr := [(is g19), (is g14), (is g9)]) S232 T237
   replace b174 := K244.b 0 b174
   replace b25 := K244.b 1 b25
   replace b10 := K244.b 2 b10
   have E245 := T237.ext
   refine wN (tN (wQ (wR ?_)))
   have S246 := S243.pulls [(is g14), (is g2), F241, (is g19), (is g9)] [3] rfl
   refine lE (eS g14 0 (.int .i64 39) #[.int .i64 39] [.int .i64 39] S246 b25) ?_
   rintro w247 ⟨b248, S249, K250⟩
   replace b242 := K250.b 0 b242
   replace h240 := h240.move (K250.a 1)
   replace b174 := K250.b 2 b174
   replace b10 := K250.b 3 b10
   clear b25
   refine wN (tN (wR (lV 92 (eL ⟨g19, 0, none⟩ (.int .i64 (i64.wrap (x1.at_ + 2))) underlying3 (blk_cell b174 rfl)) (lP 1 ?_))))
   have S251 := S249.pulls [(is g19), (is g14), (is g2), F241, (is g9)] [3] rfl
   refine lE (eS g19 0 (.int .i64 (i64.wrap ((i64.wrap (x1.at_ + 2)) + 2))) #[.int .i64 (i64.wrap ((i64.wrap (x1.at_ + 2)) + 2))] [.int .i64 (i64.wrap ((i64.wrap (x1.at_ + 2)) + 2))] S251 b174) ?_
   rintro w252 ⟨b253, S254, K255⟩
   replace b248 := K255.b 0 b248
   replace b242 := K255.b 1 b242
   replace h240 := h240.move (K255.a 2)
   replace b10 := K255.b 3 b10
   clear b174
   refine wN (inb_n (tN (wQ (wR (lV 139 (eL ⟨g9, 0, none⟩ (.pointer (some ⟨g2, 0, none⟩)) underlying37 (blk_cell b10 rfl)) (lP 2 (lV 142 (eB 3 b242) (lV 143 (eNe .i64 t233.code_ 0) (wN (tN ?_))))))))))
   obtain ⟨q256, M⟩ | ⟨q256, M⟩ := ifc M
   ·refine cT (bT q256) (wT (inb_r (tR ?_)))
    obtain rfl := sj M
    have S258 := S254.pulls [(is g2), F241, (is g19), (is g14), (is g9)] [3, 3] rfl
    have S259 := St.first (Fa := [(is g2), F241]) (Fr := [(is g19), (is g14), (is g9)]) S258
    exact Go.Sy.ret0 rfl ⟨A238, c239, F241, H236, rfl, h240, b242, S259⟩
   refine cF (bF q256) (wK (inb_n (tN ?_)))
   have S264 := S254.pulls [(is g19), (is g14), (is g9), (is g2), F241] [3, 3, 4, 4, 4] rfl
   exact ⟨_, H236, t233.s_, t233.at_, t233.tokens_, A238, c239, F241, t233.code_, t233.place_, 39, (i64.wrap ((i64.wrap (x1.at_ + 2)) + 2)), (hdw (hdc (hdc (hdc (hdc rfl kr) kr) kr) kr)), b253, b248, b10, b242, h240, E245, S264, M⟩
  refine cF (bF q210) (wQ ?_)
  refine region_still kr kr S206 ?_
  intro w284 S285 K286
  replace b174 := K286.b 0 b174
  replace b25 := K286.b 1 b25
  replace b10 := K286.b 2 b10
  replace h6 := h6.move (K286.a 3)
  replace b3 := K286.b 4 b3
  refine sV 95 (eL ⟨g9, 0, none⟩ (.pointer (some ⟨g2, 0, none⟩)) underlying37 (blk_cell b10 rfl)) (sP 2 (sV 98 (eB 0 b3) (sV 99 (eL ⟨g19, 0, none⟩ (.int .i64 (i64.wrap (x1.at_ + 2))) underlying3 (blk_cell b174 rfl)) (sV 100 (e_sindex (p := x1.s_) (i := (i64.wrap (x1.at_ + 2))) (k := .i64) underlying9 kr kr q208 q209) (sP 2 (wpStill_nil (tN ?_)))))))
  obtain ⟨q287, M⟩ | ⟨q287, M⟩ := ifc M
  ·refine cT (bT q287) (wQ (wR (lV 103 (eL ⟨g9, 0, none⟩ (.pointer (some ⟨g2, 0, none⟩)) underlying37 (blk_cell b10 rfl)) (lV 104 (eL ⟨g19, 0, none⟩ (.int .i64 (i64.wrap (x1.at_ + 2))) underlying3 (blk_cell b174 rfl)) ?_))))
   obtain ⟨t288, u289, M⟩ := bnd M
   refine lC 105 (eE func70) (by have l290 := h6.le; have S291 := S285.pull (F := F7) (Fr := [(is g19), (is g14), (is g9), (is g2)]) 3 rfl rfl; obtain ⟨H292, S293, E294, h295, z296⟩ := S291.frzRow h6; have S297 := S293.pull (F := (is g2)) (Fr := [(is g19), (is g14), (is g9)]) 3 rfl rfl; obtain ⟨H298, S299, E300, h301, z302⟩ := S297.frzBlk b3; exact (impl_lexer_escape.calls x1 (h295.ext E300) l290 h301 S299.own0 u289)) ?_
   rintro _ w303 ⟨rfl, C304⟩
   refine ⟨_, rfl, ?_⟩
   obtain ⟨S305, K306⟩ := S285.still C304
   replace b174 := K306.b 0 b174
   replace b25 := K306.b 1 b25
   replace b10 := K306.b 2 b10
   replace h6 := h6.move (K306.a 3)
   replace b3 := K306.b 4 b3
   refine lP 7 (wN (tN (wQ (wQ (wR (lP 1 (lV 110 (e_notv (c := t288.2.2) kr) (lP 1 ?_))))))))
   obtain ⟨q307, M⟩ | ⟨q307, M⟩ := ifc M
   ·refine lP1 3 111 (bT q307) (wN (tN (cond_t rfl kr (wQ (wR (lV 115 (eL ⟨g9, 0, none⟩ (.pointer (some ⟨g2, 0, none⟩)) underlying37 (blk_cell b10 rfl)) (lP 1 ?_)))))))
    have S309 := S305.pulls [F7, (is g2), (is g19), (is g14), (is g9)] [4, 4] rfl
    obtain ⟨t310, u311, M⟩ := bnd M
    refine lC 117 (eE func38) (impl_lexer_fault.calls x1 h6 b3 (St.own' (Fa := [F7, (is g2)]) (Fr := [(is g19), (is g14), (is g9)]) S309) u311) ?_
    rintro _ w312 ⟨A315, c316, F318, H313, rfl, h317, b319, T314⟩
    refine ⟨_, rfl, ?_⟩
    obtain ⟨S320, K321⟩ := St.call (Fa := [F7, (is g2)]) (Fr := [(is g19), (is g14), (is g9)]) S309 T314
    have E322 := T314.ext
    refine wN (tN (wT (tR (inb_r (tR (inb_r (tR ?_)))))))
    obtain rfl := sj M
    have S324 := S320.pulls [(is g2), F318, (is g19), (is g14), (is g9)] [1, 1] rfl
    have S325 := St.first (Fa := [(is g2), F318]) (Fr := [(is g19), (is g14), (is g9)]) S324
    exact Go.Sy.ret0 rfl ⟨A315, c316, F318, H313, rfl, h317, b319, S325⟩
   refine lP1 1 111 (bF q307) (lG 113 111 (bF q307) (e_seql (p := t288.1) (q := ([] : List UInt8)) kr rfl) (lP1 1 111 (bF q307) (wN (tN ?_))))
   obtain ⟨q326, M⟩ | ⟨q326, M⟩ := ifc M
   ·refine cT (bT q326) (wQ (wR (lV 115 (eL ⟨g9, 0, none⟩ (.pointer (some ⟨g2, 0, none⟩)) underlying37 (blk_cell b10 rfl)) (lP 1 ?_))))
    have S328 := S305.pulls [F7, (is g2), (is g19), (is g14), (is g9)] [4, 4] rfl
    obtain ⟨t329, u330, M⟩ := bnd M
    refine lC 117 (eE func38) (impl_lexer_fault.calls x1 h6 b3 (St.own' (Fa := [F7, (is g2)]) (Fr := [(is g19), (is g14), (is g9)]) S328) u330) ?_
    rintro _ w331 ⟨A334, c335, F337, H332, rfl, h336, b338, T333⟩
    refine ⟨_, rfl, ?_⟩
    obtain ⟨S339, K340⟩ := St.call (Fa := [F7, (is g2)]) (Fr := [(is g19), (is g14), (is g9)]) S328 T333
    have E341 := T333.ext
    refine wN (tN (wT (tR (inb_r (tR (inb_r (tR ?_)))))))
    obtain rfl := sj M
    have S343 := S339.pulls [(is g2), F337, (is g19), (is g14), (is g9)] [1, 1] rfl
    have S344 := St.first (Fa := [(is g2), F337]) (Fr := [(is g19), (is g14), (is g9)]) S343
    exact Go.Sy.ret0 rfl ⟨A334, c335, F337, H332, rfl, h336, b338, S344⟩
   refine cF (bF q326) (wK (tN (wR (lP 1 ?_))))
   obtain ⟨q345, M⟩ := chk M
   refine lV 119 (e_sindex (p := t288.1) (i := 0) (k := .i64) underlying9 kr rfl (by decide) q345) (lV 120 (e_conv_8i (a := (t288.1.getD (0 : Int).toNat (0 : UInt8))) kr underlying3 kr) (lP 1 ?_))
   have S346 := S305.pulls [(is g14), (is g19), (is g9), F7, (is g2)] [1] rfl
   refine lE (eS g14 0 (.int .i64 ((t288.1.getD (0 : Int).toNat (0 : UInt8)).toNat : Int)) #[.int .i64 ((t288.1.getD (0 : Int).toNat (0 : UInt8)).toNat : Int)] [.int .i64 ((t288.1.getD (0 : Int).toNat (0 : UInt8)).toNat : Int)] S346 b25) ?_
   rintro w347 ⟨b348, S349, K350⟩
   replace b174 := K350.b 0 b174
   replace b10 := K350.b 1 b10
   replace h6 := h6.move (K350.a 2)
   replace b3 := K350.b 3 b3
   clear b25
   have S351 := S349.pulls [(is g19), (is g14), (is g9), F7, (is g2)] [1] rfl
   refine lE (eS g19 0 (.int .i64 t288.2.1) #[.int .i64 t288.2.1] [.int .i64 t288.2.1] S351 b174) ?_
   rintro w352 ⟨b353, S354, K355⟩
   replace b348 := K355.b 0 b348
   replace b10 := K355.b 1 b10
   replace h6 := h6.move (K355.a 2)
   replace b3 := K355.b 3 b3
   clear b174
   refine wN (inb_n (tN (wQ (wR (lV 139 (eL ⟨g9, 0, none⟩ (.pointer (some ⟨g2, 0, none⟩)) underlying37 (blk_cell b10 rfl)) (lP 2 (lV 142 (eB 3 b3) (lV 143 (eNe .i64 x1.code_ 0) (wN (tN ?_))))))))))
   obtain ⟨q356, M⟩ | ⟨q356, M⟩ := ifc M
   ·refine cT (bT q356) (wT (inb_r (tR ?_)))
    obtain rfl := sj M
    have S358 := S354.pulls [(is g2), F7, (is g19), (is g14), (is g9)] [3, 4] rfl
    have S359 := St.first (Fa := [(is g2), F7]) (Fr := [(is g19), (is g14), (is g9)]) S358
    exact Go.Sy.ret0 rfl ⟨A4, c5, F7, H, rfl, h6, b3, S359⟩
   refine cF (bF q356) (wK (inb_n (tN ?_)))
   have S364 := S354.pulls [(is g19), (is g14), (is g9), (is g2), F7] [3, 4, 4, 4, 4] rfl
   exact ⟨_, H, x1.s_, x1.at_, x1.tokens_, A4, c5, F7, x1.code_, x1.place_, ((t288.1.getD (0 : Int).toNat (0 : UInt8)).toNat : Int), t288.2.1, (hdw (hdc (hdc (hdc (hdc rfl kr) kr) kr) kr)), b353, b348, b10, b3, h6, (Ext.refl _), S364, M⟩
  refine cF (bF q287) (wQ ?_)
  refine region_quiet kr kr (qV 123 (fun wq_ hq_ => eL ⟨g9, 0, none⟩ (.pointer (some ⟨g2, 0, none⟩)) underlying37 (blk_cell ((S285.still hq_).2.blk 2 rfl b10) rfl)) (qV 124 (fun wq_ hq_ => eN ⟨g2, 0, none⟩) (qV 125 (fun wq_ hq_ => eD g2 0 0 1 underlying39) (qV 126 (fun wq_ hq_ => eB 0 ((S285.still hq_).2.blk 4 rfl b3)) (qV 127 (fun wq_ hq_ => eL ⟨g19, 0, none⟩ (.int .i64 (i64.wrap (x1.at_ + 2))) underlying3 (blk_cell ((S285.still hq_).2.blk 0 rfl b174) rfl)) (qV 128 (fun wq_ hq_ => e_sindex (p := x1.s_) (i := (i64.wrap (x1.at_ + 2))) (k := .i64) underlying9 kr kr q208 q209) ?_))))))
  obtain ⟨t365, u366, M⟩ := bnd M
  refine qcall (v := .bool t365) (d := 129) rfl rfl kr (fun w_ => eE func71) (fun wq_ hq_ => (by obtain ⟨S_, K_⟩ := S285.still hq_; replace b174 := K_.b 0 b174; replace b25 := K_.b 1 b25; replace b10 := K_.b 2 b10; replace h6 := h6.move (K_.a 3); replace b3 := K_.b 4 b3; exact (impl_isPrint.calls  S_.own0 u366))) (qV 122 (fun wq_ hq_ => eA (.bool t365)) ?_)
  refine wpQuiet_nil ?_
  intro w367 C370
  obtain ⟨S368, K369⟩ := S285.still C370
  replace b174 := K369.b 0 b174
  replace b25 := K369.b 1 b25
  replace b10 := K369.b 2 b10
  replace h6 := h6.move (K369.a 3)
  replace b3 := K369.b 4 b3
  refine tN ?_
  obtain ⟨q371, M⟩ | ⟨q371, M⟩ := ifd M
  ·refine cF (bvf q371 kr) (wR (lV 64 (eL ⟨g9, 0, none⟩ (.pointer (some ⟨g2, 0, none⟩)) underlying37 (blk_cell b10 rfl)) (lP 1 ?_)))
   have S415 := S368.pulls [F7, (is g2), (is g19), (is g14), (is g9)] [4, 4] rfl
   obtain ⟨t416, u417, M⟩ := bnd M
   refine lC 66 (eE func38) (impl_lexer_fault.calls x1 h6 b3 (St.own' (Fa := [F7, (is g2)]) (Fr := [(is g19), (is g14), (is g9)]) S415) u417) ?_
   rintro _ w418 ⟨A421, c422, F424, H419, rfl, h423, b425, T420⟩
   refine ⟨_, rfl, ?_⟩
   obtain ⟨S426, K427⟩ := St.call (Fa := [F7, (is g2)]) (Fr := [(is g19), (is g14), (is g9)]) S415 T420
   replace b174 := K427.b 0 b174
   replace b25 := K427.b 1 b25
   replace b10 := K427.b 2 b10
   have E428 := T420.ext
   refine wN (inb_n (tN (wQ (wR (lV 139 (eL ⟨g9, 0, none⟩ (.pointer (some ⟨g2, 0, none⟩)) underlying37 (blk_cell b10 rfl)) (lP 2 (lV 142 (eB 3 b425) (lV 143 (eNe .i64 t416.code_ 0) (wN (tN ?_))))))))))
   obtain ⟨q429, M⟩ | ⟨q429, M⟩ := ifc M
   ·refine cT (bT q429) (wT (inb_r (tR ?_)))
    obtain rfl := sj M
    have S431 := S426.pulls [(is g2), F424, (is g19), (is g14), (is g9)] [1, 1] rfl
    have S432 := St.first (Fa := [(is g2), F424]) (Fr := [(is g19), (is g14), (is g9)]) S431
    exact Go.Sy.ret0 rfl ⟨A421, c422, F424, H419, rfl, h423, b425, S432⟩
   refine cF (bF q429) (wK (inb_n (tN ?_)))
   have S437 := S426.pulls [(is g19), (is g14), (is g9), (is g2), F424] [1, 1, 4, 4, 4] rfl
   exact ⟨_, H419, t416.s_, t416.at_, t416.tokens_, A421, c422, F424, t416.code_, t416.place_, 0, (i64.wrap (x1.at_ + 2)), (hdw (hdc (hdc (hdc (hdc rfl kr) kr) kr) kr)), b174, b25, b10, b425, h423, E428, S437, M⟩
  refine cT (bvt q371 kr) (wQ ?_)
  refine region_mix (S := (fun (L_ : Array Bool) (w_ : World) => Ext H (hp w_) ∧ (∀ b_, (is g9) b_ → hp w_ b_ = hp w367 b_) ∧ (∀ b_, (is g2) b_ → hp w_ b_ = hp w367 b_))) kr S368 ?_
  intro w372 S373 K374 hc375
  have o376 := b10
  have o377 := b3
  have hs378 : (fun (L_ : Array Bool) (w_ : World) => Ext H (hp w_) ∧ (∀ b_, (is g9) b_ → hp w_ b_ = hp w367 b_) ∧ (∀ b_, (is g2) b_ → hp w_ b_ = hp w367 b_)) (Array.replicate 8 false) w372 := ⟨S373.inv, (fun b_ h_ => K374.at 2 rfl b_ h_), (fun b_ h_ => K374.at 4 rfl b_ h_)⟩
  replace b174 := K374.b 0 b174
  replace b25 := K374.b 1 b25
  replace b10 := K374.b 2 b10
  replace h6 := h6.move (K374.a 3)
  replace b3 := K374.b 4 b3
  refine xV 0 130 rfl hc375 hs378 (fun L_ w_ hc_ hu_ hs_ => eL ⟨g9, 0, none⟩ (.pointer (some ⟨g2, 0, none⟩)) underlying37 (blk_cell ((hs_.2.1 _ rfl).trans o376) rfl)) ?_; intro hc379 hs380
  refine xV 1 131 rfl hc379 hs380 (fun L_ w_ hc_ hu_ hs_ => eN ⟨g2, 0, none⟩) ?_; intro hc381 hs382
  refine xV 2 132 rfl hc381 hs382 (fun L_ w_ hc_ hu_ hs_ => eD g2 0 0 1 underlying39) ?_; intro hc383 hs384
  refine xV 3 133 rfl hc383 hs384 (fun L_ w_ hc_ hu_ hs_ => eB 0 ((hs_.2.2 _ rfl).trans o377)) ?_; intro hc385 hs386
  refine xO 4 hc385 ?_
  refine yO 4 134 rfl hs386 (eL ⟨g19, 0, none⟩ (.int .i64 (i64.wrap (x1.at_ + 2))) underlying3 (blk_cell b174 rfl)) ?_; intro hc387 hs388
  refine xO 5 hc387 ?_
  refine yO 5 135 rfl hs388 (e_sindex (p := x1.s_) (i := (i64.wrap (x1.at_ + 2))) (k := .i64) underlying9 kr kr q208 q209) ?_; intro hc389 hs390
  refine xO 6 hc389 ?_
  refine yO 6 136 rfl hs390 (e_conv_8i (a := (x1.s_.getD ((i64.wrap (x1.at_ + 2)) : Int).toNat (0 : UInt8))) kr underlying3 kr) ?_; intro hc391 hs392
  have S393 := S373.pulls [(is g14), (is g19), (is g9), F7, (is g2)] [1] rfl
  refine xO 7 hc391 ?_
  refine yS 7 rfl (eS g14 0 (.int .i64 ((x1.s_.getD ((i64.wrap (x1.at_ + 2)) : Int).toNat (0 : UInt8)).toNat : Int)) #[.int .i64 ((x1.s_.getD ((i64.wrap (x1.at_ + 2)) : Int).toNat (0 : UInt8)).toNat : Int)] [.int .i64 ((x1.s_.getD ((i64.wrap (x1.at_ + 2)) : Int).toNat (0 : UInt8)).toNat : Int)] S393 b25) ?_
  rintro hc398 w394 ⟨b395, S396, K397⟩
  replace b174 := K397.b 0 b174
  replace b10 := K397.b 1 b10
  replace h6 := h6.move (K397.a 2)
  replace b3 := K397.b 3 b3
  refine ⟨⟨S396.inv, (fun b_ h_ => (K397.at 1 rfl b_ h_).trans (hs392.2.1 b_ h_)), (fun b_ h_ => (K397.at 3 rfl b_ h_).trans (hs392.2.2 b_ h_))⟩, fun hs399 => ?_⟩
  clear b25
  refine xn kr ?_ _
  refine tN (wR (lV 137 (eL ⟨g19, 0, none⟩ (.int .i64 (i64.wrap (x1.at_ + 2))) underlying3 (blk_cell b174 rfl)) (lP 1 ?_)))
  have S400 := S396.pulls [(is g19), (is g14), (is g9), F7, (is g2)] [1] rfl
  refine lE (eS g19 0 (.int .i64 (i64.wrap ((i64.wrap (x1.at_ + 2)) + 1))) #[.int .i64 (i64.wrap ((i64.wrap (x1.at_ + 2)) + 1))] [.int .i64 (i64.wrap ((i64.wrap (x1.at_ + 2)) + 1))] S400 b174) ?_
  rintro w401 ⟨b402, S403, K404⟩
  replace b395 := K404.b 0 b395
  replace b10 := K404.b 1 b10
  replace h6 := h6.move (K404.a 2)
  replace b3 := K404.b 3 b3
  clear b174
  refine wN (inb_n (tN (wQ (wR (lV 139 (eL ⟨g9, 0, none⟩ (.pointer (some ⟨g2, 0, none⟩)) underlying37 (blk_cell b10 rfl)) (lP 2 (lV 142 (eB 3 b3) (lV 143 (eNe .i64 x1.code_ 0) (wN (tN ?_))))))))))
  obtain ⟨q405, M⟩ | ⟨q405, M⟩ := ifc M
  ·refine cT (bT q405) (wT (inb_r (tR ?_)))
   obtain rfl := sj M
   have S407 := S403.pulls [(is g2), F7, (is g19), (is g14), (is g9)] [3, 4] rfl
   have S408 := St.first (Fa := [(is g2), F7]) (Fr := [(is g19), (is g14), (is g9)]) S407
   exact Go.Sy.ret0 rfl ⟨A4, c5, F7, H, rfl, h6, b3, S408⟩
  refine cF (bF q405) (wK (inb_n (tN ?_)))
  have S413 := S403.pulls [(is g19), (is g14), (is g9), (is g2), F7] [3, 4, 4, 4, 4] rfl
  exact ⟨_, H, x1.s_, x1.at_, x1.tokens_, A4, c5, F7, x1.code_, x1.place_, ((x1.s_.getD ((i64.wrap (x1.at_ + 2)) : Int).toNat (0 : UInt8)).toNat : Int), (i64.wrap ((i64.wrap (x1.at_ + 2)) + 1)), (hdw (hdc (hdc (hdc (hdc rfl kr) kr) kr) kr)), b402, b395, b10, b3, h6, (Ext.refl _), S413, M⟩
 clear M
 rintro a149 w131 ⟨f132, H133, x135, x136, x137, A138, c139, F140, x142, x143, x144, x145, rfl, b30, b25, b10, b3, h141, Y134, S146, M⟩
 rw [impl_lexer_number.l1] at M
 refine wQ (wQ ?_)
 refine region_quiet kr kr (qV 152 (fun wq_ hq_ => eL ⟨g19, 0, none⟩ (.int .i64 x145) underlying3 (blk_cell ((S146.still hq_).2.blk 0 rfl b30) rfl)) (qV 153 (fun wq_ hq_ => eL ⟨g9, 0, none⟩ (.pointer (some ⟨g2, 0, none⟩)) underlying37 (blk_cell ((S146.still hq_).2.blk 2 rfl b10) rfl)) (qV 154 (fun wq_ hq_ => eN ⟨g2, 0, none⟩) (qV 155 (fun wq_ hq_ => eD g2 0 0 1 underlying39) (qV 156 (fun wq_ hq_ => eB 0 ((S146.still hq_).2.blk 3 rfl b3)) (qV 157 (fun wq_ hq_ => e_slen (p := x135) underlying9 kr) (qV 158 (fun wq_ hq_ => eLt .i64 x145 (x135.length : Int)) (qV 159 (fun wq_ hq_ => eM (.bool (decide (x145 < (x135.length : Int))))) ?_))))))))
 obtain ⟨q540, M⟩ | ⟨q540, M⟩ := ifd M
 ·refine qP1 7 159 (bF q540) (qV 167 (fun wq_ hq_ => eF (.bool false) (bF q540)) ?_)
  refine wpQuiet_nil ?_
  intro w604 C607
  obtain ⟨S605, K606⟩ := S146.still C607
  replace b30 := K606.b 0 b30
  replace b25 := K606.b 1 b25
  replace b10 := K606.b 2 b10
  replace b3 := K606.b 3 b3
  replace h141 := h141.move (K606.a 4)
  refine tN (cond_f rfl kr (wK (tN (wQ (wQ (wR (lV 171 (eL ⟨g14, 0, none⟩ (.int .i64 x144) underlying3 (blk_cell b25 rfl)) (lP 1 (wN (tN ?_))))))))))
  obtain ⟨q608, M⟩ | ⟨q608, M⟩ := ifc M
  ·refine cT (bT q608) (wQ (wR (lV 173 (eL ⟨g9, 0, none⟩ (.pointer (some ⟨g2, 0, none⟩)) underlying37 (blk_cell b10 rfl)) (lP 1 ?_))))
   have S610 := S605.pulls [F140, (is g2), (is g19), (is g14), (is g9)] [3, 4] rfl
   obtain ⟨t611, u612, M⟩ := bnd M
   refine lC 175 (eE func38) (impl_lexer_fault.calls (⟨x135, x136, x137, x142, x143⟩ : GLexer) h141 b3 (St.own' (Fa := [F140, (is g2)]) (Fr := [(is g19), (is g14), (is g9)]) S610) u612) ?_
   rintro _ w613 ⟨A616, c617, F619, H614, rfl, h618, b620, T615⟩
   refine ⟨_, rfl, ?_⟩
   obtain ⟨S621, K622⟩ := St.call (Fa := [F140, (is g2)]) (Fr := [(is g19), (is g14), (is g9)]) S610 T615
   have E623 := T615.ext
   refine wN (tN (wT (tR ?_)))
   obtain rfl := sj M
   have S625 := S621.pulls [(is g2), F619, (is g19), (is g14), (is g9)] [1, 1] rfl
   have S626 := St.first (Fa := [(is g2), F619]) (Fr := [(is g19), (is g14), (is g9)]) S625
   exact Go.Sy.ret0 rfl ⟨A616, c617, F619, H614, rfl, h618, b620, S626⟩
  refine cF (bF q608) (wK (tN (wR (lV 176 (eL ⟨g9, 0, none⟩ (.pointer (some ⟨g2, 0, none⟩)) underlying37 (blk_cell b10 rfl)) (lV 177 (eL ⟨g19, 0, none⟩ (.int .i64 x145) underlying3 (blk_cell b30 rfl)) (lV 178 (eL ⟨g14, 0, none⟩ (.int .i64 x144) underlying3 (blk_cell b25 rfl)) ?_))))))
  have S628 := S605.pulls [F140, (is g2), (is g19), (is g14), (is g9)] [3, 4] rfl
  obtain ⟨t629, u630, M⟩ := bnd M
  refine lC 179 (eE func45) (impl_lexer_put.calls (⟨x135, x136, x137, x142, x143⟩ : GLexer) h141 b3 (St.own' (Fa := [F140, (is g2)]) (Fr := [(is g19), (is g14), (is g9)]) S628) u630) ?_
  rintro _ w631 ⟨A634, c635, F637, H632, rfl, h636, b638, T633⟩
  refine ⟨_, rfl, ?_⟩
  obtain ⟨S639, K640⟩ := St.call (Fa := [F140, (is g2)]) (Fr := [(is g19), (is g14), (is g9)]) S628 T633
  have E641 := T633.ext
  refine wN ?_
  obtain rfl := sj M
  have S643 := S639.pulls [(is g2), F637, (is g19), (is g14), (is g9)] [1, 1] rfl
  have S644 := St.first (Fa := [(is g2), F637]) (Fr := [(is g19), (is g14), (is g9)]) S643
  exact end0 rfl ⟨A634, c635, F637, H632, rfl, h636, b638, S644⟩
 refine qG 160 159 (bT q540) (fun wq_ hq_ => eL ⟨g9, 0, none⟩ (.pointer (some ⟨g2, 0, none⟩)) underlying37 (blk_cell ((S146.still hq_).2.blk 2 rfl b10) rfl)) (qG 161 159 (bT q540) (fun wq_ hq_ => eN ⟨g2, 0, none⟩) (qG 162 159 (bT q540) (fun wq_ hq_ => eD g2 0 0 1 underlying39) (qG 163 159 (bT q540) (fun wq_ hq_ => eB 0 ((S146.still hq_).2.blk 3 rfl b3)) (qG 164 159 (bT q540) (fun wq_ hq_ => eL ⟨g19, 0, none⟩ (.int .i64 x145) underlying3 (blk_cell ((S146.still hq_).2.blk 0 rfl b30) rfl)) ?_))))
 obtain ⟨q541, M⟩ := chk M
 refine qG 165 159 (bT q540) (fun wq_ hq_ => e_sindex (p := x135) (i := x145) (k := .i64) underlying9 kr kr q541 q540) ?_
 obtain ⟨t542, u543, M⟩ := bnd M
 refine qcallg (v := .bool t542) (d := 166) (t := 159) rfl kr rfl (bT q540) rfl kr (fun w_ => eE func41) (fun wq_ hq_ => (by obtain ⟨S_, K_⟩ := S146.still hq_; replace b30 := K_.b 0 b30; replace b25 := K_.b 1 b25; replace b10 := K_.b 2 b10; replace b3 := K_.b 3 b3; replace h141 := h141.move (K_.a 4); exact (impl_isAlnum.calls  S_.own0 u543))) (qV 167 (fun wq_ hq_ => eT (.bool t542) (bT q540)) ?_)
 refine wpQuiet_nil ?_
 intro w544 C547
 obtain ⟨S545, K546⟩ := S146.still C547
 replace b30 := K546.b 0 b30
 replace b25 := K546.b 1 b25
 replace b10 := K546.b 2 b10
 replace b3 := K546.b 3 b3
 replace h141 := h141.move (K546.a 4)
 refine tN ?_
 obtain ⟨q548, M⟩ | ⟨q548, M⟩ := ifc M
 ·refine cT (bvt q548 kr) (wQ (wR (lV 168 (eL ⟨g9, 0, none⟩ (.pointer (some ⟨g2, 0, none⟩)) underlying37 (blk_cell b10 rfl)) (lP 1 ?_))))
  have S550 := S545.pulls [F140, (is g2), (is g19), (is g14), (is g9)] [3, 4] rfl
  obtain ⟨t551, u552, M⟩ := bnd M
  refine lC 170 (eE func38) (impl_lexer_fault.calls (⟨x135, x136, x137, x142, x143⟩ : GLexer) h141 b3 (St.own' (Fa := [F140, (is g2)]) (Fr := [(is g19), (is g14), (is g9)]) S550) u552) ?_
  rintro _ w553 ⟨A556, c557, F559, H554, rfl, h558, b560, T555⟩
  refine ⟨_, rfl, ?_⟩
  obtain ⟨S561, K562⟩ := St.call (Fa := [F140, (is g2)]) (Fr := [(is g19), (is g14), (is g9)]) S550 T555
  have E563 := T555.ext
  refine wN (tN (wT (tR ?_)))
  obtain rfl := sj M
  have S565 := S561.pulls [(is g2), F559, (is g19), (is g14), (is g9)] [1, 1] rfl
  have S566 := St.first (Fa := [(is g2), F559]) (Fr := [(is g19), (is g14), (is g9)]) S565
  exact Go.Sy.ret0 rfl ⟨A556, c557, F559, H554, rfl, h558, b560, S566⟩
 refine cF (bvf q548 kr) (wK (tN (wQ (wQ (wR (lV 171 (eL ⟨g14, 0, none⟩ (.int .i64 x144) underlying3 (blk_cell b25 rfl)) (lP 1 (wN (tN ?_)))))))))
 obtain ⟨q567, M⟩ | ⟨q567, M⟩ := ifc M
 ·refine cT (bT q567) (wQ (wR (lV 173 (eL ⟨g9, 0, none⟩ (.pointer (some ⟨g2, 0, none⟩)) underlying37 (blk_cell b10 rfl)) (lP 1 ?_))))
  have S569 := S545.pulls [F140, (is g2), (is g19), (is g14), (is g9)] [3, 4] rfl
  obtain ⟨t570, u571, M⟩ := bnd M
  refine lC 175 (eE func38) (impl_lexer_fault.calls (⟨x135, x136, x137, x142, x143⟩ : GLexer) h141 b3 (St.own' (Fa := [F140, (is g2)]) (Fr := [(is g19), (is g14), (is g9)]) S569) u571) ?_
  rintro _ w572 ⟨A575, c576, F578, H573, rfl, h577, b579, T574⟩
  refine ⟨_, rfl, ?_⟩
  obtain ⟨S580, K581⟩ := St.call (Fa := [F140, (is g2)]) (Fr := [(is g19), (is g14), (is g9)]) S569 T574
  have E582 := T574.ext
  refine wN (tN (wT (tR ?_)))
  obtain rfl := sj M
  have S584 := S580.pulls [(is g2), F578, (is g19), (is g14), (is g9)] [1, 1] rfl
  have S585 := St.first (Fa := [(is g2), F578]) (Fr := [(is g19), (is g14), (is g9)]) S584
  exact Go.Sy.ret0 rfl ⟨A575, c576, F578, H573, rfl, h577, b579, S585⟩
 refine cF (bF q567) (wK (tN (wR (lV 176 (eL ⟨g9, 0, none⟩ (.pointer (some ⟨g2, 0, none⟩)) underlying37 (blk_cell b10 rfl)) (lV 177 (eL ⟨g19, 0, none⟩ (.int .i64 x145) underlying3 (blk_cell b30 rfl)) (lV 178 (eL ⟨g14, 0, none⟩ (.int .i64 x144) underlying3 (blk_cell b25 rfl)) ?_))))))
 have S587 := S545.pulls [F140, (is g2), (is g19), (is g14), (is g9)] [3, 4] rfl
 obtain ⟨t588, u589, M⟩ := bnd M
 refine lC 179 (eE func45) (impl_lexer_put.calls (⟨x135, x136, x137, x142, x143⟩ : GLexer) h141 b3 (St.own' (Fa := [F140, (is g2)]) (Fr := [(is g19), (is g14), (is g9)]) S587) u589) ?_
 rintro _ w590 ⟨A593, c594, F596, H591, rfl, h595, b597, T592⟩
 refine ⟨_, rfl, ?_⟩
 obtain ⟨S598, K599⟩ := St.call (Fa := [F140, (is g2)]) (Fr := [(is g19), (is g14), (is g9)]) S587 T592
 have E600 := T592.ext
 refine wN ?_
 obtain rfl := sj M
 have S602 := S598.pulls [(is g2), F596, (is g19), (is g14), (is g9)] [1, 1] rfl
 have S603 := St.first (Fa := [(is g2), F596]) (Fr := [(is g19), (is g14), (is g9)]) S602
 exact end0 rfl ⟨A593, c594, F596, H591, rfl, h595, b597, S603⟩
def impl_isSymbol.f (x1 : UInt8) : Option Bool := (if (x1.toNat : Int) = 43 then some true else (if (x1.toNat : Int) = 45 then some true else (if (x1.toNat : Int) = 42 then some true else (if (x1.toNat : Int) = 47 then some true else (if (x1.toNat : Int) = 92 then some true else (if (x1.toNat : Int) = 94 then some true else (if (x1.toNat : Int) = 60 then some true else (if (x1.toNat : Int) = 62 then some true else (if (x1.toNat : Int) = 61 then some true else (if (x1.toNat : Int) = 126 then some true else (if (x1.toNat : Int) = 58 then some true else (if (x1.toNat : Int) = 46 then some true else (if (x1.toNat : Int) = 63 then some true else (if (x1.toNat : Int) = 64 then some true else (if (x1.toNat : Int) = 35 then some true else (if (x1.toNat : Int) = 38 then some true else (if (x1.toNat : Int) = 36 then some true else some false)))))))))))))))))
theorem impl_isSymbol.calls {w : World} {H : Hp} {x1 : UInt8} (S : Own [] H w) {r : Bool} (M : impl_isSymbol.f x1 = some r) :
  Calls Tryz.prog 46 #[.int .u8 (x1.toNat : Int)] w (fun e e_w => e = .returned (.bool r) ∧ Chg no w e_w) := by
 rw [impl_isSymbol.f] at M
 refine enter (l := [.int .u8 (x1.toNat : Int)]) 22 func46 rfl rfl rfl ?_
 have S0_ := S.st
 refine wQ (wR (lP 1 (wN (tN (wQ (wQ (wR (lP 1 (wN (tN (wp_block (wQ (wQ (wR (lP 2 (wN (tN ?_)))))))))))))))))
 obtain ⟨q2, M⟩ | ⟨q2, M⟩ := ifc M
 ·refine cT (bT q2) (wK (tN (cT (bT q2) (wQ (wR (lP 1 (wN (tN (wT (inb_r (tR ?_)))))))))))
  obtain rfl := sj M
  exact ret1 rfl rfl  kr ⟨rfl, S0_.chg⟩
 refine cF (bF q2) (wQ (wR (lP 2 (wN (tN ?_)))))
 obtain ⟨q3, M⟩ | ⟨q3, M⟩ := ifc M
 ·refine cT (bT q3) (wK (tN (cT (bT q3) (wQ (wR (lP 1 (wN (tN (wT (inb_r (tR ?_)))))))))))
  obtain rfl := sj M
  exact ret1 rfl rfl  kr ⟨rfl, S0_.chg⟩
 refine cF (bF q3) (wQ (wR (lP 2 (wN (tN ?_)))))
 obtain ⟨q4, M⟩ | ⟨q4, M⟩ := ifc M
 ·refine cT (bT q4) (wK (tN (cT (bT q4) (wQ (wR (lP 1 (wN (tN (wT (inb_r (tR ?_)))))))))))
  obtain rfl := sj M
  exact ret1 rfl rfl  kr ⟨rfl, S0_.chg⟩
 refine cF (bF q4) (wQ (wR (lP 2 (wN (tN ?_)))))
 obtain ⟨q5, M⟩ | ⟨q5, M⟩ := ifc M
 ·refine cT (bT q5) (wK (tN (cT (bT q5) (wQ (wR (lP 1 (wN (tN (wT (inb_r (tR ?_)))))))))))
  obtain rfl := sj M
  exact ret1 rfl rfl  kr ⟨rfl, S0_.chg⟩
 refine cF (bF q5) (wQ (wR (lP 2 (wN (tN ?_)))))
 obtain ⟨q6, M⟩ | ⟨q6, M⟩ := ifc M
 ·refine cT (bT q6) (wK (tN (cT (bT q6) (wQ (wR (lP 1 (wN (tN (wT (inb_r (tR ?_)))))))))))
  obtain rfl := sj M
  exact ret1 rfl rfl  kr ⟨rfl, S0_.chg⟩
 refine cF (bF q6) (wQ (wR (lP 2 (wN (tN ?_)))))
 obtain ⟨q7, M⟩ | ⟨q7, M⟩ := ifc M
 ·refine cT (bT q7) (wK (tN (cT (bT q7) (wQ (wR (lP 1 (wN (tN (wT (inb_r (tR ?_)))))))))))
  obtain rfl := sj M
  exact ret1 rfl rfl  kr ⟨rfl, S0_.chg⟩
 refine cF (bF q7) (wQ (wR (lP 2 (wN (tN ?_)))))
 obtain ⟨q8, M⟩ | ⟨q8, M⟩ := ifc M
 ·refine cT (bT q8) (wK (tN (cT (bT q8) (wQ (wR (lP 1 (wN (tN (wT (inb_r (tR ?_)))))))))))
  obtain rfl := sj M
  exact ret1 rfl rfl  kr ⟨rfl, S0_.chg⟩
 refine cF (bF q8) (wQ (wR (lP 2 (wN (tN ?_)))))
 obtain ⟨q9, M⟩ | ⟨q9, M⟩ := ifc M
 ·refine cT (bT q9) (wK (tN (cT (bT q9) (wQ (wR (lP 1 (wN (tN (wT (inb_r (tR ?_)))))))))))
  obtain rfl := sj M
  exact ret1 rfl rfl  kr ⟨rfl, S0_.chg⟩
 refine cF (bF q9) (wQ (wR (lP 2 (wN (tN ?_)))))
 obtain ⟨q10, M⟩ | ⟨q10, M⟩ := ifc M
 ·refine cT (bT q10) (wK (tN (cT (bT q10) (wQ (wR (lP 1 (wN (tN (wT (inb_r (tR ?_)))))))))))
  obtain rfl := sj M
  exact ret1 rfl rfl  kr ⟨rfl, S0_.chg⟩
 refine cF (bF q10) (wQ (wR (lP 2 (wN (tN ?_)))))
 obtain ⟨q11, M⟩ | ⟨q11, M⟩ := ifc M
 ·refine cT (bT q11) (wK (tN (cT (bT q11) (wQ (wR (lP 1 (wN (tN (wT (inb_r (tR ?_)))))))))))
  obtain rfl := sj M
  exact ret1 rfl rfl  kr ⟨rfl, S0_.chg⟩
 refine cF (bF q11) (wQ (wR (lP 2 (wN (tN ?_)))))
 obtain ⟨q12, M⟩ | ⟨q12, M⟩ := ifc M
 ·refine cT (bT q12) (wK (tN (cT (bT q12) (wQ (wR (lP 1 (wN (tN (wT (inb_r (tR ?_)))))))))))
  obtain rfl := sj M
  exact ret1 rfl rfl  kr ⟨rfl, S0_.chg⟩
 refine cF (bF q12) (wQ (wR (lP 2 (wN (tN ?_)))))
 obtain ⟨q13, M⟩ | ⟨q13, M⟩ := ifc M
 ·refine cT (bT q13) (wK (tN (cT (bT q13) (wQ (wR (lP 1 (wN (tN (wT (inb_r (tR ?_)))))))))))
  obtain rfl := sj M
  exact ret1 rfl rfl  kr ⟨rfl, S0_.chg⟩
 refine cF (bF q13) (wQ (wR (lP 2 (wN (tN ?_)))))
 obtain ⟨q14, M⟩ | ⟨q14, M⟩ := ifc M
 ·refine cT (bT q14) (wK (tN (cT (bT q14) (wQ (wR (lP 1 (wN (tN (wT (inb_r (tR ?_)))))))))))
  obtain rfl := sj M
  exact ret1 rfl rfl  kr ⟨rfl, S0_.chg⟩
 refine cF (bF q14) (wQ (wR (lP 2 (wN (tN ?_)))))
 obtain ⟨q15, M⟩ | ⟨q15, M⟩ := ifc M
 ·refine cT (bT q15) (wK (tN (cT (bT q15) (wQ (wR (lP 1 (wN (tN (wT (inb_r (tR ?_)))))))))))
  obtain rfl := sj M
  exact ret1 rfl rfl  kr ⟨rfl, S0_.chg⟩
 refine cF (bF q15) (wQ (wR (lP 2 (wN (tN ?_)))))
 obtain ⟨q16, M⟩ | ⟨q16, M⟩ := ifc M
 ·refine cT (bT q16) (wK (tN (cT (bT q16) (wQ (wR (lP 1 (wN (tN (wT (inb_r (tR ?_)))))))))))
  obtain rfl := sj M
  exact ret1 rfl rfl  kr ⟨rfl, S0_.chg⟩
 refine cF (bF q16) (wQ (wR (lP 2 (wN (tN ?_)))))
 obtain ⟨q17, M⟩ | ⟨q17, M⟩ := ifc M
 ·refine cT (bT q17) (wK (tN (cT (bT q17) (wQ (wR (lP 1 (wN (tN (wT (inb_r (tR ?_)))))))))))
  obtain rfl := sj M
  exact ret1 rfl rfl  kr ⟨rfl, S0_.chg⟩
 refine cF (bF q17) (wR (lP 2 (wN (tN ?_))))
 obtain ⟨q18, M⟩ | ⟨q18, M⟩ := ifc M
 ·refine cT (bT q18) (wQ (wR (lP 1 (wN (tN (wT (inb_r (tR ?_))))))))
  obtain rfl := sj M
  exact ret1 rfl rfl  kr ⟨rfl, S0_.chg⟩
 refine cF (bF q18) (wK (inb_n (tN (wQ (wR (lP 1 (wN (tN (wT ?_)))))))))
 obtain rfl := sj M
 exact ret1 rfl rfl  kr ⟨rfl, S0_.chg⟩
def impl_lexer_run_2.l0 : Nat → GLexer → Int → Int → Option GLexer
 | 0, _, _, _ => none
 | k17 + 1, x1, x8, x11 => (if x11 < (x1.s_.length : Int) then (if 0 ≤ x11 then ((impl_isSymbol.f (x1.s_.getD (x11 : Int).toNat (0 : UInt8))).bind fun t20 => (if t20 = true then (impl_lexer_run_2.l0 k17 x1 x8 (i64.wrap (x11 + 1))) else (if 0 ≤ x1.at_ then (if x1.at_ ≤ x11 then (if x11 ≤ (x1.s_.length : Int) then ((impl_lexer_put.f x1 x8 x11 ((x1.s_.drop (x1.at_ : Int).toNat).take ((x11 : Int).toNat - (x1.at_ : Int).toNat)) 0).bind fun t64 => some t64) else none) else none) else none))) else none) else (if 0 ≤ x1.at_ then (if x1.at_ ≤ x11 then (if x11 ≤ (x1.s_.length : Int) then ((impl_lexer_put.f x1 x8 x11 ((x1.s_.drop (x1.at_ : Int).toNat).take ((x11 : Int).toNat - (x1.at_ : Int).toNat)) 0).bind fun t116 => some t116) else none) else none) else none))
def impl_lexer_run_2.f (k : Nat) (x1 : GLexer) (x8 : Int) : Option GLexer := (impl_lexer_run_2.l0 k x1 x8 x1.at_)
theorem impl_lexer_run_2.calls {k : Nat} {w : World} {H : Hp} (x1 : GLexer) {g2 : Nat} {A4 : Option Addr} {c5 : Nat} {F7 : Foot} {x8 : Int} (h6 : Row st28 28 H (hp w) F7 A4 c5 x1.tokens_) (b3 : w.heap[g2]? = some (.cells #[str x1.s_, .int .i64 x1.at_, .slice A4 x1.tokens_.length c5, .int .i64 x1.code_, .int .i64 x1.place_] 39 (0, 0))) (S : Own [F7, (is g2)] H w) {r : GLexer} (M : impl_lexer_run_2.f k x1 x8 = some r) :
  Calls Tryz.prog 40 #[.pointer (some ⟨g2, 0, none⟩), .int .i64 x8, .func (.func 46) #[] #[]] w (fun e e_w => ∃ (A_1 : Option Addr) (c_1 : Nat) (F_1 : Foot) (H_ : Hp), e = .returned (.tuple #[]) ∧ Row st28 28 H_ (hp e_w) F_1 A_1 c_1 r.tokens_ ∧ e_w.heap[g2]? = some (.cells #[str r.s_, .int .i64 r.at_, .slice A_1 r.tokens_.length c_1, .int .i64 r.code_, .int .i64 r.place_] 39 (0, 0)) ∧ St (anyOf [F7, (is g2)]) H w [(is g2), F_1] H_ e_w) := by
 rw [impl_lexer_run_2.f] at M
 refine enter (l := [.pointer (some ⟨g2, 0, none⟩), .int .i64 x8, .func (.func 46) #[] #[]]) 44 func40 rfl rfl rfl ?_
 have S0_ := S.st
 refine wQ (wR (lP 3 (lV 10 (eB 1 b3) (lP 1 (wN (tN (wQ (wp_block ?_))))))))
 refine wp_loop_g (fun k15 a16 w9 => ∃ (f10 : Nat → Value) (x11 : Int), a16 = mk 44 (upd (upd (upd (upd f10 0 (.pointer (some ⟨g2, 0, none⟩))) 1 (.int .i64 x8)) 2 (.func (.func 46) #[] #[])) 6 (.int .i64 x11)) ∧ Row st28 28 H (hp w9) F7 A4 c5 x1.tokens_ ∧ w9.heap[g2]? = some (.cells #[str x1.s_, .int .i64 x1.at_, .slice A4 x1.tokens_.length c5, .int .i64 x1.code_, .int .i64 x1.place_] 39 (0, 0)) ∧ St (anyOf [F7, (is g2)]) H w [F7, (is g2)] H w9 ∧ impl_lexer_run_2.l0 k15 x1 x8 x11 = some r) k ⟨_, x1.at_, (hdw (hdc (hdc (hdc (hdc rfl kr) kr) kr) kr)), h6, b3, S0_, M⟩ ?_
 clear M
 rintro k15 a16 w9 ⟨f10, x11, rfl, h6, b3, S12, M⟩
 rcases k15 with _ | k17
 ·rw [impl_lexer_run_2.l0] at M
  cases M
 rw [impl_lexer_run_2.l0] at M
 refine wQ (wQ (wR (lP 4 (lV 15 (eB 0 b3) (lV 16 (e_slen (p := x1.s_) underlying9 kr) (lP 2 ?_))))))
 obtain ⟨q18, M⟩ | ⟨q18, M⟩ := ifd M
 ·refine lP1 9 18 (bF q18) (wN (tN (cond_f rfl kr (wp_exit (tE (tE (inb_hit (tN ?_))))))))
  refine region_mix (S := (fun (L_ : Array Bool) (w_ : World) => Ext H (hp w_) ∧ (L_.getD 13 true = false → (∀ b_, (is g2) b_ → hp w_ b_ = hp w9 b_)))) kr S12 ?_
  intro w79 S80 K81 hc82
  have o83 := b3
  have hs84 : (fun (L_ : Array Bool) (w_ : World) => Ext H (hp w_) ∧ (L_.getD 13 true = false → (∀ b_, (is g2) b_ → hp w_ b_ = hp w9 b_))) (Array.replicate 14 false) w79 := ⟨S80.inv, (fun _ => (fun b_ h_ => K81.at 1 rfl b_ h_))⟩
  replace h6 := h6.move (K81.a 0)
  replace b3 := K81.b 1 b3
  refine xW 0 30 rfl (fun L_ w_ => by simp only [getD_set_ne true (show (0 : Nat) ≠ 13 by decide)]) hc82 hs84 (fun L_ w_ hc_ hu_ hs_ => eM (.pointer (some ⟨g2, 0, none⟩))) ?_; intro hc85 hs86
  refine xW 1 31 rfl (fun L_ w_ => by simp only [getD_set_ne true (show (1 : Nat) ≠ 13 by decide)]) hc85 hs86 (fun L_ w_ hc_ hu_ hs_ => eM (.int .i64 x8)) ?_; intro hc87 hs88
  refine xW 2 32 rfl (fun L_ w_ => by simp only [getD_set_ne true (show (2 : Nat) ≠ 13 by decide)]) hc87 hs88 (fun L_ w_ hc_ hu_ hs_ => eM (.int .i64 x11)) ?_; intro hc89 hs90
  refine xW 3 33 rfl (fun L_ w_ => by simp only [getD_set_ne true (show (3 : Nat) ≠ 13 by decide)]) hc89 hs90 (fun L_ w_ hc_ hu_ hs_ => eM (.pointer (some ⟨g2, 0, none⟩))) ?_; intro hc91 hs92
  refine xW 4 34 rfl (fun L_ w_ => by simp only [getD_set_ne true (show (4 : Nat) ≠ 13 by decide)]) hc91 hs92 (fun L_ w_ hc_ hu_ hs_ => eN ⟨g2, 0, none⟩) ?_; intro hc93 hs94
  refine xW 5 35 rfl (fun L_ w_ => by simp only [getD_set_ne true (show (5 : Nat) ≠ 13 by decide)]) hc93 hs94 (fun L_ w_ hc_ hu_ hs_ => eD g2 0 0 1 underlying39) ?_; intro hc95 hs96
  refine xW 6 36 rfl (fun L_ w_ => by simp only [getD_set_ne true (show (6 : Nat) ≠ 13 by decide)]) hc95 hs96 (fun L_ w_ hc_ hu_ hs_ => eB 0 (((hs_.2 (unl 9 13 6 hc_ hu_ kr)) _ rfl).trans o83)) ?_; intro hc97 hs98
  refine xW 7 37 rfl (fun L_ w_ => by simp only [getD_set_ne true (show (7 : Nat) ≠ 13 by decide)]) hc97 hs98 (fun L_ w_ hc_ hu_ hs_ => eM (.pointer (some ⟨g2, 0, none⟩))) ?_; intro hc99 hs100
  refine xW 8 38 rfl (fun L_ w_ => by simp only [getD_set_ne true (show (8 : Nat) ≠ 13 by decide)]) hc99 hs100 (fun L_ w_ hc_ hu_ hs_ => eN ⟨g2, 0, none⟩) ?_; intro hc101 hs102
  refine xW 9 39 rfl (fun L_ w_ => by simp only [getD_set_ne true (show (9 : Nat) ≠ 13 by decide)]) hc101 hs102 (fun L_ w_ hc_ hu_ hs_ => eD g2 0 1 1 underlying39) ?_; intro hc103 hs104
  refine xW 10 40 rfl (fun L_ w_ => by simp only [getD_set_ne true (show (10 : Nat) ≠ 13 by decide)]) hc103 hs104 (fun L_ w_ hc_ hu_ hs_ => eB 1 (((hs_.2 (unl 9 13 10 hc_ hu_ kr)) _ rfl).trans o83)) ?_; intro hc105 hs106
  refine xO 11 hc105 ?_
  refine yP 11 41 rfl (fun L_ w_ => by simp only [getD_set_ne true (show (11 : Nat) ≠ 13 by decide)]) hs106 (eM (.int .i64 x11)) ?_; intro hc107 hs108
  obtain ⟨q109, M⟩ := chk M
  obtain ⟨q110, M⟩ := chk M
  obtain ⟨q111, M⟩ := chk M
  refine xO 12 hc107 ?_
  refine yP 12 42 rfl (fun L_ w_ => by simp only [getD_set_ne true (show (12 : Nat) ≠ 13 by decide)]) hs108 (e_sslice_lh (p := x1.s_) (a := x1.at_) (b := x11) (k := .i64) (k2 := .i64) underlying9 kr kr kr q109 q110 q111) ?_; intro hc112 hs113
  have S115 := S80.pulls [F7, (is g2)] [1, 1] rfl
  obtain ⟨t116, u117, M⟩ := bnd M
  refine xO 13 hc112 ?_
  refine yC 13 rfl (eE func45) (impl_lexer_put.calls x1 h6 b3 (St.own' (Fa := [F7, (is g2)]) (Fr := []) S115) u117) ?_
  rintro hc126 _ w118 ⟨A121, c122, F124, H119, rfl, h123, b125, T120⟩
  refine ⟨_, rfl, ?_⟩
  obtain ⟨S127, K128⟩ := St.call (Fa := [F7, (is g2)]) (Fr := []) S115 T120
  have E129 := T120.ext
  refine ⟨⟨(Ext.trans E129 S127.inv), (fun q_ => absurd q_ (by decide +kernel))⟩, fun hs130 => ?_⟩
  refine xn kr ?_ _
  obtain rfl := sj M
  exact end0 rfl ⟨A121, c122, F124, H119, rfl, h123, b125, S127⟩
 refine lP1 4 18 (bT q18) (lG 23 18 (bT q18) (eB 0 b3) (lP1 1 18 (bT q18) ?_))
 obtain ⟨q19, M⟩ := chk M
 refine lG 25 18 (bT q18) (e_sindex (p := x1.s_) (i := x11) (k := .i64) underlying9 kr kr q19 q18) ?_
 obtain ⟨t20, u21, M⟩ := bnd M
 refine lcallg (d := 26) (t := 18) rfl kr rfl (bT q18) rfl kr (e_callv (l := [.tmp 25]) (vs := [.int .u8 ((x1.s_.getD (x11 : Int).toNat (0 : UInt8)).toNat : Int)]) (cs := []) func46 kr rfl kr kr) (impl_isSymbol.calls  S12.own0 u21) ?_
 rintro _ w22 ⟨rfl, C23⟩
 refine ⟨_, rfl, ?_⟩
 obtain ⟨S24, K25⟩ := S12.still C23
 replace h6 := h6.move (K25.a 0)
 replace b3 := K25.b 1 b3
 refine lP1 1 18 (bT q18) (wN (tN ?_))
 obtain ⟨q26, M⟩ | ⟨q26, M⟩ := ifc M
 ·refine cT (bvt q26 kr) (wK (tN (wp_block (wR (lP 3 (wN (inb_n (tN ?_))))))))
  exact ⟨k17, (by omega), _, (i64.wrap (x11 + 1)), (hdw (hdc (hdc (hdc (hdc rfl kr) kr) kr) kr)), h6, b3, S24, M⟩
 refine cF (bvf q26 kr) (wp_exit (tE (tE (inb_hit (tN ?_)))))
 refine region_mix (S := (fun (L_ : Array Bool) (w_ : World) => Ext H (hp w_) ∧ (L_.getD 13 true = false → (∀ b_, (is g2) b_ → hp w_ b_ = hp w22 b_)))) kr S24 ?_
 intro w27 S28 K29 hc30
 have o31 := b3
 have hs32 : (fun (L_ : Array Bool) (w_ : World) => Ext H (hp w_) ∧ (L_.getD 13 true = false → (∀ b_, (is g2) b_ → hp w_ b_ = hp w22 b_))) (Array.replicate 14 false) w27 := ⟨S28.inv, (fun _ => (fun b_ h_ => K29.at 1 rfl b_ h_))⟩
 replace h6 := h6.move (K29.a 0)
 replace b3 := K29.b 1 b3
 refine xW 0 30 rfl (fun L_ w_ => by simp only [getD_set_ne true (show (0 : Nat) ≠ 13 by decide)]) hc30 hs32 (fun L_ w_ hc_ hu_ hs_ => eM (.pointer (some ⟨g2, 0, none⟩))) ?_; intro hc33 hs34
 refine xW 1 31 rfl (fun L_ w_ => by simp only [getD_set_ne true (show (1 : Nat) ≠ 13 by decide)]) hc33 hs34 (fun L_ w_ hc_ hu_ hs_ => eM (.int .i64 x8)) ?_; intro hc35 hs36
 refine xW 2 32 rfl (fun L_ w_ => by simp only [getD_set_ne true (show (2 : Nat) ≠ 13 by decide)]) hc35 hs36 (fun L_ w_ hc_ hu_ hs_ => eM (.int .i64 x11)) ?_; intro hc37 hs38
 refine xW 3 33 rfl (fun L_ w_ => by simp only [getD_set_ne true (show (3 : Nat) ≠ 13 by decide)]) hc37 hs38 (fun L_ w_ hc_ hu_ hs_ => eM (.pointer (some ⟨g2, 0, none⟩))) ?_; intro hc39 hs40
 refine xW 4 34 rfl (fun L_ w_ => by simp only [getD_set_ne true (show (4 : Nat) ≠ 13 by decide)]) hc39 hs40 (fun L_ w_ hc_ hu_ hs_ => eN ⟨g2, 0, none⟩) ?_; intro hc41 hs42
 refine xW 5 35 rfl (fun L_ w_ => by simp only [getD_set_ne true (show (5 : Nat) ≠ 13 by decide)]) hc41 hs42 (fun L_ w_ hc_ hu_ hs_ => eD g2 0 0 1 underlying39) ?_; intro hc43 hs44
 refine xW 6 36 rfl (fun L_ w_ => by simp only [getD_set_ne true (show (6 : Nat) ≠ 13 by decide)]) hc43 hs44 (fun L_ w_ hc_ hu_ hs_ => eB 0 (((hs_.2 (unl 9 13 6 hc_ hu_ kr)) _ rfl).trans o31)) ?_; intro hc45 hs46
 refine xW 7 37 rfl (fun L_ w_ => by simp only [getD_set_ne true (show (7 : Nat) ≠ 13 by decide)]) hc45 hs46 (fun L_ w_ hc_ hu_ hs_ => eM (.pointer (some ⟨g2, 0, none⟩))) ?_; intro hc47 hs48
 refine xW 8 38 rfl (fun L_ w_ => by simp only [getD_set_ne true (show (8 : Nat) ≠ 13 by decide)]) hc47 hs48 (fun L_ w_ hc_ hu_ hs_ => eN ⟨g2, 0, none⟩) ?_; intro hc49 hs50
 refine xW 9 39 rfl (fun L_ w_ => by simp only [getD_set_ne true (show (9 : Nat) ≠ 13 by decide)]) hc49 hs50 (fun L_ w_ hc_ hu_ hs_ => eD g2 0 1 1 underlying39) ?_; intro hc51 hs52
 refine xW 10 40 rfl (fun L_ w_ => by simp only [getD_set_ne true (show (10 : Nat) ≠ 13 by decide)]) hc51 hs52 (fun L_ w_ hc_ hu_ hs_ => eB 1 (((hs_.2 (unl 9 13 10 hc_ hu_ kr)) _ rfl).trans o31)) ?_; intro hc53 hs54
 refine xO 11 hc53 ?_
 refine yP 11 41 rfl (fun L_ w_ => by simp only [getD_set_ne true (show (11 : Nat) ≠ 13 by decide)]) hs54 (eM (.int .i64 x11)) ?_; intro hc55 hs56
 obtain ⟨q57, M⟩ := chk M
 obtain ⟨q58, M⟩ := chk M
 obtain ⟨q59, M⟩ := chk M
 refine xO 12 hc55 ?_
 refine yP 12 42 rfl (fun L_ w_ => by simp only [getD_set_ne true (show (12 : Nat) ≠ 13 by decide)]) hs56 (e_sslice_lh (p := x1.s_) (a := x1.at_) (b := x11) (k := .i64) (k2 := .i64) underlying9 kr kr kr q57 q58 q59) ?_; intro hc60 hs61
 have S63 := S28.pulls [F7, (is g2)] [1, 1] rfl
 obtain ⟨t64, u65, M⟩ := bnd M
 refine xO 13 hc60 ?_
 refine yC 13 rfl (eE func45) (impl_lexer_put.calls x1 h6 b3 (St.own' (Fa := [F7, (is g2)]) (Fr := []) S63) u65) ?_
 rintro hc74 _ w66 ⟨A69, c70, F72, H67, rfl, h71, b73, T68⟩
 refine ⟨_, rfl, ?_⟩
 obtain ⟨S75, K76⟩ := St.call (Fa := [F7, (is g2)]) (Fr := []) S63 T68
 have E77 := T68.ext
 refine ⟨⟨(Ext.trans E77 S75.inv), (fun q_ => absurd q_ (by decide +kernel))⟩, fun hs78 => ?_⟩
 refine xn kr ?_ _
 obtain rfl := sj M
 exact end0 rfl ⟨A69, c70, F72, H67, rfl, h71, b73, S75⟩
def impl_lexer_quote.l1 : Nat → GLexer → UInt8 → Int → (List UInt8) → Int → Option GLexer
 | 0, _, _, _, _, _ => none
 | k39 + 1, x1, x8, x11, x28, x33 => (if x33 < (x1.s_.length : Int) then (if 0 ≤ x33 then (if ((x1.s_.getD (x33 : Int).toNat (0 : UInt8)).toNat : Int) = (x8.toNat : Int) then (if (i64.wrap (x33 + 1)) < (x1.s_.length : Int) then (if 0 ≤ (i64.wrap (x33 + 1)) then (if ((x1.s_.getD ((i64.wrap (x33 + 1)) : Int).toNat (0 : UInt8)).toNat : Int) = (x8.toNat : Int) then (if x28.length + 1 ≤ 140737488355328 then (impl_lexer_quote.l1 k39 x1 x8 x11 (x28 ++ [x8]) (i64.wrap (x33 + 2))) else none) else ((impl_lexer_put.f x1 x11 (i64.wrap (x33 + 1)) x28 0).bind fun t69 => some t69)) else none) else ((impl_lexer_put.f x1 x11 (i64.wrap (x33 + 1)) x28 0).bind fun t87 => some t87)) else (if ((x1.s_.getD (x33 : Int).toNat (0 : UInt8)).toNat : Int) = 92 then ((impl_lexer_escape.f k39 x1 x33).bind fun t104 => (if ¬ (t104.2.2 = true) then ((impl_lexer_fault.f x1 2 x1.at_).bind fun t124 => some t124) else (if x28.length + t104.1.length ≤ 140737488355328 then (impl_lexer_quote.l1 k39 x1 x8 x11 (x28 ++ t104.1) t104.2.1) else none))) else ((impl_isPrint.f (x1.s_.getD (x33 : Int).toNat (0 : UInt8))).bind fun t153 => (if t153 = true then (if x28.length + 1 ≤ 140737488355328 then (impl_lexer_quote.l1 k39 x1 x8 x11 (x28 ++ [(x1.s_.getD (x33 : Int).toNat (0 : UInt8))]) (i64.wrap (x33 + 1))) else none) else ((impl_lexer_fault.f x1 2 x1.at_).bind fun t181 => some t181))))) else none) else ((impl_lexer_fault.f x1 2 x1.at_).bind fun t199 => some t199))
def impl_lexer_quote.l0 (k : Nat) (x1 : GLexer) (x8 : UInt8) (x11 : Int) : Option GLexer := (impl_lexer_quote.l1 k x1 x8 x11 ([] : List UInt8) (i64.wrap (x1.at_ + 1)))
def impl_lexer_quote.f (k : Nat) (x1 : GLexer) (x8 : UInt8) : Option GLexer := (if (x8.toNat : Int) = 34 then (impl_lexer_quote.l0 k x1 x8 4) else (impl_lexer_quote.l0 k x1 x8 1))
theorem impl_lexer_quote.calls {k : Nat} {w : World} {H : Hp} (x1 : GLexer) {g2 : Nat} {A4 : Option Addr} {c5 : Nat} {F7 : Foot} {x8 : UInt8} (h6 : Row st28 28 H (hp w) F7 A4 c5 x1.tokens_) (b3 : w.heap[g2]? = some (.cells #[str x1.s_, .int .i64 x1.at_, .slice A4 x1.tokens_.length c5, .int .i64 x1.code_, .int .i64 x1.place_] 39 (0, 0))) (S : Own [F7, (is g2)] H w) {r : GLexer} (M : impl_lexer_quote.f k x1 x8 = some r) :
  Calls Tryz.prog 47 #[.pointer (some ⟨g2, 0, none⟩), .int .u8 (x8.toNat : Int)] w (fun e e_w => ∃ (A_1 : Option Addr) (c_1 : Nat) (F_1 : Foot) (H_ : Hp), e = .returned (.tuple #[]) ∧ Row st28 28 H_ (hp e_w) F_1 A_1 c_1 r.tokens_ ∧ e_w.heap[g2]? = some (.cells #[str r.s_, .int .i64 r.at_, .slice A_1 r.tokens_.length c_1, .int .i64 r.code_, .int .i64 r.place_] 39 (0, 0)) ∧ St (anyOf [F7, (is g2)]) H w [(is g2), F_1] H_ e_w) := by
 rw [impl_lexer_quote.f] at M
 refine enter (l := [.pointer (some ⟨g2, 0, none⟩), .int .u8 (x8.toNat : Int)]) 111 func47 rfl rfl rfl ?_
 have S0_ := S.st
 refine wQ (wR (lP 1 (wN (tN ?_))))
 refine wp_seq_cut (fun a15 w9 => ∃ (f10 : Nat → Value) (x11 : Int), a15 = mk 111 (upd (upd (upd f10 0 (.pointer (some ⟨g2, 0, none⟩))) 1 (.int .u8 (x8.toNat : Int))) 4 (.int .i64 x11)) ∧ Row st28 28 H (hp w9) F7 A4 c5 x1.tokens_ ∧ w9.heap[g2]? = some (.cells #[str x1.s_, .int .i64 x1.at_, .slice A4 x1.tokens_.length c5, .int .i64 x1.code_, .int .i64 x1.place_] 39 (0, 0)) ∧ St (anyOf [F7, (is g2)]) H w [F7, (is g2)] H w9 ∧ impl_lexer_quote.l0 k x1 x8 x11 = some r) ?_ ?_
 ·refine wQ (wR (lP 2 (wN (tN ?_))))
  obtain ⟨q16, M⟩ | ⟨q16, M⟩ := ifd M
  ·refine cF (bF q16) (wK (tN ?_))
   exact ⟨_, 1, (hdw (hdc (hdc (hdc rfl kr) kr) kr)), h6, b3, S0_, M⟩
  refine cT (bT q16) (wR (lP 1 (wN (tN ?_))))
  exact ⟨_, 4, (hdw (hdc (hdc (hdc rfl kr) kr) kr)), h6, b3, S0_, M⟩
 clear M
 rintro a15 w9 ⟨f10, x11, rfl, h6, b3, S12, M⟩
 rw [impl_lexer_quote.l0] at M
 refine wQ (wR ?_)
 refine lW 13 (new_blk (v := fun g_ => .slice (some ⟨g_, 0, none⟩) 0 0) (cs := #[]) (t := 5) S12 kr) ?_
 rintro _ w17 ⟨g18, rfl, b19, S20, K21⟩
 replace h6 := h6.move (K21.a 0)
 replace b3 := K21.b 1 b3
 have S22 := S20.unit
 have S23 := S22.pulls [(is g18), no, F7, (is g2)] [1] rfl
 obtain ⟨h24, S25⟩ := row_lit (d := tByte) (xs := ([] : List UInt8)) S23 b19 rfl (elsO_nil _ _ _ no) (Nat.le_of_ble_eq_true rfl)
 refine lP 1 (wN (tN (wQ (wQ (wR (lP 3 (lV 17 (eB 1 b3) (lP 2 (wN (tN (wp_block ?_)))))))))))
 have S41 := S25.pulls [F7, (is g2), (or2 (is g18) no)] [2, 2] rfl
 refine wp_loop_g (fun k37 a38 w26 => ∃ (f27 : Nat → Value) (x28 : List UInt8) (A29 : Option Addr) (c30 : Nat) (F31 : Foot) (x33 : Int), a38 = mk 111 (upd (upd (upd (upd (upd f27 0 (.pointer (some ⟨g2, 0, none⟩))) 1 (.int .u8 (x8.toNat : Int))) 4 (.int .i64 x11)) 5 (.slice A29 x28.length c30)) 6 (.int .i64 x33)) ∧ Row st28 28 H (hp w26) F7 A4 c5 x1.tokens_ ∧ w26.heap[g2]? = some (.cells #[str x1.s_, .int .i64 x1.at_, .slice A4 x1.tokens_.length c5, .int .i64 x1.code_, .int .i64 x1.place_] 39 (0, 0)) ∧ Row tByte 5 H (hp w26) F31 A29 c30 x28 ∧ St (anyOf [F7, (is g2)]) H w [F7, (is g2), F31] H w26 ∧ impl_lexer_quote.l1 k37 x1 x8 x11 x28 x33 = some r) k ⟨_, ([] : List UInt8), (some ⟨g18, 0, none⟩), 0, (or2 (is g18) no), (i64.wrap (x1.at_ + 1)), (hdw (hdc (hdc (hdc (hdc (hdc rfl kr) kr) kr) kr) kr)), h6, b3, h24, S41, M⟩ ?_
 clear M
 rintro k37 a38 w26 ⟨f27, x28, A29, c30, F31, x33, rfl, h6, b3, h32, S34, M⟩
 rcases k37 with _ | k39
 ·rw [impl_lexer_quote.l1] at M
  cases M
 rw [impl_lexer_quote.l1] at M
 refine wQ (wQ (wR (lP 4 (lV 23 (eB 0 b3) (lV 24 (e_slen (p := x1.s_) underlying9 kr) (lP 1 (wN (tN ?_))))))))
 obtain ⟨q42, M⟩ | ⟨q42, M⟩ := ifd M
 ·refine cF (bF q42) (wp_exit (tE (tE (inb_hit (tN (wR (lP 4 (lV 109 (eB 1 b3) ?_))))))))
  have S198 := S34.pulls [F7, (is g2), F31] [1, 1] rfl
  obtain ⟨t199, u200, M⟩ := bnd M
  refine lC 110 (eE func38) (impl_lexer_fault.calls x1 h6 b3 (St.own' (Fa := [F7, (is g2)]) (Fr := [F31]) S198) u200) ?_
  rintro _ w201 ⟨A204, c205, F207, H202, rfl, h206, b208, T203⟩
  refine ⟨_, rfl, ?_⟩
  obtain ⟨S209, K210⟩ := St.call (Fa := [F7, (is g2)]) (Fr := [F31]) S198 T203
  have E211 := T203.ext
  refine wN ?_
  obtain rfl := sj M
  have S213 := S209.pulls [(is g2), F207, F31] [1, 1] rfl
  have S214 := St.first (Fa := [(is g2), F207]) (Fr := [F31]) S213
  exact end0 rfl ⟨A204, c205, F207, H202, rfl, h206, b208, S214⟩
 refine cT (bT q42) (wK (tN (wp_block (wQ (wR (lP 3 (lV 29 (eB 0 b3) (lP 1 ?_))))))))
 obtain ⟨q43, M⟩ := chk M
 refine lV 31 (e_sindex (p := x1.s_) (i := x33) (k := .i64) underlying9 kr kr q43 q42) (lP 1 (wN (tN (wp_block (wQ (wR (lP 4 (wN (tN ?_)))))))))
 obtain ⟨q44, M⟩ | ⟨q44, M⟩ := ifc M
 ·refine cT (bT q44) (wQ (wQ (wR (lP 5 (lV 47 (eB 0 b3) (lV 48 (e_slen (p := x1.s_) underlying9 kr) (lP 2 ?_)))))))
  obtain ⟨q45, M⟩ | ⟨q45, M⟩ := ifd M
  ·refine lP1 10 50 (bF q45) (wN (tN (cond_f rfl kr (wK (tN (wQ (wR (lP 5 (lV 72 (e_conv_bs (A := A29) (n := x28.length) (c := c30) (xs := x28) underlying22 underlying5 underlying9 kr rfl (Row.bytes h32)) ?_)))))))))
   have S86 := S34.pulls [F7, (is g2), F31] [1, 1] rfl
   obtain ⟨t87, u88, M⟩ := bnd M
   refine lC 73 (eE func45) (impl_lexer_put.calls x1 h6 b3 (St.own' (Fa := [F7, (is g2)]) (Fr := [F31]) S86) u88) ?_
   rintro _ w89 ⟨A92, c93, F95, H90, rfl, h94, b96, T91⟩
   refine ⟨_, rfl, ?_⟩
   obtain ⟨S97, K98⟩ := St.call (Fa := [F7, (is g2)]) (Fr := [F31]) S86 T91
   have E99 := T91.ext
   refine wN (tN (wT (inb_r (inb_r (tR (inb_r (tR ?_)))))))
   obtain rfl := sj M
   have S101 := S97.pulls [(is g2), F95, F31] [1, 1] rfl
   have S102 := St.first (Fa := [(is g2), F95]) (Fr := [F31]) S101
   exact Go.Sy.ret0 rfl ⟨A92, c93, F95, H90, rfl, h94, b96, S102⟩
  refine lP1 3 50 (bT q45) (lG 54 50 (bT q45) (eB 0 b3) (lP1 2 50 (bT q45) ?_))
  obtain ⟨q46, M⟩ := chk M
  refine lG 57 50 (bT q45) (e_sindex (p := x1.s_) (i := (i64.wrap (x33 + 1))) (k := .i64) underlying9 kr kr q46 q45) (lP1 3 50 (bT q45) (wN (tN ?_)))
  obtain ⟨q47, M⟩ | ⟨q47, M⟩ := ifd M
  ·refine cF (bF q47) (wK (tN (wQ (wR (lP 5 (lV 72 (e_conv_bs (A := A29) (n := x28.length) (c := c30) (xs := x28) underlying22 underlying5 underlying9 kr rfl (Row.bytes h32)) ?_))))))
   have S68 := S34.pulls [F7, (is g2), F31] [1, 1] rfl
   obtain ⟨t69, u70, M⟩ := bnd M
   refine lC 73 (eE func45) (impl_lexer_put.calls x1 h6 b3 (St.own' (Fa := [F7, (is g2)]) (Fr := [F31]) S68) u70) ?_
   rintro _ w71 ⟨A74, c75, F77, H72, rfl, h76, b78, T73⟩
   refine ⟨_, rfl, ?_⟩
   obtain ⟨S79, K80⟩ := St.call (Fa := [F7, (is g2)]) (Fr := [F31]) S68 T73
   have E81 := T73.ext
   refine wN (tN (wT (inb_r (inb_r (tR (inb_r (tR ?_)))))))
   obtain rfl := sj M
   have S83 := S79.pulls [(is g2), F77, F31] [1, 1] rfl
   have S84 := St.first (Fa := [(is g2), F77]) (Fr := [F31]) S83
   exact Go.Sy.ret0 rfl ⟨A74, c75, F77, H72, rfl, h76, b78, S84⟩
  refine cT (bT q47) (wQ (wR (lP 2 ?_)))
  refine lW 63 (new_blk (v := fun g_ => .slice (some ⟨g_, 0, none⟩) 1 1) (cs := #[.int .u8 (x8.toNat : Int)]) (t := 5) S34 kr) ?_
  rintro _ w48 ⟨g49, rfl, b50, S51, K52⟩
  replace h6 := h6.move (K52.a 0)
  replace b3 := K52.b 1 b3
  replace h32 := h32.move (K52.a 2)
  obtain ⟨q53, M⟩ := chk M
  have S54 := S51.pulls [F31, (is g49), F7, (is g2)] [3] rfl
  have S55 := S54.unit
  have S56 := S55.pulls [F31, no, (is g49), F7, (is g2)] [1] rfl
  refine lW 64 (e_append (d := tByte) (n := x28.length) (xs := x28) (cap := c30) (A := A29) (ys := [x8]) (A2 := (some ⟨g49, 0, none⟩)) (c2 := 1) (z := .int .u8 0) (bytes := 1) S56 underlying22 kr rfl (by decide) kr rfl kr h32 (elsO_one1 rfl) (.inr (blk_news b50 rfl)) (show (x28.length + [x8].length) * 1 ≤ _ by first | omega | (simp only [List.length_cons, List.length_nil]; omega)) (by decide)) ?_
  rintro _ w57 ⟨A58, c59, F60, rfl, h61, S62, K63⟩
  replace h6 := h6.move (K63.a 1)
  replace b3 := K63.b 2 b3
  refine lP 1 (wN (tN (wQ (wR (lP 3 (wN (tN (wp_exit (tE (inb_miss rfl (inb_hit (tN ?_))))))))))))
  have S65 := S62.pulls [F7, (is g2), F60, (is g49)] [3, 3] rfl
  have S66 := St.first (Fa := [F7, (is g2), F60]) (Fr := [(is g49)]) S65
  exact ⟨k39, (by omega), _, (x28 ++ [x8]), A58, c59, F60, (i64.wrap (x33 + 2)), (hdw (hdc (hdc (hdc (hdc (hdc rfl kr) kr) kr) kr) kr)), h6, b3, h61, S66, M⟩
 refine cF (bF q44) (wQ (wR (lP 3 (wN (tN ?_)))))
 obtain ⟨q103, M⟩ | ⟨q103, M⟩ := ifd M
 ·refine cF (bF q103) (wQ (wR (lP 1 ?_)))
  obtain ⟨t153, u154, M⟩ := bnd M
  refine lC 98 (eE func71) (impl_isPrint.calls  S34.own0 u154) ?_
  rintro _ w155 ⟨rfl, C156⟩
  refine ⟨_, rfl, ?_⟩
  obtain ⟨S157, K158⟩ := S34.still C156
  replace h6 := h6.move (K158.a 0)
  replace b3 := K158.b 1 b3
  replace h32 := h32.move (K158.a 2)
  refine lP 1 (wN (tN ?_))
  obtain ⟨q159, M⟩ | ⟨q159, M⟩ := ifd M
  ·refine cF (bvf q159 kr) (wQ (wR (lP 4 (lV 36 (eB 1 b3) ?_))))
   have S180 := S157.pulls [F7, (is g2), F31] [1, 1] rfl
   obtain ⟨t181, u182, M⟩ := bnd M
   refine lC 37 (eE func38) (impl_lexer_fault.calls x1 h6 b3 (St.own' (Fa := [F7, (is g2)]) (Fr := [F31]) S180) u182) ?_
   rintro _ w183 ⟨A186, c187, F189, H184, rfl, h188, b190, T185⟩
   refine ⟨_, rfl, ?_⟩
   obtain ⟨S191, K192⟩ := St.call (Fa := [F7, (is g2)]) (Fr := [F31]) S180 T185
   have E193 := T185.ext
   refine wN (tN (wT (inb_r (inb_r (tR (inb_r (tR ?_)))))))
   obtain rfl := sj M
   have S195 := S191.pulls [(is g2), F189, F31] [1, 1] rfl
   have S196 := St.first (Fa := [(is g2), F189]) (Fr := [F31]) S195
   exact Go.Sy.ret0 rfl ⟨A186, c187, F189, H184, rfl, h188, b190, S196⟩
  refine cT (bvt q159 kr) (wQ (wR (lP 2 ?_)))
  refine lW 101 (new_blk (v := fun g_ => .slice (some ⟨g_, 0, none⟩) 1 1) (cs := #[.int .u8 ((x1.s_.getD (x33 : Int).toNat (0 : UInt8)).toNat : Int)]) (t := 5) S157 kr) ?_
  rintro _ w160 ⟨g161, rfl, b162, S163, K164⟩
  replace h6 := h6.move (K164.a 0)
  replace b3 := K164.b 1 b3
  replace h32 := h32.move (K164.a 2)
  obtain ⟨q165, M⟩ := chk M
  have S166 := S163.pulls [F31, (is g161), F7, (is g2)] [3] rfl
  have S167 := S166.unit
  have S168 := S167.pulls [F31, no, (is g161), F7, (is g2)] [1] rfl
  refine lW 102 (e_append (d := tByte) (n := x28.length) (xs := x28) (cap := c30) (A := A29) (ys := [(x1.s_.getD (x33 : Int).toNat (0 : UInt8))]) (A2 := (some ⟨g161, 0, none⟩)) (c2 := 1) (z := .int .u8 0) (bytes := 1) S168 underlying22 kr rfl (by decide) kr rfl kr h32 (elsO_one1 rfl) (.inr (blk_news b162 rfl)) (show (x28.length + [(x1.s_.getD (x33 : Int).toNat (0 : UInt8))].length) * 1 ≤ _ by first | omega | (simp only [List.length_cons, List.length_nil]; omega)) (by decide)) ?_
  rintro _ w169 ⟨A170, c171, F172, rfl, h173, S174, K175⟩
  replace h6 := h6.move (K175.a 1)
  replace b3 := K175.b 2 b3
  refine lP 1 (wN (tN (wR (lP 3 (wN ?_)))))
  refine inb_n (inb_n (tN ?_))
  have S177 := S174.pulls [F7, (is g2), F172, (is g161)] [3, 3] rfl
  have S178 := St.first (Fa := [F7, (is g2), F172]) (Fr := [(is g161)]) S177
  exact ⟨k39, (by omega), _, (x28 ++ [(x1.s_.getD (x33 : Int).toNat (0 : UInt8))]), A170, c171, F172, (i64.wrap (x33 + 1)), (hdw (hdc (hdc (hdc (hdc (hdc rfl kr) kr) kr) kr) kr)), h6, b3, h173, S178, M⟩
 refine cT (bT q103) (wQ (wR (lP 2 ?_)))
 obtain ⟨t104, u105, M⟩ := bnd M
 refine lC 80 (eE func70) (by have l106 := h6.le; obtain ⟨H107, S108, E109, h110, z111⟩ := S34.frzRow h6; replace h32 := h32.ext E109; obtain ⟨H112, S113, E114, h115, z116⟩ := S108.frzBlk b3; replace h32 := h32.ext E114; exact (impl_lexer_escape.calls x1 (h110.ext E114) l106 h115 S113.own0 u105)) ?_
 rintro _ w117 ⟨rfl, C118⟩
 refine ⟨_, rfl, ?_⟩
 obtain ⟨S119, K120⟩ := S34.still C118
 replace h6 := h6.move (K120.a 0)
 replace b3 := K120.b 1 b3
 replace h32 := h32.move (K120.a 2)
 refine lP 7 (wN (tN (wQ (wQ (wR (lP 1 (lV 85 (e_notv (c := t104.2.2) kr) (wN (tN ?_)))))))))
 obtain ⟨q121, M⟩ | ⟨q121, M⟩ := ifd M
 ·refine cF (bF q121) (wK (tN (wQ (wR (lP 2 ?_)))))
  obtain ⟨q140, M⟩ := chk M
  have S141 := S119.pulls [F31, F7, (is g2)] [2] rfl
  have S142 := S141.unit
  have S143 := S142.pulls [F31, no, F7, (is g2)] [1] rfl
  refine lW 94 (e_append_str (n := x28.length) (xs := x28) (cap := c30) (A := A29) (ys := t104.1) (z := .int .u8 0) (bytes := 1) S143 underlying22 underlying9 kr rfl kr rfl kr h32 (show (x28.length + t104.1.length) * 1 ≤ _ by omega) (by decide)) ?_
  rintro _ w144 ⟨A145, c146, F147, rfl, h148, S149, K150⟩
  replace h6 := h6.move (K150.a 0)
  replace b3 := K150.b 1 b3
  refine lP 1 (wN (tN (wR (lP 2 (wN (inb_n ?_))))))
  refine inb_n (tN ?_)
  have S152 := S149.pulls [F7, (is g2), F147] [2, 2] rfl
  exact ⟨k39, (by omega), _, (x28 ++ t104.1), A145, c146, F147, t104.2.1, (hdw (hdc (hdc (hdc (hdc (hdc rfl kr) kr) kr) kr) kr)), h6, b3, h148, S152, M⟩
 refine cT (bT q121) (wQ (wR (lP 4 (lV 90 (eB 1 b3) ?_))))
 have S123 := S119.pulls [F7, (is g2), F31] [1, 1] rfl
 obtain ⟨t124, u125, M⟩ := bnd M
 refine lC 91 (eE func38) (impl_lexer_fault.calls x1 h6 b3 (St.own' (Fa := [F7, (is g2)]) (Fr := [F31]) S123) u125) ?_
 rintro _ w126 ⟨A129, c130, F132, H127, rfl, h131, b133, T128⟩
 refine ⟨_, rfl, ?_⟩
 obtain ⟨S134, K135⟩ := St.call (Fa := [F7, (is g2)]) (Fr := [F31]) S123 T128
 have E136 := T128.ext
 refine wN (tN (wT (tR (inb_r (inb_r (tR (inb_r (tR ?_))))))))
 obtain rfl := sj M
 have S138 := S134.pulls [(is g2), F132, F31] [1, 1] rfl
 have S139 := St.first (Fa := [(is g2), F132]) (Fr := [F31]) S138
 exact Go.Sy.ret0 rfl ⟨A129, c130, F132, H127, rfl, h131, b133, S139⟩
end Go.Proofs.YtdkbfcmekppnmaaGreatDoor
